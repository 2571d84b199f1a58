/- The program's comparisons: under, compare. The program's BitsCmp. The reference's l7Less, l7Same. -/
import Derived.Test.YtjghcaghigebjaaDoorJFnBitsBent3
/-! The program's comparisons: under, compare. -/
namespace Go.Proofs.YtjghcaghigebjaaDoor
open Go Go.RowKit

def RetSg (w : World) (xs : List Int) (e : Ending) (w' : World) : Prop := ∃ A c, e = .returned (.slice A xs.length c) ∧ OwnSg w' w.heap.size (.slice A xs.length c) xs ∧ Below w.heap.size w w'
set_option maxRecDepth 100000 in
theorem cloneS_any (A : Option Addr) (c : Nat) (xs : List Int) (w : World) (h : Lay.int.Rd w A xs) (hn : xs.length ≤ 1048576) :
    Calls Tryd.prog 120 #[.slice A xs.length c] w (RetSg w xs) := by
  obtain ⟨i0, hi0, hz0, hz1, hz2⟩ := info_parts signal_info
  cases A with
  | none =>
    have h0 : xs = [] := List.eq_nil_of_length_eq_zero (sl_none h rfl)
    subst h0
    have he : ∀ w : World, (binOp .eql 74 (.slice none 0 c) (.slice none 0 0)).run Tryd.prog w = .ok (.bool true) w := fun _ => rfl
    go_enter Tryd.func120, Tryd.ntmps120
    go_wp2
    go_ret
    exact ⟨none, 0, rfl, World.ownsRow_nil _ _ _ _, Below.refl _ _⟩
  | some ad =>
    have he : ∀ w : World, (binOp .eql 74 (.slice (some ad) xs.length c) (.slice none 0 0)).run Tryd.prog w = .ok (.bool false) w := fun _ => rfl
    go_enter Tryd.func120, Tryd.ntmps120
    go_wp2_with (at_builtin; refine wpList_append_src _ (by rfl) (.tmp 5) (.tmp 6) _ (by rfl) w.heap.size 83 i0 _ 1 8 Tryd.underlying74 hi0 hz0 hz1 hz2 (by rfl) (by omega) (.slice (some ⟨w.heap.size, 0, none⟩) 0 0) 0 [] (by rfl) (own_lit0 rfl) (some ad) xs.length c (xs.map (Value.int .i64)) (by rfl) (src_ints (Lay.Sl.up h ((Below.refl _ _).alloc (Nat.le_refl _) _))) (ints_one _) xs.length (by omega) (by unfold maxLen; omega) (by omega) (by simp) (by simp) ?_; intro A1 c1 w1 hown1 hb1 hg1)
    have hbw : Below w.heap.size w w1 := ((Below.refl _ _).alloc (Nat.le_refl _) _).trans hb1
    go_ret
    exact ⟨A1, c1, rfl, by unfold OwnSg; simpa using hown1, hbw⟩
theorem OwnSg.setS {w : World} {lo g c k : Nat} {xs : List Int} (h : OwnSg w lo (.slice (some ⟨g, 0, none⟩) xs.length c) xs) (x : Int) : OwnSg (w.setCell ⟨g, k, none⟩ (.int .i64 x)) lo (.slice (some ⟨g, 0, none⟩) xs.length c) (xs.set k x) := by
  have := (h.stored k (.int .i64 x)).1
  unfold OwnSg
  rw [List.length_set, List.map_set]
  exact this
theorem OwnSg.other {w : World} {lo g k : Nat} {v : Value} {xs : List Int} (h : OwnSg w lo v xs) (hv : v.ownBlock ≠ some g) (u : Value) : OwnSg (w.setCell ⟨g, k, none⟩ u) lo v xs := rows_set h g k u hv
theorem OwnSg.cellS {w : World} {lo g c k : Nat} {xs : List Int} (h : OwnSg w lo (.slice (some ⟨g, 0, none⟩) xs.length c) xs) (hk : k < xs.length) : w.cell? ⟨g, k, none⟩ = some (.int .i64 xs[k]) ∧ w.frozen? ⟨g, k, none⟩ = false := by
  refine ⟨?_, h.frozenAt k⟩
  have hc := h.2
  rcases hc with ⟨e, _⟩ | ⟨g', cap, cur, e, _, _, h3, _⟩
  · cases e
  · have hx := h.cellAt k (by simp; omega)
    rw [hx, List.getElem?_map, List.getElem?_eq_getElem hk]; rfl
theorem OwnSg.first {w : World} {lo c : Nat} {A : Option Addr} {xs : List Int} (h : OwnSg w lo (.slice A xs.length c) xs) (hx : 0 < xs.length) : ∃ g, A = some ⟨g, 0, none⟩ ∧ lo ≤ g ∧ g < w.heap.size := by
  rcases h.2 with ⟨_, e⟩ | ⟨g, cap, cur, e, hb, hg, _⟩
  · omega
  · injection e with e; exact ⟨g, e, hb, (Array.getElem?_eq_some_iff.1 hg).1⟩
theorem OwnSg.plS {w : World} {lo c : Nat} {A : Option Addr} {xs ys : List Int} (h : OwnSg w lo (.slice A xs.length c) ys) (hl : xs.length = ys.length) : Lay.int.Pl w A ys := by
  rw [hl] at h; exact h.pl.2
/-- The last ones exchanged. -/
def topL (xs ys : List Int) : List Int := xs.set (xs.length - 1) (ys.getD (xs.length - 1) 0)
theorem topL_len (xs ys : List Int) : (topL xs ys).length = xs.length := by unfold topL; simp
theorem getD_at {l : List Int} {k : Nat} (h : k < l.length) : l.getD k 0 = l[k] := by simp [List.getD, h]
theorem topL_mem {xs ys : List Int} {P : Int → Prop} (hx : ∀ x ∈ xs, P x) (hy : ∀ y ∈ ys, P y) (hl : xs.length = ys.length) (h0 : 0 < xs.length) : ∀ z ∈ topL xs ys, P z := fun z hz => by
  unfold topL at hz
  rcases List.mem_or_eq_of_mem_set hz with hz | hz
  · exact hx z hz
  · rw [hz, getD_at (by omega : xs.length - 1 < ys.length)]; exact hy _ (List.getElem_mem _)
set_option maxRecDepth 100000 in
set_option maxHeartbeats 4000000 in
theorem bUnder_any (a0 a1 : Addr) (lo q r : Nat) (X Y : Option Addr) (cx cy : Nat) (xs ys : List Int) (s : BS) (w : World) (h : Bd a0 a1 lo w q r s) (hX : Lay.int.Pl w X xs) (hY : Lay.int.Pl w Y ys) (hxm : ∀ x ∈ xs, MB x) (hym : ∀ y ∈ ys, MB y) (hl : xs.length = ys.length) (h0 : 0 < xs.length) (hn : xs.length ≤ 1000) :
    Calls Tryd.prog 95 #[.pointer (some ⟨q, 0, none⟩), .slice X xs.length cx, .slice Y ys.length cy] w (RetM a0 a1 lo w q r (run opsP (lessP (topL xs ys) (topL ys xs) (-1)) s)) := by
  have HB := Lib.hid h
  have HY := Lib.hid hY
  have HXM := Lib.hid hxm
  have HYM := Lib.hid hym
  have HL := Lib.hid hl
  have hlo := h.size
  have h0' : 0 < ys.length := by omega
  have hny : ys.length ≤ 1000 := by omega
  obtain ⟨k, hk⟩ : ∃ k : Nat, k + 1 = xs.length := ⟨xs.length - 1, by omega⟩
  have hkI : (xs.length : Int) - 1 = (k : Int) := by omega
  have HK : Hid (xs.length - 1 = k ∧ ys.length - 1 = k) := Lib.hid (by omega)
  have hlx : k < xs.length := by omega
  have hly : k < ys.length := by omega
  clear hk
  have HC1 := Lib.hid (cloneS_any X cx xs w hX.plrd (by omega))
  clear h hX hY hxm hym hl
  go_enter Tryd.func95, Tryd.ntmps95
  go_wp2_with fail
  clear hkI
  refine HC1.out.mono ?_
  rintro e w1 ⟨A1, c1, rfl, ho1, hb1⟩
  have HO1 := Lib.hid ho1
  have HB1 := Lib.hid hb1
  have HC2 := Lib.hid (cloneS_any Y cy ys w1 (HY.out.plrd.up hb1) (by omega))
  have hsz1 := hb1.size
  clear ho1 hb1 HC1
  go_wp2_with fail
  refine HC2.out.mono ?_
  rintro e w2 ⟨A2, c2, rfl, ho2, hb2⟩
  have HO2 := Lib.hid ho2
  obtain ⟨gx, rfl, gx0, hgx⟩ := HO1.out.first h0
  have HO1 : Hid (OwnSg w2 w.heap.size (.slice (some ⟨gx, 0, none⟩) xs.length c1) xs) := Lib.hid (own_below HO1.out hb2 (Nat.le_refl _))
  have HB2 := Lib.hid (bthen HB1.out hb2)
  obtain ⟨gy, rfl, gy0, -⟩ := ho2.first h0'
  have hne : gx ≠ gy := by omega
  clear ho2 hb2 HC2 HB1
  obtain ⟨x, hx⟩ : ∃ x, x = xs[k] := ⟨_, rfl⟩
  obtain ⟨y, hy⟩ : ∃ y, y = ys[k] := ⟨_, rfl⟩
  have HXE := Lib.hid hx
  have HYE := Lib.hid hy
  have HTX : Hid (topL xs ys = xs.set k y) := Lib.hid (by unfold topL; rw [HK.out.1, getD_at hly, hy])
  have HTY : Hid (topL ys xs = ys.set k x) := Lib.hid (by unfold topL; rw [HK.out.2, getD_at hlx, hx])
  have hkx2 : (k : Int) < xs.length := by omega
  have hky2 : (k : Int) < ys.length := by omega
  clear hx hy
  go_wp2
  refine wp_region_rel4 [[], [], [], [], [], [], [(4, 19), (5, 20)], [(6, 21)], [], [], [(8, 23), (9, 24)], [(10, 25)], [(0, 15), (1, 16)], [(7, 22), (12, 27)], [(2, 17), (3, 18)], [(11, 26), (14, 28)]]
    (fun x9 y9 => Below x9.heap.size x9 y9)
    [(13, fun x9 y9 => x9.grownBy y9 (some gx)), (15, fun x9 y9 => x9.grownBy y9 (some gy))]
    (fun f9 x9 => Below w.heap.size w x9 ∧ (f9 13 = false → OwnSg x9 w.heap.size (.slice (some ⟨gx, 0, none⟩) xs.length c1) xs) ∧ (f9 13 = true → OwnSg x9 w.heap.size (.slice (some ⟨gx, 0, none⟩) xs.length c1) (xs.set k y)) ∧ (f9 15 = false → OwnSg x9 w1.heap.size (.slice (some ⟨gy, 0, none⟩) ys.length c2) ys) ∧ (f9 15 = true → OwnSg x9 w1.heap.size (.slice (some ⟨gy, 0, none⟩) ys.length c2) (ys.set k x)))
    [fun vs9 _ => vs9 0 = (.slice (some ⟨gx, 0, none⟩) xs.length c1),
    fun vs9 _ => vs9 1 = (.int .i64 (k : Int)),
    fun vs9 _ => vs9 2 = (.slice (some ⟨gy, 0, none⟩) ys.length c2),
    fun vs9 _ => vs9 3 = (.int .i64 (k : Int)),
    fun vs9 _ => vs9 4 = (.slice (some ⟨gy, 0, none⟩) ys.length c2),
    fun vs9 _ => vs9 5 = (.int .i64 (k : Int)),
    fun vs9 _ => vs9 6 = (.pointer (some ⟨gy, k, none⟩)),
    fun vs9 _ => vs9 7 = (.int .i64 y),
    fun vs9 _ => vs9 8 = (.slice (some ⟨gx, 0, none⟩) xs.length c1),
    fun vs9 _ => vs9 9 = (.int .i64 (k : Int)),
    fun vs9 _ => vs9 10 = (.pointer (some ⟨gx, k, none⟩)),
    fun vs9 _ => vs9 11 = (.int .i64 x),
    fun vs9 _ => vs9 12 = (.pointer (some ⟨gx, k, none⟩)),
    fun _ _ => True,
    fun vs9 _ => vs9 14 = (.pointer (some ⟨gy, k, none⟩)),
    fun _ _ => True]
    [(0, 15), (1, 16), (2, 17), (3, 18), (4, 19), (5, 20), (6, 21), (7, 22), (8, 23), (9, 24), (10, 25), (11, 26), (12, 27), (14, 28)] (by kernel_rfl) (by kernel_rfl) (by kernel_rfl) (by kernel_rfl)
    (fun _ => Below.refl _ _) ⟨fun _ => World.grownBy.refl _ _, fun _ => World.grownBy.refl _ _, trivial⟩
    ⟨⟨.inr (fun _ _ _ h _ => h), ⟨.inr (.inr (fun _ _ _ h _ => h)), .inr (.inr (fun _ _ _ h _ => h)), trivial⟩⟩,
    ⟨.inr (fun _ _ _ h _ => h), ⟨.inr (.inr (fun _ _ _ h _ => h)), .inr (.inr (fun _ _ _ h _ => h)), trivial⟩⟩,
    ⟨.inr (fun _ _ _ h _ => h), ⟨.inr (.inr (fun _ _ _ h _ => h)), .inr (.inr (fun _ _ _ h _ => h)), trivial⟩⟩,
    ⟨.inr (fun _ _ _ h _ => h), ⟨.inr (.inr (fun _ _ _ h _ => h)), .inr (.inr (fun _ _ _ h _ => h)), trivial⟩⟩,
    ⟨.inr (fun _ _ _ h _ => h), ⟨.inr (.inr (fun _ _ _ h _ => h)), .inr (.inr (fun _ _ _ h _ => h)), trivial⟩⟩,
    ⟨.inr (fun _ _ _ h _ => h), ⟨.inr (.inr (fun _ _ _ h _ => h)), .inr (.inr (fun _ _ _ h _ => h)), trivial⟩⟩,
    ⟨.inr (fun _ _ _ h _ => h), ⟨.inr (.inr (fun _ _ _ h _ => h)), .inr (.inr (fun _ _ _ h _ => h)), trivial⟩⟩,
    ⟨.inr (fun _ _ _ h _ => h), ⟨.inr (.inr (fun _ _ _ h _ => h)), .inr (.inr (fun _ _ _ h _ => h)), trivial⟩⟩,
    ⟨.inr (fun _ _ _ h _ => h), ⟨.inr (.inr (fun _ _ _ h _ => h)), .inr (.inr (fun _ _ _ h _ => h)), trivial⟩⟩,
    ⟨.inr (fun _ _ _ h _ => h), ⟨.inr (.inr (fun _ _ _ h _ => h)), .inr (.inr (fun _ _ _ h _ => h)), trivial⟩⟩,
    ⟨.inr (fun _ _ _ h _ => h), ⟨.inr (.inr (fun _ _ _ h _ => h)), .inr (.inr (fun _ _ _ h _ => h)), trivial⟩⟩,
    ⟨.inr (fun _ _ _ h _ => h), ⟨.inr (.inr (fun _ _ _ h _ => h)), .inr (.inr (fun _ _ _ h _ => h)), trivial⟩⟩,
    ⟨.inr (fun _ _ _ h _ => h), ⟨.inr (.inr (fun _ _ _ h _ => h)), .inr (.inr (fun _ _ _ h _ => h)), trivial⟩⟩,
    ⟨.inr (fun _ _ _ h _ => h), ⟨.inr (.inl rfl), .inr (.inr (fun _ _ _ h _ => h)), trivial⟩⟩,
    ⟨.inr (fun _ _ _ h _ => h), ⟨.inr (.inr (fun _ _ _ h _ => h)), .inr (.inr (fun _ _ _ h _ => h)), trivial⟩⟩,
    ⟨.inr (fun _ _ _ h _ => h), ⟨.inr (.inr (fun _ _ _ h _ => h)), .inr (.inl rfl), trivial⟩⟩, trivial⟩ ⟨fun vs vs' x h _ hv => (by dsimp only at hv ⊢; first | (rw [← h]; exact hv) | exact hv),
    fun vs vs' x h _ hv => (by dsimp only at hv ⊢; first | (rw [← h]; exact hv) | exact hv),
    fun vs vs' x h _ hv => (by dsimp only at hv ⊢; first | (rw [← h]; exact hv) | exact hv),
    fun vs vs' x h _ hv => (by dsimp only at hv ⊢; first | (rw [← h]; exact hv) | exact hv),
    fun vs vs' x h _ hv => (by dsimp only at hv ⊢; first | (rw [← h]; exact hv) | exact hv),
    fun vs vs' x h _ hv => (by dsimp only at hv ⊢; first | (rw [← h]; exact hv) | exact hv),
    fun vs vs' x h _ hv => (by dsimp only at hv ⊢; first | (rw [← h]; exact hv) | exact hv),
    fun vs vs' x h _ hv => (by dsimp only at hv ⊢; first | (rw [← h]; exact hv) | exact hv),
    fun vs vs' x h _ hv => (by dsimp only at hv ⊢; first | (rw [← h]; exact hv) | exact hv),
    fun vs vs' x h _ hv => (by dsimp only at hv ⊢; first | (rw [← h]; exact hv) | exact hv),
    fun vs vs' x h _ hv => (by dsimp only at hv ⊢; first | (rw [← h]; exact hv) | exact hv),
    fun vs vs' x h _ hv => (by dsimp only at hv ⊢; first | (rw [← h]; exact hv) | exact hv),
    fun vs vs' x h _ hv => (by dsimp only at hv ⊢; first | (rw [← h]; exact hv) | exact hv),
    fun _ _ _ _ _ _ => trivial,
    fun vs vs' x h _ hv => (by dsimp only at hv ⊢; first | (rw [← h]; exact hv) | exact hv),
    fun _ _ _ _ _ _ => trivial, trivial⟩ (⟨bthen HB2.out (below_drewN (Below.refl _ _) 1), (fun _ => own_below HO1.out (below_drewN (Below.refl _ _) 1) (Nat.le_refl _)), (fun h => by cases h), (fun _ => own_below HO2.out (below_drewN (Below.refl _ _) 1) (Nat.le_refl _)), fun h => by cases h⟩) ⟨?_, ?_, ?_, ?_, ?_, ?_, ?_, ?_, ?_, ?_, ?_, ?_, ?_, ?_, ?_, ?_, trivial⟩ ?_
  · intro vals xw f hf1 hf2 hf3 hI hF
    clear hf2 hf3
    dsimp only [owes4, bare]
    simp only [putsD, Act.put, List.setIfInBounds_toArray, List.set_cons_zero, List.set_cons_succ]
    go_wp2
    exact ⟨rfl, rfl, ⟨fun h9 => absurd h9 (Nat.ne_of_beq_eq_false rfl), fun _ => ⟨fun h9 => absurd h9 (Nat.ne_of_beq_eq_false rfl), fun _ => Below.refl _ _⟩⟩, hI⟩
  · intro vals xw f hf1 hf2 hf3 hI hF
    clear hf2 hf3
    dsimp only [owes4, bare]
    simp only [putsD, Act.put, List.setIfInBounds_toArray, List.set_cons_zero, List.set_cons_succ]
    go_wp2
    exact ⟨rfl, rfl, ⟨fun h9 => absurd h9 (Nat.ne_of_beq_eq_false rfl), fun _ => ⟨fun h9 => absurd h9 (Nat.ne_of_beq_eq_false rfl), fun _ => Below.refl _ _⟩⟩, hI⟩
  · intro vals xw f hf1 hf2 hf3 hI hF
    clear hf2 hf3
    dsimp only [owes4, bare]
    simp only [putsD, Act.put, List.setIfInBounds_toArray, List.set_cons_zero, List.set_cons_succ]
    go_wp2
    exact ⟨rfl, rfl, ⟨fun h9 => absurd h9 (Nat.ne_of_beq_eq_false rfl), fun _ => ⟨fun h9 => absurd h9 (Nat.ne_of_beq_eq_false rfl), fun _ => Below.refl _ _⟩⟩, hI⟩
  · intro vals xw f hf1 hf2 hf3 hI hF
    clear hf2 hf3
    dsimp only [owes4, bare]
    simp only [putsD, Act.put, List.setIfInBounds_toArray, List.set_cons_zero, List.set_cons_succ]
    go_wp2
    exact ⟨rfl, rfl, ⟨fun h9 => absurd h9 (Nat.ne_of_beq_eq_false rfl), fun _ => ⟨fun h9 => absurd h9 (Nat.ne_of_beq_eq_false rfl), fun _ => Below.refl _ _⟩⟩, hI⟩
  · intro vals xw f hf1 hf2 hf3 hI hF
    clear hf2 hf3
    dsimp only [owes4, bare]
    simp only [putsD, Act.put, List.setIfInBounds_toArray, List.set_cons_zero, List.set_cons_succ]
    go_wp2
    exact ⟨rfl, rfl, ⟨fun h9 => absurd h9 (Nat.ne_of_beq_eq_false rfl), fun _ => ⟨fun h9 => absurd h9 (Nat.ne_of_beq_eq_false rfl), fun _ => Below.refl _ _⟩⟩, hI⟩
  · intro vals xw f hf1 hf2 hf3 hI hF
    clear hf2 hf3
    dsimp only [owes4, bare]
    simp only [putsD, Act.put, List.setIfInBounds_toArray, List.set_cons_zero, List.set_cons_succ]
    go_wp2
    exact ⟨rfl, rfl, ⟨fun h9 => absurd h9 (Nat.ne_of_beq_eq_false rfl), fun _ => ⟨fun h9 => absurd h9 (Nat.ne_of_beq_eq_false rfl), fun _ => Below.refl _ _⟩⟩, hI⟩
  · intro vals xw f hf1 hf2 hf3 hI hF
    clear hf2 hf3
    simp only [saysD, List.getD_cons_zero, List.getD_cons_succ, and_true] at hF
    obtain ⟨e19, e20⟩ := hF
    have had : ∀ g : Nat, (⟨g, 0, none⟩ : Addr).add k = ⟨g, k, none⟩ := fun g => by unfold Addr.add; split <;> simp_all
    dsimp only [owes4, bare]
    simp only [putsD, Act.put, List.setIfInBounds_toArray, List.set_cons_zero, List.set_cons_succ]
    simp only [e19, e20]
    go_wp2
    exact ⟨rfl, rfl, ⟨fun h9 => absurd h9 (Nat.ne_of_beq_eq_false rfl), fun _ => ⟨fun h9 => absurd h9 (Nat.ne_of_beq_eq_false rfl), fun _ => Below.refl _ _⟩⟩, hI⟩
  · intro vals xw f hf1 hf2 hf3 hI hF
    have k15 : f 15 = false := hf3 15 (by kernel_rfl)
    clear hf2 hf3
    simp only [saysD, List.getD_cons_zero, List.getD_cons_succ, and_true] at hF
    have e21 := hF
    dsimp only [owes4, bare]
    simp only [putsD, Act.put, List.setIfInBounds_toArray, List.set_cons_zero, List.set_cons_succ]
    simp only [e21]
    have c9 := ((hI.2.2.2.1 k15).cellS (k := k) (by omega)).1
    rw [← HYE.out] at c9
    go_wp2
    exact ⟨rfl, rfl, ⟨fun h9 => absurd h9 (Nat.ne_of_beq_eq_false rfl), fun _ => ⟨fun h9 => absurd h9 (Nat.ne_of_beq_eq_false rfl), fun _ => Below.refl _ _⟩⟩, hI⟩
  · intro vals xw f hf1 hf2 hf3 hI hF
    clear hf2 hf3
    dsimp only [owes4, bare]
    simp only [putsD, Act.put, List.setIfInBounds_toArray, List.set_cons_zero, List.set_cons_succ]
    go_wp2
    exact ⟨rfl, rfl, ⟨fun h9 => absurd h9 (Nat.ne_of_beq_eq_false rfl), fun _ => ⟨fun h9 => absurd h9 (Nat.ne_of_beq_eq_false rfl), fun _ => Below.refl _ _⟩⟩, hI⟩
  · intro vals xw f hf1 hf2 hf3 hI hF
    clear hf2 hf3
    dsimp only [owes4, bare]
    simp only [putsD, Act.put, List.setIfInBounds_toArray, List.set_cons_zero, List.set_cons_succ]
    go_wp2
    exact ⟨rfl, rfl, ⟨fun h9 => absurd h9 (Nat.ne_of_beq_eq_false rfl), fun _ => ⟨fun h9 => absurd h9 (Nat.ne_of_beq_eq_false rfl), fun _ => Below.refl _ _⟩⟩, hI⟩
  · intro vals xw f hf1 hf2 hf3 hI hF
    clear hf2 hf3
    simp only [saysD, List.getD_cons_zero, List.getD_cons_succ, and_true] at hF
    obtain ⟨e23, e24⟩ := hF
    have had : ∀ g : Nat, (⟨g, 0, none⟩ : Addr).add k = ⟨g, k, none⟩ := fun g => by unfold Addr.add; split <;> simp_all
    dsimp only [owes4, bare]
    simp only [putsD, Act.put, List.setIfInBounds_toArray, List.set_cons_zero, List.set_cons_succ]
    simp only [e23, e24]
    go_wp2
    exact ⟨rfl, rfl, ⟨fun h9 => absurd h9 (Nat.ne_of_beq_eq_false rfl), fun _ => ⟨fun h9 => absurd h9 (Nat.ne_of_beq_eq_false rfl), fun _ => Below.refl _ _⟩⟩, hI⟩
  · intro vals xw f hf1 hf2 hf3 hI hF
    have k13 : f 13 = false := hf3 13 (by kernel_rfl)
    clear hf2 hf3
    simp only [saysD, List.getD_cons_zero, List.getD_cons_succ, and_true] at hF
    have e25 := hF
    dsimp only [owes4, bare]
    simp only [putsD, Act.put, List.setIfInBounds_toArray, List.set_cons_zero, List.set_cons_succ]
    simp only [e25]
    have c9 := ((hI.2.1 k13).cellS (k := k) (by omega)).1
    rw [← HXE.out] at c9
    go_wp2
    exact ⟨rfl, rfl, ⟨fun h9 => absurd h9 (Nat.ne_of_beq_eq_false rfl), fun _ => ⟨fun h9 => absurd h9 (Nat.ne_of_beq_eq_false rfl), fun _ => Below.refl _ _⟩⟩, hI⟩
  · intro vals xw f hf1 hf2 hf3 hI hF
    clear hf2 hf3
    simp only [saysD, List.getD_cons_zero, List.getD_cons_succ, and_true] at hF
    obtain ⟨e15, e16⟩ := hF
    have had : ∀ g : Nat, (⟨g, 0, none⟩ : Addr).add k = ⟨g, k, none⟩ := fun g => by unfold Addr.add; split <;> simp_all
    dsimp only [owes4, bare]
    simp only [putsD, Act.put, List.setIfInBounds_toArray, List.set_cons_zero, List.set_cons_succ]
    simp only [e15, e16]
    go_wp2
    exact ⟨rfl, rfl, ⟨fun h9 => absurd h9 (Nat.ne_of_beq_eq_false rfl), fun _ => ⟨fun h9 => absurd h9 (Nat.ne_of_beq_eq_false rfl), fun _ => Below.refl _ _⟩⟩, hI⟩
  · intro vals xw f hf1 hf2 hf3 hI hF
    clear hf2 hf3
    simp only [saysD, List.getD_cons_zero, List.getD_cons_succ, and_true] at hF
    obtain ⟨e22, e27⟩ := hF
    dsimp only [owes4, bare]
    simp only [putsD, Act.put, List.setIfInBounds_toArray, List.set_cons_zero, List.set_cons_succ]
    simp only [e22, e27]
    obtain ⟨i1, i2, i3, i4, i5⟩ := hI
    have j2 := i2 hf1
    have c9 := (j2.cellS (k := k) (by omega)).1
    have f9 := (j2.cellS (k := k) (by omega)).2
    have J2 := Lib.hid (j2.setS (k := k) y)
    have I1 := Lib.hid i1
    have I4 := Lib.hid i4
    have I5 := Lib.hid i5
    clear i1 i2 i3 i4 i5 j2
    go_wp2
    have hg9 : xw.grownBy (xw.setCell ⟨gx, k, none⟩ (.int .i64 y)) (some gx) := only_setCell (World.grownBy.refl _ _) _ _
    exact ⟨rfl, trivial, ⟨fun _ => hg9, fun h9 => absurd rfl h9⟩, below_set I1.out gx0 _, fun h => absurd ((did_same f 13).symm.trans h) (by simp), fun _ => J2.out, fun h => (I4.out h).other (by intro e; injection e with e; exact hne e.symm) _, fun h => (I5.out h).other (by intro e; injection e with e; exact hne e.symm) _⟩
  · intro vals xw f hf1 hf2 hf3 hI hF
    clear hf2 hf3
    simp only [saysD, List.getD_cons_zero, List.getD_cons_succ, and_true] at hF
    obtain ⟨e17, e18⟩ := hF
    have had : ∀ g : Nat, (⟨g, 0, none⟩ : Addr).add k = ⟨g, k, none⟩ := fun g => by unfold Addr.add; split <;> simp_all
    dsimp only [owes4, bare]
    simp only [putsD, Act.put, List.setIfInBounds_toArray, List.set_cons_zero, List.set_cons_succ]
    simp only [e17, e18]
    go_wp2
    exact ⟨rfl, rfl, ⟨fun h9 => absurd h9 (Nat.ne_of_beq_eq_false rfl), fun _ => ⟨fun h9 => absurd h9 (Nat.ne_of_beq_eq_false rfl), fun _ => Below.refl _ _⟩⟩, hI⟩
  · intro vals xw f hf1 hf2 hf3 hI hF
    clear hf2 hf3
    simp only [saysD, List.getD_cons_zero, List.getD_cons_succ, and_true] at hF
    obtain ⟨e26, e28⟩ := hF
    dsimp only [owes4, bare]
    simp only [putsD, Act.put, List.setIfInBounds_toArray, List.set_cons_zero, List.set_cons_succ]
    simp only [e26, e28]
    obtain ⟨i1, i2, i3, i4, i5⟩ := hI
    have j4 := i4 hf1
    have c9 := (j4.cellS (k := k) (by omega)).1
    have f9 := (j4.cellS (k := k) (by omega)).2
    have J4 := Lib.hid (j4.setS (k := k) x)
    have I1 := Lib.hid i1
    have I2 := Lib.hid i2
    have I3 := Lib.hid i3
    clear i1 i2 i3 i4 i5 j4
    go_wp2
    have hg9 : xw.grownBy (xw.setCell ⟨gy, k, none⟩ (.int .i64 x)) (some gy) := only_setCell (World.grownBy.refl _ _) _ _
    exact ⟨rfl, trivial, ⟨fun h9 => absurd h9 (Nat.ne_of_beq_eq_false rfl), fun _ => ⟨fun _ => hg9, fun h9 => absurd rfl h9⟩⟩, below_set I1.out (show w.heap.size ≤ gy by omega) _, fun h => (I2.out h).other (by intro e; injection e with e; exact hne e) _, fun h => (I3.out h).other (by intro e; injection e with e; exact hne e) _, fun h => absurd ((did_same f 15).symm.trans h) (by simp), fun _ => J4.out⟩
  · intro vals xw f hall hI hF
    rw [show List.range _ = [0, 1, 2, 3, 4, 5, 6, 7, 8, 9, 10, 11, 12, 13, 14, 15] from rfl] at hF
    simp only [says, List.getD_cons_zero, List.getD_cons_succ, and_true] at hF
    obtain ⟨i1, _, i3, _, i5⟩ := hI
    have j3 := i3 (hall 13 (by decide))
    have j5 := i5 (hall 15 (by decide))
    have hlx9 : xs.length = (topL xs ys).length := (topL_len xs ys).symm
    have hly9 : ys.length = (topL ys xs).length := (topL_len ys xs).symm
    rw [← HTX.out] at j3
    rw [← HTY.out] at j5
    have HC := Lib.hid (bLess_any a0 a1 lo q r (some ⟨gx, 0, none⟩) (some ⟨gy, 0, none⟩) c1 c2 (topL xs ys) (topL ys xs) s xw (HB.out.up i1) (j3.plS hlx9) (j5.plS hly9) (topL_mem HXM.out HYM.out HL.out h0) (topL_mem HYM.out HXM.out HL.out.symm h0') (by rw [topL_len, topL_len]; exact HL.out) (by rw [topL_len]; omega))
    rw [← hlx9, ← hly9] at HC
    have I1 := Lib.hid i1
    clear i1 i3 i5 j3 j5 hlx9 hly9 hF
    simp only [putsD, Act.put, List.setIfInBounds_toArray, List.set_cons_zero, List.set_cons_succ]
    go_wp2_with fail
    refine HC.out.mono ?_
    rintro e w9 ⟨rfl, hb9, hd9⟩
    have HB9 := Lib.hid (BelB.trans (.of I1.out hlo) hb9)
    have HD9 := Lib.hid hd9
    clear hb9 hd9 HC
    go_wp2
    go_ret
    exact ⟨rfl, HB9.out, HD9.out⟩
/-- A comparison's gates. -/
def cmpP (op : Int) (xs ys : List Int) : PG Int := if op = 15 then sameP xs ys 1 else if op = 16 then lessP xs ys (-1) else lessP (topL xs ys) (topL ys xs) (-1)
def cmpE (e : Option Nat) (op : Int) (xs ys : List Int) : Option Nat := failE (failE e (xs.length != ys.length) 0) (!(decide (15 ≤ op) && decide (op ≤ 17))) 0
def cmpS (s : BS) (op : Int) (xs ys : List Int) : BS × Int := if cmpE s.e op xs ys = none then run opsP (cmpP op xs ys) s else (⟨s.n, cmpE s.e op xs ys⟩, -1)
set_option maxHeartbeats 4000000 in
theorem bCompare_any (a0 a1 : Addr) (lo q r : Nat) (s : BS) (op : Int) (X Y : Option Addr) (cx cy : Nat) (xs ys : List Int) (w : World) (h : Bd a0 a1 lo w q r s) (hX : Lay.int.Pl w X xs) (hY : Lay.int.Pl w Y ys) (hm : s.e = none → (∀ x ∈ xs, MB x) ∧ (∀ y ∈ ys, MB y) ∧ 0 < xs.length) (hn : xs.length ≤ 1000) (hop : okInt op) :
    Calls Tryd.prog 67 #[.pointer (some ⟨q, 0, none⟩), .int .i64 op, .slice X xs.length cx, .slice Y ys.length cy] w (RetM a0 a1 lo w q r (cmpS s op xs ys)) := by
  have hvb : ((xs.length : Int) != (ys.length : Int)) = (xs.length != ys.length) := by
    by_cases e : xs.length = ys.length
    · rw [e]; simp
    · have h1 : (xs.length != ys.length) = true := by simpa using e
      have h2 : ((xs.length : Int) != (ys.length : Int)) = true := by simpa using (by omega : ¬ (xs.length : Int) = ys.length)
      rw [h1, h2]
  obtain ⟨b, hb⟩ : ∃ b, b = (xs.length != ys.length) := ⟨_, rfl⟩
  have HBE := Lib.hid hb
  rw [← hb] at hvb
  have HBD := Lib.hid h
  have HX := Lib.hid hX
  have HY := Lib.hid hY
  have HM := Lib.hid hm
  have HF := Lib.hid (fail_any a0 a1 lo q r s.e b 0 w h.toBx)
  have g0 := h.g.c0
  have hv : errV a0 a1 (some 0) = sentV a0 := rfl
  rw [hv] at HF
  unfold okInt at hop
  obtain ⟨hop0, hop1⟩ := hop
  have HCE : Hid (cmpE s.e op xs ys = failE (failE s.e b 0) (!(decide (15 ≤ op) && decide (op ≤ 17))) 0) := Lib.hid (by unfold cmpE; rw [← hb])
  clear h hX hY hm hb hv
  go_enter Tryd.func67, Tryd.ntmps67
  go_wp2_with fail
  refine HF.out.mono ?_
  rintro e w1 ⟨rfl, hb1, hx1, hk1⟩
  have HB1 := Lib.hid hb1
  have HX1 := Lib.hid (HX.out.upB hb1)
  have HY1 := Lib.hid (HY.out.upB hb1)
  have HD1 := Lib.hid (Bx.bd HBD.out hx1 hk1 (fun h => (failE_none h).1))
  have HLE : Hid (failE s.e b 0 = none → s = ⟨s.n, none⟩ ∧ xs.length = ys.length) := Lib.hid fun h => by
    obtain ⟨h1, h2⟩ := failE_none h
    exact ⟨by cases s; dsimp only at h1; rw [h1], by rw [HBE.out] at h2; simpa using h2⟩
  have z1 := (cell_of_block hx1.box 1).1
  clear hb1 hx1 hk1 HF hvb g0
  generalize failE s.e b 0 = e1 at *
  rcases e1 with _ | e1
  · simp only [errV] at z1
    obtain ⟨hs, hl⟩ := HLE.out rfl
    obtain ⟨m2, m3, m0⟩ := HM.out (by rw [hs])
    have HS := Lib.hid hs
    have HD1 : Hid (Bd a0 a1 lo w1 q r s) := Lib.hid (by rw [hs]; exact HD1.out)
    have HC1 := Lib.hid (bSame_any a0 a1 lo q r X Y cx cy xs ys s w1 HD1.out HX1.out HY1.out m2 m3 hl hn)
    have HC2 := Lib.hid (bLess_any a0 a1 lo q r X Y cx cy xs ys s w1 HD1.out HX1.out HY1.out m2 m3 hl hn)
    have HC3 := Lib.hid (bUnder_any a0 a1 lo q r X Y cx cy xs ys s w1 HD1.out HX1.out HY1.out m2 m3 hl m0 hn)
    clear hs hl m2 m3 HM HLE
    by_cases o1 : op = 15
    · have HO : Hid (cmpS s op xs ys = run opsP (sameP xs ys 1) s) := Lib.hid (by unfold cmpS; rw [HCE.out, o1, if_pos (by simp [failE])]; unfold cmpP; rw [if_pos rfl])
      have o1b : (op == 15) = true := by simpa using o1
      clear o1 HC2 HC3
      go_wp2_with fail
      refine HC1.out.mono ?_
      rintro e w9 ⟨rfl, hb9, hd9⟩
      have HB9 := Lib.hid (HB1.out.trans hb9)
      have HD9 := Lib.hid hd9
      clear hb9 hd9 HC1
      go_wp2
      go_ret
      rw [HO.out]
      exact ⟨rfl, HB9.out, HD9.out⟩
    have o1b : (op == 15) = false := by simpa using o1
    by_cases o2 : op = 16
    · have HO : Hid (cmpS s op xs ys = run opsP (lessP xs ys (-1)) s) := Lib.hid (by unfold cmpS; rw [HCE.out, o2, if_pos (by simp [failE])]; unfold cmpP; rw [if_neg (by decide), if_pos rfl])
      have o2b : (op == 16) = true := by simpa using o2
      clear o1 o2 HC1 HC3
      go_wp2_with fail
      refine HC2.out.mono ?_
      rintro e w9 ⟨rfl, hb9, hd9⟩
      have HB9 := Lib.hid (HB1.out.trans hb9)
      have HD9 := Lib.hid hd9
      clear hb9 hd9 HC2
      go_wp2
      go_ret
      rw [HO.out]
      exact ⟨rfl, HB9.out, HD9.out⟩
    have o2b : (op == 16) = false := by simpa using o2
    by_cases o3 : op = 17
    · have HO : Hid (cmpS s op xs ys = run opsP (lessP (topL xs ys) (topL ys xs) (-1)) s) := Lib.hid (by unfold cmpS; rw [HCE.out, o3, if_pos (by simp [failE])]; unfold cmpP; rw [if_neg (by decide), if_neg (by decide)])
      have o3b : (op == 17) = true := by simpa using o3
      clear o1 o2 o3 HC1 HC2
      go_wp2_with fail
      refine HC3.out.mono ?_
      rintro e w9 ⟨rfl, hb9, hd9⟩
      have HB9 := Lib.hid (HB1.out.trans hb9)
      have HD9 := Lib.hid hd9
      clear hb9 hd9 HC3
      go_wp2
      go_ret
      rw [HO.out]
      exact ⟨rfl, HB9.out, HD9.out⟩
    have o3b : (op == 17) = false := by simpa using o3
    have HE : Hid (cmpE s.e op xs ys = some 0) := Lib.hid (by rw [HCE.out]; unfold failE; rw [if_pos ⟨by rw [Bool.not_eq_true', Bool.and_eq_false_iff, decide_eq_false_iff_not, decide_eq_false_iff_not]; omega, rfl⟩])
    have HF2 := Lib.hid (fail_any a0 a1 lo q r s.e true 0 w1 HD1.out.toBx)
    rw [show errV a0 a1 (some 0) = sentV a0 from rfl, show failE s.e true 0 = some 0 by rw [HS.out]; rfl] at HF2
    have g0 := HD1.out.g.c0
    clear o1 o2 o3 HC1 HC2 HC3
    go_wp2_with fail
    refine HF2.out.mono ?_
    rintro e w9 ⟨rfl, hb9, hx9, hk9⟩
    have HB9 := Lib.hid (HB1.out.trans hb9)
    have HD9 := Lib.hid (Bx.bd HD1.out hx9 hk9 (fun h => by cases h))
    clear hb9 hx9 hk9 HF2 g0
    go_wp2
    go_ret
    rw [show cmpS s op xs ys = (⟨s.n, some 0⟩, -1) by unfold cmpS; rw [HE.out]; exact if_neg (by simp)]
    exact ⟨rfl, HB9.out, HD9.out⟩
  · obtain ⟨a, ha⟩ : ∃ a, errV a0 a1 (some e1) = sentV a := by rcases e1 with _ | e1 <;> exact ⟨_, rfl⟩
    simp only [ha] at z1
    clear ha
    go_wp2
    go_ret
    have HE : cmpE s.e op xs ys = some e1 := by rw [HCE.out]; unfold failE; rw [if_neg (by simp)]
    rw [show cmpS s op xs ys = (⟨s.n, some e1⟩, -1) by unfold cmpS; rw [HE]; exact if_neg (by simp)]
    exact ⟨rfl, HB1.out, HD1.out⟩
end Go.Proofs.YtjghcaghigebjaaDoor

/-! The program's BitsCmp. -/
namespace Go.Proofs.YtjghcaghigebjaaDoor
open Go Go.RowKit

def opCmp (op : Int) : Bool := decide (15 ≤ op) && decide (op ≤ 17)
def bitsCmp1R (n : N) (op : Int) (xs ys : List Int) : N × List Int := bitsOk n (goodL n xs && goodL n ys && decide (xs.length = ys.length) && opCmp op) ((cmpP op xs ys).bind fun m => .ret [m])
def cmpOut (o : N × List Int) : N × Int := if o.2 = [] then (⟨0, []⟩, 0) else (o.1, o.2.headD 0)
theorem cmp_out {n : N} {op : Int} {xs ys : List Int} {e2 : Option Nat} (h3 : e2 = failE none (!goodL n xs || !goodL n ys) 0) : bitsCmp1R n op xs ys = if e2 = none then bitsOut ((cmpS ⟨n, none⟩ op xs ys).1, [(cmpS ⟨n, none⟩ op xs ys).2]) else (⟨0, []⟩, []) := by
  rw [h3]
  unfold bitsCmp1R bitsOk
  cases goodL n xs <;> cases goodL n ys <;> simp [failE]
  unfold cmpS cmpE opCmp
  by_cases hl : xs.length = ys.length
  · by_cases ho : 15 ≤ op ∧ op ≤ 17
    · rw [if_pos ⟨hl, by simp [ho]⟩, if_pos (by simp [failE, hl, ho])]
      simp only [run_bind, run]
    · rw [if_neg (by rw [Bool.and_eq_true, decide_eq_true_eq, decide_eq_true_eq]; exact fun h => ho h.2)]
      have hb : (!(decide (15 ≤ op) && decide (op ≤ 17))) = true := by rw [Bool.not_eq_true', Bool.and_eq_false_iff, decide_eq_false_iff_not, decide_eq_false_iff_not]; omega
      rw [hb, if_neg (by simp [failE, hl])]
      simp [bitsOut, failE, hl]
  · rw [if_neg (fun h => hl h.1), if_neg (by simp [failE, hl])]
    simp [bitsOut, failE, hl]
theorem sig_lit1 (W : World) (m : Int) : OwnSg (W.alloc (.cells #[.int .i64 m] 83)) W.heap.size (.slice (some ⟨W.heap.size, 0, none⟩) 1 1) [m] := World.ownsRow_lit W #[.int .i64 m] 1 (Nat.le_refl _) (by unfold maxLen; omega) (by simp)
set_option maxRecDepth 100000 in
set_option maxHeartbeats 4000000 in
theorem bitsCmp1_any (a0 a1 : Addr) (lo q r ba bb bc : Nat) (n : N) (A B : Option Addr) (ca cb : Nat) (xs ys : List Int) (op : Int) (w : World) (h : Bd a0 a1 lo w q r ⟨n, none⟩)
    (ha : w.heap[ba]? = some (.cells #[.slice A xs.length ca] 25 (0, 0))) (hb : w.heap[bb]? = some (.cells #[.slice B ys.length cb] 25 (0, 0))) (hc : w.heap[bc]? = some (.cells #[.int .i64 op] 3 (0, 0)))
    (hX : Lay.int.Sl w (fun b => b < lo) A xs) (hY : Lay.int.Sl w (fun b => b < lo) B ys) (hxi : i64s xs) (hyi : i64s ys) (hop : okInt op) (hlxs : xs.length ≤ 1048576) (hlys : ys.length ≤ 1048576) :
    Calls Tryd.prog 66 #[.pointer (some ⟨q, 0, none⟩), .pointer (some ⟨ba, 0, none⟩), .pointer (some ⟨bb, 0, none⟩), .pointer (some ⟨bc, 0, none⟩)] w (RetBC a0 a1 lo w q r (bitsCmp1R n op xs ys)) := by
  have HA := Lib.hid ha
  have HB := Lib.hid hb
  have HCc := Lib.hid hc
  have Hxs := Lib.hid hX
  have Hys := Lib.hid hY
  have HIxs := Lib.hid hxi
  have HIys := Lib.hid hyi
  have HBD := Lib.hid h
  have HNB := Lib.hid h.nb
  have HOP := Lib.hid hop
  have hlo := h.size
  obtain ⟨e1, he1⟩ : ∃ e1, e1 = listE n none xs := ⟨_, rfl⟩
  obtain ⟨e2, he2⟩ : ∃ e2, e2 = listE n e1 ys := ⟨_, rfl⟩
  have HE1 := Lib.hid he1
  have HE2 := Lib.hid he2
  have h3 : e2 = failE none (!goodL n xs || !goodL n ys) 0 := by rw [he2, he1]; unfold listE; rw [failE_twice]
  have HOUT := Lib.hid (cmp_out (op := op) h3)
  have HGOOD : Hid (e2 = none → goodL n xs = true ∧ goodL n ys = true) := Lib.hid (fun h0 => by
    rw [h3] at h0
    have := (failE_none h0).2
    revert this
    cases goodL n xs <;> cases goodL n ys <;> simp)
  clear he1 he2 h3 h ha hb hc hX hY hxi hyi hop
  go_enter Tryd.func66, Tryd.ntmps66
  go_wp2
  refine wp_region_rel4 [[], [], [(0, 8), (1, 9)], [], [], [(3, 11), (4, 12)], [(2, 10)], [(5, 13)]]
    (fun x9 y9 => Below x9.heap.size x9 y9)
    [(2, fun x9 y9 => BelB lo x9 y9), (5, fun x9 y9 => BelB lo x9 y9)]
    (fun f9 x9 => TwoI a0 a1 lo w q r n (stE (f9 5) e2 (stE (f9 2) e1 none)) x9)
    [fun vs9 _ => vs9 0 = (.pointer (some ⟨q, 0, none⟩)),
    fun vs9 _ => vs9 1 = (.slice A xs.length ca),
    fun vs9 y9 => (fun v z => ∃ A9 c9, v = .slice A9 xs.length c9 ∧ xs.length ≤ c9 ∧ Lay.int.Pl z A9 xs) (vs9 2) y9,
    fun vs9 _ => vs9 3 = (.pointer (some ⟨q, 0, none⟩)),
    fun vs9 _ => vs9 4 = (.slice B ys.length cb),
    fun vs9 y9 => (fun v z => ∃ A9 c9, v = .slice A9 ys.length c9 ∧ ys.length ≤ c9 ∧ Lay.int.Pl z A9 ys) (vs9 5) y9,
    fun vs9 _ => vs9 6 = vs9 2,
    fun vs9 _ => vs9 7 = vs9 5]
    [(0, 8), (1, 9), (2, 10), (3, 11), (4, 12), (5, 13), (6, 6), (7, 7)] (by kernel_rfl) (by kernel_rfl) (by kernel_rfl) (by kernel_rfl)
    (fun _ => Below.refl _ _) ⟨fun _ => BelB.refl _ _, fun _ => BelB.refl _ _, trivial⟩
    ⟨⟨.inr (fun _ _ _ h _ => h), ⟨.inr (.inr (fun _ _ _ h _ => h)), .inr (.inr (fun _ _ _ h _ => h)), trivial⟩⟩,
    ⟨.inr (fun _ _ _ h _ => h), ⟨.inr (.inr (fun _ _ _ h _ => h)), .inr (.inr (fun _ _ _ h _ => h)), trivial⟩⟩,
    ⟨.inr (fun vs9 x9 y9 h9 hR9 => (show ∀ v9 y8 y7, (fun v z => ∃ A9 c9, v = .slice A9 xs.length c9 ∧ xs.length ≤ c9 ∧ Lay.int.Pl z A9 xs) v9 y8 → (fun x9 y9 => Below x9.heap.size x9 y9) y8 y7 → (fun v z => ∃ A9 c9, v = .slice A9 xs.length c9 ∧ xs.length ≤ c9 ∧ Lay.int.Pl z A9 xs) v9 y7 from fun _ _ _ ⟨A9, c9, h1, h2, h3⟩ hR => ⟨A9, c9, h1, h2, h3.upP hR⟩) (vs9 2) x9 y9 h9 hR9), ⟨.inr (.inl rfl), .inr (.inr (fun vs9 x9 y9 h9 hR9 => (show ∀ v9 y8 y7, (fun v z => ∃ A9 c9, v = .slice A9 xs.length c9 ∧ xs.length ≤ c9 ∧ Lay.int.Pl z A9 xs) v9 y8 → (fun x9 y9 => BelB lo x9 y9) y8 y7 → (fun v z => ∃ A9 c9, v = .slice A9 xs.length c9 ∧ xs.length ≤ c9 ∧ Lay.int.Pl z A9 xs) v9 y7 from fun _ _ _ ⟨A9, c9, h1, h2, h3⟩ hR => ⟨A9, c9, h1, h2, h3.upB hR⟩) (vs9 2) x9 y9 h9 hR9)), trivial⟩⟩,
    ⟨.inr (fun _ _ _ h _ => h), ⟨.inr (.inr (fun _ _ _ h _ => h)), .inr (.inr (fun _ _ _ h _ => h)), trivial⟩⟩,
    ⟨.inr (fun _ _ _ h _ => h), ⟨.inr (.inr (fun _ _ _ h _ => h)), .inr (.inr (fun _ _ _ h _ => h)), trivial⟩⟩,
    ⟨.inr (fun vs9 x9 y9 h9 hR9 => (show ∀ v9 y8 y7, (fun v z => ∃ A9 c9, v = .slice A9 ys.length c9 ∧ ys.length ≤ c9 ∧ Lay.int.Pl z A9 ys) v9 y8 → (fun x9 y9 => Below x9.heap.size x9 y9) y8 y7 → (fun v z => ∃ A9 c9, v = .slice A9 ys.length c9 ∧ ys.length ≤ c9 ∧ Lay.int.Pl z A9 ys) v9 y7 from fun _ _ _ ⟨A9, c9, h1, h2, h3⟩ hR => ⟨A9, c9, h1, h2, h3.upP hR⟩) (vs9 5) x9 y9 h9 hR9), ⟨.inl (by kernel_rfl), .inr (.inl rfl), trivial⟩⟩,
    ⟨.inr (fun _ _ _ h _ => h), ⟨.inr (.inr (fun _ _ _ h _ => h)), .inr (.inr (fun _ _ _ h _ => h)), trivial⟩⟩,
    ⟨.inr (fun _ _ _ h _ => h), ⟨.inr (.inr (fun _ _ _ h _ => h)), .inr (.inr (fun _ _ _ h _ => h)), trivial⟩⟩, trivial⟩ ⟨fun vs vs' x h _ hv => (by dsimp only at hv ⊢; first | (rw [← h]; exact hv) | exact hv),
    fun vs vs' x h _ hv => (by dsimp only at hv ⊢; first | (rw [← h]; exact hv) | exact hv),
    fun vs vs' x h _ hv => (by dsimp only at hv ⊢; first | (rw [← h]; exact hv) | exact hv),
    fun vs vs' x h _ hv => (by dsimp only at hv ⊢; first | (rw [← h]; exact hv) | exact hv),
    fun vs vs' x h _ hv => (by dsimp only at hv ⊢; first | (rw [← h]; exact hv) | exact hv),
    fun vs vs' x h _ hv => (by dsimp only at hv ⊢; first | (rw [← h]; exact hv) | exact hv),
    fun vs vs' x h hd hv => (by have h2 := hd 2 (by decide); show vs' 6 = vs' 2; exact h.symm.trans (Eq.trans hv h2)),
    fun vs vs' x h hd hv => (by have h2 := hd 5 (by decide); show vs' 7 = vs' 5; exact h.symm.trans (Eq.trans hv h2)), trivial⟩ (⟨BelB.of (below_drewN (Below.refl _ _) 1) hlo, HBD.out.toBx.up (below_drewN (Below.refl _ _) 1), (HBD.out.circ rfl).up (below_drewN (Below.refl _ _) 1)⟩) ⟨?_, ?_, ?_, ?_, ?_, ?_, ?_, ?_, trivial⟩ ?_
  · intro vals xw f hf1 hf2 hf3 hI hF
    clear hf2 hf3
    dsimp only [owes4, bare]
    simp only [putsD, Act.put, List.setIfInBounds_toArray, List.set_cons_zero, List.set_cons_succ]
    go_wp2
    exact ⟨rfl, rfl, ⟨fun h9 => absurd h9 (Nat.ne_of_beq_eq_false rfl), fun _ => ⟨fun h9 => absurd h9 (Nat.ne_of_beq_eq_false rfl), fun _ => Below.refl _ _⟩⟩, hI⟩
  · intro vals xw f hf1 hf2 hf3 hI hF
    clear hf2 hf3
    dsimp only [owes4, bare]
    simp only [putsD, Act.put, List.setIfInBounds_toArray, List.set_cons_zero, List.set_cons_succ]
    have c9 := (cell_of_block (kd_of hI.1 HA.out (by decide) (by decide) (by decide)) 0).1
    go_wp2
    exact ⟨rfl, rfl, ⟨fun h9 => absurd h9 (Nat.ne_of_beq_eq_false rfl), fun _ => ⟨fun h9 => absurd h9 (Nat.ne_of_beq_eq_false rfl), fun _ => Below.refl _ _⟩⟩, hI⟩
  · intro vals xw f hf1 hf2 hf3 hI hF
    have k5 : f 5 = false := hf3 5 (by kernel_rfl)
    clear hf2 hf3
    simp only [saysD, List.getD_cons_zero, List.getD_cons_succ, and_true] at hF
    obtain ⟨e8, e9⟩ := hF
    dsimp only [owes4, bare]
    simp only [putsD, Act.put, List.setIfInBounds_toArray, List.set_cons_zero, List.set_cons_succ]
    simp only [e8, e9]
    have hI := hI
    rw [hf1, k5] at hI
    have HX9 := Lib.hid (Hxs.out.below hI.1.bel (fun _ h => h))
    have I1 := Lib.hid hI.1
    have HC9 := Lib.hid (list_any a0 a1 lo q r n none A ca xs xw hI.2.1 hI.2.2 HNB.out HX9.out HIxs.out hlxs)
    clear hI HX9
    go_wp2_with fail
    refine HC9.out.mono ?_
    rintro e wx ⟨A9, c9, rfl, h1, h2, h3, h4, h5⟩
    have H2 := Lib.hid h2
    have H3 := Lib.hid h3
    have H4 := Lib.hid h4
    have H5 := Lib.hid h5
    clear h2 h3 h4 h5 HC9
    go_wp2
    exact ⟨rfl, ⟨A9, c9, rfl, h1, H2.out⟩, ⟨fun _ => H3.out, fun h9 => absurd rfl h9⟩, show TwoI a0 a1 lo w q r n (stE (did f 2 5) e2 (stE (did f 2 2) e1 none)) wx from (by rw [did_same, did_ne (by decide), k5]; exact ⟨I1.out.trans H3.out, by rw [HE1.out]; exact H4.out, H5.out⟩)⟩
  · intro vals xw f hf1 hf2 hf3 hI hF
    clear hf2 hf3
    dsimp only [owes4, bare]
    simp only [putsD, Act.put, List.setIfInBounds_toArray, List.set_cons_zero, List.set_cons_succ]
    go_wp2
    exact ⟨rfl, rfl, ⟨fun h9 => absurd h9 (Nat.ne_of_beq_eq_false rfl), fun _ => ⟨fun h9 => absurd h9 (Nat.ne_of_beq_eq_false rfl), fun _ => Below.refl _ _⟩⟩, hI⟩
  · intro vals xw f hf1 hf2 hf3 hI hF
    clear hf2 hf3
    dsimp only [owes4, bare]
    simp only [putsD, Act.put, List.setIfInBounds_toArray, List.set_cons_zero, List.set_cons_succ]
    have c9 := (cell_of_block (kd_of hI.1 HB.out (by decide) (by decide) (by decide)) 0).1
    go_wp2
    exact ⟨rfl, rfl, ⟨fun h9 => absurd h9 (Nat.ne_of_beq_eq_false rfl), fun _ => ⟨fun h9 => absurd h9 (Nat.ne_of_beq_eq_false rfl), fun _ => Below.refl _ _⟩⟩, hI⟩
  · intro vals xw f hf1 hf2 hf3 hI hF
    have k2 : f 2 = true := hf2 2 (by kernel_rfl)
    clear hf2 hf3
    simp only [saysD, List.getD_cons_zero, List.getD_cons_succ, and_true] at hF
    obtain ⟨e11, e12⟩ := hF
    dsimp only [owes4, bare]
    simp only [putsD, Act.put, List.setIfInBounds_toArray, List.set_cons_zero, List.set_cons_succ]
    simp only [e11, e12]
    have hI := hI
    rw [hf1, k2] at hI
    have HX9 := Lib.hid (Hys.out.below hI.1.bel (fun _ h => h))
    have I1 := Lib.hid hI.1
    have HC9 := Lib.hid (list_any a0 a1 lo q r n e1 B cb ys xw hI.2.1 hI.2.2 HNB.out HX9.out HIys.out hlys)
    clear hI HX9
    go_wp2_with fail
    refine HC9.out.mono ?_
    rintro e wx ⟨A9, c9, rfl, h1, h2, h3, h4, h5⟩
    have H2 := Lib.hid h2
    have H3 := Lib.hid h3
    have H4 := Lib.hid h4
    have H5 := Lib.hid h5
    clear h2 h3 h4 h5 HC9
    go_wp2
    exact ⟨rfl, ⟨A9, c9, rfl, h1, H2.out⟩, ⟨fun h9 => absurd h9 (Nat.ne_of_beq_eq_false rfl), fun _ => ⟨fun _ => H3.out, fun h9 => absurd rfl h9⟩⟩, show TwoI a0 a1 lo w q r n (stE (did f 5 5) e2 (stE (did f 5 2) e1 none)) wx from (by rw [did_same]; exact ⟨I1.out.trans H3.out, by rw [HE2.out]; exact H4.out, H5.out⟩)⟩
  · intro vals xw f hf1 hf2 hf3 hI hF
    clear hf2 hf3
    simp only [saysD, List.getD_cons_zero, List.getD_cons_succ, and_true] at hF
    obtain ⟨B8, d8, e10, _⟩ := hF
    dsimp only [owes4, bare]
    simp only [putsD, Act.put, List.setIfInBounds_toArray, List.set_cons_zero, List.set_cons_succ]
    simp only [e10]
    go_wp2
    exact ⟨rfl, e10.symm, ⟨fun h9 => absurd h9 (Nat.ne_of_beq_eq_false rfl), fun _ => ⟨fun h9 => absurd h9 (Nat.ne_of_beq_eq_false rfl), fun _ => Below.refl _ _⟩⟩, hI⟩
  · intro vals xw f hf1 hf2 hf3 hI hF
    clear hf2 hf3
    simp only [saysD, List.getD_cons_zero, List.getD_cons_succ, and_true] at hF
    obtain ⟨B8, d8, e13, _⟩ := hF
    dsimp only [owes4, bare]
    simp only [putsD, Act.put, List.setIfInBounds_toArray, List.set_cons_zero, List.set_cons_succ]
    simp only [e13]
    go_wp2
    exact ⟨rfl, e13.symm, ⟨fun h9 => absurd h9 (Nat.ne_of_beq_eq_false rfl), fun _ => ⟨fun h9 => absurd h9 (Nat.ne_of_beq_eq_false rfl), fun _ => Below.refl _ _⟩⟩, hI⟩
  · intro vals xw f hall hI hF
    rw [show List.range _ = [0, 1, 2, 3, 4, 5, 6, 7] from rfl] at hF
    simp only [says, List.getD_cons_zero, List.getD_cons_succ, and_true] at hF
    have i9 : TwoI a0 a1 lo w q r n (stE (f 5) e2 (stE (f 2) e1 none)) xw := hI
    rw [hall 5 (by decide)] at i9
    obtain ⟨_, _, ⟨A7, c7, e7, hc7, hp7⟩, _, _, ⟨B7, d7, e8, hd7, hq7⟩, e5, e6⟩ := hF
    rw [e7] at e5
    rw [e8] at e6
    simp only [putsD, Act.put, List.setIfInBounds_toArray, List.set_cons_zero, List.set_cons_succ]
    simp only [e5, e6]
    have I1 := Lib.hid i9.1
    have I2 := Lib.hid (show Bx a0 a1 lo xw q r e2 from i9.2.1)
    have I3 := Lib.hid i9.2.2
    have HP7 := Lib.hid hp7
    have HQ7 := Lib.hid hq7
    clear i9 hI e5 e6 e7 e8 hp7 hq7
    have y1 := (cell_of_block I2.out.box 1).1
    rcases e2 with _ | e2
    · simp only [errV] at y1
      obtain ⟨g1, g2⟩ := HGOOD.out rfl
      obtain ⟨l1, l2, m1⟩ := goodL_iff.1 g1
      obtain ⟨l3, l4, m2⟩ := goodL_iff.1 g2
      have y3 := (cell_of_block (kd_of I1.out HCc.out (by decide) (by decide) (by decide)) 0).1
      have HCH := Lib.hid (bCompare_any a0 a1 lo q r ⟨n, none⟩ op A7 B7 c7 d7 xs ys xw ⟨I2.out, HNB.out, fun _ => I3.out⟩ HP7.out HQ7.out (fun _ => ⟨fun x hx => mark_mb HNB.out (m1 x hx), fun y hy => mark_mb HNB.out (m2 y hy), by omega⟩) (by omega) HOP.out)
      generalize hz : cmpS ⟨n, none⟩ op xs ys = z at *
      have HZ := Lib.hid hz
      clear g1 g2 m1 m2 hz
      go_wp2_with fail
      refine HCH.out.mono ?_
      rintro e w9 ⟨rfl, hb9, hd9⟩
      have HB9 := Lib.hid (I1.out.trans hb9)
      have HD9 := Lib.hid hd9
      have hal : Below w9.heap.size w9 (w9.alloc (.cells #[.int .i64 z.2] 83)) := (Below.refl _ _).alloc (Nat.le_refl _) _
      have HAL := Lib.hid hal
      have HPL := Lib.hid (sig_lit1 w9 z.2).pl.2
      clear hb9 hd9 HCH hal y1 y3
      go_wp2
      go_ret
      exact ⟨(z.1, [z.2]), some ⟨w9.heap.size, 0, none⟩, 1, rfl, by simp, HPL.out, HB9.out.trans (.of HAL.out HD9.out.size), HD9.out.up HAL.out, by rw [HOUT.out]; exact (if_pos trivial).symm⟩
    · obtain ⟨a, ha⟩ : ∃ a, errV a0 a1 (some e2) = sentV a := by rcases e2 with _ | e2 <;> exact ⟨_, rfl⟩
      simp only [ha] at y1
      clear ha
      go_wp2
      go_ret
      exact ⟨(⟨n, some e2⟩, []), none, 0, rfl, Nat.zero_le _, .nil _ _ _ _, I1.out, ⟨I2.out, HNB.out, fun h => by cases h⟩, by rw [HOUT.out, if_neg (by simp)]; rfl⟩
set_option maxRecDepth 100000 in
set_option maxHeartbeats 4000000 in
theorem built_cmp (a0 a1 : Addr) (l0 : Nat) (ba bb bc : Nat) (A : Option Addr) (c : Nat) (n : N) (w : World) (out : N × List Int) (K : World → Prop) (hg : Glb a0 a1 l0 w) (hl0 : l0 ≤ w.heap.size) (hK : ∀ x, Below w.heap.size w x → K x) (h : Lay.gate.Rd w A n.gs) (hn : n.gs.length ≤ 1048576) (hA : A = none → n.gs.length = 0) (hi : okInts n)
    (hcall : ∀ (lo q r : Nat) (z : World), Bd a0 a1 lo z q r ⟨n, none⟩ → netOk n = true → K z → w.heap.size ≤ lo → Calls Tryd.prog 66 #[.pointer (some ⟨q, 0, none⟩), .pointer (some ⟨ba, 0, none⟩), .pointer (some ⟨bb, 0, none⟩), .pointer (some ⟨bc, 0, none⟩)] z (RetBC a0 a1 lo z q r out)) :
    Calls Tryd.prog 46 #[.agg #[.int .i64 n.ins, .slice A n.gs.length c], .func (.func 66) #[] #[.pointer (some ⟨ba, 0, none⟩), .pointer (some ⟨bb, 0, none⟩), .pointer (some ⟨bc, 0, none⟩)]] w (RetBits (pickN (netOk n) out) w) := by
  obtain ⟨hW, hB0, hB1, hWS⟩ := two_boxes w (.cells #[.int .i64 n.ins, .slice A n.gs.length c] 29) (.cells #[.int .i64 0, .slice none 0 0] 29)
  have HW := Lib.hid hW
  have HB1 := Lib.hid hB1
  have HG := Lib.hid hg
  have HK := Lib.hid hK
  have HCALL := Lib.hid hcall
  have HRN := Lib.hid (readNet_any A c n _ (h.up hW) hn hA hi)
  have HWS := Lib.hid hWS
  clear hg hK hcall h hi hB0 hB1 hWS hW
  go_enter Tryd.func46, Tryd.ntmps46
  go_wp2_with fail
  refine HRN.out.mono ?_
  generalize (w.alloc (.cells #[.int .i64 n.ins, .slice A n.gs.length c] 29)).alloc (.cells #[.int .i64 0, .slice none 0 0] 29) = w2 at *
  rintro e w3 ⟨hb3, hcase⟩
  have HB1 := Lib.hid ((hb3.block _ (lt_of_block HB1.out)).trans HB1.out)
  have HB3 := Lib.hid hb3
  clear hb3 HRN
  rcases hcase with ⟨hok, r, rfl, hC⟩ | ⟨hok, rfl⟩
  rotate_left
  · have k5 := (cell_of_block HB1.out 0).1
    have k6 := (cell_of_block HB1.out 1).1
    have kf5 := (cell_of_block HB1.out 0).2
    have kf6 := (cell_of_block HB1.out 1).2
    have HOK := Lib.hid hok
    clear hok
    go_wp2
    refine bodyPost_ret (v := .tuple #[.agg #[.int .i64 0, .slice none 0 0], .slice none 0 0]) (by simp [results, Tryd.results46, go_sem, k5, k6, kf5, kf6]) rfl ?_
    rw [show pickN (netOk n) out = (⟨0, []⟩, []) by rw [HOK.out]; rfl]
    refine ⟨none, none, 0, 0, rfl, Nat.zero_le _, Nat.zero_le _, .nil _ _ _ _, .nil _ _ _ _, ?_, apart_nil rfl⟩
    repeat (refine below_set ?_ (by show w.heap.size ≤ w.heap.size + 1; omega) _)
    exact bthen HW.out HB3.out
  have HOK := Lib.hid hok
  have hnb : NB n := by have := (netOk_iff n).1 hok; exact ⟨this.1, this.2.1, this.2.2.1⟩
  have HNB := Lib.hid hnb
  have HC := Lib.hid hC
  clear hok hnb hC
  have hal : Below w3.heap.size w3 (w3.alloc (.cells #[.pointer (some ⟨r, 0, none⟩), .nilIface] 82)) := (Below.refl _ _).alloc (Nat.le_refl _) _
  have hlo2 : l0 ≤ w2.heap.size := Nat.le_trans hl0 HW.out.size
  have hbd : Bd a0 a1 w2.heap.size (w3.alloc (.cells #[.pointer (some ⟨r, 0, none⟩), .nilIface] 82)) w3.heap.size r ⟨n, none⟩ :=
    ⟨⟨(HG.out.mono hl0).below (bthen HW.out (HB3.out.trans (hal.mono HB3.out.size))) |>.mono HW.out.size, heap_alloc_new _ _, HB3.out.size⟩, HNB.out, fun _ => HC.out.up hal⟩
  have HAL := Lib.hid hal
  have HC4 := Lib.hid (HCALL.out w2.heap.size w3.heap.size r _ hbd HOK.out (HK.out _ (bthen HW.out (HB3.out.trans (hal.mono HB3.out.size)))) HW.out.size)
  clear hal hbd HCALL HK
  go_wp2_with fail
  refine HC4.out.mono ?_
  rintro e w5 ⟨T, A5, c5, rfl, hl5, hp5, hb5, hd5, hT5⟩
  have HB5 : Hid (Below w2.heap.size w2 w5) := Lib.hid (HB3.out.trans ((HAL.out.mono HB3.out.size).trans hb5.bel))
  have HB1 : Hid (w5.heap[w.heap.size + 1]? = some (.cells #[.int .i64 0, .slice none 0 0] 29 (0, 0))) := Lib.hid (by
    have h9 : w.heap.size + 1 < w2.heap.size := by rw [HWS.out]; omega
    exact (hb5.bel.block _ h9).trans ((HAL.out.block _ (Nat.lt_of_lt_of_le h9 HB3.out.size)).trans HB1.out))
  have HP5 := Lib.hid hp5
  have HD5 := Lib.hid hd5
  have HT5 := Lib.hid hT5
  clear hp5 hd5 hT5 HC4 hb5 HAL HC HNB HB3
  have k5 := (cell_of_block HB1.out 0).1
  have k6 := (cell_of_block HB1.out 1).1
  have kf5 := (cell_of_block HB1.out 0).2
  have kf6 := (cell_of_block HB1.out 1).2
  have c0 := HD5.out.g.c0
  have c1 := HD5.out.g.c1
  have q0 := (cell_of_block HD5.out.box 0).1
  have q1 := (cell_of_block HD5.out.box 1).1
  have HGL := Lib.hid HD5.out.g
  obtain ⟨⟨n5, e5⟩, l5⟩ := T
  dsimp only at q1 hl5
  have hfin : ∀ X : World, Below w2.heap.size w2 X → Below w.heap.size w X := fun X hX => bthen HW.out hX
  have HFIN := Lib.hid hfin
  clear hfin
  rcases e5 with _ | e5
  · simp only [errV] at q1
    have hC5 := HD5.out.circ rfl
    obtain ⟨A6, c6, r0, r1, ho6⟩ := circ_cells hC5
    have HO6 := Lib.hid ho6
    have HN : Hid (∀ (b : Addr) (m : Nat), Calls Tryd.prog 82 #[.nilIface, sentV b] (w5.drewN m) fun e w' => e = .returned (.bool false) ∧ w5.drewN m = w') := Lib.hid fun b m => is_nil b _
    have HS5 := Lib.hid hC5.lt
    clear hC5 ho6
    go_wp2
    go_quiet ((go_at_call 82; with_reducible exact quiet_left (HN.out _ _)))
    go_wp2
    clear HN
    have HLT : Hid (w.heap.size + 1 < w2.heap.size) := Lib.hid (by rw [HWS.out]; omega)
    have HQ : Hid (∀ x : World, w5.grownBy x (some (w.heap.size + 1)) → x.cell? ⟨w3.heap.size, 0, none⟩ = some (.pointer (some ⟨r, 0, none⟩)) ∧ x.cell? ⟨r, 0, none⟩ = some (.int .i64 n5.ins) ∧ x.cell? ⟨r, 1, none⟩ = some (.slice A6 n5.gs.length c6)) := Lib.hid fun x hx => by
      have hq := (hx.block _ (lt_of_block HD5.out.box) (fun e => by injection e with e; have := HD5.out.low; have := HLT.out; omega)).trans HD5.out.box
      have hr := hx.block r HS5.out.2 (fun e => by injection e with e; have := HS5.out.1; have := HLT.out; omega)
      exact ⟨(cell_of_block hq 0).1, (World.cell?_of_block (w := w5) (a := ⟨r, 0, none⟩) hr).trans r0, (World.cell?_of_block (w := w5) (a := ⟨r, 1, none⟩) hr).trans r1⟩
    have HL5 : Hid (∀ x : World, w5.grownBy x (some (w.heap.size + 1)) → Lay.int.Rd x A5 l5) := Lib.hid fun x hx => by
      refine (HP5.out.keep fun b hb => hx.block b hb.lt fun e => ?_).mono fun b hb => Nat.lt_of_lt_of_le hb.lt hx.size
      injection e with e
      subst e
      obtain ⟨cs, fr, h9⟩ := hb
      rw [HB1.out] at h9
      injection h9 with h9
      injection h9 with _ h9 _
      exact absurd h9 (by decide)
    refine wp_region_rel4 [[], [(0, 39)], [(1, 40)], [(2, 41)], [(3, 42)], [(4, 43)], [(5, 44)], [], [(7, 46)], [(6, 45)], [(8, 47)]]
      (fun x9 y9 => Below x9.heap.size x9 y9)
      [(9, fun x9 y9 => x9.grownBy y9 (some (w.heap.size + 1)))]
      (fun f9 x9 => BuiltI w5 (w.heap.size + 1) (.agg #[.int .i64 n5.ins, .slice A6 n5.gs.length c6]) #[.int .i64 n5.ins, .slice A6 n5.gs.length c6] (f9 9) x9)
      [fun vs9 _ => vs9 0 = (.pointer (some ⟨w3.heap.size, 0, none⟩)),
    fun vs9 _ => vs9 1 = (.pointer (some ⟨w3.heap.size, 0, none⟩)),
    fun vs9 _ => vs9 2 = (.pointer (some ⟨w3.heap.size, 0, none⟩)),
    fun vs9 _ => vs9 3 = (.pointer (some ⟨r, 0, none⟩)),
    fun vs9 _ => vs9 4 = (.pointer (some ⟨r, 0, none⟩)),
    fun vs9 _ => vs9 5 = (.pointer (some ⟨r, 0, none⟩)),
    fun vs9 _ => vs9 6 = (.agg #[.int .i64 n5.ins, .slice A6 n5.gs.length c6]),
    fun vs9 _ => vs9 7 = (.slice A5 l5.length c5),
    fun vs9 y9 => (fun v z => ∃ B d, v = .slice B l5.length d ∧ l5.length ≤ d ∧ Lay.int.Sl z (Own w5.heap.size z) B l5) (vs9 8) y9,
    fun _ _ => True,
    fun vs9 _ => vs9 10 = vs9 8]
      [(0, 39), (1, 40), (2, 41), (3, 42), (4, 43), (5, 44), (6, 45), (7, 46), (8, 47), (10, 5)] (by kernel_rfl) (by kernel_rfl) (by kernel_rfl) (by kernel_rfl)
      (fun _ => Below.refl _ _) ⟨fun _ => World.grownBy.refl _ _, trivial⟩
      ⟨⟨.inr (fun _ _ _ h _ => h), ⟨.inr (.inr (fun _ _ _ h _ => h)), trivial⟩⟩,
    ⟨.inr (fun _ _ _ h _ => h), ⟨.inr (.inr (fun _ _ _ h _ => h)), trivial⟩⟩,
    ⟨.inr (fun _ _ _ h _ => h), ⟨.inr (.inr (fun _ _ _ h _ => h)), trivial⟩⟩,
    ⟨.inr (fun _ _ _ h _ => h), ⟨.inr (.inr (fun _ _ _ h _ => h)), trivial⟩⟩,
    ⟨.inr (fun _ _ _ h _ => h), ⟨.inr (.inr (fun _ _ _ h _ => h)), trivial⟩⟩,
    ⟨.inr (fun _ _ _ h _ => h), ⟨.inr (.inr (fun _ _ _ h _ => h)), trivial⟩⟩,
    ⟨.inr (fun _ _ _ h _ => h), ⟨.inr (.inr (fun _ _ _ h _ => h)), trivial⟩⟩,
    ⟨.inr (fun _ _ _ h _ => h), ⟨.inr (.inr (fun _ _ _ h _ => h)), trivial⟩⟩,
    ⟨.inr (fun vs9 x9 y9 h9 hR9 => (show ∀ v9 y8 y7, (fun v z => ∃ B d, v = .slice B l5.length d ∧ l5.length ≤ d ∧ Lay.int.Sl z (Own w5.heap.size z) B l5) v9 y8 → (fun x9 y9 => Below x9.heap.size x9 y9) y8 y7 → (fun v z => ∃ B d, v = .slice B l5.length d ∧ l5.length ≤ d ∧ Lay.int.Sl z (Own w5.heap.size z) B l5) v9 y7 from fun _ _ _ ⟨B, d, h1, h2, h3⟩ hR => ⟨B, d, h1, h2, h3.own_up hR⟩) (vs9 8) x9 y9 h9 hR9), ⟨.inr (.inr (fun vs9 x9 y9 h9 hR9 => (show ∀ v9 y8 y7, (fun v z => ∃ B d, v = .slice B l5.length d ∧ l5.length ≤ d ∧ Lay.int.Sl z (Own w5.heap.size z) B l5) v9 y8 → (fun x9 y9 => x9.grownBy y9 (some (w.heap.size + 1))) y8 y7 → (fun v z => ∃ B d, v = .slice B l5.length d ∧ l5.length ≤ d ∧ Lay.int.Sl z (Own w5.heap.size z) B l5) v9 y7 from fun _ _ _ ⟨B, d, h1, h2, h3⟩ hR => ⟨B, d, h1, h2, own_grown9 h3 hR (Nat.lt_of_lt_of_le HLT.out HB5.out.size)⟩) (vs9 8) x9 y9 h9 hR9)), trivial⟩⟩,
    ⟨.inr (fun _ _ _ h _ => h), ⟨.inr (.inl rfl), trivial⟩⟩,
    ⟨.inr (fun _ _ _ h _ => h), ⟨.inr (.inr (fun _ _ _ h _ => h)), trivial⟩⟩, trivial⟩ ⟨fun vs vs' x h _ hv => (by dsimp only at hv ⊢; first | (rw [← h]; exact hv) | exact hv),
    fun vs vs' x h _ hv => (by dsimp only at hv ⊢; first | (rw [← h]; exact hv) | exact hv),
    fun vs vs' x h _ hv => (by dsimp only at hv ⊢; first | (rw [← h]; exact hv) | exact hv),
    fun vs vs' x h _ hv => (by dsimp only at hv ⊢; first | (rw [← h]; exact hv) | exact hv),
    fun vs vs' x h _ hv => (by dsimp only at hv ⊢; first | (rw [← h]; exact hv) | exact hv),
    fun vs vs' x h _ hv => (by dsimp only at hv ⊢; first | (rw [← h]; exact hv) | exact hv),
    fun vs vs' x h _ hv => (by dsimp only at hv ⊢; first | (rw [← h]; exact hv) | exact hv),
    fun vs vs' x h _ hv => (by dsimp only at hv ⊢; first | (rw [← h]; exact hv) | exact hv),
    fun vs vs' x h _ hv => (by dsimp only at hv ⊢; first | (rw [← h]; exact hv) | exact hv),
    fun _ _ _ _ _ _ => trivial,
    fun vs vs' x h hd hv => (by have h2 := hd 8 (by decide); show vs' 10 = vs' 8; exact h.symm.trans (Eq.trans hv h2)), trivial⟩ (⟨grown_of9 (below_drewN (below_drewN (Below.refl _ _) nq) 1) _, fun _ => HB1.out, fun h => by cases h⟩) ⟨?_, ?_, ?_, ?_, ?_, ?_, ?_, ?_, ?_, ?_, ?_, trivial⟩ ?_
    · intro vals xw f hf1 hf2 hf3 hI hF
      clear hf2 hf3
      dsimp only [owes4, bare]
      simp only [putsD, Act.put, List.setIfInBounds_toArray, List.set_cons_zero, List.set_cons_succ]
      go_wp2
      exact ⟨rfl, rfl, ⟨fun h9 => absurd h9 (Nat.ne_of_beq_eq_false rfl), fun _ => Below.refl _ _⟩, hI⟩
    · intro vals xw f hf1 hf2 hf3 hI hF
      clear hf2 hf3
      simp only [saysD, List.getD_cons_zero, List.getD_cons_succ, and_true] at hF
      have e39 := hF
      dsimp only [owes4, bare]
      simp only [putsD, Act.put, List.setIfInBounds_toArray, List.set_cons_zero, List.set_cons_succ]
      simp only [e39]
      go_wp2
      exact ⟨rfl, rfl, ⟨fun h9 => absurd h9 (Nat.ne_of_beq_eq_false rfl), fun _ => Below.refl _ _⟩, hI⟩
    · intro vals xw f hf1 hf2 hf3 hI hF
      clear hf2 hf3
      simp only [saysD, List.getD_cons_zero, List.getD_cons_succ, and_true] at hF
      have e40 := hF
      dsimp only [owes4, bare]
      simp only [putsD, Act.put, List.setIfInBounds_toArray, List.set_cons_zero, List.set_cons_succ]
      simp only [e40]
      go_wp2
      exact ⟨rfl, rfl, ⟨fun h9 => absurd h9 (Nat.ne_of_beq_eq_false rfl), fun _ => Below.refl _ _⟩, hI⟩
    · intro vals xw f hf1 hf2 hf3 hI hF
      clear hf2 hf3
      simp only [saysD, List.getD_cons_zero, List.getD_cons_succ, and_true] at hF
      have e41 := hF
      have c9 := (HQ.out xw hI.1).1
      dsimp only [owes4, bare]
      simp only [putsD, Act.put, List.setIfInBounds_toArray, List.set_cons_zero, List.set_cons_succ]
      simp only [e41]
      go_wp2
      exact ⟨rfl, rfl, ⟨fun h9 => absurd h9 (Nat.ne_of_beq_eq_false rfl), fun _ => Below.refl _ _⟩, hI⟩
    · intro vals xw f hf1 hf2 hf3 hI hF
      clear hf2 hf3
      simp only [saysD, List.getD_cons_zero, List.getD_cons_succ, and_true] at hF
      have e42 := hF
      dsimp only [owes4, bare]
      simp only [putsD, Act.put, List.setIfInBounds_toArray, List.set_cons_zero, List.set_cons_succ]
      simp only [e42]
      go_wp2
      exact ⟨rfl, rfl, ⟨fun h9 => absurd h9 (Nat.ne_of_beq_eq_false rfl), fun _ => Below.refl _ _⟩, hI⟩
    · intro vals xw f hf1 hf2 hf3 hI hF
      clear hf2 hf3
      simp only [saysD, List.getD_cons_zero, List.getD_cons_succ, and_true] at hF
      have e43 := hF
      dsimp only [owes4, bare]
      simp only [putsD, Act.put, List.setIfInBounds_toArray, List.set_cons_zero, List.set_cons_succ]
      simp only [e43]
      go_wp2
      exact ⟨rfl, rfl, ⟨fun h9 => absurd h9 (Nat.ne_of_beq_eq_false rfl), fun _ => Below.refl _ _⟩, hI⟩
    · intro vals xw f hf1 hf2 hf3 hI hF
      clear hf2 hf3
      simp only [saysD, List.getD_cons_zero, List.getD_cons_succ, and_true] at hF
      have e44 := hF
      have c9 := (HQ.out xw hI.1).2.1
      have c8 := (HQ.out xw hI.1).2.2
      dsimp only [owes4, bare]
      simp only [putsD, Act.put, List.setIfInBounds_toArray, List.set_cons_zero, List.set_cons_succ]
      simp only [e44]
      go_wp2
      exact ⟨rfl, rfl, ⟨fun h9 => absurd h9 (Nat.ne_of_beq_eq_false rfl), fun _ => Below.refl _ _⟩, hI⟩
    · intro vals xw f hf1 hf2 hf3 hI hF
      clear hf2 hf3
      dsimp only [owes4, bare]
      simp only [putsD, Act.put, List.setIfInBounds_toArray, List.set_cons_zero, List.set_cons_succ]
      go_wp2
      exact ⟨rfl, rfl, ⟨fun h9 => absurd h9 (Nat.ne_of_beq_eq_false rfl), fun _ => Below.refl _ _⟩, hI⟩
    · intro vals xw f hf1 hf2 hf3 hI hF
      clear hf2 hf3
      simp only [saysD, List.getD_cons_zero, List.getD_cons_succ, and_true] at hF
      have e46 := hF
      dsimp only [owes4, bare]
      simp only [putsD, Act.put, List.setIfInBounds_toArray, List.set_cons_zero, List.set_cons_succ]
      simp only [e46]
      have HI := Lib.hid hI
      have hsz9 : w5.heap.size ≤ xw.heap.size := hI.1.size
      have HRD := Lib.hid (HL5.out xw hI.1)
      clear hI
      go_wp2_with fail
      refine (numbers_any A5 c5 l5 xw HRD.out (by omega)).mono ?_
      rintro e wx ⟨B, d, rfl, h1, h2, h3⟩
      have H3 := Lib.hid h3
      have H2 := Lib.hid (own_mono9 h2 hsz9)
      clear h2 h3
      go_wp2
      exact ⟨rfl, ⟨B, d, rfl, h1, H2.out⟩, ⟨fun h9 => absurd h9 (Nat.ne_of_beq_eq_false rfl), fun _ => H3.out⟩, HI.out.up H3.out⟩
    · intro vals xw f hf1 hf2 hf3 hI hF
      clear hf2 hf3
      simp only [saysD, List.getD_cons_zero, List.getD_cons_succ, and_true] at hF
      have e45 := hF
      dsimp only [owes4, bare]
      simp only [putsD, Act.put, List.setIfInBounds_toArray, List.set_cons_zero, List.set_cons_succ]
      simp only [e45]
      have hbx := hI.2.1 hf1
      have j6 := (cell_of_block hbx 0).1
      have j7 := (cell_of_block hbx 1).1
      have f6 := (cell_of_block hbx 0).2
      have f7 := (cell_of_block hbx 1).2
      have HG1 := Lib.hid hI.1
      have HBX := Lib.hid hbx
      clear hI hbx
      go_wp2
      have h1 := heap_set_same xw (w.heap.size + 1) 0 (.int .i64 n5.ins) _ _ HBX.out
      have h2 := heap_set_same _ (w.heap.size + 1) 1 (.slice A6 n5.gs.length c6) _ _ h1
      have h3 : xw.grownBy ((xw.setCell ⟨w.heap.size + 1, 0, none⟩ (.int .i64 n5.ins)).setCell ⟨w.heap.size + 1, 1, none⟩ (.slice A6 n5.gs.length c6)) (some (w.heap.size + 1)) := only_setCell (only_setCell (World.grownBy.refl _ _) _ _) _ _
      exact ⟨rfl, trivial, ⟨fun _ => h3, fun h9 => absurd rfl h9⟩, grown_trans9 HG1.out h3, fun h => absurd ((did_same f 9).symm.trans h) (by simp), fun _ => h2⟩
    · intro vals xw f hf1 hf2 hf3 hI hF
      clear hf2 hf3
      simp only [saysD, List.getD_cons_zero, List.getD_cons_succ, and_true] at hF
      obtain ⟨B8, d8, e47, _⟩ := hF
      dsimp only [owes4, bare]
      simp only [putsD, Act.put, List.setIfInBounds_toArray, List.set_cons_zero, List.set_cons_succ]
      simp only [e47]
      go_wp2
      exact ⟨rfl, e47.symm, ⟨fun h9 => absurd h9 (Nat.ne_of_beq_eq_false rfl), fun _ => Below.refl _ _⟩, hI⟩
    · intro vals xw f hall hI hF
      rw [show List.range _ = [0, 1, 2, 3, 4, 5, 6, 7, 8, 9, 10] from rfl] at hF
      simp only [says, List.getD_cons_zero, List.getD_cons_succ, and_true] at hF
      obtain ⟨_, _, _, _, _, _, _, _, ⟨B8, d8, e47, hd8, hs8⟩, e5⟩ := hF
      rw [e47] at e5
      have hbx := hI.2.2 (hall 9 (by decide))
      have k5 := (cell_of_block hbx 0).1
      have k6 := (cell_of_block hbx 1).1
      have kf5 := (cell_of_block hbx 0).2
      have kf6 := (cell_of_block hbx 1).2
      have HG1 := Lib.hid hI.1
      have HS8 := Lib.hid hs8
      have HD8 := Lib.hid hd8
      clear hI hbx hs8 hd8
      simp only [putsD, Act.put, List.setIfInBounds_toArray, List.set_cons_zero, List.set_cons_succ]
      simp only [e5]
      clear e5 e47
      go_wp2
      refine bodyPost_ret (v := .tuple #[.agg #[.int .i64 n5.ins, .slice A6 n5.gs.length c6], .slice B8 l5.length d8]) (by simp [results, Tryd.results46, go_sem, k5, k6, kf5, kf6]) rfl ?_
      rw [show pickN (netOk n) out = out by rw [HOK.out]; rfl, ← HT5.out]
      show RetBits (n5, l5) w _ _
      exact ⟨A6, B8, c6, d8, rfl, HO6.out.sl.1, HD8.out, own_mono9 (own_grown9 HO6.out.own HG1.out HLT.out) HW.out.size, own_mono9 HS8.out (Nat.le_trans HW.out.size HB5.out.size), (HFIN.out _ HB5.out).grown HG1.out (bthen HW.out HB5.out).size (fun k hk => by injection hk with hk; omega), apart_of HO6.out.own HS8.out (fun b h1 h2 => by have := h1.2.1; have := h2.1; omega)⟩
  · obtain ⟨a, ha⟩ : ∃ a, errV a0 a1 (some e5) = sentV a := by rcases e5 with _ | e5 <;> exact ⟨_, rfl⟩
    simp only [ha] at q1
    have hcase : (a = a0 ∧ True) ∨ a = a1 := by
      rcases e5 with _ | e5
      · injection ha with _ ha; injection ha with ha; injection ha with ha; exact .inl ⟨ha.symm, trivial⟩
      · injection ha with _ ha; injection ha with ha; injection ha with ha; exact .inr ha.symm
    clear ha
    have HT6 : Hid (out = (⟨0, []⟩, [])) := Lib.hid (by rw [← HT5.out]; exact if_neg (by simp))
    have HSM : Hid (∀ (b : Addr) (m : Nat), Calls Tryd.prog 82 #[sentV b, sentV b] (w5.drewN m) fun e w' => e = .returned (.bool true) ∧ w5.drewN m = w') := Lib.hid fun b m => is_same b _
    have HOT : Hid (∀ (m : Nat), Calls Tryd.prog 82 #[sentV a0, sentV a1] (w5.drewN m) fun e w' => e = .returned (.bool false) ∧ w5.drewN m = w') := Lib.hid fun m => by
      obtain ⟨ca, ta, h0⟩ := HGL.out.b0
      obtain ⟨cb, tb, h1⟩ := HGL.out.b1
      exact is_other a0 a1 ca cb ta tb _ HGL.out.ne h0 h1
    rcases hcase with ⟨rfl, _⟩ | rfl
    · go_wp2
      go_quiet ((go_at_call 82; first | with_reducible exact quiet_left (HOT.out _) | with_reducible exact quiet_left (HSM.out _ _)))
      clear HSM HOT
      go_wp2
      refine bodyPost_ret (v := .tuple #[.agg #[.int .i64 0, .slice none 0 0], .slice none 0 0]) (by simp [results, Tryd.results46, go_sem, k5, k6, kf5, kf6]) rfl ?_
      rw [show pickN (netOk n) out = out by rw [HOK.out]; rfl, HT6.out]
      refine ⟨none, none, 0, 0, rfl, Nat.zero_le _, Nat.zero_le _, .nil _ _ _ _, .nil _ _ _ _, ?_, apart_nil rfl⟩
      repeat (refine below_set ?_ (by show w.heap.size ≤ w.heap.size + 1; omega) _)
      exact below_drewN (HFIN.out _ HB5.out) _
    · go_wp2
      go_quiet ((go_at_call 82; first | with_reducible exact quiet_left (HSM.out _ _) | with_reducible exact quiet_left (HOT.out _)))
      clear HSM HOT
      go_wp2
      refine bodyPost_ret (v := .tuple #[.agg #[.int .i64 0, .slice none 0 0], .slice none 0 0]) (by simp [results, Tryd.results46, go_sem, k5, k6, kf5, kf6]) rfl ?_
      rw [show pickN (netOk n) out = out by rw [HOK.out]; rfl, HT6.out]
      refine ⟨none, none, 0, 0, rfl, Nat.zero_le _, Nat.zero_le _, .nil _ _ _ _, .nil _ _ _ _, ?_, apart_nil rfl⟩
      repeat (refine below_set ?_ (by show w.heap.size ≤ w.heap.size + 1; omega) _)
      exact below_drewN (HFIN.out _ HB5.out) _

/-- A net and a mark, in memory of the call's own. -/
def RetCm (r : N × Int) (w : World) (e : Ending) (w' : World) : Prop :=
  ∃ A c, e = .returned (.tuple #[.agg #[.int .i64 r.1.ins, .slice A r.1.gs.length c], .int .i64 r.2]) ∧ r.1.gs.length ≤ c ∧ Lay.gate.Sl w' (Own w.heap.size w') A r.1.gs ∧ Below w.heap.size w w'
set_option maxRecDepth 100000 in
set_option maxHeartbeats 4000000 in
theorem implBitsCmp_any (a0 a1 : Addr) (l0 : Nat) (n : N) (c0 : Int) (xs ys : List Int) (A X Y : Option Addr) (c cx cy : Nat) (w : World) (hg : Glb a0 a1 l0 w) (hl0 : l0 ≤ w.heap.size) (h : Lay.gate.Rd w A n.gs) (hn : n.gs.length ≤ 1048576) (hA : A = none → n.gs.length = 0) (hi : okInts n)
    (hX : Lay.int.Rd w X xs) (hY : Lay.int.Rd w Y ys) (hxi : i64s xs) (hyi : i64s ys) (hci : okInt c0) (hlx : xs.length ≤ 1048576) (hly : ys.length ≤ 1048576) :
    Calls Tryd.prog 31 #[.agg #[.int .i64 n.ins, .slice A n.gs.length c], .int .i64 c0, .slice X xs.length cx, .slice Y ys.length cy] w (RetCm (cmpOut (pickN (netOk n) (bitsCmp1R n c0 xs ys))) w) := by
  obtain ⟨hW, hB0, hB1, hB2, hB3, hB4, hWS⟩ := five_boxes w (.cells #[.int .i64 n.ins, .slice A n.gs.length c] 29) (.cells #[.int .i64 c0] 3) (.cells #[.slice X xs.length cx] 25) (.cells #[.slice Y ys.length cy] 25) (.cells #[.int .i64 0, .slice none 0 0] 29)
  have HW := Lib.hid hW
  have HB0 := Lib.hid hB0
  have HB4 := Lib.hid hB4
  have HWS := Lib.hid hWS
  have z0 := (cell_of_block hB0 0).1
  have z1 := (cell_of_block hB0 1).1
  have HCL := Lib.hid (built_cmp a0 a1 l0 (w.heap.size + 1 + 1) (w.heap.size + 1 + 1 + 1) (w.heap.size + 1) A c n _ (bitsCmp1R n c0 xs ys)
    (fun z => z.heap[w.heap.size + 1 + 1]? = some (.cells #[.slice X xs.length cx] 25 (0, 0)) ∧ z.heap[w.heap.size + 1 + 1 + 1]? = some (.cells #[.slice Y ys.length cy] 25 (0, 0)) ∧ z.heap[w.heap.size + 1]? = some (.cells #[.int .i64 c0] 3 (0, 0)) ∧ Lay.int.Sl z (fun b => b < w.heap.size) X xs ∧ Lay.int.Sl z (fun b => b < w.heap.size) Y ys)
    (hg.below (hW.mono hl0)) (Nat.le_trans hl0 hW.size) (fun x hx => ⟨(hx.block _ (by rw [hWS]; omega)).trans hB2, (hx.block _ (by rw [hWS]; omega)).trans hB3, (hx.block _ (by rw [hWS]; omega)).trans hB1, (hX.below (bthen hW hx) (fun _ h => h)), hY.below (bthen hW hx) (fun _ h => h)⟩)
    (h.up hW) hn hA hi (fun lo q r z hz _ hk hlo => bitsCmp1_any a0 a1 lo q r _ _ _ n X Y cx cy xs ys c0 z hz hk.1 hk.2.1 hk.2.2.1 (hk.2.2.2.1.mono fun b hb => by rw [hWS] at hlo; omega) (hk.2.2.2.2.mono fun b hb => by rw [hWS] at hlo; omega) hxi hyi hci hlx hly))
  clear hg h hA hi hX hY hxi hyi hlx hly hB0 hB1 hB2 hB3 hB4 hW hWS
  generalize hout : pickN (netOk n) (bitsCmp1R n c0 xs ys) = out at *
  have HOUT := Lib.hid hout
  clear hout
  go_enter Tryd.func31, Tryd.ntmps31
  go_wp2_with fail
  refine HCL.out.mono ?_
  clear z0 z1
  generalize ((((w.alloc (.cells #[.int .i64 n.ins, .slice A n.gs.length c] 29)).alloc (.cells #[.int .i64 c0] 3)).alloc (.cells #[.slice X xs.length cx] 25)).alloc (.cells #[.slice Y ys.length cy] 25)).alloc (.cells #[.int .i64 0, .slice none 0 0] 29) = W at *
  rintro e w1 ⟨A1, B1, c1, d1, rfl, h1, h2, h3, h4, h5, h6⟩
  have HX4 := Lib.hid ((h5.block _ (lt_of_block HB4.out)).trans HB4.out)
  have hlt4 : w.heap.size + 1 + 1 + 1 + 1 < W.heap.size := by rw [HWS.out]; omega
  have H3 := Lib.hid h3
  have H4 := Lib.hid h4
  have H5 := Lib.hid h5
  clear h3 h4 h5 h6 HCL HB0
  have hal : Below w1.heap.size w1 (w1.alloc (.cells #[.int .i64 out.1.ins, .slice A1 out.1.gs.length c1] 29)) := (Below.refl _ _).alloc (Nat.le_refl _) _
  have HBX := Lib.hid (heap_alloc_new w1 (.cells #[.int .i64 out.1.ins, .slice A1 out.1.gs.length c1] 29))
  have HX4 := Lib.hid ((hal.block _ (lt_of_block HX4.out)).trans HX4.out)
  have H3 := Lib.hid (H3.out.own_up hal)
  have H4 := Lib.hid (H4.out.own_up hal)
  have HF := Lib.hid (bthen (bthen HW.out H5.out) hal)
  have hs1 : w1.heap.size < (w1.alloc (.cells #[.int .i64 out.1.ins, .slice A1 out.1.gs.length c1] 29)).heap.size := by simp
  have hw1 : W.heap.size ≤ w1.heap.size := H5.out.size
  clear hal
  have hcase : out.2.length = 0 ∨ ∃ m l, out.2 = m :: l := by
    cases out.2 with
    | nil => exact .inl rfl
    | cons m l => exact .inr ⟨m, l, rfl⟩
  rcases hcase with hz | ⟨m, l, hm⟩
  · have hzI : ((out.2.length : Int) == 0) = true := by rw [hz]; rfl
    have HZ := Lib.hid hz
    have r0 := (cell_of_block HX4.out 0).1
    have r1 := (cell_of_block HX4.out 1).1
    have rf0 := (cell_of_block HX4.out 0).2
    have rf1 := (cell_of_block HX4.out 1).2
    have hq1 := heap_set_same _ (w.heap.size + 1 + 1 + 1 + 1) 0 (.int .i64 0) _ _ HX4.out
    have HQ2 := Lib.hid (heap_set_same _ (w.heap.size + 1 + 1 + 1 + 1) 1 (.slice none 0 0) _ _ hq1)
    clear hz hq1
    go_wp2
    have k5 := (cell_of_block HQ2.out 0).1
    have k6 := (cell_of_block HQ2.out 1).1
    have kf5 := (cell_of_block HQ2.out 0).2
    have kf6 := (cell_of_block HQ2.out 1).2
    refine bodyPost_ret (v := .tuple #[.agg #[.int .i64 0, .slice none 0 0], .int .i64 0]) (by simp [results, Tryd.results31, go_sem, k5, k6, kf5, kf6]) rfl ?_
    rw [show cmpOut out = (⟨0, []⟩, 0) from if_pos (List.eq_nil_of_length_eq_zero HZ.out)]
    exact ⟨none, 0, rfl, Nat.zero_le _, .nil _ _ _ _, below_set (below_set HF.out (show w.heap.size ≤ w.heap.size + 1 + 1 + 1 + 1 by omega) _) (show w.heap.size ≤ w.heap.size + 1 + 1 + 1 + 1 by omega) _⟩
  · have hzI : ((out.2.length : Int) == 0) = false := by rw [hm]; simp; omega
    have hpos : 0 < out.2.length := by rw [hm]; simp
    have hposI : (0 : Int) < out.2.length := by omega
    have HM := Lib.hid hm
    obtain ⟨ad, rfl, -, -⟩ := H4.out.at_int hpos
    have hm0 : out.2[0] = m := by simp [hm]
    have HCELL : Hid (∀ x : World, Lay.int.Sl x (Own W.heap.size x) (some ad) out.2 → x.cell? ad = some (.int .i64 m)) := Lib.hid fun x hx => by
      obtain ⟨ad', e, _, hc⟩ := hx.at_int hpos
      injection e with e; subst e
      rw [hm0] at hc
      simpa [Addr.add] using hc
    clear hm hm0
    go_wp2
    generalize hX1 : w1.alloc (.cells #[.int .i64 out.1.ins, .slice A1 out.1.gs.length c1] 29) = X1 at *
    have HX1 := Lib.hid hX1
    clear hX1
    refine wp_region_rel4 [[], [], [(1, 23)], [(2, 24)], [(0, 22)], [(3, 25)]]
      (fun x9 y9 => Below x9.heap.size x9 y9)
      [(4, fun x9 y9 => x9.grownBy y9 (some (w.heap.size + 1 + 1 + 1 + 1)))]
      (fun f9 x9 => X1.grownBy x9 (some (w.heap.size + 1 + 1 + 1 + 1)) ∧ x9.heap[w1.heap.size]? = some (.cells #[.int .i64 out.1.ins, .slice A1 out.1.gs.length c1] 29 (0, 0)) ∧ Lay.int.Sl x9 (Own W.heap.size x9) (some ad) out.2 ∧ (f9 4 = false → x9.heap[w.heap.size + 1 + 1 + 1 + 1]? = some (.cells #[.int .i64 0, .slice none 0 0] 29 (0, 0))) ∧ (f9 4 = true → x9.heap[w.heap.size + 1 + 1 + 1 + 1]? = some (.cells #[.int .i64 out.1.ins, .slice A1 out.1.gs.length c1] 29 (0, 0))))
      [fun vs9 _ => vs9 0 = (.agg #[.int .i64 out.1.ins, .slice A1 out.1.gs.length c1]),
    fun vs9 _ => vs9 1 = (.slice (some ad) out.2.length d1),
    fun vs9 _ => vs9 2 = (.pointer (some ad)),
    fun vs9 _ => vs9 3 = (.int .i64 m),
    fun _ _ => True,
    fun vs9 _ => vs9 5 = (.int .i64 m)]
      [(0, 22), (1, 23), (2, 24), (3, 25), (5, 9)] (by kernel_rfl) (by kernel_rfl) (by kernel_rfl) (by kernel_rfl)
      (fun _ => Below.refl _ _) ⟨fun _ => World.grownBy.refl _ _, trivial⟩
      ⟨⟨.inr (fun _ _ _ h _ => h), ⟨.inr (.inr (fun _ _ _ h _ => h)), trivial⟩⟩,
    ⟨.inr (fun _ _ _ h _ => h), ⟨.inr (.inr (fun _ _ _ h _ => h)), trivial⟩⟩,
    ⟨.inr (fun _ _ _ h _ => h), ⟨.inr (.inr (fun _ _ _ h _ => h)), trivial⟩⟩,
    ⟨.inr (fun _ _ _ h _ => h), ⟨.inr (.inr (fun _ _ _ h _ => h)), trivial⟩⟩,
    ⟨.inr (fun _ _ _ h _ => h), ⟨.inr (.inl rfl), trivial⟩⟩,
    ⟨.inr (fun _ _ _ h _ => h), ⟨.inr (.inr (fun _ _ _ h _ => h)), trivial⟩⟩, trivial⟩ ⟨fun vs vs' x h _ hv => (by dsimp only at hv ⊢; first | (rw [← h]; exact hv) | exact hv),
    fun vs vs' x h _ hv => (by dsimp only at hv ⊢; first | (rw [← h]; exact hv) | exact hv),
    fun vs vs' x h _ hv => (by dsimp only at hv ⊢; first | (rw [← h]; exact hv) | exact hv),
    fun vs vs' x h _ hv => (by dsimp only at hv ⊢; first | (rw [← h]; exact hv) | exact hv),
    fun _ _ _ _ _ _ => trivial,
    fun vs vs' x h _ hv => (by dsimp only at hv ⊢; first | (rw [← h]; exact hv) | exact hv), trivial⟩ (⟨grown_of9 (below_drewN (Below.refl _ _) 1) _, ((below_drewN (Below.refl _ _) 1 : Below X1.heap.size X1 _).block _ (lt_of_block HBX.out)).trans HBX.out, H4.out.own_up (below_drewN (Below.refl _ _) 1), (fun _ => ((below_drewN (Below.refl _ _) 1 : Below X1.heap.size X1 _).block _ (lt_of_block HX4.out)).trans HX4.out), fun h => by cases h⟩) ⟨?_, ?_, ?_, ?_, ?_, ?_, trivial⟩ ?_
    · intro vals xw f hf1 hf2 hf3 hI hF
      clear hf2 hf3
      dsimp only [owes4, bare]
      simp only [putsD, Act.put, List.setIfInBounds_toArray, List.set_cons_zero, List.set_cons_succ]
      have y0 := (cell_of_block hI.2.1 0).1
      have y1 := (cell_of_block hI.2.1 1).1
      go_wp2
      exact ⟨rfl, rfl, ⟨fun h9 => absurd h9 (Nat.ne_of_beq_eq_false rfl), fun _ => Below.refl _ _⟩, hI⟩
    · intro vals xw f hf1 hf2 hf3 hI hF
      clear hf2 hf3
      dsimp only [owes4, bare]
      simp only [putsD, Act.put, List.setIfInBounds_toArray, List.set_cons_zero, List.set_cons_succ]
      go_wp2
      exact ⟨rfl, rfl, ⟨fun h9 => absurd h9 (Nat.ne_of_beq_eq_false rfl), fun _ => Below.refl _ _⟩, hI⟩
    · intro vals xw f hf1 hf2 hf3 hI hF
      clear hf2 hf3
      simp only [saysD, List.getD_cons_zero, List.getD_cons_succ, and_true] at hF
      have e23 := hF
      dsimp only [owes4, bare]
      simp only [putsD, Act.put, List.setIfInBounds_toArray, List.set_cons_zero, List.set_cons_succ]
      simp only [e23]
      go_wp2
      exact ⟨rfl, rfl, ⟨fun h9 => absurd h9 (Nat.ne_of_beq_eq_false rfl), fun _ => Below.refl _ _⟩, hI⟩
    · intro vals xw f hf1 hf2 hf3 hI hF
      clear hf2 hf3
      simp only [saysD, List.getD_cons_zero, List.getD_cons_succ, and_true] at hF
      have e24 := hF
      dsimp only [owes4, bare]
      simp only [putsD, Act.put, List.setIfInBounds_toArray, List.set_cons_zero, List.set_cons_succ]
      simp only [e24]
      have c9 := HCELL.out _ hI.2.2.1
      go_wp2
      exact ⟨rfl, rfl, ⟨fun h9 => absurd h9 (Nat.ne_of_beq_eq_false rfl), fun _ => Below.refl _ _⟩, hI⟩
    · intro vals xw f hf1 hf2 hf3 hI hF
      clear hf2 hf3
      simp only [saysD, List.getD_cons_zero, List.getD_cons_succ, and_true] at hF
      have e22 := hF
      dsimp only [owes4, bare]
      simp only [putsD, Act.put, List.setIfInBounds_toArray, List.set_cons_zero, List.set_cons_succ]
      simp only [e22]
      obtain ⟨i1, i2, i3, i4, i5⟩ := hI
      have j4 := i4 hf1
      have y0 := (cell_of_block j4 0).1
      have y1 := (cell_of_block j4 1).1
      have f0 := (cell_of_block j4 0).2
      have f1 := (cell_of_block j4 1).2
      have I1 := Lib.hid i1
      have I2 := Lib.hid i2
      have I3 := Lib.hid i3
      have J4 := Lib.hid j4
      clear i1 i2 i3 i4 i5 j4
      go_wp2
      have hq1 := heap_set_same xw (w.heap.size + 1 + 1 + 1 + 1) 0 (.int .i64 out.1.ins) _ _ J4.out
      have hq2 := heap_set_same _ (w.heap.size + 1 + 1 + 1 + 1) 1 (.slice A1 out.1.gs.length c1) _ _ hq1
      have hg9 : xw.grownBy ((xw.setCell ⟨w.heap.size + 1 + 1 + 1 + 1, 0, none⟩ (.int .i64 out.1.ins)).setCell ⟨w.heap.size + 1 + 1 + 1 + 1, 1, none⟩ (.slice A1 out.1.gs.length c1)) (some (w.heap.size + 1 + 1 + 1 + 1)) := only_setCell (only_setCell (World.grownBy.refl _ _) _ _) _ _
      exact ⟨rfl, trivial, ⟨fun _ => hg9, fun h9 => absurd rfl h9⟩, grown_trans9 I1.out hg9, (hg9.block _ (lt_of_block I2.out) (fun e => by injection e with e; omega)).trans I2.out, own_grown9 I3.out hg9 hlt4, fun h => absurd ((did_same f 4).symm.trans h) (by simp), fun _ => hq2⟩
    · intro vals xw f hf1 hf2 hf3 hI hF
      clear hf2 hf3
      simp only [saysD, List.getD_cons_zero, List.getD_cons_succ, and_true] at hF
      have e25 := hF
      dsimp only [owes4, bare]
      simp only [putsD, Act.put, List.setIfInBounds_toArray, List.set_cons_zero, List.set_cons_succ]
      simp only [e25]
      go_wp2
      exact ⟨rfl, rfl, ⟨fun h9 => absurd h9 (Nat.ne_of_beq_eq_false rfl), fun _ => Below.refl _ _⟩, hI⟩
    · intro vals xw f hall hI hF
      rw [show List.range _ = [0, 1, 2, 3, 4, 5] from rfl] at hF
      simp only [says, List.getD_cons_zero, List.getD_cons_succ, and_true] at hF
      obtain ⟨i1, _, _, _, i5⟩ := hI
      have j5 := i5 (hall 4 (by decide))
      have e9 : vals 5 = .int .i64 m := by obtain ⟨_, _, _, _, _, e9⟩ := hF; exact e9
      have k5 := (cell_of_block j5 0).1
      have k6 := (cell_of_block j5 1).1
      have kf5 := (cell_of_block j5 0).2
      have kf6 := (cell_of_block j5 1).2
      have I1 := Lib.hid i1
      clear i1 i5 j5 hF
      simp only [putsD, Act.put, List.setIfInBounds_toArray, List.set_cons_zero, List.set_cons_succ]
      simp only [e9]
      clear e9
      go_wp2
      refine bodyPost_ret (v := .tuple #[.agg #[.int .i64 out.1.ins, .slice A1 out.1.gs.length c1], .int .i64 m]) (by simp [results, Tryd.results31, go_sem, k5, k6, kf5, kf6]) rfl ?_
      rw [show cmpOut out = (out.1, m) by unfold cmpOut; rw [HM.out, if_neg (by simp)]; rfl]
      exact ⟨A1, c1, rfl, h1, own_mono9 (own_grown9 H3.out I1.out hlt4) HW.out.size, HF.out.grown I1.out HF.out.size (fun k hk => by injection hk with hk; omega)⟩
end Go.Proofs.YtjghcaghigebjaaDoor

/-! The reference's l7Less, l7Same. -/
namespace Go.Proofs.YtjghcaghigebjaaDoor
open Go Go.RowKit

theorem KS.two2 {F : Nat → Prop} {w x : World} {k : N × Bool} {A : Option Addr} {c : Nat} (h : KS F w x k A c) : KS2 F w x k A c (fun _ => False) := ⟨h.bel, h.var, h.res, h.row.mono fun b hb => hb.imp id fun h9 => ⟨h9.1, h9.2, fun e => e⟩, h.nil⟩
theorem KS2.one2 {F : Nat → Prop} {w x : World} {k : N × Bool} {A : Option Addr} {c : Nat} {S : Nat → Prop} (h : KS2 F w x k A c S) : KS F w x k A c := ⟨h.bel, h.var, h.res, h.row.mono fun b hb => hb.imp id fun h9 => ⟨h9.1, h9.2.1⟩, h.nil⟩
theorem opsR_xor_nb {k : N × Bool} {x y : Int} (h : NB k.1) (hx : RB x) (hy : RB y) : NB (opsR.xor k x y).1.1 ∧ RB (opsR.xor k x y).2 := stepR_nb h (xor1_nb h hx hy)
theorem opsR_and_nb {k : N × Bool} {x y : Int} (h : NB k.1) (hx : RB x) (hy : RB y) : NB (opsR.and k x y).1.1 ∧ RB (opsR.and k x y).2 := stepR_nb h (and1_nb h hx hy)
def KTup (F : Nat → Prop) (w : World) (m : (N × Bool) × Int) (v : Value) (z : World) : Prop := ∃ A2 c2, v = .tuple #[.agg #[.int .i64 m.1.1.ins, .slice A2 m.1.1.gs.length c2, .bool m.1.2], .int .i64 m.2] ∧ (A2 = none → m.1.1.gs.length = 0) ∧ Lay.gate.Sl z (G2 F w z (fun _ => False)) A2 m.1.1.gs ∧ w.heap.size ≤ z.heap.size
def KNet (F : Nat → Prop) (w : World) (m : (N × Bool) × Int) (v : Value) (z : World) : Prop := ∃ A2 c2, v = .agg #[.int .i64 m.1.1.ins, .slice A2 m.1.1.gs.length c2, .bool m.1.2] ∧ (A2 = none → m.1.1.gs.length = 0) ∧ Lay.gate.Sl z (G2 F w z (fun _ => False)) A2 m.1.1.gs ∧ w.heap.size ≤ z.heap.size
theorem g2_st {F : Nat → Prop} {w x y : World} {A : Option Addr} {gs : List G} (hF : ∀ b, F b → b < w.heap.size) (h3 : Lay.gate.Sl x (G2 F w x (fun _ => False)) A gs) (h4 : w.heap.size ≤ x.heap.size) (hR : x.grownBy y (some w.heap.size)) : Lay.gate.Sl y (G2 F w y (fun _ => False)) A gs :=
  (h3.keep fun b hb => hR.block b (hb.elim (fun h9 => Nat.lt_of_lt_of_le (hF b h9) h4) (fun h9 => h9.2.1)) (fun e => by injection e with e; exact hb.elim (fun h9 => by have := hF b h9; omega) (fun h9 => by omega))).mono fun b hb => hb.imp id fun h9 => ⟨h9.1, Nat.lt_of_lt_of_le h9.2.1 hR.size, h9.2.2⟩
theorem KTup.up {F : Nat → Prop} {w x y : World} {m : (N × Bool) × Int} {v : Value} (hF : ∀ b, F b → b < w.heap.size) (h : KTup F w m v x) (hb : Below x.heap.size x y) : KTup F w m v y := by
  obtain ⟨A2, c2, h1, h2, h3, h4⟩ := h
  exact ⟨A2, c2, h1, h2, G2.up2 h3 (fun b hb => Nat.lt_of_lt_of_le (hF b hb) h4) hb, Nat.le_trans h4 hb.size⟩
theorem KTup.st {F : Nat → Prop} {w x y : World} {m : (N × Bool) × Int} {v : Value} (hF : ∀ b, F b → b < w.heap.size) (h : KTup F w m v x) (hR : x.grownBy y (some w.heap.size)) : KTup F w m v y := by
  obtain ⟨A2, c2, h1, h2, h3, h4⟩ := h
  exact ⟨A2, c2, h1, h2, g2_st hF h3 h4 hR, Nat.le_trans h4 hR.size⟩
theorem KNet.up {F : Nat → Prop} {w x y : World} {m : (N × Bool) × Int} {v : Value} (hF : ∀ b, F b → b < w.heap.size) (h : KNet F w m v x) (hb : Below x.heap.size x y) : KNet F w m v y := by
  obtain ⟨A2, c2, h1, h2, h3, h4⟩ := h
  exact ⟨A2, c2, h1, h2, G2.up2 h3 (fun b hb => Nat.lt_of_lt_of_le (hF b hb) h4) hb, Nat.le_trans h4 hb.size⟩
theorem KNet.st {F : Nat → Prop} {w x y : World} {m : (N × Bool) × Int} {v : Value} (hF : ∀ b, F b → b < w.heap.size) (h : KNet F w m v x) (hR : x.grownBy y (some w.heap.size)) : KNet F w m v y := by
  obtain ⟨A2, c2, h1, h2, h3, h4⟩ := h
  exact ⟨A2, c2, h1, h2, g2_st hF h3 h4 hR, Nat.le_trans h4 hR.size⟩
set_option maxRecDepth 100000 in
set_option maxHeartbeats 4000000 in
theorem l7Less_any (F : Nat → Prop) (A : Option Addr) (c : Nat) (k : N × Bool) (X Y : Option Addr) (cx cy : Nat) (xs ys : List Int) (w : World) (h : Lay.gate.Sl w F A k.1.gs) (hF : ∀ b, F b → b < w.heap.size) (hA : A = none → k.1.gs.length = 0) (hnb : NB k.1) (hX : Lay.int.Rd w X xs) (hY : Lay.int.Rd w Y ys) (hxm : ∀ x ∈ xs, RB x) (hym : ∀ y ∈ ys, RB y) (hl : xs.length = ys.length) (hn : xs.length ≤ 1000) :
    Calls Tryd.prog 92 #[.agg #[.int .i64 k.1.ins, .slice A k.1.gs.length c, .bool k.2], .slice X xs.length cx, .slice Y ys.length cy] w (RetK F w (run opsR (lessP xs ys (-1)) k)) := by
  obtain ⟨T, hT⟩ : ∃ T, T = run opsR (lessP xs ys (-1)) k := ⟨_, rfl⟩
  rw [← hT]
  have HT := Lib.hid hT
  have K0 := Lib.hid (KS.two (c := c) h hF hA)
  have HF := Lib.hid hF
  have HNB := Lib.hid hnb
  have HX := Lib.hid hX
  have HY := Lib.hid hY
  have HXM := Lib.hid hxm
  have HYM := Lib.hid hym
  have HL := Lib.hid hl
  clear h hA hnb hX hY hxm hym hT
  rw [← hl]
  clear hl
  go_enter Tryd.func92, Tryd.ntmps92
  go_wp2
  generalize hX0 : (w.alloc (.cells #[.int .i64 k.1.ins, .slice A k.1.gs.length c, .bool k.2] 68)).alloc (.cells #[.int .i64 0, .slice none 0 0, .bool false] 68) = X0 at *
  clear hX0
  go_loopw [8, 9] (fun rv i wr => ∃ (j : Nat) (k1 : N × Bool) (rr : Int) (A1 : Option Addr) (c1 : Nat), j ≤ xs.length ∧ i = .int .i64 j ∧ rv = .int .i64 rr ∧ RB rr ∧ KS2 F w wr k1 A1 c1 (fun _ => False) ∧ NB k1.1 ∧ Hid (run opsR (lessP (xs.drop j) (ys.drop j) rr) k1 = T)) (fun _ i _ => xs.length - (intOf i).toNat)
  case atStart => exact ⟨0, k, (-1), A, c, Nat.zero_le _, rfl, rfl, by unfold RB; omega, K0.out.two2, HNB.out, Lib.hid (by rw [HT.out]; rfl)⟩
  case round =>
    obtain ⟨j, k1, rr, A1, c1, hj, rfl, rfl, hrr, hks, hnb1, hst⟩ := hrel
    have HRR := Lib.hid hrr
    have HKS := Lib.hid hks
    have HNB1 := Lib.hid hnb1
    clear hrr hks hnb1
    by_cases hlt : j < xs.length
    · have hlt2 : (j : Int) < xs.length := by omega
      have hlty : j < ys.length := by rw [← HL.out]; exact hlt
      obtain ⟨x, hx⟩ : ∃ x, xs[j]? = some x := ⟨_, List.getElem?_eq_getElem hlt⟩
      obtain ⟨y, hy⟩ : ∃ y, ys[j]? = some y := ⟨_, List.getElem?_eq_getElem hlty⟩
      have hxg : xs[j] = x := (List.getElem?_eq_some_iff.1 hx).2
      have hyg : ys[j] = y := (List.getElem?_eq_some_iff.1 hy).2
      have HXYM := Lib.hid (And.intro (HXM.out x (List.mem_of_getElem? hx)) (HYM.out y (List.mem_of_getElem? hy)))
      obtain ⟨adx, rfl, -, -⟩ := HX.out.at_int hlt
      obtain ⟨ady, rfl, -, -⟩ := HY.out.at_int hlty
      obtain ⟨m, hm⟩ : ∃ m, m = opsR.xor k1 x y := ⟨_, rfl⟩
      have HST := Lib.hid ((run_less (o := opsR) xs ys j x y hx hy k1 rr).symm.trans hst.out)
      have HM := Lib.hid hm
      have HMB : Hid (NB m.1.1 ∧ RB m.2) := Lib.hid (by rw [hm]; exact opsR_xor_nb HNB1.out HXYM.out.1 HXYM.out.2)
      have HRX : Hid (∀ z, Below w.heap.size w z → z.cell? (adx.add j) = some (.int .i64 x)) := Lib.hid fun z hz => by
        obtain ⟨ad, e, _, hc⟩ := (HX.out.up hz).at_int hlt
        injection e with e; subst e; rw [← hxg]; exact hc
      have HRY : Hid (∀ z, Below w.heap.size w z → z.cell? (ady.add j) = some (.int .i64 y)) := Lib.hid fun z hz => by
        obtain ⟨ad, e, _, hc⟩ := (HY.out.up hz).at_int hlty
        injection e with e; subst e; rw [← hyg]; exact hc
      clear hm hx hy hxg hyg hst hlty
      go_wp2
      refine wp_region_rel4 [[], [], [], [(1, 19), (2, 20)], [(3, 21)], [], [], [(5, 23), (6, 24)], [(7, 25)], [(0, 18), (4, 22), (8, 26)], [(9, 27)], [(10, 17)], [(10, 17)], [(11, 28)], [(12, 29)]]
        (fun x9 y9 => Below x9.heap.size x9 y9)
        [(13, fun x9 y9 => x9.grownBy y9 (some w.heap.size))]
        (fun f9 x9 => (f9 13 = false → KS2 F w x9 k1 A1 c1 (fun _ => False)) ∧ (f9 13 = true → ∃ A2 c2, KS2 F w x9 m.1 A2 c2 (fun _ => False)) ∧ Below w.heap.size w x9)
        [fun vs9 _ => vs9 0 = (.agg #[.int .i64 k1.1.ins, .slice A1 k1.1.gs.length c1, .bool k1.2]),
    fun vs9 _ => vs9 1 = (.slice (some adx) xs.length cx),
    fun vs9 _ => vs9 2 = (.int .i64 (j : Int)),
    fun vs9 _ => vs9 3 = (.pointer (some (adx.add j))),
    fun vs9 _ => vs9 4 = (.int .i64 x),
    fun vs9 _ => vs9 5 = (.slice (some ady) xs.length cy),
    fun vs9 _ => vs9 6 = (.int .i64 (j : Int)),
    fun vs9 _ => vs9 7 = (.pointer (some (ady.add j))),
    fun vs9 _ => vs9 8 = (.int .i64 y),
    fun vs9 y9 => (fun v z => KTup F w m v z) (vs9 9) y9,
    fun vs9 y9 => (fun v z => KTup F w m v z) (vs9 10) y9,
    fun vs9 y9 => (fun v z => KNet F w m v z) (vs9 11) y9,
    fun vs9 _ => vs9 12 = (.int .i64 m.2),
    fun _ _ => True,
    fun vs9 _ => vs9 14 = (.int .i64 m.2)]
        [(0, 18), (1, 19), (2, 20), (3, 21), (4, 22), (5, 23), (6, 24), (7, 25), (8, 26), (9, 27), (10, 17), (11, 28), (12, 29), (14, 10)] (by kernel_rfl) (by kernel_rfl) (by kernel_rfl) (by kernel_rfl)
        (fun _ => Below.refl _ _) ⟨fun _ => World.grownBy.refl _ _, trivial⟩
        ⟨⟨.inr (fun _ _ _ h _ => h), ⟨.inr (.inr (fun _ _ _ h _ => h)), trivial⟩⟩,
    ⟨.inr (fun _ _ _ h _ => h), ⟨.inr (.inr (fun _ _ _ h _ => h)), trivial⟩⟩,
    ⟨.inr (fun _ _ _ h _ => h), ⟨.inr (.inr (fun _ _ _ h _ => h)), trivial⟩⟩,
    ⟨.inr (fun _ _ _ h _ => h), ⟨.inr (.inr (fun _ _ _ h _ => h)), trivial⟩⟩,
    ⟨.inr (fun _ _ _ h _ => h), ⟨.inr (.inr (fun _ _ _ h _ => h)), trivial⟩⟩,
    ⟨.inr (fun _ _ _ h _ => h), ⟨.inr (.inr (fun _ _ _ h _ => h)), trivial⟩⟩,
    ⟨.inr (fun _ _ _ h _ => h), ⟨.inr (.inr (fun _ _ _ h _ => h)), trivial⟩⟩,
    ⟨.inr (fun _ _ _ h _ => h), ⟨.inr (.inr (fun _ _ _ h _ => h)), trivial⟩⟩,
    ⟨.inr (fun _ _ _ h _ => h), ⟨.inr (.inr (fun _ _ _ h _ => h)), trivial⟩⟩,
    ⟨.inr (fun vs9 x9 y9 h9 hR9 => (show ∀ v9 y8 y7, (fun v z => KTup F w m v z) v9 y8 → (fun x9 y9 => Below x9.heap.size x9 y9) y8 y7 → (fun v z => KTup F w m v z) v9 y7 from fun _ _ _ h9 hR => h9.up HF.out hR) (vs9 9) x9 y9 h9 hR9), ⟨.inr (.inr (fun vs9 x9 y9 h9 hR9 => (show ∀ v9 y8 y7, (fun v z => KTup F w m v z) v9 y8 → (fun x9 y9 => x9.grownBy y9 (some w.heap.size)) y8 y7 → (fun v z => KTup F w m v z) v9 y7 from fun _ _ _ h9 hR => h9.st HF.out hR) (vs9 9) x9 y9 h9 hR9)), trivial⟩⟩,
    ⟨.inr (fun vs9 x9 y9 h9 hR9 => (show ∀ v9 y8 y7, (fun v z => KTup F w m v z) v9 y8 → (fun x9 y9 => Below x9.heap.size x9 y9) y8 y7 → (fun v z => KTup F w m v z) v9 y7 from fun _ _ _ h9 hR => h9.up HF.out hR) (vs9 10) x9 y9 h9 hR9), ⟨.inr (.inr (fun vs9 x9 y9 h9 hR9 => (show ∀ v9 y8 y7, (fun v z => KTup F w m v z) v9 y8 → (fun x9 y9 => x9.grownBy y9 (some w.heap.size)) y8 y7 → (fun v z => KTup F w m v z) v9 y7 from fun _ _ _ h9 hR => h9.st HF.out hR) (vs9 10) x9 y9 h9 hR9)), trivial⟩⟩,
    ⟨.inr (fun vs9 x9 y9 h9 hR9 => (show ∀ v9 y8 y7, (fun v z => KNet F w m v z) v9 y8 → (fun x9 y9 => Below x9.heap.size x9 y9) y8 y7 → (fun v z => KNet F w m v z) v9 y7 from fun _ _ _ h9 hR => h9.up HF.out hR) (vs9 11) x9 y9 h9 hR9), ⟨.inr (.inr (fun vs9 x9 y9 h9 hR9 => (show ∀ v9 y8 y7, (fun v z => KNet F w m v z) v9 y8 → (fun x9 y9 => x9.grownBy y9 (some w.heap.size)) y8 y7 → (fun v z => KNet F w m v z) v9 y7 from fun _ _ _ h9 hR => h9.st HF.out hR) (vs9 11) x9 y9 h9 hR9)), trivial⟩⟩,
    ⟨.inr (fun _ _ _ h _ => h), ⟨.inr (.inr (fun _ _ _ h _ => h)), trivial⟩⟩,
    ⟨.inr (fun _ _ _ h _ => h), ⟨.inr (.inl rfl), trivial⟩⟩,
    ⟨.inr (fun _ _ _ h _ => h), ⟨.inr (.inr (fun _ _ _ h _ => h)), trivial⟩⟩, trivial⟩ ⟨fun vs vs' x h _ hv => (by dsimp only at hv ⊢; first | (rw [← h]; exact hv) | exact hv),
    fun vs vs' x h _ hv => (by dsimp only at hv ⊢; first | (rw [← h]; exact hv) | exact hv),
    fun vs vs' x h _ hv => (by dsimp only at hv ⊢; first | (rw [← h]; exact hv) | exact hv),
    fun vs vs' x h _ hv => (by dsimp only at hv ⊢; first | (rw [← h]; exact hv) | exact hv),
    fun vs vs' x h _ hv => (by dsimp only at hv ⊢; first | (rw [← h]; exact hv) | exact hv),
    fun vs vs' x h _ hv => (by dsimp only at hv ⊢; first | (rw [← h]; exact hv) | exact hv),
    fun vs vs' x h _ hv => (by dsimp only at hv ⊢; first | (rw [← h]; exact hv) | exact hv),
    fun vs vs' x h _ hv => (by dsimp only at hv ⊢; first | (rw [← h]; exact hv) | exact hv),
    fun vs vs' x h _ hv => (by dsimp only at hv ⊢; first | (rw [← h]; exact hv) | exact hv),
    fun vs vs' x h _ hv => (by dsimp only at hv ⊢; first | (rw [← h]; exact hv) | exact hv),
    fun vs vs' x h _ hv => (by dsimp only at hv ⊢; first | (rw [← h]; exact hv) | exact hv),
    fun vs vs' x h _ hv => (by dsimp only at hv ⊢; first | (rw [← h]; exact hv) | exact hv),
    fun vs vs' x h _ hv => (by dsimp only at hv ⊢; first | (rw [← h]; exact hv) | exact hv),
    fun _ _ _ _ _ _ => trivial,
    fun vs vs' x h _ hv => (by dsimp only at hv ⊢; first | (rw [← h]; exact hv) | exact hv), trivial⟩ (⟨fun _ => HKS.out.up HF.out (below_drewN (Below.refl _ _) 1), (fun h => by cases h), bthen HKS.out.bel (below_drewN (Below.refl _ _) 1)⟩) ⟨?_, ?_, ?_, ?_, ?_, ?_, ?_, ?_, ?_, ?_, ?_, ?_, ?_, ?_, ?_, trivial⟩ ?_
      · intro vals xw f hf1 hf2 hf3 hI hF
        have k13 : f 13 = false := hf3 13 (by kernel_rfl)
        clear hf2 hf3
        dsimp only [owes4, bare]
        simp only [putsD, Act.put, List.setIfInBounds_toArray, List.set_cons_zero, List.set_cons_succ]
        have hv9 := (hI.1 k13).var
        have y0 := (cell_of_block hv9 0).1
        have y1 := (cell_of_block hv9 1).1
        have y2 := (cell_of_block hv9 2).1
        go_wp2
        exact ⟨rfl, rfl, ⟨fun h9 => absurd h9 (Nat.ne_of_beq_eq_false rfl), fun _ => Below.refl _ _⟩, hI⟩
      · intro vals xw f hf1 hf2 hf3 hI hF
        clear hf2 hf3
        dsimp only [owes4, bare]
        simp only [putsD, Act.put, List.setIfInBounds_toArray, List.set_cons_zero, List.set_cons_succ]
        go_wp2
        exact ⟨rfl, rfl, ⟨fun h9 => absurd h9 (Nat.ne_of_beq_eq_false rfl), fun _ => Below.refl _ _⟩, hI⟩
      · intro vals xw f hf1 hf2 hf3 hI hF
        clear hf2 hf3
        dsimp only [owes4, bare]
        simp only [putsD, Act.put, List.setIfInBounds_toArray, List.set_cons_zero, List.set_cons_succ]
        go_wp2
        exact ⟨rfl, rfl, ⟨fun h9 => absurd h9 (Nat.ne_of_beq_eq_false rfl), fun _ => Below.refl _ _⟩, hI⟩
      · intro vals xw f hf1 hf2 hf3 hI hF
        clear hf2 hf3
        simp only [saysD, List.getD_cons_zero, List.getD_cons_succ, and_true] at hF
        obtain ⟨e19, e20⟩ := hF
        dsimp only [owes4, bare]
        simp only [putsD, Act.put, List.setIfInBounds_toArray, List.set_cons_zero, List.set_cons_succ]
        simp only [e19, e20]
        go_wp2
        exact ⟨rfl, rfl, ⟨fun h9 => absurd h9 (Nat.ne_of_beq_eq_false rfl), fun _ => Below.refl _ _⟩, hI⟩
      · intro vals xw f hf1 hf2 hf3 hI hF
        clear hf2 hf3
        simp only [saysD, List.getD_cons_zero, List.getD_cons_succ, and_true] at hF
        have e21 := hF
        dsimp only [owes4, bare]
        simp only [putsD, Act.put, List.setIfInBounds_toArray, List.set_cons_zero, List.set_cons_succ]
        simp only [e21]
        have c9 := HRX.out _ hI.2.2
        go_wp2
        exact ⟨rfl, rfl, ⟨fun h9 => absurd h9 (Nat.ne_of_beq_eq_false rfl), fun _ => Below.refl _ _⟩, hI⟩
      · intro vals xw f hf1 hf2 hf3 hI hF
        clear hf2 hf3
        dsimp only [owes4, bare]
        simp only [putsD, Act.put, List.setIfInBounds_toArray, List.set_cons_zero, List.set_cons_succ]
        go_wp2
        exact ⟨rfl, rfl, ⟨fun h9 => absurd h9 (Nat.ne_of_beq_eq_false rfl), fun _ => Below.refl _ _⟩, hI⟩
      · intro vals xw f hf1 hf2 hf3 hI hF
        clear hf2 hf3
        dsimp only [owes4, bare]
        simp only [putsD, Act.put, List.setIfInBounds_toArray, List.set_cons_zero, List.set_cons_succ]
        go_wp2
        exact ⟨rfl, rfl, ⟨fun h9 => absurd h9 (Nat.ne_of_beq_eq_false rfl), fun _ => Below.refl _ _⟩, hI⟩
      · intro vals xw f hf1 hf2 hf3 hI hF
        clear hf2 hf3
        simp only [saysD, List.getD_cons_zero, List.getD_cons_succ, and_true] at hF
        obtain ⟨e23, e24⟩ := hF
        dsimp only [owes4, bare]
        simp only [putsD, Act.put, List.setIfInBounds_toArray, List.set_cons_zero, List.set_cons_succ]
        simp only [e23, e24]
        go_wp2
        exact ⟨rfl, rfl, ⟨fun h9 => absurd h9 (Nat.ne_of_beq_eq_false rfl), fun _ => Below.refl _ _⟩, hI⟩
      · intro vals xw f hf1 hf2 hf3 hI hF
        clear hf2 hf3
        simp only [saysD, List.getD_cons_zero, List.getD_cons_succ, and_true] at hF
        have e25 := hF
        dsimp only [owes4, bare]
        simp only [putsD, Act.put, List.setIfInBounds_toArray, List.set_cons_zero, List.set_cons_succ]
        simp only [e25]
        have c9 := HRY.out _ hI.2.2
        go_wp2
        exact ⟨rfl, rfl, ⟨fun h9 => absurd h9 (Nat.ne_of_beq_eq_false rfl), fun _ => Below.refl _ _⟩, hI⟩
      · intro vals xw f hf1 hf2 hf3 hI hF
        have k13 : f 13 = false := hf3 13 (by kernel_rfl)
        clear hf2 hf3
        simp only [saysD, List.getD_cons_zero, List.getD_cons_succ, and_true] at hF
        obtain ⟨e18, e22, e26⟩ := hF
        dsimp only [owes4, bare]
        simp only [putsD, Act.put, List.setIfInBounds_toArray, List.set_cons_zero, List.set_cons_succ]
        simp only [e18, e22, e26]
        have HI := Lib.hid hI
        have HK := Lib.hid (hI.1 k13)
        have hsz9 := hI.2.2.size
        clear hI
        have HC := Lib.hid (l7Xor_any (G2 F w xw (fun _ => False)) A1 c1 k1 x y xw HK.out.row (KS2.lt HK.out.bel HF.out) HK.out.nil HNB1.out HXYM.out.1 HXYM.out.2)
        rw [← HM.out] at HC
        go_wp2_with fail
        refine HC.out.mono ?_
        rintro e wx ⟨A2, c2, rfl, h2, h3, h4⟩
        have H3 := Lib.hid h3
        have H4 := Lib.hid h4
        clear h3 h4 HC
        go_wp2
        refine ⟨rfl, ⟨A2, c2, rfl, h2, H3.out.mono ?_, Nat.le_trans hsz9 H4.out.size⟩, ⟨fun h9 => absurd h9 (Nat.ne_of_beq_eq_false rfl), fun _ => H4.out⟩, (fun h => (HI.out.1 h).up HF.out H4.out), (fun h => absurd (k13.symm.trans h) (by simp)), bthen HI.out.2.2 H4.out⟩
        intro b hb
        rcases hb with (h9 | h9) | h9
        · exact .inl h9
        · exact .inr ⟨h9.1, Nat.lt_of_lt_of_le h9.2.1 H4.out.size, h9.2.2⟩
        · exact .inr ⟨by have := HK.out.bel.size; have := lt_of_block HK.out.res; omega, h9.2, fun e => e⟩
      · intro vals xw f hf1 hf2 hf3 hI hF
        clear hf2 hf3
        simp only [saysD, List.getD_cons_zero, List.getD_cons_succ, and_true] at hF
        obtain ⟨A2, c2, e27, h2, h3, h4⟩ := hF
        dsimp only [owes4, bare]
        simp only [putsD, Act.put, List.setIfInBounds_toArray, List.set_cons_zero, List.set_cons_succ]
        simp only [e27]
        go_wp2
        exact ⟨rfl, ⟨A2, c2, rfl, h2, h3, h4⟩, ⟨fun h9 => absurd h9 (Nat.ne_of_beq_eq_false rfl), fun _ => Below.refl _ _⟩, hI⟩
      · intro vals xw f hf1 hf2 hf3 hI hF
        clear hf2 hf3
        simp only [saysD, List.getD_cons_zero, List.getD_cons_succ, and_true] at hF
        obtain ⟨A2, c2, e17, h2, h3, h4⟩ := hF
        dsimp only [owes4, bare]
        simp only [putsD, Act.put, List.setIfInBounds_toArray, List.set_cons_zero, List.set_cons_succ]
        simp only [e17]
        go_wp2
        exact ⟨rfl, ⟨A2, c2, rfl, h2, h3, h4⟩, ⟨fun h9 => absurd h9 (Nat.ne_of_beq_eq_false rfl), fun _ => Below.refl _ _⟩, hI⟩
      · intro vals xw f hf1 hf2 hf3 hI hF
        clear hf2 hf3
        simp only [saysD, List.getD_cons_zero, List.getD_cons_succ, and_true] at hF
        obtain ⟨A2, c2, e17, h2, h3, h4⟩ := hF
        dsimp only [owes4, bare]
        simp only [putsD, Act.put, List.setIfInBounds_toArray, List.set_cons_zero, List.set_cons_succ]
        simp only [e17]
        go_wp2
        exact ⟨rfl, rfl, ⟨fun h9 => absurd h9 (Nat.ne_of_beq_eq_false rfl), fun _ => Below.refl _ _⟩, hI⟩
      · intro vals xw f hf1 hf2 hf3 hI hF
        clear hf2 hf3
        simp only [saysD, List.getD_cons_zero, List.getD_cons_succ, and_true] at hF
        obtain ⟨A2, c2, e28, h2, h3, h4⟩ := hF
        dsimp only [owes4, bare]
        simp only [putsD, Act.put, List.setIfInBounds_toArray, List.set_cons_zero, List.set_cons_succ]
        simp only [e28]
        have HI := Lib.hid hI
        have HK := Lib.hid (hI.1 hf1)
        have hv9 := HK.out.var
        have y0 := (cell_of_block hv9 0).1
        have y1 := (cell_of_block hv9 1).1
        have y2 := (cell_of_block hv9 2).1
        have g0 := (cell_of_block hv9 0).2
        have g1 := (cell_of_block hv9 1).2
        have g2 := (cell_of_block hv9 2).2
        have H3 := Lib.hid h3
        clear hI hv9 h3 h4
        go_wp2
        have hset := HK.out.set (c' := c2) HF.out H3.out h2
        have hgr : xw.grownBy (st3 xw w.heap.size (.int .i64 m.1.1.ins) (.slice A2 m.1.1.gs.length c2) (.bool m.1.2)) (some w.heap.size) := only_setCell (only_setCell (only_setCell (World.grownBy.refl _ _) _ _) _ _) _ _
        exact ⟨rfl, trivial, ⟨fun _ => hgr, fun h9 => absurd rfl h9⟩, fun h => absurd ((did_same f 13).symm.trans h) (by simp), fun _ => ⟨A2, c2, hset⟩, st3_below HI.out.2.2 (Nat.le_refl _) _ _ _⟩
      · intro vals xw f hf1 hf2 hf3 hI hF
        clear hf2 hf3
        simp only [saysD, List.getD_cons_zero, List.getD_cons_succ, and_true] at hF
        have e29 := hF
        dsimp only [owes4, bare]
        simp only [putsD, Act.put, List.setIfInBounds_toArray, List.set_cons_zero, List.set_cons_succ]
        simp only [e29]
        go_wp2
        exact ⟨rfl, rfl, ⟨fun h9 => absurd h9 (Nat.ne_of_beq_eq_false rfl), fun _ => Below.refl _ _⟩, hI⟩
      · intro vals xw f hall hI hF
        rw [show List.range _ = [0, 1, 2, 3, 4, 5, 6, 7, 8, 9, 10, 11, 12, 13, 14] from rfl] at hF
        simp only [says, List.getD_cons_zero, List.getD_cons_succ, and_true] at hF
        obtain ⟨A2, c2, hk2⟩ := hI.2.1 (hall 13 (by decide))
        have e9 : vals 14 = .int .i64 m.2 := by obtain ⟨_, _, _, _, _, _, _, _, _, _, _, _, _, _, e9⟩ := hF; exact e9
        have HK2 := Lib.hid hk2
        clear hF hk2 hI
        simp only [putsD, Act.put, List.setIfInBounds_toArray, List.set_cons_zero, List.set_cons_succ]
        simp only [e9]
        clear e9
        have hmb := HMB.out.2
        obtain ⟨hm0, hm1⟩ := hmb
        obtain ⟨p, hp⟩ : ∃ p, p = run opsR (muxP m.2 y rr) m.1 := ⟨_, rfl⟩
        have HP := Lib.hid hp
        have HPB : Hid (NB p.1.1 ∧ RB p.2) := Lib.hid (by rw [hp]; exact mux_rb HMB.out.1 HMB.out.2 HXYM.out.2 HRR.out)
        clear hp
        go_wp2
        refine wp_region_rel4 [[], [], [], [], [(2, 33), (3, 34)], [(4, 35)], [], [(0, 31), (1, 32), (5, 36), (6, 37)], [(7, 38)], [(8, 30)], [(8, 30)], [(9, 39)], [(10, 40)]]
          (fun x9 y9 => Below x9.heap.size x9 y9)
          [(11, fun x9 y9 => x9.grownBy y9 (some w.heap.size))]
          (fun f9 x9 => (f9 11 = false → KS2 F w x9 m.1 A2 c2 (fun _ => False)) ∧ (f9 11 = true → ∃ A3 c3, KS2 F w x9 p.1 A3 c3 (fun _ => False)) ∧ Below w.heap.size w x9)
          [fun vs9 _ => vs9 0 = (.agg #[.int .i64 m.1.1.ins, .slice A2 m.1.1.gs.length c2, .bool m.1.2]),
    fun vs9 _ => vs9 1 = (.int .i64 m.2),
    fun vs9 _ => vs9 2 = (.slice (some ady) xs.length cy),
    fun vs9 _ => vs9 3 = (.int .i64 (j : Int)),
    fun vs9 _ => vs9 4 = (.pointer (some (ady.add j))),
    fun vs9 _ => vs9 5 = (.int .i64 y),
    fun vs9 _ => vs9 6 = (.int .i64 rr),
    fun vs9 y9 => (fun v z => KTup F w p v z) (vs9 7) y9,
    fun vs9 y9 => (fun v z => KTup F w p v z) (vs9 8) y9,
    fun vs9 y9 => (fun v z => KNet F w p v z) (vs9 9) y9,
    fun vs9 _ => vs9 10 = (.int .i64 p.2),
    fun _ _ => True,
    fun vs9 _ => vs9 12 = (.int .i64 p.2)]
          [(0, 31), (1, 32), (2, 33), (3, 34), (4, 35), (5, 36), (6, 37), (7, 38), (8, 30), (9, 39), (10, 40), (12, 8)] (by kernel_rfl) (by kernel_rfl) (by kernel_rfl) (by kernel_rfl)
          (fun _ => Below.refl _ _) ⟨fun _ => World.grownBy.refl _ _, trivial⟩
          ⟨⟨.inr (fun _ _ _ h _ => h), ⟨.inr (.inr (fun _ _ _ h _ => h)), trivial⟩⟩,
    ⟨.inr (fun _ _ _ h _ => h), ⟨.inr (.inr (fun _ _ _ h _ => h)), trivial⟩⟩,
    ⟨.inr (fun _ _ _ h _ => h), ⟨.inr (.inr (fun _ _ _ h _ => h)), trivial⟩⟩,
    ⟨.inr (fun _ _ _ h _ => h), ⟨.inr (.inr (fun _ _ _ h _ => h)), trivial⟩⟩,
    ⟨.inr (fun _ _ _ h _ => h), ⟨.inr (.inr (fun _ _ _ h _ => h)), trivial⟩⟩,
    ⟨.inr (fun _ _ _ h _ => h), ⟨.inr (.inr (fun _ _ _ h _ => h)), trivial⟩⟩,
    ⟨.inr (fun _ _ _ h _ => h), ⟨.inr (.inr (fun _ _ _ h _ => h)), trivial⟩⟩,
    ⟨.inr (fun vs9 x9 y9 h9 hR9 => (show ∀ v9 y8 y7, (fun v z => KTup F w p v z) v9 y8 → (fun x9 y9 => Below x9.heap.size x9 y9) y8 y7 → (fun v z => KTup F w p v z) v9 y7 from fun _ _ _ h9 hR => h9.up HF.out hR) (vs9 7) x9 y9 h9 hR9), ⟨.inr (.inr (fun vs9 x9 y9 h9 hR9 => (show ∀ v9 y8 y7, (fun v z => KTup F w p v z) v9 y8 → (fun x9 y9 => x9.grownBy y9 (some w.heap.size)) y8 y7 → (fun v z => KTup F w p v z) v9 y7 from fun _ _ _ h9 hR => h9.st HF.out hR) (vs9 7) x9 y9 h9 hR9)), trivial⟩⟩,
    ⟨.inr (fun vs9 x9 y9 h9 hR9 => (show ∀ v9 y8 y7, (fun v z => KTup F w p v z) v9 y8 → (fun x9 y9 => Below x9.heap.size x9 y9) y8 y7 → (fun v z => KTup F w p v z) v9 y7 from fun _ _ _ h9 hR => h9.up HF.out hR) (vs9 8) x9 y9 h9 hR9), ⟨.inr (.inr (fun vs9 x9 y9 h9 hR9 => (show ∀ v9 y8 y7, (fun v z => KTup F w p v z) v9 y8 → (fun x9 y9 => x9.grownBy y9 (some w.heap.size)) y8 y7 → (fun v z => KTup F w p v z) v9 y7 from fun _ _ _ h9 hR => h9.st HF.out hR) (vs9 8) x9 y9 h9 hR9)), trivial⟩⟩,
    ⟨.inr (fun vs9 x9 y9 h9 hR9 => (show ∀ v9 y8 y7, (fun v z => KNet F w p v z) v9 y8 → (fun x9 y9 => Below x9.heap.size x9 y9) y8 y7 → (fun v z => KNet F w p v z) v9 y7 from fun _ _ _ h9 hR => h9.up HF.out hR) (vs9 9) x9 y9 h9 hR9), ⟨.inr (.inr (fun vs9 x9 y9 h9 hR9 => (show ∀ v9 y8 y7, (fun v z => KNet F w p v z) v9 y8 → (fun x9 y9 => x9.grownBy y9 (some w.heap.size)) y8 y7 → (fun v z => KNet F w p v z) v9 y7 from fun _ _ _ h9 hR => h9.st HF.out hR) (vs9 9) x9 y9 h9 hR9)), trivial⟩⟩,
    ⟨.inr (fun _ _ _ h _ => h), ⟨.inr (.inr (fun _ _ _ h _ => h)), trivial⟩⟩,
    ⟨.inr (fun _ _ _ h _ => h), ⟨.inr (.inl rfl), trivial⟩⟩,
    ⟨.inr (fun _ _ _ h _ => h), ⟨.inr (.inr (fun _ _ _ h _ => h)), trivial⟩⟩, trivial⟩ ⟨fun vs vs' x h _ hv => (by dsimp only at hv ⊢; first | (rw [← h]; exact hv) | exact hv),
    fun vs vs' x h _ hv => (by dsimp only at hv ⊢; first | (rw [← h]; exact hv) | exact hv),
    fun vs vs' x h _ hv => (by dsimp only at hv ⊢; first | (rw [← h]; exact hv) | exact hv),
    fun vs vs' x h _ hv => (by dsimp only at hv ⊢; first | (rw [← h]; exact hv) | exact hv),
    fun vs vs' x h _ hv => (by dsimp only at hv ⊢; first | (rw [← h]; exact hv) | exact hv),
    fun vs vs' x h _ hv => (by dsimp only at hv ⊢; first | (rw [← h]; exact hv) | exact hv),
    fun vs vs' x h _ hv => (by dsimp only at hv ⊢; first | (rw [← h]; exact hv) | exact hv),
    fun vs vs' x h _ hv => (by dsimp only at hv ⊢; first | (rw [← h]; exact hv) | exact hv),
    fun vs vs' x h _ hv => (by dsimp only at hv ⊢; first | (rw [← h]; exact hv) | exact hv),
    fun vs vs' x h _ hv => (by dsimp only at hv ⊢; first | (rw [← h]; exact hv) | exact hv),
    fun vs vs' x h _ hv => (by dsimp only at hv ⊢; first | (rw [← h]; exact hv) | exact hv),
    fun _ _ _ _ _ _ => trivial,
    fun vs vs' x h _ hv => (by dsimp only at hv ⊢; first | (rw [← h]; exact hv) | exact hv), trivial⟩ (⟨fun _ => HK2.out.up HF.out (below_drewN (Below.refl _ _) 1), (fun h => by cases h), bthen HK2.out.bel (below_drewN (Below.refl _ _) 1)⟩) ⟨?_, ?_, ?_, ?_, ?_, ?_, ?_, ?_, ?_, ?_, ?_, ?_, ?_, trivial⟩ ?_
        · intro vals xw f hf1 hf2 hf3 hI hF
          have k11 : f 11 = false := hf3 11 (by kernel_rfl)
          clear hf2 hf3
          dsimp only [owes4, bare]
          simp only [putsD, Act.put, List.setIfInBounds_toArray, List.set_cons_zero, List.set_cons_succ]
          have hv9 := (hI.1 k11).var
          have y0 := (cell_of_block hv9 0).1
          have y1 := (cell_of_block hv9 1).1
          have y2 := (cell_of_block hv9 2).1
          go_wp2
          exact ⟨rfl, rfl, ⟨fun h9 => absurd h9 (Nat.ne_of_beq_eq_false rfl), fun _ => Below.refl _ _⟩, hI⟩
        · intro vals xw f hf1 hf2 hf3 hI hF
          clear hf2 hf3
          dsimp only [owes4, bare]
          simp only [putsD, Act.put, List.setIfInBounds_toArray, List.set_cons_zero, List.set_cons_succ]
          go_wp2
          exact ⟨rfl, rfl, ⟨fun h9 => absurd h9 (Nat.ne_of_beq_eq_false rfl), fun _ => Below.refl _ _⟩, hI⟩
        · intro vals xw f hf1 hf2 hf3 hI hF
          clear hf2 hf3
          dsimp only [owes4, bare]
          simp only [putsD, Act.put, List.setIfInBounds_toArray, List.set_cons_zero, List.set_cons_succ]
          go_wp2
          exact ⟨rfl, rfl, ⟨fun h9 => absurd h9 (Nat.ne_of_beq_eq_false rfl), fun _ => Below.refl _ _⟩, hI⟩
        · intro vals xw f hf1 hf2 hf3 hI hF
          clear hf2 hf3
          dsimp only [owes4, bare]
          simp only [putsD, Act.put, List.setIfInBounds_toArray, List.set_cons_zero, List.set_cons_succ]
          go_wp2
          exact ⟨rfl, rfl, ⟨fun h9 => absurd h9 (Nat.ne_of_beq_eq_false rfl), fun _ => Below.refl _ _⟩, hI⟩
        · intro vals xw f hf1 hf2 hf3 hI hF
          clear hf2 hf3
          simp only [saysD, List.getD_cons_zero, List.getD_cons_succ, and_true] at hF
          obtain ⟨e33, e34⟩ := hF
          dsimp only [owes4, bare]
          simp only [putsD, Act.put, List.setIfInBounds_toArray, List.set_cons_zero, List.set_cons_succ]
          simp only [e33, e34]
          go_wp2
          exact ⟨rfl, rfl, ⟨fun h9 => absurd h9 (Nat.ne_of_beq_eq_false rfl), fun _ => Below.refl _ _⟩, hI⟩
        · intro vals xw f hf1 hf2 hf3 hI hF
          clear hf2 hf3
          simp only [saysD, List.getD_cons_zero, List.getD_cons_succ, and_true] at hF
          have e35 := hF
          dsimp only [owes4, bare]
          simp only [putsD, Act.put, List.setIfInBounds_toArray, List.set_cons_zero, List.set_cons_succ]
          simp only [e35]
          have c9 := HRY.out _ hI.2.2
          go_wp2
          exact ⟨rfl, rfl, ⟨fun h9 => absurd h9 (Nat.ne_of_beq_eq_false rfl), fun _ => Below.refl _ _⟩, hI⟩
        · intro vals xw f hf1 hf2 hf3 hI hF
          clear hf2 hf3
          dsimp only [owes4, bare]
          simp only [putsD, Act.put, List.setIfInBounds_toArray, List.set_cons_zero, List.set_cons_succ]
          go_wp2
          exact ⟨rfl, rfl, ⟨fun h9 => absurd h9 (Nat.ne_of_beq_eq_false rfl), fun _ => Below.refl _ _⟩, hI⟩
        · intro vals xw f hf1 hf2 hf3 hI hF
          have k11 : f 11 = false := hf3 11 (by kernel_rfl)
          clear hf2 hf3
          simp only [saysD, List.getD_cons_zero, List.getD_cons_succ, and_true] at hF
          obtain ⟨e31, e32, e36, e37⟩ := hF
          dsimp only [owes4, bare]
          simp only [putsD, Act.put, List.setIfInBounds_toArray, List.set_cons_zero, List.set_cons_succ]
          simp only [e31, e32, e36, e37]
          have HI := Lib.hid hI
          have HK := Lib.hid (hI.1 k11)
          have hsz9 := hI.2.2.size
          clear hI
          have HC := Lib.hid (l7One_any (G2 F w xw (fun _ => False)) A2 c2 m.1 m.2 y rr xw HK.out.row (KS2.lt HK.out.bel HF.out) HK.out.nil HMB.out.1 HMB.out.2 HXYM.out.2 HRR.out)
          rw [← HP.out] at HC
          go_wp2_with fail
          refine HC.out.mono ?_
          rintro e wx ⟨A3, c3, rfl, h2, h3, h4⟩
          have H3 := Lib.hid h3
          have H4 := Lib.hid h4
          clear h3 h4 HC
          go_wp2
          refine ⟨rfl, ⟨A3, c3, rfl, h2, H3.out.mono ?_, Nat.le_trans hsz9 H4.out.size⟩, ⟨fun h9 => absurd h9 (Nat.ne_of_beq_eq_false rfl), fun _ => H4.out⟩, (fun h => (HI.out.1 h).up HF.out H4.out), (fun h => absurd (k11.symm.trans h) (by simp)), bthen HI.out.2.2 H4.out⟩
          intro b hb
          rcases hb with (h9 | h9) | h9
          · exact .inl h9
          · exact .inr ⟨h9.1, Nat.lt_of_lt_of_le h9.2.1 H4.out.size, h9.2.2⟩
          · exact .inr ⟨by have := HK.out.bel.size; have := lt_of_block HK.out.res; omega, h9.2, fun e => e⟩
        · intro vals xw f hf1 hf2 hf3 hI hF
          clear hf2 hf3
          simp only [saysD, List.getD_cons_zero, List.getD_cons_succ, and_true] at hF
          obtain ⟨A3, c3, e38, h2, h3, h4⟩ := hF
          dsimp only [owes4, bare]
          simp only [putsD, Act.put, List.setIfInBounds_toArray, List.set_cons_zero, List.set_cons_succ]
          simp only [e38]
          go_wp2
          exact ⟨rfl, ⟨A3, c3, rfl, h2, h3, h4⟩, ⟨fun h9 => absurd h9 (Nat.ne_of_beq_eq_false rfl), fun _ => Below.refl _ _⟩, hI⟩
        · intro vals xw f hf1 hf2 hf3 hI hF
          clear hf2 hf3
          simp only [saysD, List.getD_cons_zero, List.getD_cons_succ, and_true] at hF
          obtain ⟨A3, c3, e30, h2, h3, h4⟩ := hF
          dsimp only [owes4, bare]
          simp only [putsD, Act.put, List.setIfInBounds_toArray, List.set_cons_zero, List.set_cons_succ]
          simp only [e30]
          go_wp2
          exact ⟨rfl, ⟨A3, c3, rfl, h2, h3, h4⟩, ⟨fun h9 => absurd h9 (Nat.ne_of_beq_eq_false rfl), fun _ => Below.refl _ _⟩, hI⟩
        · intro vals xw f hf1 hf2 hf3 hI hF
          clear hf2 hf3
          simp only [saysD, List.getD_cons_zero, List.getD_cons_succ, and_true] at hF
          obtain ⟨A3, c3, e30, h2, h3, h4⟩ := hF
          dsimp only [owes4, bare]
          simp only [putsD, Act.put, List.setIfInBounds_toArray, List.set_cons_zero, List.set_cons_succ]
          simp only [e30]
          go_wp2
          exact ⟨rfl, rfl, ⟨fun h9 => absurd h9 (Nat.ne_of_beq_eq_false rfl), fun _ => Below.refl _ _⟩, hI⟩
        · intro vals xw f hf1 hf2 hf3 hI hF
          clear hf2 hf3
          simp only [saysD, List.getD_cons_zero, List.getD_cons_succ, and_true] at hF
          obtain ⟨A3, c3, e39, h2, h3, h4⟩ := hF
          dsimp only [owes4, bare]
          simp only [putsD, Act.put, List.setIfInBounds_toArray, List.set_cons_zero, List.set_cons_succ]
          simp only [e39]
          have HI := Lib.hid hI
          have HK := Lib.hid (hI.1 hf1)
          have hv9 := HK.out.var
          have y0 := (cell_of_block hv9 0).1
          have y1 := (cell_of_block hv9 1).1
          have y2 := (cell_of_block hv9 2).1
          have g0 := (cell_of_block hv9 0).2
          have g1 := (cell_of_block hv9 1).2
          have g2 := (cell_of_block hv9 2).2
          have H3 := Lib.hid h3
          clear hI hv9 h3 h4
          go_wp2
          have hset := HK.out.set (c' := c3) HF.out H3.out h2
          have hgr : xw.grownBy (st3 xw w.heap.size (.int .i64 p.1.1.ins) (.slice A3 p.1.1.gs.length c3) (.bool p.1.2)) (some w.heap.size) := only_setCell (only_setCell (only_setCell (World.grownBy.refl _ _) _ _) _ _) _ _
          exact ⟨rfl, trivial, ⟨fun _ => hgr, fun h9 => absurd rfl h9⟩, fun h => absurd ((did_same f 11).symm.trans h) (by simp), fun _ => ⟨A3, c3, hset⟩, st3_below HI.out.2.2 (Nat.le_refl _) _ _ _⟩
        · intro vals xw f hf1 hf2 hf3 hI hF
          clear hf2 hf3
          simp only [saysD, List.getD_cons_zero, List.getD_cons_succ, and_true] at hF
          have e40 := hF
          dsimp only [owes4, bare]
          simp only [putsD, Act.put, List.setIfInBounds_toArray, List.set_cons_zero, List.set_cons_succ]
          simp only [e40]
          go_wp2
          exact ⟨rfl, rfl, ⟨fun h9 => absurd h9 (Nat.ne_of_beq_eq_false rfl), fun _ => Below.refl _ _⟩, hI⟩
        · intro vals xw f hall hI hF
          rw [show List.range _ = [0, 1, 2, 3, 4, 5, 6, 7, 8, 9, 10, 11, 12] from rfl] at hF
          simp only [says, List.getD_cons_zero, List.getD_cons_succ, and_true] at hF
          obtain ⟨A3, c3, hk2⟩ := hI.2.1 (hall 11 (by decide))
          have e9 : vals 12 = .int .i64 p.2 := by obtain ⟨_, _, _, _, _, _, _, _, _, _, _, _, e9⟩ := hF; exact e9
          have HK2 := Lib.hid hk2
          clear hF hk2 hI
          simp only [putsD, Act.put, List.setIfInBounds_toArray, List.set_cons_zero, List.set_cons_succ]
          simp only [e9]
          clear e9
          go_wp2
          go_roundw
          case rel => exact ⟨j + 1, p.1, p.2, A3, c3, by omega, by go_num, rfl, HPB.out.2, HK2.out, HPB.out.1, Lib.hid (by rw [HP.out, HM.out]; exact HST.out)⟩
          case measure => simp [intOf]; omega
    · have hje : j = xs.length := by omega
      subst hje
      have hlt2 : ¬ ((xs.length : Nat) : Int) < xs.length := by omega
      have hv9 := HKS.out.var
      have y0 := (cell_of_block hv9 0).1
      have y1 := (cell_of_block hv9 1).1
      have y2 := (cell_of_block hv9 2).1
      have hr9 := HKS.out.res
      have r0 := (cell_of_block hr9 0).1
      have r1 := (cell_of_block hr9 1).1
      have r2 := (cell_of_block hr9 2).1
      have rf0 := (cell_of_block hr9 0).2
      have rf1 := (cell_of_block hr9 1).2
      have rf2 := (cell_of_block hr9 2).2
      clear hv9 hr9
      go_wp2
      have hs := st3_same HKS.out.res (.int .i64 k1.1.ins) (.slice A1 k1.1.gs.length c1) (.bool k1.2)
      have k5 := (cell_of_block hs 0).1
      have k6 := (cell_of_block hs 1).1
      have k7 := (cell_of_block hs 2).1
      have kf5 := (cell_of_block hs 0).2
      have kf6 := (cell_of_block hs 1).2
      have kf7 := (cell_of_block hs 2).2
      refine bodyPost_ret (v := .tuple #[.agg #[.int .i64 k1.1.ins, .slice A1 k1.1.gs.length c1, .bool k1.2], .int .i64 rr]) (by simp [results, Tryd.results92, go_sem, k5, k6, k7, kf5, kf6, kf7]) rfl ?_
      have hd1 : xs.drop xs.length = [] := List.drop_length
      have hd2 : ys.drop xs.length = [] := by rw [HL.out]; exact List.drop_length
      have hst2 := hst.out
      rw [hd1, hd2] at hst2
      have hT2 : T = (k1, rr) := by rw [← hst2]; rfl
      rw [hT2]
      exact HKS.out.one2.done HF.out
set_option maxRecDepth 100000 in
set_option maxHeartbeats 4000000 in
theorem l7Same_any (F : Nat → Prop) (A : Option Addr) (c : Nat) (k : N × Bool) (X Y : Option Addr) (cx cy : Nat) (xs ys : List Int) (w : World) (h : Lay.gate.Sl w F A k.1.gs) (hF : ∀ b, F b → b < w.heap.size) (hA : A = none → k.1.gs.length = 0) (hnb : NB k.1) (hX : Lay.int.Rd w X xs) (hY : Lay.int.Rd w Y ys) (hxm : ∀ x ∈ xs, RB x) (hym : ∀ y ∈ ys, RB y) (hl : xs.length = ys.length) (hn : xs.length ≤ 1000) :
    Calls Tryd.prog 91 #[.agg #[.int .i64 k.1.ins, .slice A k.1.gs.length c, .bool k.2], .slice X xs.length cx, .slice Y ys.length cy] w (RetK F w (run opsR (sameP xs ys 1) k)) := by
  obtain ⟨T, hT⟩ : ∃ T, T = run opsR (sameP xs ys 1) k := ⟨_, rfl⟩
  rw [← hT]
  have HT := Lib.hid hT
  have K0 := Lib.hid (KS.two (c := c) h hF hA)
  have HF := Lib.hid hF
  have HNB := Lib.hid hnb
  have HX := Lib.hid hX
  have HY := Lib.hid hY
  have HXM := Lib.hid hxm
  have HYM := Lib.hid hym
  have HL := Lib.hid hl
  clear h hA hnb hX hY hxm hym hT
  rw [← hl]
  clear hl
  go_enter Tryd.func91, Tryd.ntmps91
  go_wp2
  generalize hX0 : (w.alloc (.cells #[.int .i64 k.1.ins, .slice A k.1.gs.length c, .bool k.2] 68)).alloc (.cells #[.int .i64 0, .slice none 0 0, .bool false] 68) = X0 at *
  clear hX0
  go_loopw [8, 9] (fun rv i wr => ∃ (j : Nat) (k1 : N × Bool) (rr : Int) (A1 : Option Addr) (c1 : Nat), j ≤ xs.length ∧ i = .int .i64 j ∧ rv = .int .i64 rr ∧ RB rr ∧ KS2 F w wr k1 A1 c1 (fun _ => False) ∧ NB k1.1 ∧ Hid (run opsR (sameP (xs.drop j) (ys.drop j) rr) k1 = T)) (fun _ i _ => xs.length - (intOf i).toNat)
  case atStart => exact ⟨0, k, 1, A, c, Nat.zero_le _, rfl, rfl, by unfold RB; omega, K0.out.two2, HNB.out, Lib.hid (by rw [HT.out]; rfl)⟩
  case round =>
    obtain ⟨j, k1, rr, A1, c1, hj, rfl, rfl, hrr, hks, hnb1, hst⟩ := hrel
    have HRR := Lib.hid hrr
    have HKS := Lib.hid hks
    have HNB1 := Lib.hid hnb1
    clear hrr hks hnb1
    by_cases hlt : j < xs.length
    · have hlt2 : (j : Int) < xs.length := by omega
      have hlty : j < ys.length := by rw [← HL.out]; exact hlt
      obtain ⟨x, hx⟩ : ∃ x, xs[j]? = some x := ⟨_, List.getElem?_eq_getElem hlt⟩
      obtain ⟨y, hy⟩ : ∃ y, ys[j]? = some y := ⟨_, List.getElem?_eq_getElem hlty⟩
      have hxg : xs[j] = x := (List.getElem?_eq_some_iff.1 hx).2
      have hyg : ys[j] = y := (List.getElem?_eq_some_iff.1 hy).2
      have HXYM := Lib.hid (And.intro (HXM.out x (List.mem_of_getElem? hx)) (HYM.out y (List.mem_of_getElem? hy)))
      obtain ⟨adx, rfl, -, -⟩ := HX.out.at_int hlt
      obtain ⟨ady, rfl, -, -⟩ := HY.out.at_int hlty
      obtain ⟨m, hm⟩ : ∃ m, m = opsR.xor k1 x y := ⟨_, rfl⟩
      have HST := Lib.hid ((run_same (o := opsR) xs ys j x y hx hy k1 rr).symm.trans hst.out)
      have HM := Lib.hid hm
      have HMB : Hid (NB m.1.1 ∧ RB m.2) := Lib.hid (by rw [hm]; exact opsR_xor_nb HNB1.out HXYM.out.1 HXYM.out.2)
      have HRX : Hid (∀ z, Below w.heap.size w z → z.cell? (adx.add j) = some (.int .i64 x)) := Lib.hid fun z hz => by
        obtain ⟨ad, e, _, hc⟩ := (HX.out.up hz).at_int hlt
        injection e with e; subst e; rw [← hxg]; exact hc
      have HRY : Hid (∀ z, Below w.heap.size w z → z.cell? (ady.add j) = some (.int .i64 y)) := Lib.hid fun z hz => by
        obtain ⟨ad, e, _, hc⟩ := (HY.out.up hz).at_int hlty
        injection e with e; subst e; rw [← hyg]; exact hc
      clear hm hx hy hxg hyg hst hlty
      go_wp2
      refine wp_region_rel4 [[], [], [], [(1, 19), (2, 20)], [(3, 21)], [], [], [(5, 23), (6, 24)], [(7, 25)], [(0, 18), (4, 22), (8, 26)], [(9, 27)], [(10, 17)], [(10, 17)], [(11, 28)], [(12, 29)]]
        (fun x9 y9 => Below x9.heap.size x9 y9)
        [(13, fun x9 y9 => x9.grownBy y9 (some w.heap.size))]
        (fun f9 x9 => (f9 13 = false → KS2 F w x9 k1 A1 c1 (fun _ => False)) ∧ (f9 13 = true → ∃ A2 c2, KS2 F w x9 m.1 A2 c2 (fun _ => False)) ∧ Below w.heap.size w x9)
        [fun vs9 _ => vs9 0 = (.agg #[.int .i64 k1.1.ins, .slice A1 k1.1.gs.length c1, .bool k1.2]),
    fun vs9 _ => vs9 1 = (.slice (some adx) xs.length cx),
    fun vs9 _ => vs9 2 = (.int .i64 (j : Int)),
    fun vs9 _ => vs9 3 = (.pointer (some (adx.add j))),
    fun vs9 _ => vs9 4 = (.int .i64 x),
    fun vs9 _ => vs9 5 = (.slice (some ady) xs.length cy),
    fun vs9 _ => vs9 6 = (.int .i64 (j : Int)),
    fun vs9 _ => vs9 7 = (.pointer (some (ady.add j))),
    fun vs9 _ => vs9 8 = (.int .i64 y),
    fun vs9 y9 => (fun v z => KTup F w m v z) (vs9 9) y9,
    fun vs9 y9 => (fun v z => KTup F w m v z) (vs9 10) y9,
    fun vs9 y9 => (fun v z => KNet F w m v z) (vs9 11) y9,
    fun vs9 _ => vs9 12 = (.int .i64 m.2),
    fun _ _ => True,
    fun vs9 _ => vs9 14 = (.int .i64 m.2)]
        [(0, 18), (1, 19), (2, 20), (3, 21), (4, 22), (5, 23), (6, 24), (7, 25), (8, 26), (9, 27), (10, 17), (11, 28), (12, 29), (14, 10)] (by kernel_rfl) (by kernel_rfl) (by kernel_rfl) (by kernel_rfl)
        (fun _ => Below.refl _ _) ⟨fun _ => World.grownBy.refl _ _, trivial⟩
        ⟨⟨.inr (fun _ _ _ h _ => h), ⟨.inr (.inr (fun _ _ _ h _ => h)), trivial⟩⟩,
    ⟨.inr (fun _ _ _ h _ => h), ⟨.inr (.inr (fun _ _ _ h _ => h)), trivial⟩⟩,
    ⟨.inr (fun _ _ _ h _ => h), ⟨.inr (.inr (fun _ _ _ h _ => h)), trivial⟩⟩,
    ⟨.inr (fun _ _ _ h _ => h), ⟨.inr (.inr (fun _ _ _ h _ => h)), trivial⟩⟩,
    ⟨.inr (fun _ _ _ h _ => h), ⟨.inr (.inr (fun _ _ _ h _ => h)), trivial⟩⟩,
    ⟨.inr (fun _ _ _ h _ => h), ⟨.inr (.inr (fun _ _ _ h _ => h)), trivial⟩⟩,
    ⟨.inr (fun _ _ _ h _ => h), ⟨.inr (.inr (fun _ _ _ h _ => h)), trivial⟩⟩,
    ⟨.inr (fun _ _ _ h _ => h), ⟨.inr (.inr (fun _ _ _ h _ => h)), trivial⟩⟩,
    ⟨.inr (fun _ _ _ h _ => h), ⟨.inr (.inr (fun _ _ _ h _ => h)), trivial⟩⟩,
    ⟨.inr (fun vs9 x9 y9 h9 hR9 => (show ∀ v9 y8 y7, (fun v z => KTup F w m v z) v9 y8 → (fun x9 y9 => Below x9.heap.size x9 y9) y8 y7 → (fun v z => KTup F w m v z) v9 y7 from fun _ _ _ h9 hR => h9.up HF.out hR) (vs9 9) x9 y9 h9 hR9), ⟨.inr (.inr (fun vs9 x9 y9 h9 hR9 => (show ∀ v9 y8 y7, (fun v z => KTup F w m v z) v9 y8 → (fun x9 y9 => x9.grownBy y9 (some w.heap.size)) y8 y7 → (fun v z => KTup F w m v z) v9 y7 from fun _ _ _ h9 hR => h9.st HF.out hR) (vs9 9) x9 y9 h9 hR9)), trivial⟩⟩,
    ⟨.inr (fun vs9 x9 y9 h9 hR9 => (show ∀ v9 y8 y7, (fun v z => KTup F w m v z) v9 y8 → (fun x9 y9 => Below x9.heap.size x9 y9) y8 y7 → (fun v z => KTup F w m v z) v9 y7 from fun _ _ _ h9 hR => h9.up HF.out hR) (vs9 10) x9 y9 h9 hR9), ⟨.inr (.inr (fun vs9 x9 y9 h9 hR9 => (show ∀ v9 y8 y7, (fun v z => KTup F w m v z) v9 y8 → (fun x9 y9 => x9.grownBy y9 (some w.heap.size)) y8 y7 → (fun v z => KTup F w m v z) v9 y7 from fun _ _ _ h9 hR => h9.st HF.out hR) (vs9 10) x9 y9 h9 hR9)), trivial⟩⟩,
    ⟨.inr (fun vs9 x9 y9 h9 hR9 => (show ∀ v9 y8 y7, (fun v z => KNet F w m v z) v9 y8 → (fun x9 y9 => Below x9.heap.size x9 y9) y8 y7 → (fun v z => KNet F w m v z) v9 y7 from fun _ _ _ h9 hR => h9.up HF.out hR) (vs9 11) x9 y9 h9 hR9), ⟨.inr (.inr (fun vs9 x9 y9 h9 hR9 => (show ∀ v9 y8 y7, (fun v z => KNet F w m v z) v9 y8 → (fun x9 y9 => x9.grownBy y9 (some w.heap.size)) y8 y7 → (fun v z => KNet F w m v z) v9 y7 from fun _ _ _ h9 hR => h9.st HF.out hR) (vs9 11) x9 y9 h9 hR9)), trivial⟩⟩,
    ⟨.inr (fun _ _ _ h _ => h), ⟨.inr (.inr (fun _ _ _ h _ => h)), trivial⟩⟩,
    ⟨.inr (fun _ _ _ h _ => h), ⟨.inr (.inl rfl), trivial⟩⟩,
    ⟨.inr (fun _ _ _ h _ => h), ⟨.inr (.inr (fun _ _ _ h _ => h)), trivial⟩⟩, trivial⟩ ⟨fun vs vs' x h _ hv => (by dsimp only at hv ⊢; first | (rw [← h]; exact hv) | exact hv),
    fun vs vs' x h _ hv => (by dsimp only at hv ⊢; first | (rw [← h]; exact hv) | exact hv),
    fun vs vs' x h _ hv => (by dsimp only at hv ⊢; first | (rw [← h]; exact hv) | exact hv),
    fun vs vs' x h _ hv => (by dsimp only at hv ⊢; first | (rw [← h]; exact hv) | exact hv),
    fun vs vs' x h _ hv => (by dsimp only at hv ⊢; first | (rw [← h]; exact hv) | exact hv),
    fun vs vs' x h _ hv => (by dsimp only at hv ⊢; first | (rw [← h]; exact hv) | exact hv),
    fun vs vs' x h _ hv => (by dsimp only at hv ⊢; first | (rw [← h]; exact hv) | exact hv),
    fun vs vs' x h _ hv => (by dsimp only at hv ⊢; first | (rw [← h]; exact hv) | exact hv),
    fun vs vs' x h _ hv => (by dsimp only at hv ⊢; first | (rw [← h]; exact hv) | exact hv),
    fun vs vs' x h _ hv => (by dsimp only at hv ⊢; first | (rw [← h]; exact hv) | exact hv),
    fun vs vs' x h _ hv => (by dsimp only at hv ⊢; first | (rw [← h]; exact hv) | exact hv),
    fun vs vs' x h _ hv => (by dsimp only at hv ⊢; first | (rw [← h]; exact hv) | exact hv),
    fun vs vs' x h _ hv => (by dsimp only at hv ⊢; first | (rw [← h]; exact hv) | exact hv),
    fun _ _ _ _ _ _ => trivial,
    fun vs vs' x h _ hv => (by dsimp only at hv ⊢; first | (rw [← h]; exact hv) | exact hv), trivial⟩ (⟨fun _ => HKS.out.up HF.out (below_drewN (Below.refl _ _) 1), (fun h => by cases h), bthen HKS.out.bel (below_drewN (Below.refl _ _) 1)⟩) ⟨?_, ?_, ?_, ?_, ?_, ?_, ?_, ?_, ?_, ?_, ?_, ?_, ?_, ?_, ?_, trivial⟩ ?_
      · intro vals xw f hf1 hf2 hf3 hI hF
        have k13 : f 13 = false := hf3 13 (by kernel_rfl)
        clear hf2 hf3
        dsimp only [owes4, bare]
        simp only [putsD, Act.put, List.setIfInBounds_toArray, List.set_cons_zero, List.set_cons_succ]
        have hv9 := (hI.1 k13).var
        have y0 := (cell_of_block hv9 0).1
        have y1 := (cell_of_block hv9 1).1
        have y2 := (cell_of_block hv9 2).1
        go_wp2
        exact ⟨rfl, rfl, ⟨fun h9 => absurd h9 (Nat.ne_of_beq_eq_false rfl), fun _ => Below.refl _ _⟩, hI⟩
      · intro vals xw f hf1 hf2 hf3 hI hF
        clear hf2 hf3
        dsimp only [owes4, bare]
        simp only [putsD, Act.put, List.setIfInBounds_toArray, List.set_cons_zero, List.set_cons_succ]
        go_wp2
        exact ⟨rfl, rfl, ⟨fun h9 => absurd h9 (Nat.ne_of_beq_eq_false rfl), fun _ => Below.refl _ _⟩, hI⟩
      · intro vals xw f hf1 hf2 hf3 hI hF
        clear hf2 hf3
        dsimp only [owes4, bare]
        simp only [putsD, Act.put, List.setIfInBounds_toArray, List.set_cons_zero, List.set_cons_succ]
        go_wp2
        exact ⟨rfl, rfl, ⟨fun h9 => absurd h9 (Nat.ne_of_beq_eq_false rfl), fun _ => Below.refl _ _⟩, hI⟩
      · intro vals xw f hf1 hf2 hf3 hI hF
        clear hf2 hf3
        simp only [saysD, List.getD_cons_zero, List.getD_cons_succ, and_true] at hF
        obtain ⟨e19, e20⟩ := hF
        dsimp only [owes4, bare]
        simp only [putsD, Act.put, List.setIfInBounds_toArray, List.set_cons_zero, List.set_cons_succ]
        simp only [e19, e20]
        go_wp2
        exact ⟨rfl, rfl, ⟨fun h9 => absurd h9 (Nat.ne_of_beq_eq_false rfl), fun _ => Below.refl _ _⟩, hI⟩
      · intro vals xw f hf1 hf2 hf3 hI hF
        clear hf2 hf3
        simp only [saysD, List.getD_cons_zero, List.getD_cons_succ, and_true] at hF
        have e21 := hF
        dsimp only [owes4, bare]
        simp only [putsD, Act.put, List.setIfInBounds_toArray, List.set_cons_zero, List.set_cons_succ]
        simp only [e21]
        have c9 := HRX.out _ hI.2.2
        go_wp2
        exact ⟨rfl, rfl, ⟨fun h9 => absurd h9 (Nat.ne_of_beq_eq_false rfl), fun _ => Below.refl _ _⟩, hI⟩
      · intro vals xw f hf1 hf2 hf3 hI hF
        clear hf2 hf3
        dsimp only [owes4, bare]
        simp only [putsD, Act.put, List.setIfInBounds_toArray, List.set_cons_zero, List.set_cons_succ]
        go_wp2
        exact ⟨rfl, rfl, ⟨fun h9 => absurd h9 (Nat.ne_of_beq_eq_false rfl), fun _ => Below.refl _ _⟩, hI⟩
      · intro vals xw f hf1 hf2 hf3 hI hF
        clear hf2 hf3
        dsimp only [owes4, bare]
        simp only [putsD, Act.put, List.setIfInBounds_toArray, List.set_cons_zero, List.set_cons_succ]
        go_wp2
        exact ⟨rfl, rfl, ⟨fun h9 => absurd h9 (Nat.ne_of_beq_eq_false rfl), fun _ => Below.refl _ _⟩, hI⟩
      · intro vals xw f hf1 hf2 hf3 hI hF
        clear hf2 hf3
        simp only [saysD, List.getD_cons_zero, List.getD_cons_succ, and_true] at hF
        obtain ⟨e23, e24⟩ := hF
        dsimp only [owes4, bare]
        simp only [putsD, Act.put, List.setIfInBounds_toArray, List.set_cons_zero, List.set_cons_succ]
        simp only [e23, e24]
        go_wp2
        exact ⟨rfl, rfl, ⟨fun h9 => absurd h9 (Nat.ne_of_beq_eq_false rfl), fun _ => Below.refl _ _⟩, hI⟩
      · intro vals xw f hf1 hf2 hf3 hI hF
        clear hf2 hf3
        simp only [saysD, List.getD_cons_zero, List.getD_cons_succ, and_true] at hF
        have e25 := hF
        dsimp only [owes4, bare]
        simp only [putsD, Act.put, List.setIfInBounds_toArray, List.set_cons_zero, List.set_cons_succ]
        simp only [e25]
        have c9 := HRY.out _ hI.2.2
        go_wp2
        exact ⟨rfl, rfl, ⟨fun h9 => absurd h9 (Nat.ne_of_beq_eq_false rfl), fun _ => Below.refl _ _⟩, hI⟩
      · intro vals xw f hf1 hf2 hf3 hI hF
        have k13 : f 13 = false := hf3 13 (by kernel_rfl)
        clear hf2 hf3
        simp only [saysD, List.getD_cons_zero, List.getD_cons_succ, and_true] at hF
        obtain ⟨e18, e22, e26⟩ := hF
        dsimp only [owes4, bare]
        simp only [putsD, Act.put, List.setIfInBounds_toArray, List.set_cons_zero, List.set_cons_succ]
        simp only [e18, e22, e26]
        have HI := Lib.hid hI
        have HK := Lib.hid (hI.1 k13)
        have hsz9 := hI.2.2.size
        clear hI
        have HC := Lib.hid (l7Xor_any (G2 F w xw (fun _ => False)) A1 c1 k1 x y xw HK.out.row (KS2.lt HK.out.bel HF.out) HK.out.nil HNB1.out HXYM.out.1 HXYM.out.2)
        rw [← HM.out] at HC
        go_wp2_with fail
        refine HC.out.mono ?_
        rintro e wx ⟨A2, c2, rfl, h2, h3, h4⟩
        have H3 := Lib.hid h3
        have H4 := Lib.hid h4
        clear h3 h4 HC
        go_wp2
        refine ⟨rfl, ⟨A2, c2, rfl, h2, H3.out.mono ?_, Nat.le_trans hsz9 H4.out.size⟩, ⟨fun h9 => absurd h9 (Nat.ne_of_beq_eq_false rfl), fun _ => H4.out⟩, (fun h => (HI.out.1 h).up HF.out H4.out), (fun h => absurd (k13.symm.trans h) (by simp)), bthen HI.out.2.2 H4.out⟩
        intro b hb
        rcases hb with (h9 | h9) | h9
        · exact .inl h9
        · exact .inr ⟨h9.1, Nat.lt_of_lt_of_le h9.2.1 H4.out.size, h9.2.2⟩
        · exact .inr ⟨by have := HK.out.bel.size; have := lt_of_block HK.out.res; omega, h9.2, fun e => e⟩
      · intro vals xw f hf1 hf2 hf3 hI hF
        clear hf2 hf3
        simp only [saysD, List.getD_cons_zero, List.getD_cons_succ, and_true] at hF
        obtain ⟨A2, c2, e27, h2, h3, h4⟩ := hF
        dsimp only [owes4, bare]
        simp only [putsD, Act.put, List.setIfInBounds_toArray, List.set_cons_zero, List.set_cons_succ]
        simp only [e27]
        go_wp2
        exact ⟨rfl, ⟨A2, c2, rfl, h2, h3, h4⟩, ⟨fun h9 => absurd h9 (Nat.ne_of_beq_eq_false rfl), fun _ => Below.refl _ _⟩, hI⟩
      · intro vals xw f hf1 hf2 hf3 hI hF
        clear hf2 hf3
        simp only [saysD, List.getD_cons_zero, List.getD_cons_succ, and_true] at hF
        obtain ⟨A2, c2, e17, h2, h3, h4⟩ := hF
        dsimp only [owes4, bare]
        simp only [putsD, Act.put, List.setIfInBounds_toArray, List.set_cons_zero, List.set_cons_succ]
        simp only [e17]
        go_wp2
        exact ⟨rfl, ⟨A2, c2, rfl, h2, h3, h4⟩, ⟨fun h9 => absurd h9 (Nat.ne_of_beq_eq_false rfl), fun _ => Below.refl _ _⟩, hI⟩
      · intro vals xw f hf1 hf2 hf3 hI hF
        clear hf2 hf3
        simp only [saysD, List.getD_cons_zero, List.getD_cons_succ, and_true] at hF
        obtain ⟨A2, c2, e17, h2, h3, h4⟩ := hF
        dsimp only [owes4, bare]
        simp only [putsD, Act.put, List.setIfInBounds_toArray, List.set_cons_zero, List.set_cons_succ]
        simp only [e17]
        go_wp2
        exact ⟨rfl, rfl, ⟨fun h9 => absurd h9 (Nat.ne_of_beq_eq_false rfl), fun _ => Below.refl _ _⟩, hI⟩
      · intro vals xw f hf1 hf2 hf3 hI hF
        clear hf2 hf3
        simp only [saysD, List.getD_cons_zero, List.getD_cons_succ, and_true] at hF
        obtain ⟨A2, c2, e28, h2, h3, h4⟩ := hF
        dsimp only [owes4, bare]
        simp only [putsD, Act.put, List.setIfInBounds_toArray, List.set_cons_zero, List.set_cons_succ]
        simp only [e28]
        have HI := Lib.hid hI
        have HK := Lib.hid (hI.1 hf1)
        have hv9 := HK.out.var
        have y0 := (cell_of_block hv9 0).1
        have y1 := (cell_of_block hv9 1).1
        have y2 := (cell_of_block hv9 2).1
        have g0 := (cell_of_block hv9 0).2
        have g1 := (cell_of_block hv9 1).2
        have g2 := (cell_of_block hv9 2).2
        have H3 := Lib.hid h3
        clear hI hv9 h3 h4
        go_wp2
        have hset := HK.out.set (c' := c2) HF.out H3.out h2
        have hgr : xw.grownBy (st3 xw w.heap.size (.int .i64 m.1.1.ins) (.slice A2 m.1.1.gs.length c2) (.bool m.1.2)) (some w.heap.size) := only_setCell (only_setCell (only_setCell (World.grownBy.refl _ _) _ _) _ _) _ _
        exact ⟨rfl, trivial, ⟨fun _ => hgr, fun h9 => absurd rfl h9⟩, fun h => absurd ((did_same f 13).symm.trans h) (by simp), fun _ => ⟨A2, c2, hset⟩, st3_below HI.out.2.2 (Nat.le_refl _) _ _ _⟩
      · intro vals xw f hf1 hf2 hf3 hI hF
        clear hf2 hf3
        simp only [saysD, List.getD_cons_zero, List.getD_cons_succ, and_true] at hF
        have e29 := hF
        dsimp only [owes4, bare]
        simp only [putsD, Act.put, List.setIfInBounds_toArray, List.set_cons_zero, List.set_cons_succ]
        simp only [e29]
        go_wp2
        exact ⟨rfl, rfl, ⟨fun h9 => absurd h9 (Nat.ne_of_beq_eq_false rfl), fun _ => Below.refl _ _⟩, hI⟩
      · intro vals xw f hall hI hF
        rw [show List.range _ = [0, 1, 2, 3, 4, 5, 6, 7, 8, 9, 10, 11, 12, 13, 14] from rfl] at hF
        simp only [says, List.getD_cons_zero, List.getD_cons_succ, and_true] at hF
        obtain ⟨A2, c2, hk2⟩ := hI.2.1 (hall 13 (by decide))
        have e9 : vals 14 = .int .i64 m.2 := by obtain ⟨_, _, _, _, _, _, _, _, _, _, _, _, _, _, e9⟩ := hF; exact e9
        have HK2 := Lib.hid hk2
        clear hF hk2 hI
        simp only [putsD, Act.put, List.setIfInBounds_toArray, List.set_cons_zero, List.set_cons_succ]
        simp only [e9]
        clear e9
        have hmb := HMB.out.2
        obtain ⟨hm0, hm1⟩ := hmb
        obtain ⟨p, hp⟩ : ∃ p, p = opsR.and m.1 rr (-m.2) := ⟨_, rfl⟩
        have HP := Lib.hid hp
        have HPB : Hid (NB p.1.1 ∧ RB p.2) := Lib.hid (by rw [hp]; exact opsR_and_nb HMB.out.1 HRR.out HMB.out.2.neg)
        clear hp
        have hv9 := HK2.out.var
        have y0 := (cell_of_block hv9 0).1
        have y1 := (cell_of_block hv9 1).1
        have y2 := (cell_of_block hv9 2).1
        have HC := Lib.hid (l7And_any (G2 F w xw (fun _ => False)) A2 c2 m.1 rr (-m.2) xw HK2.out.row (KS2.lt HK2.out.bel HF.out) HK2.out.nil HMB.out.1 HRR.out HMB.out.2.neg)
        rw [← HP.out] at HC
        clear hv9
        go_wp2_with fail
        refine HC.out.mono ?_
        rintro e z9 ⟨A3, c3, rfl, hn3, hs3, hb3⟩
        have HK3 := Lib.hid (HK2.out.up HF.out hb3)
        have hv9 := HK3.out.var
        have HS3 := Lib.hid hs3
        have HB3 := Lib.hid hb3
        clear hs3 hb3 HC y0 y1 y2
        have y0 := (cell_of_block hv9 0).1
        have y1 := (cell_of_block hv9 1).1
        have y2 := (cell_of_block hv9 2).1
        have g0 := (cell_of_block hv9 0).2
        have g1 := (cell_of_block hv9 1).2
        have g2 := (cell_of_block hv9 2).2
        clear hv9
        go_wp2
        have hset := HK3.out.set (k' := p.1) (A' := A3) (c' := c3) HF.out (HS3.out.mono (by
          intro b hb
          rcases hb with (h9 | h9) | h9
          · exact .inl h9
          · exact .inr ⟨h9.1, Nat.lt_of_lt_of_le h9.2.1 HB3.out.size, h9.2.2⟩
          · exact .inr ⟨by have := HK2.out.bel.size; have := lt_of_block HK2.out.res; omega, h9.2, fun e => e⟩)) hn3
        go_roundw
        case rel => exact ⟨j + 1, p.1, p.2, A3, c3, by omega, by go_num, rfl, HPB.out.2, hset, HPB.out.1, Lib.hid (by rw [HP.out, HM.out]; exact HST.out)⟩
        case measure => simp [intOf]; omega
    · have hje : j = xs.length := by omega
      subst hje
      have hlt2 : ¬ ((xs.length : Nat) : Int) < xs.length := by omega
      have hv9 := HKS.out.var
      have y0 := (cell_of_block hv9 0).1
      have y1 := (cell_of_block hv9 1).1
      have y2 := (cell_of_block hv9 2).1
      have hr9 := HKS.out.res
      have r0 := (cell_of_block hr9 0).1
      have r1 := (cell_of_block hr9 1).1
      have r2 := (cell_of_block hr9 2).1
      have rf0 := (cell_of_block hr9 0).2
      have rf1 := (cell_of_block hr9 1).2
      have rf2 := (cell_of_block hr9 2).2
      clear hv9 hr9
      go_wp2
      have hs := st3_same HKS.out.res (.int .i64 k1.1.ins) (.slice A1 k1.1.gs.length c1) (.bool k1.2)
      have k5 := (cell_of_block hs 0).1
      have k6 := (cell_of_block hs 1).1
      have k7 := (cell_of_block hs 2).1
      have kf5 := (cell_of_block hs 0).2
      have kf6 := (cell_of_block hs 1).2
      have kf7 := (cell_of_block hs 2).2
      refine bodyPost_ret (v := .tuple #[.agg #[.int .i64 k1.1.ins, .slice A1 k1.1.gs.length c1, .bool k1.2], .int .i64 rr]) (by simp [results, Tryd.results91, go_sem, k5, k6, k7, kf5, kf6, kf7]) rfl ?_
      have hd1 : xs.drop xs.length = [] := List.drop_length
      have hd2 : ys.drop xs.length = [] := by rw [HL.out]; exact List.drop_length
      have hst2 := hst.out
      rw [hd1, hd2] at hst2
      have hT2 : T = (k1, rr) := by rw [← hst2]; rfl
      rw [hT2]
      exact HKS.out.one2.done HF.out
end Go.Proofs.YtjghcaghigebjaaDoor
