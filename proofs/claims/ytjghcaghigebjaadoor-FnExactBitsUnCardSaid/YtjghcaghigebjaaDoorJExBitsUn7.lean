/- The reference's l7Less, l7Same. Contracts of the reference's clauses and unit propagation: l4Clause, CnfOk, l5Sign, l5Look, l5Find. Contracts of the reference's unit propagation: l5Find, l5Vals, l5Units, l5Rup, RupOk. Contracts of the reference's unit propagation: l5Vals, l5Units, l5Rup, RupOk. Contracts of the reference's l5Rup and RupOk. The program's trail: what lies in memory; what is asked of it. The program's trail: next, push. The program's trail: push. Draws of clauses: l4Draw, l5Clause. The reference's l7Fill and l7Turn. The reference's l7Add. -/
import Derived.Test.YtjghcaghigebjaaDoorJExBitsUn0
import Derived.Test.YtjghcaghigebjaaDoorJExBitsUn1
import Derived.Test.YtjghcaghigebjaaDoorJExBitsUn3
import Derived.Test.YtjghcaghigebjaaDoorJExBitsUn4
import Derived.Test.YtjghcaghigebjaaDoorJExBitsUn5
import Derived.Test.YtjghcaghigebjaaDoorJExBitsUn6
/-! The reference's l7Less, l7Same. -/
namespace Go.Proofs.YtjghcaghigebjaaDoor
open Go Go.RowKit

theorem KS.two2 {F : Nat → Prop} {w x : World} {k : N × Bool} {A : Option Addr} {c : Nat} (h : KS F w x k A c) : KS2 F w x k A c (fun _ => False) := ⟨h.bel, h.var, h.res, h.row.mono fun b hb => hb.imp id fun h9 => ⟨h9.1, h9.2, fun e => e⟩, h.nil⟩
theorem KS2.one2 {F : Nat → Prop} {w x : World} {k : N × Bool} {A : Option Addr} {c : Nat} {S : Nat → Prop} (h : KS2 F w x k A c S) : KS F w x k A c := ⟨h.bel, h.var, h.res, h.row.mono fun b hb => hb.imp id fun h9 => ⟨h9.1, h9.2.1⟩, h.nil⟩
theorem opsR_xor_nb {k : N × Bool} {x y : Int} (h : NB k.1) (hx : RB x) (hy : RB y) : NB (opsR.xor k x y).1.1 ∧ RB (opsR.xor k x y).2 := stepR_nb h (xor1_nb h hx hy)
theorem opsR_and_nb {k : N × Bool} {x y : Int} (h : NB k.1) (hx : RB x) (hy : RB y) : NB (opsR.and k x y).1.1 ∧ RB (opsR.and k x y).2 := stepR_nb h (and1_nb h hx hy)
def KTup (F : Nat → Prop) (w : World) (m : (N × Bool) × Int) (v : Value) (z : World) : Prop := ∃ A2 c2, v = .tuple #[.agg #[.int .i64 m.1.1.ins, .slice A2 m.1.1.gs.length c2, .bool m.1.2], .int .i64 m.2] ∧ (A2 = none → m.1.1.gs.length = 0) ∧ Lay.gate.Sl z (G2 F w z (fun _ => False)) A2 m.1.1.gs ∧ w.heap.size ≤ z.heap.size
def KNet (F : Nat → Prop) (w : World) (m : (N × Bool) × Int) (v : Value) (z : World) : Prop := ∃ A2 c2, v = .agg #[.int .i64 m.1.1.ins, .slice A2 m.1.1.gs.length c2, .bool m.1.2] ∧ (A2 = none → m.1.1.gs.length = 0) ∧ Lay.gate.Sl z (G2 F w z (fun _ => False)) A2 m.1.1.gs ∧ w.heap.size ≤ z.heap.size
theorem g2_st {F : Nat → Prop} {w x y : World} {A : Option Addr} {gs : List G} (hF : ∀ b, F b → b < w.heap.size) (h3 : Lay.gate.Sl x (G2 F w x (fun _ => False)) A gs) (h4 : w.heap.size ≤ x.heap.size) (hR : x.grownBy y (some w.heap.size)) : Lay.gate.Sl y (G2 F w y (fun _ => False)) A gs :=
  (h3.keep fun b hb => hR.block b (hb.elim (fun h9 => Nat.lt_of_lt_of_le (hF b h9) h4) (fun h9 => h9.2.1)) (fun e => by injection e with e; exact hb.elim (fun h9 => by have := hF b h9; omega) (fun h9 => by omega))).mono fun b hb => hb.imp id fun h9 => ⟨h9.1, Nat.lt_of_lt_of_le h9.2.1 hR.size, h9.2.2⟩
theorem KTup.up {F : Nat → Prop} {w x y : World} {m : (N × Bool) × Int} {v : Value} (hF : ∀ b, F b → b < w.heap.size) (h : KTup F w m v x) (hb : Below x.heap.size x y) : KTup F w m v y := by
  obtain ⟨A2, c2, h1, h2, h3, h4⟩ := h
  exact ⟨A2, c2, h1, h2, G2.up2 h3 (fun b hb => Nat.lt_of_lt_of_le (hF b hb) h4) hb, Nat.le_trans h4 hb.size⟩
theorem KTup.st {F : Nat → Prop} {w x y : World} {m : (N × Bool) × Int} {v : Value} (hF : ∀ b, F b → b < w.heap.size) (h : KTup F w m v x) (hR : x.grownBy y (some w.heap.size)) : KTup F w m v y := by
  obtain ⟨A2, c2, h1, h2, h3, h4⟩ := h
  exact ⟨A2, c2, h1, h2, g2_st hF h3 h4 hR, Nat.le_trans h4 hR.size⟩
theorem KNet.up {F : Nat → Prop} {w x y : World} {m : (N × Bool) × Int} {v : Value} (hF : ∀ b, F b → b < w.heap.size) (h : KNet F w m v x) (hb : Below x.heap.size x y) : KNet F w m v y := by
  obtain ⟨A2, c2, h1, h2, h3, h4⟩ := h
  exact ⟨A2, c2, h1, h2, G2.up2 h3 (fun b hb => Nat.lt_of_lt_of_le (hF b hb) h4) hb, Nat.le_trans h4 hb.size⟩
theorem KNet.st {F : Nat → Prop} {w x y : World} {m : (N × Bool) × Int} {v : Value} (hF : ∀ b, F b → b < w.heap.size) (h : KNet F w m v x) (hR : x.grownBy y (some w.heap.size)) : KNet F w m v y := by
  obtain ⟨A2, c2, h1, h2, h3, h4⟩ := h
  exact ⟨A2, c2, h1, h2, g2_st hF h3 h4 hR, Nat.le_trans h4 hR.size⟩
set_option maxRecDepth 100000 in
set_option maxHeartbeats 4000000 in
theorem l7Less_any (F : Nat → Prop) (A : Option Addr) (c : Nat) (k : N × Bool) (X Y : Option Addr) (cx cy : Nat) (xs ys : List Int) (w : World) (h : Lay.gate.Sl w F A k.1.gs) (hF : ∀ b, F b → b < w.heap.size) (hA : A = none → k.1.gs.length = 0) (hnb : NB k.1) (hX : Lay.int.Rd w X xs) (hY : Lay.int.Rd w Y ys) (hxm : ∀ x ∈ xs, RB x) (hym : ∀ y ∈ ys, RB y) (hl : xs.length = ys.length) (hn : xs.length ≤ 1000) :
    Calls Tryd.prog 92 #[.agg #[.int .i64 k.1.ins, .slice A k.1.gs.length c, .bool k.2], .slice X xs.length cx, .slice Y ys.length cy] w (RetK F w (run opsR (lessP xs ys (-1)) k)) := by
  obtain ⟨T, hT⟩ : ∃ T, T = run opsR (lessP xs ys (-1)) k := ⟨_, rfl⟩
  rw [← hT]
  have HT := Lib.hid hT
  have K0 := Lib.hid (KS.two (c := c) h hF hA)
  have HF := Lib.hid hF
  have HNB := Lib.hid hnb
  have HX := Lib.hid hX
  have HY := Lib.hid hY
  have HXM := Lib.hid hxm
  have HYM := Lib.hid hym
  have HL := Lib.hid hl
  clear h hA hnb hX hY hxm hym hT
  rw [← hl]
  clear hl
  go_enter Tryd.func92, Tryd.ntmps92
  go_wp2
  generalize hX0 : (w.alloc (.cells #[.int .i64 k.1.ins, .slice A k.1.gs.length c, .bool k.2] 68)).alloc (.cells #[.int .i64 0, .slice none 0 0, .bool false] 68) = X0 at *
  clear hX0
  go_loopw [8, 9] (fun rv i wr => ∃ (j : Nat) (k1 : N × Bool) (rr : Int) (A1 : Option Addr) (c1 : Nat), j ≤ xs.length ∧ i = .int .i64 j ∧ rv = .int .i64 rr ∧ RB rr ∧ KS2 F w wr k1 A1 c1 (fun _ => False) ∧ NB k1.1 ∧ Hid (run opsR (lessP (xs.drop j) (ys.drop j) rr) k1 = T)) (fun _ i _ => xs.length - (intOf i).toNat)
  case atStart => exact ⟨0, k, (-1), A, c, Nat.zero_le _, rfl, rfl, by unfold RB; omega, K0.out.two2, HNB.out, Lib.hid (by rw [HT.out]; rfl)⟩
  case round =>
    obtain ⟨j, k1, rr, A1, c1, hj, rfl, rfl, hrr, hks, hnb1, hst⟩ := hrel
    have HRR := Lib.hid hrr
    have HKS := Lib.hid hks
    have HNB1 := Lib.hid hnb1
    clear hrr hks hnb1
    by_cases hlt : j < xs.length
    · have hlt2 : (j : Int) < xs.length := by omega
      have hlty : j < ys.length := by rw [← HL.out]; exact hlt
      obtain ⟨x, hx⟩ : ∃ x, xs[j]? = some x := ⟨_, List.getElem?_eq_getElem hlt⟩
      obtain ⟨y, hy⟩ : ∃ y, ys[j]? = some y := ⟨_, List.getElem?_eq_getElem hlty⟩
      have hxg : xs[j] = x := (List.getElem?_eq_some_iff.1 hx).2
      have hyg : ys[j] = y := (List.getElem?_eq_some_iff.1 hy).2
      have HXYM := Lib.hid (And.intro (HXM.out x (List.mem_of_getElem? hx)) (HYM.out y (List.mem_of_getElem? hy)))
      obtain ⟨adx, rfl, -, -⟩ := HX.out.at_int hlt
      obtain ⟨ady, rfl, -, -⟩ := HY.out.at_int hlty
      obtain ⟨m, hm⟩ : ∃ m, m = opsR.xor k1 x y := ⟨_, rfl⟩
      have HST := Lib.hid ((run_less (o := opsR) xs ys j x y hx hy k1 rr).symm.trans hst.out)
      have HM := Lib.hid hm
      have HMB : Hid (NB m.1.1 ∧ RB m.2) := Lib.hid (by rw [hm]; exact opsR_xor_nb HNB1.out HXYM.out.1 HXYM.out.2)
      have HRX : Hid (∀ z, Below w.heap.size w z → z.cell? (adx.add j) = some (.int .i64 x)) := Lib.hid fun z hz => by
        obtain ⟨ad, e, _, hc⟩ := (HX.out.up hz).at_int hlt
        injection e with e; subst e; rw [← hxg]; exact hc
      have HRY : Hid (∀ z, Below w.heap.size w z → z.cell? (ady.add j) = some (.int .i64 y)) := Lib.hid fun z hz => by
        obtain ⟨ad, e, _, hc⟩ := (HY.out.up hz).at_int hlty
        injection e with e; subst e; rw [← hyg]; exact hc
      clear hm hx hy hxg hyg hst hlty
      go_wp2
      refine wp_region_rel4 [[], [], [], [(1, 19), (2, 20)], [(3, 21)], [], [], [(5, 23), (6, 24)], [(7, 25)], [(0, 18), (4, 22), (8, 26)], [(9, 27)], [(10, 17)], [(10, 17)], [(11, 28)], [(12, 29)]]
        (fun x9 y9 => Below x9.heap.size x9 y9)
        [(13, fun x9 y9 => x9.grownBy y9 (some w.heap.size))]
        (fun f9 x9 => (f9 13 = false → KS2 F w x9 k1 A1 c1 (fun _ => False)) ∧ (f9 13 = true → ∃ A2 c2, KS2 F w x9 m.1 A2 c2 (fun _ => False)) ∧ Below w.heap.size w x9)
        [fun vs9 _ => vs9 0 = (.agg #[.int .i64 k1.1.ins, .slice A1 k1.1.gs.length c1, .bool k1.2]),
    fun vs9 _ => vs9 1 = (.slice (some adx) xs.length cx),
    fun vs9 _ => vs9 2 = (.int .i64 (j : Int)),
    fun vs9 _ => vs9 3 = (.pointer (some (adx.add j))),
    fun vs9 _ => vs9 4 = (.int .i64 x),
    fun vs9 _ => vs9 5 = (.slice (some ady) xs.length cy),
    fun vs9 _ => vs9 6 = (.int .i64 (j : Int)),
    fun vs9 _ => vs9 7 = (.pointer (some (ady.add j))),
    fun vs9 _ => vs9 8 = (.int .i64 y),
    fun vs9 y9 => (fun v z => KTup F w m v z) (vs9 9) y9,
    fun vs9 y9 => (fun v z => KTup F w m v z) (vs9 10) y9,
    fun vs9 y9 => (fun v z => KNet F w m v z) (vs9 11) y9,
    fun vs9 _ => vs9 12 = (.int .i64 m.2),
    fun _ _ => True,
    fun vs9 _ => vs9 14 = (.int .i64 m.2)]
        [(0, 18), (1, 19), (2, 20), (3, 21), (4, 22), (5, 23), (6, 24), (7, 25), (8, 26), (9, 27), (10, 17), (11, 28), (12, 29), (14, 10)] (by kernel_rfl) (by kernel_rfl) (by kernel_rfl) (by kernel_rfl)
        (fun _ => Below.refl _ _) ⟨fun _ => World.grownBy.refl _ _, trivial⟩
        ⟨⟨.inr (fun _ _ _ h _ => h), ⟨.inr (.inr (fun _ _ _ h _ => h)), trivial⟩⟩,
    ⟨.inr (fun _ _ _ h _ => h), ⟨.inr (.inr (fun _ _ _ h _ => h)), trivial⟩⟩,
    ⟨.inr (fun _ _ _ h _ => h), ⟨.inr (.inr (fun _ _ _ h _ => h)), trivial⟩⟩,
    ⟨.inr (fun _ _ _ h _ => h), ⟨.inr (.inr (fun _ _ _ h _ => h)), trivial⟩⟩,
    ⟨.inr (fun _ _ _ h _ => h), ⟨.inr (.inr (fun _ _ _ h _ => h)), trivial⟩⟩,
    ⟨.inr (fun _ _ _ h _ => h), ⟨.inr (.inr (fun _ _ _ h _ => h)), trivial⟩⟩,
    ⟨.inr (fun _ _ _ h _ => h), ⟨.inr (.inr (fun _ _ _ h _ => h)), trivial⟩⟩,
    ⟨.inr (fun _ _ _ h _ => h), ⟨.inr (.inr (fun _ _ _ h _ => h)), trivial⟩⟩,
    ⟨.inr (fun _ _ _ h _ => h), ⟨.inr (.inr (fun _ _ _ h _ => h)), trivial⟩⟩,
    ⟨.inr (fun vs9 x9 y9 h9 hR9 => (show ∀ v9 y8 y7, (fun v z => KTup F w m v z) v9 y8 → (fun x9 y9 => Below x9.heap.size x9 y9) y8 y7 → (fun v z => KTup F w m v z) v9 y7 from fun _ _ _ h9 hR => h9.up HF.out hR) (vs9 9) x9 y9 h9 hR9), ⟨.inr (.inr (fun vs9 x9 y9 h9 hR9 => (show ∀ v9 y8 y7, (fun v z => KTup F w m v z) v9 y8 → (fun x9 y9 => x9.grownBy y9 (some w.heap.size)) y8 y7 → (fun v z => KTup F w m v z) v9 y7 from fun _ _ _ h9 hR => h9.st HF.out hR) (vs9 9) x9 y9 h9 hR9)), trivial⟩⟩,
    ⟨.inr (fun vs9 x9 y9 h9 hR9 => (show ∀ v9 y8 y7, (fun v z => KTup F w m v z) v9 y8 → (fun x9 y9 => Below x9.heap.size x9 y9) y8 y7 → (fun v z => KTup F w m v z) v9 y7 from fun _ _ _ h9 hR => h9.up HF.out hR) (vs9 10) x9 y9 h9 hR9), ⟨.inr (.inr (fun vs9 x9 y9 h9 hR9 => (show ∀ v9 y8 y7, (fun v z => KTup F w m v z) v9 y8 → (fun x9 y9 => x9.grownBy y9 (some w.heap.size)) y8 y7 → (fun v z => KTup F w m v z) v9 y7 from fun _ _ _ h9 hR => h9.st HF.out hR) (vs9 10) x9 y9 h9 hR9)), trivial⟩⟩,
    ⟨.inr (fun vs9 x9 y9 h9 hR9 => (show ∀ v9 y8 y7, (fun v z => KNet F w m v z) v9 y8 → (fun x9 y9 => Below x9.heap.size x9 y9) y8 y7 → (fun v z => KNet F w m v z) v9 y7 from fun _ _ _ h9 hR => h9.up HF.out hR) (vs9 11) x9 y9 h9 hR9), ⟨.inr (.inr (fun vs9 x9 y9 h9 hR9 => (show ∀ v9 y8 y7, (fun v z => KNet F w m v z) v9 y8 → (fun x9 y9 => x9.grownBy y9 (some w.heap.size)) y8 y7 → (fun v z => KNet F w m v z) v9 y7 from fun _ _ _ h9 hR => h9.st HF.out hR) (vs9 11) x9 y9 h9 hR9)), trivial⟩⟩,
    ⟨.inr (fun _ _ _ h _ => h), ⟨.inr (.inr (fun _ _ _ h _ => h)), trivial⟩⟩,
    ⟨.inr (fun _ _ _ h _ => h), ⟨.inr (.inl rfl), trivial⟩⟩,
    ⟨.inr (fun _ _ _ h _ => h), ⟨.inr (.inr (fun _ _ _ h _ => h)), trivial⟩⟩, trivial⟩ ⟨fun vs vs' x h _ hv => (by dsimp only at hv ⊢; first | (rw [← h]; exact hv) | exact hv),
    fun vs vs' x h _ hv => (by dsimp only at hv ⊢; first | (rw [← h]; exact hv) | exact hv),
    fun vs vs' x h _ hv => (by dsimp only at hv ⊢; first | (rw [← h]; exact hv) | exact hv),
    fun vs vs' x h _ hv => (by dsimp only at hv ⊢; first | (rw [← h]; exact hv) | exact hv),
    fun vs vs' x h _ hv => (by dsimp only at hv ⊢; first | (rw [← h]; exact hv) | exact hv),
    fun vs vs' x h _ hv => (by dsimp only at hv ⊢; first | (rw [← h]; exact hv) | exact hv),
    fun vs vs' x h _ hv => (by dsimp only at hv ⊢; first | (rw [← h]; exact hv) | exact hv),
    fun vs vs' x h _ hv => (by dsimp only at hv ⊢; first | (rw [← h]; exact hv) | exact hv),
    fun vs vs' x h _ hv => (by dsimp only at hv ⊢; first | (rw [← h]; exact hv) | exact hv),
    fun vs vs' x h _ hv => (by dsimp only at hv ⊢; first | (rw [← h]; exact hv) | exact hv),
    fun vs vs' x h _ hv => (by dsimp only at hv ⊢; first | (rw [← h]; exact hv) | exact hv),
    fun vs vs' x h _ hv => (by dsimp only at hv ⊢; first | (rw [← h]; exact hv) | exact hv),
    fun vs vs' x h _ hv => (by dsimp only at hv ⊢; first | (rw [← h]; exact hv) | exact hv),
    fun _ _ _ _ _ _ => trivial,
    fun vs vs' x h _ hv => (by dsimp only at hv ⊢; first | (rw [← h]; exact hv) | exact hv), trivial⟩ (⟨fun _ => HKS.out.up HF.out (below_drewN (Below.refl _ _) 1), (fun h => by cases h), bthen HKS.out.bel (below_drewN (Below.refl _ _) 1)⟩) ⟨?_, ?_, ?_, ?_, ?_, ?_, ?_, ?_, ?_, ?_, ?_, ?_, ?_, ?_, ?_, trivial⟩ ?_
      · intro vals xw f hf1 hf2 hf3 hI hF
        have k13 : f 13 = false := hf3 13 (by kernel_rfl)
        clear hf2 hf3
        dsimp only [owes4, bare]
        simp only [putsD, Act.put, List.setIfInBounds_toArray, List.set_cons_zero, List.set_cons_succ]
        have hv9 := (hI.1 k13).var
        have y0 := (cell_of_block hv9 0).1
        have y1 := (cell_of_block hv9 1).1
        have y2 := (cell_of_block hv9 2).1
        go_wp2
        exact ⟨rfl, rfl, ⟨fun h9 => absurd h9 (Nat.ne_of_beq_eq_false rfl), fun _ => Below.refl _ _⟩, hI⟩
      · intro vals xw f hf1 hf2 hf3 hI hF
        clear hf2 hf3
        dsimp only [owes4, bare]
        simp only [putsD, Act.put, List.setIfInBounds_toArray, List.set_cons_zero, List.set_cons_succ]
        go_wp2
        exact ⟨rfl, rfl, ⟨fun h9 => absurd h9 (Nat.ne_of_beq_eq_false rfl), fun _ => Below.refl _ _⟩, hI⟩
      · intro vals xw f hf1 hf2 hf3 hI hF
        clear hf2 hf3
        dsimp only [owes4, bare]
        simp only [putsD, Act.put, List.setIfInBounds_toArray, List.set_cons_zero, List.set_cons_succ]
        go_wp2
        exact ⟨rfl, rfl, ⟨fun h9 => absurd h9 (Nat.ne_of_beq_eq_false rfl), fun _ => Below.refl _ _⟩, hI⟩
      · intro vals xw f hf1 hf2 hf3 hI hF
        clear hf2 hf3
        simp only [saysD, List.getD_cons_zero, List.getD_cons_succ, and_true] at hF
        obtain ⟨e19, e20⟩ := hF
        dsimp only [owes4, bare]
        simp only [putsD, Act.put, List.setIfInBounds_toArray, List.set_cons_zero, List.set_cons_succ]
        simp only [e19, e20]
        go_wp2
        exact ⟨rfl, rfl, ⟨fun h9 => absurd h9 (Nat.ne_of_beq_eq_false rfl), fun _ => Below.refl _ _⟩, hI⟩
      · intro vals xw f hf1 hf2 hf3 hI hF
        clear hf2 hf3
        simp only [saysD, List.getD_cons_zero, List.getD_cons_succ, and_true] at hF
        have e21 := hF
        dsimp only [owes4, bare]
        simp only [putsD, Act.put, List.setIfInBounds_toArray, List.set_cons_zero, List.set_cons_succ]
        simp only [e21]
        have c9 := HRX.out _ hI.2.2
        go_wp2
        exact ⟨rfl, rfl, ⟨fun h9 => absurd h9 (Nat.ne_of_beq_eq_false rfl), fun _ => Below.refl _ _⟩, hI⟩
      · intro vals xw f hf1 hf2 hf3 hI hF
        clear hf2 hf3
        dsimp only [owes4, bare]
        simp only [putsD, Act.put, List.setIfInBounds_toArray, List.set_cons_zero, List.set_cons_succ]
        go_wp2
        exact ⟨rfl, rfl, ⟨fun h9 => absurd h9 (Nat.ne_of_beq_eq_false rfl), fun _ => Below.refl _ _⟩, hI⟩
      · intro vals xw f hf1 hf2 hf3 hI hF
        clear hf2 hf3
        dsimp only [owes4, bare]
        simp only [putsD, Act.put, List.setIfInBounds_toArray, List.set_cons_zero, List.set_cons_succ]
        go_wp2
        exact ⟨rfl, rfl, ⟨fun h9 => absurd h9 (Nat.ne_of_beq_eq_false rfl), fun _ => Below.refl _ _⟩, hI⟩
      · intro vals xw f hf1 hf2 hf3 hI hF
        clear hf2 hf3
        simp only [saysD, List.getD_cons_zero, List.getD_cons_succ, and_true] at hF
        obtain ⟨e23, e24⟩ := hF
        dsimp only [owes4, bare]
        simp only [putsD, Act.put, List.setIfInBounds_toArray, List.set_cons_zero, List.set_cons_succ]
        simp only [e23, e24]
        go_wp2
        exact ⟨rfl, rfl, ⟨fun h9 => absurd h9 (Nat.ne_of_beq_eq_false rfl), fun _ => Below.refl _ _⟩, hI⟩
      · intro vals xw f hf1 hf2 hf3 hI hF
        clear hf2 hf3
        simp only [saysD, List.getD_cons_zero, List.getD_cons_succ, and_true] at hF
        have e25 := hF
        dsimp only [owes4, bare]
        simp only [putsD, Act.put, List.setIfInBounds_toArray, List.set_cons_zero, List.set_cons_succ]
        simp only [e25]
        have c9 := HRY.out _ hI.2.2
        go_wp2
        exact ⟨rfl, rfl, ⟨fun h9 => absurd h9 (Nat.ne_of_beq_eq_false rfl), fun _ => Below.refl _ _⟩, hI⟩
      · intro vals xw f hf1 hf2 hf3 hI hF
        have k13 : f 13 = false := hf3 13 (by kernel_rfl)
        clear hf2 hf3
        simp only [saysD, List.getD_cons_zero, List.getD_cons_succ, and_true] at hF
        obtain ⟨e18, e22, e26⟩ := hF
        dsimp only [owes4, bare]
        simp only [putsD, Act.put, List.setIfInBounds_toArray, List.set_cons_zero, List.set_cons_succ]
        simp only [e18, e22, e26]
        have HI := Lib.hid hI
        have HK := Lib.hid (hI.1 k13)
        have hsz9 := hI.2.2.size
        clear hI
        have HC := Lib.hid (l7Xor_any (G2 F w xw (fun _ => False)) A1 c1 k1 x y xw HK.out.row (KS2.lt HK.out.bel HF.out) HK.out.nil HNB1.out HXYM.out.1 HXYM.out.2)
        rw [← HM.out] at HC
        go_wp2_with fail
        refine HC.out.mono ?_
        rintro e wx ⟨A2, c2, rfl, h2, h3, h4⟩
        have H3 := Lib.hid h3
        have H4 := Lib.hid h4
        clear h3 h4 HC
        go_wp2
        refine ⟨rfl, ⟨A2, c2, rfl, h2, H3.out.mono ?_, Nat.le_trans hsz9 H4.out.size⟩, ⟨fun h9 => absurd h9 (Nat.ne_of_beq_eq_false rfl), fun _ => H4.out⟩, (fun h => (HI.out.1 h).up HF.out H4.out), (fun h => absurd (k13.symm.trans h) (by simp)), bthen HI.out.2.2 H4.out⟩
        intro b hb
        rcases hb with (h9 | h9) | h9
        · exact .inl h9
        · exact .inr ⟨h9.1, Nat.lt_of_lt_of_le h9.2.1 H4.out.size, h9.2.2⟩
        · exact .inr ⟨by have := HK.out.bel.size; have := lt_of_block HK.out.res; omega, h9.2, fun e => e⟩
      · intro vals xw f hf1 hf2 hf3 hI hF
        clear hf2 hf3
        simp only [saysD, List.getD_cons_zero, List.getD_cons_succ, and_true] at hF
        obtain ⟨A2, c2, e27, h2, h3, h4⟩ := hF
        dsimp only [owes4, bare]
        simp only [putsD, Act.put, List.setIfInBounds_toArray, List.set_cons_zero, List.set_cons_succ]
        simp only [e27]
        go_wp2
        exact ⟨rfl, ⟨A2, c2, rfl, h2, h3, h4⟩, ⟨fun h9 => absurd h9 (Nat.ne_of_beq_eq_false rfl), fun _ => Below.refl _ _⟩, hI⟩
      · intro vals xw f hf1 hf2 hf3 hI hF
        clear hf2 hf3
        simp only [saysD, List.getD_cons_zero, List.getD_cons_succ, and_true] at hF
        obtain ⟨A2, c2, e17, h2, h3, h4⟩ := hF
        dsimp only [owes4, bare]
        simp only [putsD, Act.put, List.setIfInBounds_toArray, List.set_cons_zero, List.set_cons_succ]
        simp only [e17]
        go_wp2
        exact ⟨rfl, ⟨A2, c2, rfl, h2, h3, h4⟩, ⟨fun h9 => absurd h9 (Nat.ne_of_beq_eq_false rfl), fun _ => Below.refl _ _⟩, hI⟩
      · intro vals xw f hf1 hf2 hf3 hI hF
        clear hf2 hf3
        simp only [saysD, List.getD_cons_zero, List.getD_cons_succ, and_true] at hF
        obtain ⟨A2, c2, e17, h2, h3, h4⟩ := hF
        dsimp only [owes4, bare]
        simp only [putsD, Act.put, List.setIfInBounds_toArray, List.set_cons_zero, List.set_cons_succ]
        simp only [e17]
        go_wp2
        exact ⟨rfl, rfl, ⟨fun h9 => absurd h9 (Nat.ne_of_beq_eq_false rfl), fun _ => Below.refl _ _⟩, hI⟩
      · intro vals xw f hf1 hf2 hf3 hI hF
        clear hf2 hf3
        simp only [saysD, List.getD_cons_zero, List.getD_cons_succ, and_true] at hF
        obtain ⟨A2, c2, e28, h2, h3, h4⟩ := hF
        dsimp only [owes4, bare]
        simp only [putsD, Act.put, List.setIfInBounds_toArray, List.set_cons_zero, List.set_cons_succ]
        simp only [e28]
        have HI := Lib.hid hI
        have HK := Lib.hid (hI.1 hf1)
        have hv9 := HK.out.var
        have y0 := (cell_of_block hv9 0).1
        have y1 := (cell_of_block hv9 1).1
        have y2 := (cell_of_block hv9 2).1
        have g0 := (cell_of_block hv9 0).2
        have g1 := (cell_of_block hv9 1).2
        have g2 := (cell_of_block hv9 2).2
        have H3 := Lib.hid h3
        clear hI hv9 h3 h4
        go_wp2
        have hset := HK.out.set (c' := c2) HF.out H3.out h2
        have hgr : xw.grownBy (st3 xw w.heap.size (.int .i64 m.1.1.ins) (.slice A2 m.1.1.gs.length c2) (.bool m.1.2)) (some w.heap.size) := only_setCell (only_setCell (only_setCell (World.grownBy.refl _ _) _ _) _ _) _ _
        exact ⟨rfl, trivial, ⟨fun _ => hgr, fun h9 => absurd rfl h9⟩, fun h => absurd ((did_same f 13).symm.trans h) (by simp), fun _ => ⟨A2, c2, hset⟩, st3_below HI.out.2.2 (Nat.le_refl _) _ _ _⟩
      · intro vals xw f hf1 hf2 hf3 hI hF
        clear hf2 hf3
        simp only [saysD, List.getD_cons_zero, List.getD_cons_succ, and_true] at hF
        have e29 := hF
        dsimp only [owes4, bare]
        simp only [putsD, Act.put, List.setIfInBounds_toArray, List.set_cons_zero, List.set_cons_succ]
        simp only [e29]
        go_wp2
        exact ⟨rfl, rfl, ⟨fun h9 => absurd h9 (Nat.ne_of_beq_eq_false rfl), fun _ => Below.refl _ _⟩, hI⟩
      · intro vals xw f hall hI hF
        rw [show List.range _ = [0, 1, 2, 3, 4, 5, 6, 7, 8, 9, 10, 11, 12, 13, 14] from rfl] at hF
        simp only [says, List.getD_cons_zero, List.getD_cons_succ, and_true] at hF
        obtain ⟨A2, c2, hk2⟩ := hI.2.1 (hall 13 (by decide))
        have e9 : vals 14 = .int .i64 m.2 := by obtain ⟨_, _, _, _, _, _, _, _, _, _, _, _, _, _, e9⟩ := hF; exact e9
        have HK2 := Lib.hid hk2
        clear hF hk2 hI
        simp only [putsD, Act.put, List.setIfInBounds_toArray, List.set_cons_zero, List.set_cons_succ]
        simp only [e9]
        clear e9
        have hmb := HMB.out.2
        obtain ⟨hm0, hm1⟩ := hmb
        obtain ⟨p, hp⟩ : ∃ p, p = run opsR (muxP m.2 y rr) m.1 := ⟨_, rfl⟩
        have HP := Lib.hid hp
        have HPB : Hid (NB p.1.1 ∧ RB p.2) := Lib.hid (by rw [hp]; exact mux_rb HMB.out.1 HMB.out.2 HXYM.out.2 HRR.out)
        clear hp
        go_wp2
        refine wp_region_rel4 [[], [], [], [], [(2, 33), (3, 34)], [(4, 35)], [], [(0, 31), (1, 32), (5, 36), (6, 37)], [(7, 38)], [(8, 30)], [(8, 30)], [(9, 39)], [(10, 40)]]
          (fun x9 y9 => Below x9.heap.size x9 y9)
          [(11, fun x9 y9 => x9.grownBy y9 (some w.heap.size))]
          (fun f9 x9 => (f9 11 = false → KS2 F w x9 m.1 A2 c2 (fun _ => False)) ∧ (f9 11 = true → ∃ A3 c3, KS2 F w x9 p.1 A3 c3 (fun _ => False)) ∧ Below w.heap.size w x9)
          [fun vs9 _ => vs9 0 = (.agg #[.int .i64 m.1.1.ins, .slice A2 m.1.1.gs.length c2, .bool m.1.2]),
    fun vs9 _ => vs9 1 = (.int .i64 m.2),
    fun vs9 _ => vs9 2 = (.slice (some ady) xs.length cy),
    fun vs9 _ => vs9 3 = (.int .i64 (j : Int)),
    fun vs9 _ => vs9 4 = (.pointer (some (ady.add j))),
    fun vs9 _ => vs9 5 = (.int .i64 y),
    fun vs9 _ => vs9 6 = (.int .i64 rr),
    fun vs9 y9 => (fun v z => KTup F w p v z) (vs9 7) y9,
    fun vs9 y9 => (fun v z => KTup F w p v z) (vs9 8) y9,
    fun vs9 y9 => (fun v z => KNet F w p v z) (vs9 9) y9,
    fun vs9 _ => vs9 10 = (.int .i64 p.2),
    fun _ _ => True,
    fun vs9 _ => vs9 12 = (.int .i64 p.2)]
          [(0, 31), (1, 32), (2, 33), (3, 34), (4, 35), (5, 36), (6, 37), (7, 38), (8, 30), (9, 39), (10, 40), (12, 8)] (by kernel_rfl) (by kernel_rfl) (by kernel_rfl) (by kernel_rfl)
          (fun _ => Below.refl _ _) ⟨fun _ => World.grownBy.refl _ _, trivial⟩
          ⟨⟨.inr (fun _ _ _ h _ => h), ⟨.inr (.inr (fun _ _ _ h _ => h)), trivial⟩⟩,
    ⟨.inr (fun _ _ _ h _ => h), ⟨.inr (.inr (fun _ _ _ h _ => h)), trivial⟩⟩,
    ⟨.inr (fun _ _ _ h _ => h), ⟨.inr (.inr (fun _ _ _ h _ => h)), trivial⟩⟩,
    ⟨.inr (fun _ _ _ h _ => h), ⟨.inr (.inr (fun _ _ _ h _ => h)), trivial⟩⟩,
    ⟨.inr (fun _ _ _ h _ => h), ⟨.inr (.inr (fun _ _ _ h _ => h)), trivial⟩⟩,
    ⟨.inr (fun _ _ _ h _ => h), ⟨.inr (.inr (fun _ _ _ h _ => h)), trivial⟩⟩,
    ⟨.inr (fun _ _ _ h _ => h), ⟨.inr (.inr (fun _ _ _ h _ => h)), trivial⟩⟩,
    ⟨.inr (fun vs9 x9 y9 h9 hR9 => (show ∀ v9 y8 y7, (fun v z => KTup F w p v z) v9 y8 → (fun x9 y9 => Below x9.heap.size x9 y9) y8 y7 → (fun v z => KTup F w p v z) v9 y7 from fun _ _ _ h9 hR => h9.up HF.out hR) (vs9 7) x9 y9 h9 hR9), ⟨.inr (.inr (fun vs9 x9 y9 h9 hR9 => (show ∀ v9 y8 y7, (fun v z => KTup F w p v z) v9 y8 → (fun x9 y9 => x9.grownBy y9 (some w.heap.size)) y8 y7 → (fun v z => KTup F w p v z) v9 y7 from fun _ _ _ h9 hR => h9.st HF.out hR) (vs9 7) x9 y9 h9 hR9)), trivial⟩⟩,
    ⟨.inr (fun vs9 x9 y9 h9 hR9 => (show ∀ v9 y8 y7, (fun v z => KTup F w p v z) v9 y8 → (fun x9 y9 => Below x9.heap.size x9 y9) y8 y7 → (fun v z => KTup F w p v z) v9 y7 from fun _ _ _ h9 hR => h9.up HF.out hR) (vs9 8) x9 y9 h9 hR9), ⟨.inr (.inr (fun vs9 x9 y9 h9 hR9 => (show ∀ v9 y8 y7, (fun v z => KTup F w p v z) v9 y8 → (fun x9 y9 => x9.grownBy y9 (some w.heap.size)) y8 y7 → (fun v z => KTup F w p v z) v9 y7 from fun _ _ _ h9 hR => h9.st HF.out hR) (vs9 8) x9 y9 h9 hR9)), trivial⟩⟩,
    ⟨.inr (fun vs9 x9 y9 h9 hR9 => (show ∀ v9 y8 y7, (fun v z => KNet F w p v z) v9 y8 → (fun x9 y9 => Below x9.heap.size x9 y9) y8 y7 → (fun v z => KNet F w p v z) v9 y7 from fun _ _ _ h9 hR => h9.up HF.out hR) (vs9 9) x9 y9 h9 hR9), ⟨.inr (.inr (fun vs9 x9 y9 h9 hR9 => (show ∀ v9 y8 y7, (fun v z => KNet F w p v z) v9 y8 → (fun x9 y9 => x9.grownBy y9 (some w.heap.size)) y8 y7 → (fun v z => KNet F w p v z) v9 y7 from fun _ _ _ h9 hR => h9.st HF.out hR) (vs9 9) x9 y9 h9 hR9)), trivial⟩⟩,
    ⟨.inr (fun _ _ _ h _ => h), ⟨.inr (.inr (fun _ _ _ h _ => h)), trivial⟩⟩,
    ⟨.inr (fun _ _ _ h _ => h), ⟨.inr (.inl rfl), trivial⟩⟩,
    ⟨.inr (fun _ _ _ h _ => h), ⟨.inr (.inr (fun _ _ _ h _ => h)), trivial⟩⟩, trivial⟩ ⟨fun vs vs' x h _ hv => (by dsimp only at hv ⊢; first | (rw [← h]; exact hv) | exact hv),
    fun vs vs' x h _ hv => (by dsimp only at hv ⊢; first | (rw [← h]; exact hv) | exact hv),
    fun vs vs' x h _ hv => (by dsimp only at hv ⊢; first | (rw [← h]; exact hv) | exact hv),
    fun vs vs' x h _ hv => (by dsimp only at hv ⊢; first | (rw [← h]; exact hv) | exact hv),
    fun vs vs' x h _ hv => (by dsimp only at hv ⊢; first | (rw [← h]; exact hv) | exact hv),
    fun vs vs' x h _ hv => (by dsimp only at hv ⊢; first | (rw [← h]; exact hv) | exact hv),
    fun vs vs' x h _ hv => (by dsimp only at hv ⊢; first | (rw [← h]; exact hv) | exact hv),
    fun vs vs' x h _ hv => (by dsimp only at hv ⊢; first | (rw [← h]; exact hv) | exact hv),
    fun vs vs' x h _ hv => (by dsimp only at hv ⊢; first | (rw [← h]; exact hv) | exact hv),
    fun vs vs' x h _ hv => (by dsimp only at hv ⊢; first | (rw [← h]; exact hv) | exact hv),
    fun vs vs' x h _ hv => (by dsimp only at hv ⊢; first | (rw [← h]; exact hv) | exact hv),
    fun _ _ _ _ _ _ => trivial,
    fun vs vs' x h _ hv => (by dsimp only at hv ⊢; first | (rw [← h]; exact hv) | exact hv), trivial⟩ (⟨fun _ => HK2.out.up HF.out (below_drewN (Below.refl _ _) 1), (fun h => by cases h), bthen HK2.out.bel (below_drewN (Below.refl _ _) 1)⟩) ⟨?_, ?_, ?_, ?_, ?_, ?_, ?_, ?_, ?_, ?_, ?_, ?_, ?_, trivial⟩ ?_
        · intro vals xw f hf1 hf2 hf3 hI hF
          have k11 : f 11 = false := hf3 11 (by kernel_rfl)
          clear hf2 hf3
          dsimp only [owes4, bare]
          simp only [putsD, Act.put, List.setIfInBounds_toArray, List.set_cons_zero, List.set_cons_succ]
          have hv9 := (hI.1 k11).var
          have y0 := (cell_of_block hv9 0).1
          have y1 := (cell_of_block hv9 1).1
          have y2 := (cell_of_block hv9 2).1
          go_wp2
          exact ⟨rfl, rfl, ⟨fun h9 => absurd h9 (Nat.ne_of_beq_eq_false rfl), fun _ => Below.refl _ _⟩, hI⟩
        · intro vals xw f hf1 hf2 hf3 hI hF
          clear hf2 hf3
          dsimp only [owes4, bare]
          simp only [putsD, Act.put, List.setIfInBounds_toArray, List.set_cons_zero, List.set_cons_succ]
          go_wp2
          exact ⟨rfl, rfl, ⟨fun h9 => absurd h9 (Nat.ne_of_beq_eq_false rfl), fun _ => Below.refl _ _⟩, hI⟩
        · intro vals xw f hf1 hf2 hf3 hI hF
          clear hf2 hf3
          dsimp only [owes4, bare]
          simp only [putsD, Act.put, List.setIfInBounds_toArray, List.set_cons_zero, List.set_cons_succ]
          go_wp2
          exact ⟨rfl, rfl, ⟨fun h9 => absurd h9 (Nat.ne_of_beq_eq_false rfl), fun _ => Below.refl _ _⟩, hI⟩
        · intro vals xw f hf1 hf2 hf3 hI hF
          clear hf2 hf3
          dsimp only [owes4, bare]
          simp only [putsD, Act.put, List.setIfInBounds_toArray, List.set_cons_zero, List.set_cons_succ]
          go_wp2
          exact ⟨rfl, rfl, ⟨fun h9 => absurd h9 (Nat.ne_of_beq_eq_false rfl), fun _ => Below.refl _ _⟩, hI⟩
        · intro vals xw f hf1 hf2 hf3 hI hF
          clear hf2 hf3
          simp only [saysD, List.getD_cons_zero, List.getD_cons_succ, and_true] at hF
          obtain ⟨e33, e34⟩ := hF
          dsimp only [owes4, bare]
          simp only [putsD, Act.put, List.setIfInBounds_toArray, List.set_cons_zero, List.set_cons_succ]
          simp only [e33, e34]
          go_wp2
          exact ⟨rfl, rfl, ⟨fun h9 => absurd h9 (Nat.ne_of_beq_eq_false rfl), fun _ => Below.refl _ _⟩, hI⟩
        · intro vals xw f hf1 hf2 hf3 hI hF
          clear hf2 hf3
          simp only [saysD, List.getD_cons_zero, List.getD_cons_succ, and_true] at hF
          have e35 := hF
          dsimp only [owes4, bare]
          simp only [putsD, Act.put, List.setIfInBounds_toArray, List.set_cons_zero, List.set_cons_succ]
          simp only [e35]
          have c9 := HRY.out _ hI.2.2
          go_wp2
          exact ⟨rfl, rfl, ⟨fun h9 => absurd h9 (Nat.ne_of_beq_eq_false rfl), fun _ => Below.refl _ _⟩, hI⟩
        · intro vals xw f hf1 hf2 hf3 hI hF
          clear hf2 hf3
          dsimp only [owes4, bare]
          simp only [putsD, Act.put, List.setIfInBounds_toArray, List.set_cons_zero, List.set_cons_succ]
          go_wp2
          exact ⟨rfl, rfl, ⟨fun h9 => absurd h9 (Nat.ne_of_beq_eq_false rfl), fun _ => Below.refl _ _⟩, hI⟩
        · intro vals xw f hf1 hf2 hf3 hI hF
          have k11 : f 11 = false := hf3 11 (by kernel_rfl)
          clear hf2 hf3
          simp only [saysD, List.getD_cons_zero, List.getD_cons_succ, and_true] at hF
          obtain ⟨e31, e32, e36, e37⟩ := hF
          dsimp only [owes4, bare]
          simp only [putsD, Act.put, List.setIfInBounds_toArray, List.set_cons_zero, List.set_cons_succ]
          simp only [e31, e32, e36, e37]
          have HI := Lib.hid hI
          have HK := Lib.hid (hI.1 k11)
          have hsz9 := hI.2.2.size
          clear hI
          have HC := Lib.hid (l7One_any (G2 F w xw (fun _ => False)) A2 c2 m.1 m.2 y rr xw HK.out.row (KS2.lt HK.out.bel HF.out) HK.out.nil HMB.out.1 HMB.out.2 HXYM.out.2 HRR.out)
          rw [← HP.out] at HC
          go_wp2_with fail
          refine HC.out.mono ?_
          rintro e wx ⟨A3, c3, rfl, h2, h3, h4⟩
          have H3 := Lib.hid h3
          have H4 := Lib.hid h4
          clear h3 h4 HC
          go_wp2
          refine ⟨rfl, ⟨A3, c3, rfl, h2, H3.out.mono ?_, Nat.le_trans hsz9 H4.out.size⟩, ⟨fun h9 => absurd h9 (Nat.ne_of_beq_eq_false rfl), fun _ => H4.out⟩, (fun h => (HI.out.1 h).up HF.out H4.out), (fun h => absurd (k11.symm.trans h) (by simp)), bthen HI.out.2.2 H4.out⟩
          intro b hb
          rcases hb with (h9 | h9) | h9
          · exact .inl h9
          · exact .inr ⟨h9.1, Nat.lt_of_lt_of_le h9.2.1 H4.out.size, h9.2.2⟩
          · exact .inr ⟨by have := HK.out.bel.size; have := lt_of_block HK.out.res; omega, h9.2, fun e => e⟩
        · intro vals xw f hf1 hf2 hf3 hI hF
          clear hf2 hf3
          simp only [saysD, List.getD_cons_zero, List.getD_cons_succ, and_true] at hF
          obtain ⟨A3, c3, e38, h2, h3, h4⟩ := hF
          dsimp only [owes4, bare]
          simp only [putsD, Act.put, List.setIfInBounds_toArray, List.set_cons_zero, List.set_cons_succ]
          simp only [e38]
          go_wp2
          exact ⟨rfl, ⟨A3, c3, rfl, h2, h3, h4⟩, ⟨fun h9 => absurd h9 (Nat.ne_of_beq_eq_false rfl), fun _ => Below.refl _ _⟩, hI⟩
        · intro vals xw f hf1 hf2 hf3 hI hF
          clear hf2 hf3
          simp only [saysD, List.getD_cons_zero, List.getD_cons_succ, and_true] at hF
          obtain ⟨A3, c3, e30, h2, h3, h4⟩ := hF
          dsimp only [owes4, bare]
          simp only [putsD, Act.put, List.setIfInBounds_toArray, List.set_cons_zero, List.set_cons_succ]
          simp only [e30]
          go_wp2
          exact ⟨rfl, ⟨A3, c3, rfl, h2, h3, h4⟩, ⟨fun h9 => absurd h9 (Nat.ne_of_beq_eq_false rfl), fun _ => Below.refl _ _⟩, hI⟩
        · intro vals xw f hf1 hf2 hf3 hI hF
          clear hf2 hf3
          simp only [saysD, List.getD_cons_zero, List.getD_cons_succ, and_true] at hF
          obtain ⟨A3, c3, e30, h2, h3, h4⟩ := hF
          dsimp only [owes4, bare]
          simp only [putsD, Act.put, List.setIfInBounds_toArray, List.set_cons_zero, List.set_cons_succ]
          simp only [e30]
          go_wp2
          exact ⟨rfl, rfl, ⟨fun h9 => absurd h9 (Nat.ne_of_beq_eq_false rfl), fun _ => Below.refl _ _⟩, hI⟩
        · intro vals xw f hf1 hf2 hf3 hI hF
          clear hf2 hf3
          simp only [saysD, List.getD_cons_zero, List.getD_cons_succ, and_true] at hF
          obtain ⟨A3, c3, e39, h2, h3, h4⟩ := hF
          dsimp only [owes4, bare]
          simp only [putsD, Act.put, List.setIfInBounds_toArray, List.set_cons_zero, List.set_cons_succ]
          simp only [e39]
          have HI := Lib.hid hI
          have HK := Lib.hid (hI.1 hf1)
          have hv9 := HK.out.var
          have y0 := (cell_of_block hv9 0).1
          have y1 := (cell_of_block hv9 1).1
          have y2 := (cell_of_block hv9 2).1
          have g0 := (cell_of_block hv9 0).2
          have g1 := (cell_of_block hv9 1).2
          have g2 := (cell_of_block hv9 2).2
          have H3 := Lib.hid h3
          clear hI hv9 h3 h4
          go_wp2
          have hset := HK.out.set (c' := c3) HF.out H3.out h2
          have hgr : xw.grownBy (st3 xw w.heap.size (.int .i64 p.1.1.ins) (.slice A3 p.1.1.gs.length c3) (.bool p.1.2)) (some w.heap.size) := only_setCell (only_setCell (only_setCell (World.grownBy.refl _ _) _ _) _ _) _ _
          exact ⟨rfl, trivial, ⟨fun _ => hgr, fun h9 => absurd rfl h9⟩, fun h => absurd ((did_same f 11).symm.trans h) (by simp), fun _ => ⟨A3, c3, hset⟩, st3_below HI.out.2.2 (Nat.le_refl _) _ _ _⟩
        · intro vals xw f hf1 hf2 hf3 hI hF
          clear hf2 hf3
          simp only [saysD, List.getD_cons_zero, List.getD_cons_succ, and_true] at hF
          have e40 := hF
          dsimp only [owes4, bare]
          simp only [putsD, Act.put, List.setIfInBounds_toArray, List.set_cons_zero, List.set_cons_succ]
          simp only [e40]
          go_wp2
          exact ⟨rfl, rfl, ⟨fun h9 => absurd h9 (Nat.ne_of_beq_eq_false rfl), fun _ => Below.refl _ _⟩, hI⟩
        · intro vals xw f hall hI hF
          rw [show List.range _ = [0, 1, 2, 3, 4, 5, 6, 7, 8, 9, 10, 11, 12] from rfl] at hF
          simp only [says, List.getD_cons_zero, List.getD_cons_succ, and_true] at hF
          obtain ⟨A3, c3, hk2⟩ := hI.2.1 (hall 11 (by decide))
          have e9 : vals 12 = .int .i64 p.2 := by obtain ⟨_, _, _, _, _, _, _, _, _, _, _, _, e9⟩ := hF; exact e9
          have HK2 := Lib.hid hk2
          clear hF hk2 hI
          simp only [putsD, Act.put, List.setIfInBounds_toArray, List.set_cons_zero, List.set_cons_succ]
          simp only [e9]
          clear e9
          go_wp2
          go_roundw
          case rel => exact ⟨j + 1, p.1, p.2, A3, c3, by omega, by go_num, rfl, HPB.out.2, HK2.out, HPB.out.1, Lib.hid (by rw [HP.out, HM.out]; exact HST.out)⟩
          case measure => simp [intOf]; omega
    · have hje : j = xs.length := by omega
      subst hje
      have hlt2 : ¬ ((xs.length : Nat) : Int) < xs.length := by omega
      have hv9 := HKS.out.var
      have y0 := (cell_of_block hv9 0).1
      have y1 := (cell_of_block hv9 1).1
      have y2 := (cell_of_block hv9 2).1
      have hr9 := HKS.out.res
      have r0 := (cell_of_block hr9 0).1
      have r1 := (cell_of_block hr9 1).1
      have r2 := (cell_of_block hr9 2).1
      have rf0 := (cell_of_block hr9 0).2
      have rf1 := (cell_of_block hr9 1).2
      have rf2 := (cell_of_block hr9 2).2
      clear hv9 hr9
      go_wp2
      have hs := st3_same HKS.out.res (.int .i64 k1.1.ins) (.slice A1 k1.1.gs.length c1) (.bool k1.2)
      have k5 := (cell_of_block hs 0).1
      have k6 := (cell_of_block hs 1).1
      have k7 := (cell_of_block hs 2).1
      have kf5 := (cell_of_block hs 0).2
      have kf6 := (cell_of_block hs 1).2
      have kf7 := (cell_of_block hs 2).2
      refine bodyPost_ret (v := .tuple #[.agg #[.int .i64 k1.1.ins, .slice A1 k1.1.gs.length c1, .bool k1.2], .int .i64 rr]) (by simp [results, Tryd.results92, go_sem, k5, k6, k7, kf5, kf6, kf7]) rfl ?_
      have hd1 : xs.drop xs.length = [] := List.drop_length
      have hd2 : ys.drop xs.length = [] := by rw [HL.out]; exact List.drop_length
      have hst2 := hst.out
      rw [hd1, hd2] at hst2
      have hT2 : T = (k1, rr) := by rw [← hst2]; rfl
      rw [hT2]
      exact HKS.out.one2.done HF.out
set_option maxRecDepth 100000 in
set_option maxHeartbeats 4000000 in
theorem l7Same_any (F : Nat → Prop) (A : Option Addr) (c : Nat) (k : N × Bool) (X Y : Option Addr) (cx cy : Nat) (xs ys : List Int) (w : World) (h : Lay.gate.Sl w F A k.1.gs) (hF : ∀ b, F b → b < w.heap.size) (hA : A = none → k.1.gs.length = 0) (hnb : NB k.1) (hX : Lay.int.Rd w X xs) (hY : Lay.int.Rd w Y ys) (hxm : ∀ x ∈ xs, RB x) (hym : ∀ y ∈ ys, RB y) (hl : xs.length = ys.length) (hn : xs.length ≤ 1000) :
    Calls Tryd.prog 91 #[.agg #[.int .i64 k.1.ins, .slice A k.1.gs.length c, .bool k.2], .slice X xs.length cx, .slice Y ys.length cy] w (RetK F w (run opsR (sameP xs ys 1) k)) := by
  obtain ⟨T, hT⟩ : ∃ T, T = run opsR (sameP xs ys 1) k := ⟨_, rfl⟩
  rw [← hT]
  have HT := Lib.hid hT
  have K0 := Lib.hid (KS.two (c := c) h hF hA)
  have HF := Lib.hid hF
  have HNB := Lib.hid hnb
  have HX := Lib.hid hX
  have HY := Lib.hid hY
  have HXM := Lib.hid hxm
  have HYM := Lib.hid hym
  have HL := Lib.hid hl
  clear h hA hnb hX hY hxm hym hT
  rw [← hl]
  clear hl
  go_enter Tryd.func91, Tryd.ntmps91
  go_wp2
  generalize hX0 : (w.alloc (.cells #[.int .i64 k.1.ins, .slice A k.1.gs.length c, .bool k.2] 68)).alloc (.cells #[.int .i64 0, .slice none 0 0, .bool false] 68) = X0 at *
  clear hX0
  go_loopw [8, 9] (fun rv i wr => ∃ (j : Nat) (k1 : N × Bool) (rr : Int) (A1 : Option Addr) (c1 : Nat), j ≤ xs.length ∧ i = .int .i64 j ∧ rv = .int .i64 rr ∧ RB rr ∧ KS2 F w wr k1 A1 c1 (fun _ => False) ∧ NB k1.1 ∧ Hid (run opsR (sameP (xs.drop j) (ys.drop j) rr) k1 = T)) (fun _ i _ => xs.length - (intOf i).toNat)
  case atStart => exact ⟨0, k, 1, A, c, Nat.zero_le _, rfl, rfl, by unfold RB; omega, K0.out.two2, HNB.out, Lib.hid (by rw [HT.out]; rfl)⟩
  case round =>
    obtain ⟨j, k1, rr, A1, c1, hj, rfl, rfl, hrr, hks, hnb1, hst⟩ := hrel
    have HRR := Lib.hid hrr
    have HKS := Lib.hid hks
    have HNB1 := Lib.hid hnb1
    clear hrr hks hnb1
    by_cases hlt : j < xs.length
    · have hlt2 : (j : Int) < xs.length := by omega
      have hlty : j < ys.length := by rw [← HL.out]; exact hlt
      obtain ⟨x, hx⟩ : ∃ x, xs[j]? = some x := ⟨_, List.getElem?_eq_getElem hlt⟩
      obtain ⟨y, hy⟩ : ∃ y, ys[j]? = some y := ⟨_, List.getElem?_eq_getElem hlty⟩
      have hxg : xs[j] = x := (List.getElem?_eq_some_iff.1 hx).2
      have hyg : ys[j] = y := (List.getElem?_eq_some_iff.1 hy).2
      have HXYM := Lib.hid (And.intro (HXM.out x (List.mem_of_getElem? hx)) (HYM.out y (List.mem_of_getElem? hy)))
      obtain ⟨adx, rfl, -, -⟩ := HX.out.at_int hlt
      obtain ⟨ady, rfl, -, -⟩ := HY.out.at_int hlty
      obtain ⟨m, hm⟩ : ∃ m, m = opsR.xor k1 x y := ⟨_, rfl⟩
      have HST := Lib.hid ((run_same (o := opsR) xs ys j x y hx hy k1 rr).symm.trans hst.out)
      have HM := Lib.hid hm
      have HMB : Hid (NB m.1.1 ∧ RB m.2) := Lib.hid (by rw [hm]; exact opsR_xor_nb HNB1.out HXYM.out.1 HXYM.out.2)
      have HRX : Hid (∀ z, Below w.heap.size w z → z.cell? (adx.add j) = some (.int .i64 x)) := Lib.hid fun z hz => by
        obtain ⟨ad, e, _, hc⟩ := (HX.out.up hz).at_int hlt
        injection e with e; subst e; rw [← hxg]; exact hc
      have HRY : Hid (∀ z, Below w.heap.size w z → z.cell? (ady.add j) = some (.int .i64 y)) := Lib.hid fun z hz => by
        obtain ⟨ad, e, _, hc⟩ := (HY.out.up hz).at_int hlty
        injection e with e; subst e; rw [← hyg]; exact hc
      clear hm hx hy hxg hyg hst hlty
      go_wp2
      refine wp_region_rel4 [[], [], [], [(1, 19), (2, 20)], [(3, 21)], [], [], [(5, 23), (6, 24)], [(7, 25)], [(0, 18), (4, 22), (8, 26)], [(9, 27)], [(10, 17)], [(10, 17)], [(11, 28)], [(12, 29)]]
        (fun x9 y9 => Below x9.heap.size x9 y9)
        [(13, fun x9 y9 => x9.grownBy y9 (some w.heap.size))]
        (fun f9 x9 => (f9 13 = false → KS2 F w x9 k1 A1 c1 (fun _ => False)) ∧ (f9 13 = true → ∃ A2 c2, KS2 F w x9 m.1 A2 c2 (fun _ => False)) ∧ Below w.heap.size w x9)
        [fun vs9 _ => vs9 0 = (.agg #[.int .i64 k1.1.ins, .slice A1 k1.1.gs.length c1, .bool k1.2]),
    fun vs9 _ => vs9 1 = (.slice (some adx) xs.length cx),
    fun vs9 _ => vs9 2 = (.int .i64 (j : Int)),
    fun vs9 _ => vs9 3 = (.pointer (some (adx.add j))),
    fun vs9 _ => vs9 4 = (.int .i64 x),
    fun vs9 _ => vs9 5 = (.slice (some ady) xs.length cy),
    fun vs9 _ => vs9 6 = (.int .i64 (j : Int)),
    fun vs9 _ => vs9 7 = (.pointer (some (ady.add j))),
    fun vs9 _ => vs9 8 = (.int .i64 y),
    fun vs9 y9 => (fun v z => KTup F w m v z) (vs9 9) y9,
    fun vs9 y9 => (fun v z => KTup F w m v z) (vs9 10) y9,
    fun vs9 y9 => (fun v z => KNet F w m v z) (vs9 11) y9,
    fun vs9 _ => vs9 12 = (.int .i64 m.2),
    fun _ _ => True,
    fun vs9 _ => vs9 14 = (.int .i64 m.2)]
        [(0, 18), (1, 19), (2, 20), (3, 21), (4, 22), (5, 23), (6, 24), (7, 25), (8, 26), (9, 27), (10, 17), (11, 28), (12, 29), (14, 10)] (by kernel_rfl) (by kernel_rfl) (by kernel_rfl) (by kernel_rfl)
        (fun _ => Below.refl _ _) ⟨fun _ => World.grownBy.refl _ _, trivial⟩
        ⟨⟨.inr (fun _ _ _ h _ => h), ⟨.inr (.inr (fun _ _ _ h _ => h)), trivial⟩⟩,
    ⟨.inr (fun _ _ _ h _ => h), ⟨.inr (.inr (fun _ _ _ h _ => h)), trivial⟩⟩,
    ⟨.inr (fun _ _ _ h _ => h), ⟨.inr (.inr (fun _ _ _ h _ => h)), trivial⟩⟩,
    ⟨.inr (fun _ _ _ h _ => h), ⟨.inr (.inr (fun _ _ _ h _ => h)), trivial⟩⟩,
    ⟨.inr (fun _ _ _ h _ => h), ⟨.inr (.inr (fun _ _ _ h _ => h)), trivial⟩⟩,
    ⟨.inr (fun _ _ _ h _ => h), ⟨.inr (.inr (fun _ _ _ h _ => h)), trivial⟩⟩,
    ⟨.inr (fun _ _ _ h _ => h), ⟨.inr (.inr (fun _ _ _ h _ => h)), trivial⟩⟩,
    ⟨.inr (fun _ _ _ h _ => h), ⟨.inr (.inr (fun _ _ _ h _ => h)), trivial⟩⟩,
    ⟨.inr (fun _ _ _ h _ => h), ⟨.inr (.inr (fun _ _ _ h _ => h)), trivial⟩⟩,
    ⟨.inr (fun vs9 x9 y9 h9 hR9 => (show ∀ v9 y8 y7, (fun v z => KTup F w m v z) v9 y8 → (fun x9 y9 => Below x9.heap.size x9 y9) y8 y7 → (fun v z => KTup F w m v z) v9 y7 from fun _ _ _ h9 hR => h9.up HF.out hR) (vs9 9) x9 y9 h9 hR9), ⟨.inr (.inr (fun vs9 x9 y9 h9 hR9 => (show ∀ v9 y8 y7, (fun v z => KTup F w m v z) v9 y8 → (fun x9 y9 => x9.grownBy y9 (some w.heap.size)) y8 y7 → (fun v z => KTup F w m v z) v9 y7 from fun _ _ _ h9 hR => h9.st HF.out hR) (vs9 9) x9 y9 h9 hR9)), trivial⟩⟩,
    ⟨.inr (fun vs9 x9 y9 h9 hR9 => (show ∀ v9 y8 y7, (fun v z => KTup F w m v z) v9 y8 → (fun x9 y9 => Below x9.heap.size x9 y9) y8 y7 → (fun v z => KTup F w m v z) v9 y7 from fun _ _ _ h9 hR => h9.up HF.out hR) (vs9 10) x9 y9 h9 hR9), ⟨.inr (.inr (fun vs9 x9 y9 h9 hR9 => (show ∀ v9 y8 y7, (fun v z => KTup F w m v z) v9 y8 → (fun x9 y9 => x9.grownBy y9 (some w.heap.size)) y8 y7 → (fun v z => KTup F w m v z) v9 y7 from fun _ _ _ h9 hR => h9.st HF.out hR) (vs9 10) x9 y9 h9 hR9)), trivial⟩⟩,
    ⟨.inr (fun vs9 x9 y9 h9 hR9 => (show ∀ v9 y8 y7, (fun v z => KNet F w m v z) v9 y8 → (fun x9 y9 => Below x9.heap.size x9 y9) y8 y7 → (fun v z => KNet F w m v z) v9 y7 from fun _ _ _ h9 hR => h9.up HF.out hR) (vs9 11) x9 y9 h9 hR9), ⟨.inr (.inr (fun vs9 x9 y9 h9 hR9 => (show ∀ v9 y8 y7, (fun v z => KNet F w m v z) v9 y8 → (fun x9 y9 => x9.grownBy y9 (some w.heap.size)) y8 y7 → (fun v z => KNet F w m v z) v9 y7 from fun _ _ _ h9 hR => h9.st HF.out hR) (vs9 11) x9 y9 h9 hR9)), trivial⟩⟩,
    ⟨.inr (fun _ _ _ h _ => h), ⟨.inr (.inr (fun _ _ _ h _ => h)), trivial⟩⟩,
    ⟨.inr (fun _ _ _ h _ => h), ⟨.inr (.inl rfl), trivial⟩⟩,
    ⟨.inr (fun _ _ _ h _ => h), ⟨.inr (.inr (fun _ _ _ h _ => h)), trivial⟩⟩, trivial⟩ ⟨fun vs vs' x h _ hv => (by dsimp only at hv ⊢; first | (rw [← h]; exact hv) | exact hv),
    fun vs vs' x h _ hv => (by dsimp only at hv ⊢; first | (rw [← h]; exact hv) | exact hv),
    fun vs vs' x h _ hv => (by dsimp only at hv ⊢; first | (rw [← h]; exact hv) | exact hv),
    fun vs vs' x h _ hv => (by dsimp only at hv ⊢; first | (rw [← h]; exact hv) | exact hv),
    fun vs vs' x h _ hv => (by dsimp only at hv ⊢; first | (rw [← h]; exact hv) | exact hv),
    fun vs vs' x h _ hv => (by dsimp only at hv ⊢; first | (rw [← h]; exact hv) | exact hv),
    fun vs vs' x h _ hv => (by dsimp only at hv ⊢; first | (rw [← h]; exact hv) | exact hv),
    fun vs vs' x h _ hv => (by dsimp only at hv ⊢; first | (rw [← h]; exact hv) | exact hv),
    fun vs vs' x h _ hv => (by dsimp only at hv ⊢; first | (rw [← h]; exact hv) | exact hv),
    fun vs vs' x h _ hv => (by dsimp only at hv ⊢; first | (rw [← h]; exact hv) | exact hv),
    fun vs vs' x h _ hv => (by dsimp only at hv ⊢; first | (rw [← h]; exact hv) | exact hv),
    fun vs vs' x h _ hv => (by dsimp only at hv ⊢; first | (rw [← h]; exact hv) | exact hv),
    fun vs vs' x h _ hv => (by dsimp only at hv ⊢; first | (rw [← h]; exact hv) | exact hv),
    fun _ _ _ _ _ _ => trivial,
    fun vs vs' x h _ hv => (by dsimp only at hv ⊢; first | (rw [← h]; exact hv) | exact hv), trivial⟩ (⟨fun _ => HKS.out.up HF.out (below_drewN (Below.refl _ _) 1), (fun h => by cases h), bthen HKS.out.bel (below_drewN (Below.refl _ _) 1)⟩) ⟨?_, ?_, ?_, ?_, ?_, ?_, ?_, ?_, ?_, ?_, ?_, ?_, ?_, ?_, ?_, trivial⟩ ?_
      · intro vals xw f hf1 hf2 hf3 hI hF
        have k13 : f 13 = false := hf3 13 (by kernel_rfl)
        clear hf2 hf3
        dsimp only [owes4, bare]
        simp only [putsD, Act.put, List.setIfInBounds_toArray, List.set_cons_zero, List.set_cons_succ]
        have hv9 := (hI.1 k13).var
        have y0 := (cell_of_block hv9 0).1
        have y1 := (cell_of_block hv9 1).1
        have y2 := (cell_of_block hv9 2).1
        go_wp2
        exact ⟨rfl, rfl, ⟨fun h9 => absurd h9 (Nat.ne_of_beq_eq_false rfl), fun _ => Below.refl _ _⟩, hI⟩
      · intro vals xw f hf1 hf2 hf3 hI hF
        clear hf2 hf3
        dsimp only [owes4, bare]
        simp only [putsD, Act.put, List.setIfInBounds_toArray, List.set_cons_zero, List.set_cons_succ]
        go_wp2
        exact ⟨rfl, rfl, ⟨fun h9 => absurd h9 (Nat.ne_of_beq_eq_false rfl), fun _ => Below.refl _ _⟩, hI⟩
      · intro vals xw f hf1 hf2 hf3 hI hF
        clear hf2 hf3
        dsimp only [owes4, bare]
        simp only [putsD, Act.put, List.setIfInBounds_toArray, List.set_cons_zero, List.set_cons_succ]
        go_wp2
        exact ⟨rfl, rfl, ⟨fun h9 => absurd h9 (Nat.ne_of_beq_eq_false rfl), fun _ => Below.refl _ _⟩, hI⟩
      · intro vals xw f hf1 hf2 hf3 hI hF
        clear hf2 hf3
        simp only [saysD, List.getD_cons_zero, List.getD_cons_succ, and_true] at hF
        obtain ⟨e19, e20⟩ := hF
        dsimp only [owes4, bare]
        simp only [putsD, Act.put, List.setIfInBounds_toArray, List.set_cons_zero, List.set_cons_succ]
        simp only [e19, e20]
        go_wp2
        exact ⟨rfl, rfl, ⟨fun h9 => absurd h9 (Nat.ne_of_beq_eq_false rfl), fun _ => Below.refl _ _⟩, hI⟩
      · intro vals xw f hf1 hf2 hf3 hI hF
        clear hf2 hf3
        simp only [saysD, List.getD_cons_zero, List.getD_cons_succ, and_true] at hF
        have e21 := hF
        dsimp only [owes4, bare]
        simp only [putsD, Act.put, List.setIfInBounds_toArray, List.set_cons_zero, List.set_cons_succ]
        simp only [e21]
        have c9 := HRX.out _ hI.2.2
        go_wp2
        exact ⟨rfl, rfl, ⟨fun h9 => absurd h9 (Nat.ne_of_beq_eq_false rfl), fun _ => Below.refl _ _⟩, hI⟩
      · intro vals xw f hf1 hf2 hf3 hI hF
        clear hf2 hf3
        dsimp only [owes4, bare]
        simp only [putsD, Act.put, List.setIfInBounds_toArray, List.set_cons_zero, List.set_cons_succ]
        go_wp2
        exact ⟨rfl, rfl, ⟨fun h9 => absurd h9 (Nat.ne_of_beq_eq_false rfl), fun _ => Below.refl _ _⟩, hI⟩
      · intro vals xw f hf1 hf2 hf3 hI hF
        clear hf2 hf3
        dsimp only [owes4, bare]
        simp only [putsD, Act.put, List.setIfInBounds_toArray, List.set_cons_zero, List.set_cons_succ]
        go_wp2
        exact ⟨rfl, rfl, ⟨fun h9 => absurd h9 (Nat.ne_of_beq_eq_false rfl), fun _ => Below.refl _ _⟩, hI⟩
      · intro vals xw f hf1 hf2 hf3 hI hF
        clear hf2 hf3
        simp only [saysD, List.getD_cons_zero, List.getD_cons_succ, and_true] at hF
        obtain ⟨e23, e24⟩ := hF
        dsimp only [owes4, bare]
        simp only [putsD, Act.put, List.setIfInBounds_toArray, List.set_cons_zero, List.set_cons_succ]
        simp only [e23, e24]
        go_wp2
        exact ⟨rfl, rfl, ⟨fun h9 => absurd h9 (Nat.ne_of_beq_eq_false rfl), fun _ => Below.refl _ _⟩, hI⟩
      · intro vals xw f hf1 hf2 hf3 hI hF
        clear hf2 hf3
        simp only [saysD, List.getD_cons_zero, List.getD_cons_succ, and_true] at hF
        have e25 := hF
        dsimp only [owes4, bare]
        simp only [putsD, Act.put, List.setIfInBounds_toArray, List.set_cons_zero, List.set_cons_succ]
        simp only [e25]
        have c9 := HRY.out _ hI.2.2
        go_wp2
        exact ⟨rfl, rfl, ⟨fun h9 => absurd h9 (Nat.ne_of_beq_eq_false rfl), fun _ => Below.refl _ _⟩, hI⟩
      · intro vals xw f hf1 hf2 hf3 hI hF
        have k13 : f 13 = false := hf3 13 (by kernel_rfl)
        clear hf2 hf3
        simp only [saysD, List.getD_cons_zero, List.getD_cons_succ, and_true] at hF
        obtain ⟨e18, e22, e26⟩ := hF
        dsimp only [owes4, bare]
        simp only [putsD, Act.put, List.setIfInBounds_toArray, List.set_cons_zero, List.set_cons_succ]
        simp only [e18, e22, e26]
        have HI := Lib.hid hI
        have HK := Lib.hid (hI.1 k13)
        have hsz9 := hI.2.2.size
        clear hI
        have HC := Lib.hid (l7Xor_any (G2 F w xw (fun _ => False)) A1 c1 k1 x y xw HK.out.row (KS2.lt HK.out.bel HF.out) HK.out.nil HNB1.out HXYM.out.1 HXYM.out.2)
        rw [← HM.out] at HC
        go_wp2_with fail
        refine HC.out.mono ?_
        rintro e wx ⟨A2, c2, rfl, h2, h3, h4⟩
        have H3 := Lib.hid h3
        have H4 := Lib.hid h4
        clear h3 h4 HC
        go_wp2
        refine ⟨rfl, ⟨A2, c2, rfl, h2, H3.out.mono ?_, Nat.le_trans hsz9 H4.out.size⟩, ⟨fun h9 => absurd h9 (Nat.ne_of_beq_eq_false rfl), fun _ => H4.out⟩, (fun h => (HI.out.1 h).up HF.out H4.out), (fun h => absurd (k13.symm.trans h) (by simp)), bthen HI.out.2.2 H4.out⟩
        intro b hb
        rcases hb with (h9 | h9) | h9
        · exact .inl h9
        · exact .inr ⟨h9.1, Nat.lt_of_lt_of_le h9.2.1 H4.out.size, h9.2.2⟩
        · exact .inr ⟨by have := HK.out.bel.size; have := lt_of_block HK.out.res; omega, h9.2, fun e => e⟩
      · intro vals xw f hf1 hf2 hf3 hI hF
        clear hf2 hf3
        simp only [saysD, List.getD_cons_zero, List.getD_cons_succ, and_true] at hF
        obtain ⟨A2, c2, e27, h2, h3, h4⟩ := hF
        dsimp only [owes4, bare]
        simp only [putsD, Act.put, List.setIfInBounds_toArray, List.set_cons_zero, List.set_cons_succ]
        simp only [e27]
        go_wp2
        exact ⟨rfl, ⟨A2, c2, rfl, h2, h3, h4⟩, ⟨fun h9 => absurd h9 (Nat.ne_of_beq_eq_false rfl), fun _ => Below.refl _ _⟩, hI⟩
      · intro vals xw f hf1 hf2 hf3 hI hF
        clear hf2 hf3
        simp only [saysD, List.getD_cons_zero, List.getD_cons_succ, and_true] at hF
        obtain ⟨A2, c2, e17, h2, h3, h4⟩ := hF
        dsimp only [owes4, bare]
        simp only [putsD, Act.put, List.setIfInBounds_toArray, List.set_cons_zero, List.set_cons_succ]
        simp only [e17]
        go_wp2
        exact ⟨rfl, ⟨A2, c2, rfl, h2, h3, h4⟩, ⟨fun h9 => absurd h9 (Nat.ne_of_beq_eq_false rfl), fun _ => Below.refl _ _⟩, hI⟩
      · intro vals xw f hf1 hf2 hf3 hI hF
        clear hf2 hf3
        simp only [saysD, List.getD_cons_zero, List.getD_cons_succ, and_true] at hF
        obtain ⟨A2, c2, e17, h2, h3, h4⟩ := hF
        dsimp only [owes4, bare]
        simp only [putsD, Act.put, List.setIfInBounds_toArray, List.set_cons_zero, List.set_cons_succ]
        simp only [e17]
        go_wp2
        exact ⟨rfl, rfl, ⟨fun h9 => absurd h9 (Nat.ne_of_beq_eq_false rfl), fun _ => Below.refl _ _⟩, hI⟩
      · intro vals xw f hf1 hf2 hf3 hI hF
        clear hf2 hf3
        simp only [saysD, List.getD_cons_zero, List.getD_cons_succ, and_true] at hF
        obtain ⟨A2, c2, e28, h2, h3, h4⟩ := hF
        dsimp only [owes4, bare]
        simp only [putsD, Act.put, List.setIfInBounds_toArray, List.set_cons_zero, List.set_cons_succ]
        simp only [e28]
        have HI := Lib.hid hI
        have HK := Lib.hid (hI.1 hf1)
        have hv9 := HK.out.var
        have y0 := (cell_of_block hv9 0).1
        have y1 := (cell_of_block hv9 1).1
        have y2 := (cell_of_block hv9 2).1
        have g0 := (cell_of_block hv9 0).2
        have g1 := (cell_of_block hv9 1).2
        have g2 := (cell_of_block hv9 2).2
        have H3 := Lib.hid h3
        clear hI hv9 h3 h4
        go_wp2
        have hset := HK.out.set (c' := c2) HF.out H3.out h2
        have hgr : xw.grownBy (st3 xw w.heap.size (.int .i64 m.1.1.ins) (.slice A2 m.1.1.gs.length c2) (.bool m.1.2)) (some w.heap.size) := only_setCell (only_setCell (only_setCell (World.grownBy.refl _ _) _ _) _ _) _ _
        exact ⟨rfl, trivial, ⟨fun _ => hgr, fun h9 => absurd rfl h9⟩, fun h => absurd ((did_same f 13).symm.trans h) (by simp), fun _ => ⟨A2, c2, hset⟩, st3_below HI.out.2.2 (Nat.le_refl _) _ _ _⟩
      · intro vals xw f hf1 hf2 hf3 hI hF
        clear hf2 hf3
        simp only [saysD, List.getD_cons_zero, List.getD_cons_succ, and_true] at hF
        have e29 := hF
        dsimp only [owes4, bare]
        simp only [putsD, Act.put, List.setIfInBounds_toArray, List.set_cons_zero, List.set_cons_succ]
        simp only [e29]
        go_wp2
        exact ⟨rfl, rfl, ⟨fun h9 => absurd h9 (Nat.ne_of_beq_eq_false rfl), fun _ => Below.refl _ _⟩, hI⟩
      · intro vals xw f hall hI hF
        rw [show List.range _ = [0, 1, 2, 3, 4, 5, 6, 7, 8, 9, 10, 11, 12, 13, 14] from rfl] at hF
        simp only [says, List.getD_cons_zero, List.getD_cons_succ, and_true] at hF
        obtain ⟨A2, c2, hk2⟩ := hI.2.1 (hall 13 (by decide))
        have e9 : vals 14 = .int .i64 m.2 := by obtain ⟨_, _, _, _, _, _, _, _, _, _, _, _, _, _, e9⟩ := hF; exact e9
        have HK2 := Lib.hid hk2
        clear hF hk2 hI
        simp only [putsD, Act.put, List.setIfInBounds_toArray, List.set_cons_zero, List.set_cons_succ]
        simp only [e9]
        clear e9
        have hmb := HMB.out.2
        obtain ⟨hm0, hm1⟩ := hmb
        obtain ⟨p, hp⟩ : ∃ p, p = opsR.and m.1 rr (-m.2) := ⟨_, rfl⟩
        have HP := Lib.hid hp
        have HPB : Hid (NB p.1.1 ∧ RB p.2) := Lib.hid (by rw [hp]; exact opsR_and_nb HMB.out.1 HRR.out HMB.out.2.neg)
        clear hp
        have hv9 := HK2.out.var
        have y0 := (cell_of_block hv9 0).1
        have y1 := (cell_of_block hv9 1).1
        have y2 := (cell_of_block hv9 2).1
        have HC := Lib.hid (l7And_any (G2 F w xw (fun _ => False)) A2 c2 m.1 rr (-m.2) xw HK2.out.row (KS2.lt HK2.out.bel HF.out) HK2.out.nil HMB.out.1 HRR.out HMB.out.2.neg)
        rw [← HP.out] at HC
        clear hv9
        go_wp2_with fail
        refine HC.out.mono ?_
        rintro e z9 ⟨A3, c3, rfl, hn3, hs3, hb3⟩
        have HK3 := Lib.hid (HK2.out.up HF.out hb3)
        have hv9 := HK3.out.var
        have HS3 := Lib.hid hs3
        have HB3 := Lib.hid hb3
        clear hs3 hb3 HC y0 y1 y2
        have y0 := (cell_of_block hv9 0).1
        have y1 := (cell_of_block hv9 1).1
        have y2 := (cell_of_block hv9 2).1
        have g0 := (cell_of_block hv9 0).2
        have g1 := (cell_of_block hv9 1).2
        have g2 := (cell_of_block hv9 2).2
        clear hv9
        go_wp2
        have hset := HK3.out.set (k' := p.1) (A' := A3) (c' := c3) HF.out (HS3.out.mono (by
          intro b hb
          rcases hb with (h9 | h9) | h9
          · exact .inl h9
          · exact .inr ⟨h9.1, Nat.lt_of_lt_of_le h9.2.1 HB3.out.size, h9.2.2⟩
          · exact .inr ⟨by have := HK2.out.bel.size; have := lt_of_block HK2.out.res; omega, h9.2, fun e => e⟩)) hn3
        go_roundw
        case rel => exact ⟨j + 1, p.1, p.2, A3, c3, by omega, by go_num, rfl, HPB.out.2, hset, HPB.out.1, Lib.hid (by rw [HP.out, HM.out]; exact HST.out)⟩
        case measure => simp [intOf]; omega
    · have hje : j = xs.length := by omega
      subst hje
      have hlt2 : ¬ ((xs.length : Nat) : Int) < xs.length := by omega
      have hv9 := HKS.out.var
      have y0 := (cell_of_block hv9 0).1
      have y1 := (cell_of_block hv9 1).1
      have y2 := (cell_of_block hv9 2).1
      have hr9 := HKS.out.res
      have r0 := (cell_of_block hr9 0).1
      have r1 := (cell_of_block hr9 1).1
      have r2 := (cell_of_block hr9 2).1
      have rf0 := (cell_of_block hr9 0).2
      have rf1 := (cell_of_block hr9 1).2
      have rf2 := (cell_of_block hr9 2).2
      clear hv9 hr9
      go_wp2
      have hs := st3_same HKS.out.res (.int .i64 k1.1.ins) (.slice A1 k1.1.gs.length c1) (.bool k1.2)
      have k5 := (cell_of_block hs 0).1
      have k6 := (cell_of_block hs 1).1
      have k7 := (cell_of_block hs 2).1
      have kf5 := (cell_of_block hs 0).2
      have kf6 := (cell_of_block hs 1).2
      have kf7 := (cell_of_block hs 2).2
      refine bodyPost_ret (v := .tuple #[.agg #[.int .i64 k1.1.ins, .slice A1 k1.1.gs.length c1, .bool k1.2], .int .i64 rr]) (by simp [results, Tryd.results91, go_sem, k5, k6, k7, kf5, kf6, kf7]) rfl ?_
      have hd1 : xs.drop xs.length = [] := List.drop_length
      have hd2 : ys.drop xs.length = [] := by rw [HL.out]; exact List.drop_length
      have hst2 := hst.out
      rw [hd1, hd2] at hst2
      have hT2 : T = (k1, rr) := by rw [← hst2]; rfl
      rw [hT2]
      exact HKS.out.one2.done HF.out
end Go.Proofs.YtjghcaghigebjaaDoor

/-! Contracts of the reference's clauses and unit propagation: l4Clause, CnfOk, l5Sign, l5Look, l5Find. -/
namespace Go.Proofs.YtjghcaghigebjaaDoor
open Go Go.RowKit

theorem cOk_no {many last : Int} {cl : List Int} {k : Nat} (h : k < cl.length) (hn : cl[k] < -many ∨ many < cl[k] ∨ (cl[k].natAbs : Int) ≤ last) : cOk many last (cl.drop k) = false := by
  rw [cOk_drop h, Bool.eq_false_iff]
  intro e
  simp only [Bool.and_eq_true, decide_eq_true_eq] at e
  omega
theorem cOk_yes {many last : Int} {cl : List Int} {k : Nat} (h : k < cl.length) (h1 : -many ≤ cl[k]) (h2 : cl[k] ≤ many) (h3 : last < (cl[k].natAbs : Int)) : cOk many last (cl.drop k) = cOk many (cl[k].natAbs) (cl.drop (k + 1)) := by
  rw [cOk_drop h]; simp [h1, h2, h3]
theorem cnfOk_iff (c : C) : cnfOk c = true ↔ 0 ≤ c.many ∧ c.many ≤ 700 ∧ c.list.length ≤ 2500 ∧ ∀ k (h : k < c.list.length), clOk c.many c.list[k] = true := by
  simp only [cnfOk, Bool.and_eq_true, decide_eq_true_eq, List.all_eq_true, and_assoc]
  constructor
  · rintro ⟨h1, h2, h3, h4⟩
    exact ⟨h1, h2, h3, fun k hk => h4 _ (List.getElem_mem hk)⟩
  · rintro ⟨h1, h2, h3, h4⟩
    refine ⟨h1, h2, h3, fun x hx => ?_⟩
    obtain ⟨k, hk, rfl⟩ := List.getElem_of_mem hx
    exact h4 k hk
theorem cnfOk_no {c : C} (h : c.many < 0 ∨ 700 < c.many ∨ 2500 < c.list.length ∨ ∃ k, ∃ h : k < c.list.length, clOk c.many c.list[k] = false) : cnfOk c = false := by
  rw [Bool.eq_false_iff]
  intro e
  obtain ⟨h1, h2, h3, h4⟩ := (cnfOk_iff c).1 e
  rcases h with h | h | h | ⟨k, hk, h⟩
  · omega
  · omega
  · omega
  · rw [h4 k hk] at h; cases h
/-- All lists of a formula are short. -/
def shortC (c : C) : Prop := c.list.length ≤ 1048576 ∧ ∀ l ∈ c.list, l.length ≤ 1048576
/-- The list says of each mark how it is. -/
def Vals (many : Nat) (put : List Int) (vs : List Int) : Prop := vs.length = many + 1 ∧ ∀ v : Nat, 1 ≤ v → v ≤ many → vs[v]? = some (sg put v)
theorem sg_neg {many : Int} {put : List Int} (h : Good many put) {m : Int} (hm : m ≠ 0) : sg put (-m) = -sg put m := by
  unfold sg
  by_cases h1 : m ∈ put
  · have h2 : -m ∉ put := fun h2 => h.apart h1 h2
    rw [if_neg h2, if_pos h1, if_pos (by simpa using h1)]
  · by_cases h2 : -m ∈ put
    · rw [if_pos h2, if_neg h1, if_pos h2]; rfl
    · rw [if_neg h2, if_neg h1, if_neg h2, if_neg (by simpa using h1)]; rfl
theorem sg_rng (put : List Int) (m : Int) : sg put m = 1 ∨ sg put m = -1 ∨ sg put m = 0 := by
  unfold sg
  split
  · exact .inl rfl
  · split
    · exact .inr (.inl rfl)
    · exact .inr (.inr rfl)
theorem ret_two {k : IntKind} {a b c d : Int} (h1 : a = c) (h2 : b = d) : Ending.returned (.tuple #[.int k a, .int k b]) = .returned (.tuple #[.int k c, .int k d]) := by rw [h1, h2]
theorem ret_three {k : IntKind} {a b c d e f : Int} (h1 : a = d) (h2 : b = e) (h3 : c = f) : Ending.returned (.tuple #[.int k a, .int k b, .int k c]) = .returned (.tuple #[.int k d, .int k e, .int k f]) := by rw [h1, h2, h3]
/-- What the look gives. -/
def lkI (put cl : List Int) : Int × Int := match lk put cl 0 0 with | none => (-1, 0) | some p => p
end Go.Proofs.YtjghcaghigebjaaDoor

/-! Contracts of the reference's unit propagation: l5Find, l5Vals, l5Units, l5Rup, RupOk. -/
namespace Go.Proofs.YtjghcaghigebjaaDoor
open Go Go.RowKit

def fdS (put : List Int) (cs : List (List Int)) : Int × Int × Int := if 0 ≤ (fd put cs 0 (-1) 0).1 then ((fd put cs 0 (-1) 0).1, -1, 0) else fd put cs 0 (-1) 0
theorem fd_none {put : List Int} {cs : List (List Int)} {j : Nat} {k u f : Int} (h : j < cs.length) (hl : lk put cs[j] 0 0 = none) : fd put (cs.drop j) k u f = fd put (cs.drop (j + 1)) (k + 1) u f := by rw [fd_drop h, hl]
theorem fd_zero {put : List Int} {cs : List (List Int)} {j : Nat} {k u f m : Int} (h : j < cs.length) (hl : lk put cs[j] 0 0 = some (0, m)) : fd put (cs.drop j) k u f = (k, u, f) := by rw [fd_drop h, hl]; rfl
theorem fd_unit {put : List Int} {cs : List (List Int)} {j : Nat} {k u f m : Int} (h : j < cs.length) (hl : lk put cs[j] 0 0 = some (1, m)) (hu : u < 0) : fd put (cs.drop j) k u f = fd put (cs.drop (j + 1)) (k + 1) k m := by
  rw [fd_drop h, hl]; simp [hu]
theorem fd_else {put : List Int} {cs : List (List Int)} {j : Nat} {k u f n m : Int} (h : j < cs.length) (hl : lk put cs[j] 0 0 = some (n, m)) (h0 : n ≠ 0) (h1 : ¬ (n = 1 ∧ u < 0)) : fd put (cs.drop j) k u f = fd put (cs.drop (j + 1)) (k + 1) u f := by
  rw [fd_drop h, hl]; dsimp only; rw [if_neg h0, if_neg h1]
theorem lk_nonneg {put : List Int} : ∀ {cl : List Int} {n f n' f' : Int}, 0 ≤ n → lk put cl n f = some (n', f') → 0 ≤ n'
  | [], n, f, n', f', h0, h => by simp only [lk, Option.some.injEq, Prod.mk.injEq] at h; omega
  | l :: ls, n, f, n', f', h0, h => by
    simp only [lk] at h
    split at h
    · cases h
    · split at h
      · exact lk_nonneg h0 h
      · exact lk_nonneg (by omega) h
/-- How a clause looks: one is put; none is free; it is a unit, and there was none; or else. -/
theorem look_cases {put : List Int} {cs : List (List Int)} {j : Nat} {u f : Int} (h : j < cs.length) :
    ∃ n m, lkI put cs[j] = (n, m) ∧ ((n = 0 ∧ fd put (cs.drop j) j u f = ((j : Int), u, f)) ∨ (n = 1 ∧ u < 0 ∧ fd put (cs.drop j) j u f = fd put (cs.drop (j + 1)) ((j + 1 : Nat) : Int) j m) ∨ (n ≠ 0 ∧ ¬ (n = 1 ∧ u < 0) ∧ fd put (cs.drop j) j u f = fd put (cs.drop (j + 1)) ((j + 1 : Nat) : Int) u f)) := by
  unfold lkI
  cases hl : lk put cs[j] 0 0 with
  | none => exact ⟨-1, 0, rfl, .inr (.inr ⟨by omega, by omega, by rw [fd_none h hl]; simp⟩)⟩
  | some p =>
    obtain ⟨n, m⟩ := p
    refine ⟨n, m, rfl, ?_⟩
    by_cases h0 : n = 0
    · subst h0; exact .inl ⟨rfl, fd_zero h hl⟩
    by_cases h1 : n = 1 ∧ u < 0
    · obtain ⟨rfl, hu⟩ := h1
      exact .inr (.inl ⟨rfl, hu, by rw [fd_unit h hl hu]; simp⟩)
    · exact .inr (.inr ⟨h0, h1, by rw [fd_else h hl h0 h1]; simp⟩)

end Go.Proofs.YtjghcaghigebjaaDoor

/-! Contracts of the reference's unit propagation: l5Vals, l5Units, l5Rup, RupOk. -/
namespace Go.Proofs.YtjghcaghigebjaaDoor
open Go Go.RowKit

theorem sg_snoc {put : List Int} {l v : Int} (h1 : l ∉ put) (h2 : -l ∉ put) (hv : 0 < v) : sg (put ++ [l]) v = if v = l then 1 else if v = -l then -1 else sg put v := by
  unfold sg
  by_cases e1 : v = l
  · subst e1; simp
  by_cases e2 : v = -l
  · subst e2
    have h3 : - -l = l := by omega
    simp [e1, h2, h3]
  · have e3 : -v ≠ l := fun e => e2 (by omega)
    simp [e1, e2, e3]
theorem Good.at {many : Int} {put : List Int} (h : Good many put) {k : Nat} (hk : k < put.length) : put[k] ∉ put.take k ∧ -put[k] ∉ put.take k := by
  have hp := List.pairwise_iff_getElem.1 h.nodup
  refine ⟨fun hm => ?_, fun hm => ?_⟩
  all_goals
    obtain ⟨i, hi, e⟩ := List.getElem_of_mem hm
    have hik : i < k := by simp at hi; omega
    rw [List.getElem_take] at e
    exact hp i k (by simp <;> omega) (by simpa using hk) hik (by simp only [List.getElem_map, e] <;> omega)

theorem ret_slice {A : Option Addr} {n m c : Nat} (h : n = m) : Ending.returned (.slice A n c) = .returned (.slice A m c) := by rw [h]
def RetV (M : Nat) (put : List Int) (w : World) (e : Ending) (w' : World) : Prop :=
  ∃ A c vs, e = .returned (.slice A vs.length c) ∧ Vals M put vs ∧ Lay.int.Rd w' A vs ∧ Below w.heap.size w w'
def ValsAt (M : Nat) (put : List Int) (v : Value) (x : World) : Prop := ∃ (A : Option Addr) (c : Nat) (vs : List Int), v = .slice A vs.length c ∧ Vals M put vs ∧ Lay.int.Rd x A vs
theorem ValsAt.up {M : Nat} {put : List Int} {v : Value} {x x' : World} (h : ValsAt M put v x) (hb : Below x.heap.size x x') : ValsAt M put v x' := by
  obtain ⟨A, c, vs, h1, h2, h3⟩ := h
  exact ⟨A, c, vs, h1, h2, h3.up hb⟩
def Fact.vals (M : Nat) (put : List Int) : Fact := .of (ValsAt M put) fun _ _ _ h hb => h.up hb
def Fact.lit9 : Fact := .of (fun v _ => ∃ b, v = .slice (some ⟨b, 0, none⟩) 0 0) fun _ _ _ h _ => h
def Fact.val9 (W : World) (u : Value) : Fact := .of (fun v x => v = u ∧ Below W.heap.size W x) fun _ _ _ ⟨h1, h2⟩ hb => ⟨h1, bthen h2 hb⟩
def lenOf : Value → Nat
  | .slice _ n _ => n
  | _ => 0
def RetU (w : World) (r : List Int × Bool) (e : Ending) (w' : World) : Prop :=
  ∃ A c, e = .returned (.tuple #[.slice A r.1.length c, .bool r.2]) ∧ OwnI w' w.heap.size (.slice A r.1.length c) r.1 ∧ Below w.heap.size w w'
theorem fdS_conf {put : List Int} {cs : List (List Int)} : (0 ≤ (fdS put cs).1 ↔ 0 ≤ (fd put cs 0 (-1) 0).1) ∧ (¬ 0 ≤ (fd put cs 0 (-1) 0).1 → fdS put cs = fd put cs 0 (-1) 0) := by
  unfold fdS
  split
  · exact ⟨by simp_all, fun h => absurd (by assumption) h⟩
  · exact ⟨Iff.rfl, fun _ => rfl⟩

end Go.Proofs.YtjghcaghigebjaaDoor

/-! Contracts of the reference's l5Rup and RupOk. -/
namespace Go.Proofs.YtjghcaghigebjaaDoor
open Go Go.RowKit

end Go.Proofs.YtjghcaghigebjaaDoor

/-! The program's trail: what lies in memory; what is asked of it. -/
namespace Go.Proofs.YtjghcaghigebjaaDoor
open Go Go.RowKit

def litOk (s m : Int) : Bool := decide (s ≠ 0 ∧ -m ≤ s ∧ s ≤ m)
/-- The places say of each variable where it is put, plus one; 0 if it is not. -/
def PlacesOk (M : Nat) (put pl : List Int) : Prop :=
  pl.length = M + 1 ∧ ∀ v : Nat, 1 ≤ v → v ≤ M → (∃ k, ∃ h : k < put.length, put[k].natAbs = v ∧ pl[v]? = some ((k : Int) + 1)) ∨ ((∀ l ∈ put, l.natAbs ≠ v) ∧ pl[v]? = some 0)
theorem quiet_drawn {P : Program} {f : FuncId} {args : Array Value} {w : World} {n : Nat} {v : Value}
    (h : Calls P f args (w.drewN n) fun e w' => e = .returned v ∧ ∃ k, w' = (w.drewN n).drewN k) : Calls P f args (w.drewN n) fun e w'' => e = .returned v ∧ ∃ m, w'' = w.drewN m :=
  h.mono fun _ _ ⟨he, k, hk⟩ => ⟨he, n + k, by rw [hk, World.drewN_drewN]⟩
/-- The mark's variable is put. -/
def isPut (put : List Int) (l : Int) : Bool := decide (l ∈ put ∨ -l ∈ put)
theorem places_at {M : Nat} {put pl : List Int} (h : PlacesOk M put pl) {l : Int} (h0 : l ≠ 0) (h1 : -(M : Int) ≤ l) (h2 : l ≤ M) :
    ∃ p : Int, pl[l.natAbs]? = some p ∧ ((isPut put l = true ∧ ∃ k, ∃ hk : k < put.length, put[k].natAbs = l.natAbs ∧ p = (k : Int) + 1) ∨ (isPut put l = false ∧ p = 0)) := by
  rcases h.2 l.natAbs (by omega) (by omega) with ⟨k, hk, he, hp⟩ | ⟨hn, hp⟩
  · refine ⟨_, hp, .inl ⟨?_, k, hk, he, rfl⟩⟩
    unfold isPut
    rw [decide_eq_true_eq]
    have hm : put[k] ∈ put := List.getElem_mem hk
    have : put[k] = l ∨ put[k] = -l := by omega
    rcases this with e | e
    · exact .inl (e ▸ hm)
    · exact .inr (e ▸ hm)
  · refine ⟨_, hp, .inr ⟨?_, rfl⟩⟩
    unfold isPut
    rw [decide_eq_false_iff_not]
    rintro (hm | hm)
    · exact hn _ hm rfl
    · exact hn _ hm (by omega)

/-- What the program's look gives. -/
def lkT (put cl : List Int) : Bool × Int × Int := match lk put cl 0 0 with | none => (true, 0, 0) | some p => (false, p.1, p.2)
theorem ret_look {a a' : Bool} {b b' c c' : Int} (h1 : a = a') (h2 : b = b') (h3 : c = c') : Ending.returned (.tuple #[.bool a, .int .i64 b, .int .i64 c]) = .returned (.tuple #[.bool a', .int .i64 b', .int .i64 c']) := by rw [h1, h2, h3]
end Go.Proofs.YtjghcaghigebjaaDoor

/-! The program's trail: next, push. -/
namespace Go.Proofs.YtjghcaghigebjaaDoor
open Go Go.RowKit

theorem look_cons (put : List Int) (cl : List Int) (cls : List (List Int)) (k u f : Int) :
    (lkT put cl = (true, 0, 0) ∧ fd put (cl :: cls) k u f = fd put cls (k + 1) u f) ∨ ∃ n m, lkT put cl = (false, n, m) ∧
      ((n = 0 ∧ fd put (cl :: cls) k u f = (k, u, f)) ∨ (n = 1 ∧ u < 0 ∧ fd put (cl :: cls) k u f = fd put cls (k + 1) k m) ∨ (n ≠ 0 ∧ ¬ (n = 1 ∧ u < 0) ∧ fd put (cl :: cls) k u f = fd put cls (k + 1) u f)) := by
  unfold lkT
  cases hl : lk put cl 0 0 with
  | none => exact .inl ⟨rfl, by simp only [fd, hl]⟩
  | some p =>
    obtain ⟨n, m⟩ := p
    refine .inr ⟨n, m, rfl, ?_⟩
    by_cases h0 : n = 0
    · exact .inl ⟨h0, by simp only [fd, hl, h0, if_true]⟩
    by_cases h1 : n = 1 ∧ u < 0
    · exact .inr (.inl ⟨h1.1, h1.2, by obtain ⟨rfl, hu⟩ := h1; simp [fd, hl, hu]⟩)
    · exact .inr (.inr ⟨h0, h1, by simp only [fd, hl, h0, if_false, h1]⟩)
end Go.Proofs.YtjghcaghigebjaaDoor

/-! The program's trail: push. -/
namespace Go.Proofs.YtjghcaghigebjaaDoor
open Go Go.RowKit

theorem rowI_ne {w : World} {lo : Nat} {v : Value} {xs : List Int} (h : OwnI w lo v xs) (r : Nat) (o : Obj) (hr : w.heap[r]? = some o) (ho : ∀ cs fr, o ≠ .cells cs 3 fr) : v.ownBlock ≠ some r := by
  rcases h.2 with ⟨e, _⟩ | ⟨g, cap, cur, e, _, hg, _⟩
  · rw [e]; intro h; cases h
  · rw [e]
    intro h
    injection h with h
    subst h
    rw [hr] at hg
    injection hg with hg
    exact ho _ _ hg
/-- append of one integer onto a row of the call's own. -/
theorem wpList_append_int {Q : Exit → Act → World → Prop} {ops : Array Oper} {rest : List Oper} {o : Oper} {a : Act} {W : World} {lo : Nat} {A : Option Addr} {c : Nat} {xs ys : List Int} {x : Int} {e' : TypeId} (hgd : o.guard = none) (s y : Operand)
    (ho : o.op = .call { callee := .builtin .append, args := #[s, y], argTypes := #[25, 25] }) (hs : a.eval s = .slice A xs.length c) (hy : a.eval y = .slice (some ⟨W.heap.size, 0, none⟩) 1 1)
    (hown : OwnI W lo (.slice A xs.length c) xs) (hn : xs.length ≤ 2000000) (hlo : lo ≤ W.heap.size) (hys : ys = xs ++ [x])
    (h : ∀ A' c' w', OwnI w' lo (.slice A' ys.length c') ys → W.grownBy w' (Value.slice A xs.length c).ownBlock →
      ((Value.slice A' ys.length c').ownBlock = (Value.slice A xs.length c).ownBlock ∨ ∃ g, (Value.slice A' ys.length c').ownBlock = some g ∧ W.heap.size ≤ g) → wpList Tryd.prog ops Q rest (a.put o.dst (.slice A' ys.length c')) w') :
    wpList Tryd.prog ops Q (o :: rest) a (W.alloc (.cells #[.int .i64 x] e')) := by
  obtain ⟨i0, hi0, hz0, hz1, hz2⟩ := info_parts int_info
  have hal : Below W.heap.size W (W.alloc (.cells #[.int .i64 x] e')) := (Below.refl _ _).alloc (Nat.le_refl _) _
  have hl : ys.length = xs.length + 1 := by rw [hys]; simp
  have hm : ys.map (Value.int .i64) = xs.map (Value.int .i64) ++ [.int .i64 x] := by rw [hys]; simp
  refine wpList_plain hgd fun _ hK => ?_
  obtain ⟨v', w', hrun, ho', hg', _, hbk⟩ := run_append_own_at (P := Tryd.prog) (W.alloc (.cells #[.int .i64 x] e')) lo 25 o.type 3 i0 _ 1 8 Tryd.underlying25 hi0 hz0 hz1 hz2 (by rfl) (by omega)
    (.slice A xs.length c) xs.length (xs.map (Value.int .i64)) (hown.up hal) ⟨W.heap.size, 0, none⟩ 1 1 [.int .i64 x] (by rfl) (fun j u hu => by
      have := World.news_of_block (heap_alloc_new W (.cells #[.int .i64 x] e')) j u hu
      exact this) (by simp; rfl) (by unfold maxLen; omega) (by omega) (Nat.le_trans hlo hal.size)
  rw [← hl, ← hm] at ho'
  obtain ⟨A', c', rfl, _, _⟩ := OwnI.form (xs := ys) ho'
  unfold Oper.wp execOp
  simp only [ho, resolve, invoke, builtin, Sem.run_bind, Sem.run_pure, Result.andThen_ok, List.map_toArray, List.map_cons, List.map_nil, hs, hy, hrun]
  refine hK _ _ (h A' c' w' ho' (grown_then hal hg') ?_)
  rcases hbk with e | e
  · exact .inl e
  · exact .inr ⟨_, e, hal.size⟩

theorem own_at_least {w w' : World} {lo : Nat} {v : Value} {xs : List Int} (h : OwnI w lo v xs) (hlo : lo ≤ w.heap.size) (hg : w.grownBy w' v.ownBlock) : Below lo w w' :=
  (Below.refl lo w).grown hg hlo (fun k hk => (h.lt k hk).1)
theorem tne {cs : Array Value} {t : TypeId} {fr : Nat × Nat} (ht : t ≠ 3) : ∀ cs' fr', Obj.cells cs t fr ≠ .cells cs' 3 fr' := fun _ _ e => by injection e with _ e _; exact ht e
/-- Below lo, and on the spared blocks, nothing turned. -/
def BelowS (lo : Nat) (S : Nat → Prop) (w w' : World) : Prop := Below lo w w' ∧ ∀ x, S x → w'.heap[x]? = w.heap[x]?
theorem BelowS.refl (lo : Nat) (S : Nat → Prop) (w : World) : BelowS lo S w w := ⟨Below.refl _ _, fun _ _ => rfl⟩
theorem BelowS.trans {lo : Nat} {S : Nat → Prop} {w w' w'' : World} (h : BelowS lo S w w') (h' : BelowS lo S w' w'') : BelowS lo S w w'' := ⟨h.1.trans h'.1, fun x hx => (h'.2 x hx).trans (h.2 x hx)⟩
theorem BelowS.of {lo : Nat} {S : Nat → Prop} {w w' : World} (h : Below w.heap.size w w') (hlo : lo ≤ w.heap.size) (hS : ∀ x, S x → x < w.heap.size) : BelowS lo S w w' := ⟨h.mono hlo, fun x hx => h.block x (hS x hx)⟩
def lastI (ls : List Int) : Int := match ls.getLast? with | some x => x | none => 0
theorem lastI_at {ls : List Int} (h : 0 < ls.length) : ls[ls.length - 1] = lastI ls := by
  unfold lastI
  rw [List.getLast?_eq_getElem?, List.getElem?_eq_getElem (by omega)]
theorem lastI_rng {ls : List Int} (h : ∀ x ∈ ls, 0 ≤ x ∧ x ≤ ls.length) : 0 ≤ lastI ls ∧ lastI ls ≤ ls.length := by
  rcases Nat.eq_zero_or_pos ls.length with h0 | h0
  · have : ls = [] := List.eq_nil_of_length_eq_zero h0
    subst this; simp [lastI]
  · rw [← lastI_at h0]; exact h _ (List.getElem_mem _)
/-- The level behind. -/
def lvl (ls : List Int) (dec : Bool) : Int := lastI ls + if dec then 1 else 0
theorem PlacesOk.snoc {M : Nat} {put pl : List Int} (h : PlacesOk M put pl) {l : Int} (h0 : l ≠ 0) (h1 : -(M : Int) ≤ l) (h2 : l ≤ M) (h3 : l ∉ put) (h4 : -l ∉ put) : PlacesOk M (put ++ [l]) (pl.set l.natAbs ((put.length : Int) + 1)) := by
  refine ⟨by rw [List.length_set]; exact h.1, fun v hv1 hv2 => ?_⟩
  by_cases e : l.natAbs = v
  · refine .inl ⟨put.length, by simp, by simp [e], ?_⟩
    rw [← e, List.getElem?_set_self (by rw [h.1]; omega)]
  · rw [List.getElem?_set_ne e]
    rcases h.2 v hv1 hv2 with ⟨k, hk, hk1, hk2⟩ | ⟨hn, hk2⟩
    · exact .inl ⟨k, by simp; omega, by rw [List.getElem_append_left hk]; exact hk1, hk2⟩
    · refine .inr ⟨fun x hx => ?_, hk2⟩
      rcases List.mem_append.1 hx with hx | hx
      · exact hn x hx
      · rw [List.mem_singleton.1 hx]; exact e
theorem lvl_rng {ls : List Int} (h : ∀ x ∈ ls, 0 ≤ x ∧ x ≤ ls.length) (dec : Bool) : ∀ x ∈ ls ++ [lvl ls dec], 0 ≤ x ∧ x ≤ (ls ++ [lvl ls dec]).length := by
  have hl := lastI_rng h
  intro x hx
  rw [List.length_append, List.length_singleton]
  rcases List.mem_append.1 hx with hx | hx
  · have := h x hx; omega
  · rw [List.mem_singleton.1 hx]
    unfold lvl
    cases dec <;> simp <;> omega
end Go.Proofs.YtjghcaghigebjaaDoor

/-! Draws of clauses: l4Draw, l5Clause. -/
namespace Go.Proofs.YtjghcaghigebjaaDoor
open Go Go.RowKit

theorem OwnI.gr {S : Nat → Prop} {w w' : World} {base : Nat} {v : Value} {xs : List Int} (h : OwnI w base v xs) (hg : Gr S w w') (hr : ∀ b, S b → b < base) : OwnI w' base v xs :=
  own_of_heap h fun g hg' => hg.block g (h.lt g hg').2 (fun e => by have := hr g e; have := (h.lt g hg').1; omega)
theorem OwnI.ab {S : Nat → Prop} {w : World} {base c : Nat} {A : Option Addr} {xs : List Int} (h : OwnI w base (.slice A xs.length c) xs) (hr : ∀ b, S b → b < base) : Lay.int.Sl w (Ab S w) A xs := by
  obtain ⟨A', c', e, h1, h2⟩ := h.form
  injection e with e1 e2 e3
  subst e1
  exact h2.mono fun b hb => ⟨hb.2, fun e => by have := hr b e; have := hb.1; omega⟩
/-- A drawn row of integers, of the call's own. -/
def RetDI (r : Nat) (p N : Int) (ok : List Int → Prop) (w : World) (e : Ending) (w' : World) : Prop := ∃ A c xs, e = .returned (.slice A xs.length c) ∧ OwnI w' w.heap.size (.slice A xs.length c) xs ∧ ok xs ∧ Drawn r p N w w'
theorem own_lit0I (w : World) : OwnI (w.alloc (.cells #[] 3)) w.heap.size (.slice (some ⟨w.heap.size, 0, none⟩) 0 0) [] := own_lit0 rfl

end Go.Proofs.YtjghcaghigebjaaDoor

/-! The reference's l7Fill and l7Turn. -/
namespace Go.Proofs.YtjghcaghigebjaaDoor
open Go Go.RowKit

/-- A new row. -/
def RetNw (xs : List Int) (w : World) (e : Ending) (w' : World) : Prop := ∃ B d, e = .returned (.slice B xs.length d) ∧ xs.length ≤ d ∧ Lay.int.Sl w' (Own w.heap.size w') B xs ∧ Below w.heap.size w w'
theorem take_step' {α : Type} {l : List α} {j : Nat} {x : α} (h : l[j]? = some x) : l.take (j + 1) = l.take j ++ [x] := by
  rw [List.take_add_one, h]; rfl
set_option maxRecDepth 100000 in
set_option maxHeartbeats 2000000 in
theorem l7Fill_any (m : Int) (n : Nat) (w : World) (hn : n ≤ 500) :
    Calls Tryd.prog 98 #[.int .i64 m, .int .i64 (n : Int)] w (RetNw (List.replicate n m) w) := by
  have hal : Below w.heap.size w (w.alloc (.cells #[] 3)) := (Below.refl _ _).alloc (Nat.le_refl _) _
  have hown0 : OwnI (w.alloc (.cells #[] 3)) w.heap.size (.slice (some ⟨w.heap.size, 0, none⟩) ([] : List Int).length 0) [] := own_lit0I w
  go_enter Tryd.func98, Tryd.ntmps98
  go_wp2
  go_loopw [5, 6] (fun s i wr => ∃ (j : Nat) (l : List Int) (B : Option Addr) (d : Nat), j ≤ n ∧ i = .int .i64 j ∧ s = .slice B l.length d ∧ l.length = j ∧ l = (List.replicate n m).take j ∧ OwnI wr w.heap.size (.slice B l.length d) l ∧ Below w.heap.size w wr) (fun _ i _ => n - (intOf i).toNat)
  case atStart => exact ⟨0, [], _, 0, Nat.zero_le _, rfl, rfl, rfl, rfl, hown0, hal⟩
  case round =>
    obtain ⟨j, l, B, d, hj, rfl, rfl, hlj, hle, hown, hbr⟩ := hrel
    have HLE := Lib.hid hle
    have HLJ := Lib.hid hlj
    have hl3 : l.length ≤ 1000 := by omega
    have hws : w.heap.size ≤ wr.heap.size := hbr.size
    clear hle hlj
    by_cases hlt : j < n
    · have hlt2 : (j : Int) < n := by omega
      obtain ⟨l2, hl2⟩ : ∃ l2, l2 = l ++ [m] := ⟨_, rfl⟩
      have HL2 := Lib.hid hl2
      clear hl2
      go_wp2_with (at_builtin; refine wpList_append_int8 (ys := l2) (by rfl) (.tmp 13) (.tmp 15) (by rfl) (by rfl) (by rfl) hown (by omega) hws HL2.out ?_; intro B3 d3 w3 hown3 hg3 hbk3)
      have hb3 := hbr.grown hg3 hbr.size fun g e => (hown.lt g e).1
      clear hbk3 hg3 hown hbr
      go_roundw
      case rel => exact ⟨j + 1, l2, B3, d3, by omega, by go_num, rfl, by rw [HL2.out, List.length_append, HLJ.out]; rfl, by
          rw [HL2.out, HLE.out]
          rw [List.take_replicate, List.take_replicate, Nat.min_eq_left hj, Nat.min_eq_left (by omega)]; exact (List.replicate_succ' ..).symm, hown3, hb3⟩
      case measure => simp [intOf]; omega
    · have hje : j = n := by omega
      have hfin : l = List.replicate n m := by rw [HLE.out, hje]; exact List.take_of_length_le (by simp)
      go_wp2
      go_ret
      rw [← hfin]
      exact ⟨B, d, rfl, hown.cap, hown.own, hbr⟩
set_option maxRecDepth 100000 in
set_option maxHeartbeats 2000000 in
theorem l7Turn_any (X : Option Addr) (c : Nat) (xs : List Int) (w : World) (hX : Lay.int.Rd w X xs) (hxi : ∀ x ∈ xs, RB x) (hn : xs.length ≤ 500) :
    Calls Tryd.prog 96 #[.slice X xs.length c] w (RetNw (xs.map Neg.neg) w) := by
  have hal : Below w.heap.size w (w.alloc (.cells #[] 3)) := (Below.refl _ _).alloc (Nat.le_refl _) _
  have hown0 : OwnI (w.alloc (.cells #[] 3)) w.heap.size (.slice (some ⟨w.heap.size, 0, none⟩) ([] : List Int).length 0) [] := own_lit0I w
  have HX := Lib.hid hX
  have HXI := Lib.hid hxi
  clear hX hxi
  go_enter Tryd.func96, Tryd.ntmps96
  go_wp2
  go_loopw [3, 4] (fun s i wr => ∃ (j : Nat) (l : List Int) (B : Option Addr) (d : Nat), j ≤ xs.length ∧ i = .int .i64 j ∧ s = .slice B l.length d ∧ l.length = j ∧ l = (xs.map Neg.neg).take j ∧ OwnI wr w.heap.size (.slice B l.length d) l ∧ Below w.heap.size w wr) (fun _ i _ => xs.length - (intOf i).toNat)
  case atStart => exact ⟨0, [], _, 0, Nat.zero_le _, rfl, rfl, rfl, rfl, hown0, hal⟩
  case round =>
    obtain ⟨j, l, B, d, hj, rfl, rfl, hlj, hle, hown, hbr⟩ := hrel
    have HLE := Lib.hid hle
    have HLJ := Lib.hid hlj
    have hl3 : l.length ≤ 1000 := by omega
    have hws : w.heap.size ≤ wr.heap.size := hbr.size
    clear hle hlj
    by_cases hlt : j < xs.length
    · have hlt2 : (j : Int) < xs.length := by omega
      have hxi := HXI.out _ (List.getElem_mem hlt)
      obtain ⟨ad, rfl, -, hcell⟩ := (HX.out.up hbr).at_int hlt
      have HXT := Lib.hid (show (xs.map Neg.neg)[j]? = some (-xs[j]) by rw [List.getElem?_map, List.getElem?_eq_getElem hlt]; rfl)
      obtain ⟨x, hx⟩ : ∃ x, x = xs[j] := ⟨_, rfl⟩
      rw [← hx] at hcell hxi HXT
      clear hx
      obtain ⟨hx0, hx1⟩ := hxi
      obtain ⟨l2, hl2⟩ : ∃ l2, l2 = l ++ [(-x)] := ⟨_, rfl⟩
      have HL2 := Lib.hid hl2
      clear hl2
      go_wp2_with (at_builtin; refine wpList_append_int8 (ys := l2) (by rfl) (.tmp 12) (.tmp 18) (by rfl) (by rfl) (by rfl) hown (by omega) hws HL2.out ?_; intro B3 d3 w3 hown3 hg3 hbk3)
      have hb3 := hbr.grown hg3 hbr.size fun g e => (hown.lt g e).1
      clear hbk3 hg3 hown hbr
      go_roundw
      case rel => exact ⟨j + 1, l2, B3, d3, by omega, by go_num, rfl, by rw [HL2.out, List.length_append, HLJ.out]; rfl, by
          rw [HL2.out, HLE.out]
          exact (take_step' HXT.out).symm, hown3, hb3⟩
      case measure => simp [intOf]; omega
    · have hje : j = xs.length := by omega
      have hfin : l = xs.map Neg.neg := by rw [HLE.out, hje]; exact List.take_of_length_le (by simp)
      go_wp2
      go_ret
      rw [← hfin]
      exact ⟨B, d, rfl, hown.cap, hown.own, hbr⟩
end Go.Proofs.YtjghcaghigebjaaDoor

/-! The reference's l7Add. -/
namespace Go.Proofs.YtjghcaghigebjaaDoor
open Go Go.RowKit

theorem run_sum {σ : Type} {o : Ops σ} (xs ys : List Int) (k : Nat) (x y : Int) (hx : xs[k]? = some x) (hy : ys[k]? = some y) (s : σ) (c : Int) (l : List Int) :
    (let r := run o (sumP (xs.drop k) (ys.drop k) c) s; (r.1, l ++ r.2)) = (let m := o.xor s x y; let u := o.xor m.1 m.2 c; let p := o.and u.1 x y; let q := o.and p.1 m.2 c; let g := run o (orP p.2 q.2) q.1; let r := run o (sumP (xs.drop (k + 1)) (ys.drop (k + 1)) g.2) g.1; (r.1, (l ++ [u.2]) ++ r.2)) := by
  obtain ⟨hk, rfl⟩ := List.getElem?_eq_some_iff.1 hx
  obtain ⟨hk', rfl⟩ := List.getElem?_eq_some_iff.1 hy
  rw [List.drop_eq_getElem_cons hk, List.drop_eq_getElem_cons hk']
  simp only [sumP, run_bind, run, List.append_assoc, List.singleton_append]
theorem or_rb {x y : Int} {k : N × Bool} (h : NB k.1) (hx : RB x) (hy : RB y) : NB (run opsR (orP x y) k).1.1 ∧ RB (run opsR (orP x y) k).2 := by
  have h3 : NB (opsR.and k (-x) (-y)).1.1 ∧ RB (opsR.and k (-x) (-y)).2 := stepR_nb h (and1_nb h hx.neg hy.neg)
  exact ⟨h3.1, h3.2.neg⟩
theorem wpList_append_int7 {Q : Exit → Act → World → Prop} {ops : Array Oper} {rest : List Oper} {o : Oper} {a : Act} {W : World} {lo b : Nat} {A : Option Addr} {c : Nat} {xs ys : List Int} {x : Int} {e' : TypeId} (hgd : o.guard = none) (s y : Operand)
    (ho : o.op = .call { callee := .builtin .append, args := #[s, y], argTypes := #[25, 25] }) (hs : a.eval s = .slice A xs.length c) (hy : a.eval y = .slice (some ⟨b, 0, none⟩) 1 1) (hb : b = W.heap.size)
    (hown : OwnI W lo (.slice A xs.length c) xs) (hn : xs.length ≤ 2000000) (hlo : lo ≤ W.heap.size) (hys : ys = xs ++ [x])
    (h : ∀ A' c' w', OwnI w' lo (.slice A' ys.length c') ys → W.grownBy w' (Value.slice A xs.length c).ownBlock →
      ((Value.slice A' ys.length c').ownBlock = (Value.slice A xs.length c).ownBlock ∨ ∃ g, (Value.slice A' ys.length c').ownBlock = some g ∧ W.heap.size ≤ g) → wpList Tryd.prog ops Q rest (a.put o.dst (.slice A' ys.length c')) w') :
    wpList Tryd.prog ops Q (o :: rest) a (W.alloc (.cells #[.int .i64 x] e')) := by
  subst hb; exact wpList_append_int8 hgd s y ho hs hy hown hn hlo hys h
/-- The variable of a net with room, the result's cells, and a row of the call's own. -/
structure AddI (F : Nat → Prop) (w x : World) (k : N × Bool) (A : Option Addr) (c : Nat) (B : Option Addr) (d : Nat) (l : List Int) : Prop where
  ks : KS2 F w x k A c (fun b => (Value.slice B l.length d).ownBlock = some b)
  own : OwnI x (w.heap.size + 2) (.slice B l.length d) l
theorem AddI.up {F : Nat → Prop} {w x x' : World} {k : N × Bool} {A : Option Addr} {c : Nat} {B : Option Addr} {d : Nat} {l : List Int} (h : AddI F w x k A c B d l) (hF : ∀ b, F b → b < w.heap.size) (hb : Below x.heap.size x x') : AddI F w x' k A c B d l := ⟨h.ks.up hF hb, h.own.up hb⟩
theorem AddI.set {F : Nat → Prop} {w x : World} {k k' : N × Bool} {A A' : Option Addr} {c c' : Nat} {B : Option Addr} {d : Nat} {l : List Int} (h : AddI F w x k A c B d l) (hF : ∀ b, F b → b < w.heap.size) (hs : Lay.gate.Sl x (G2 F w x (fun b => (Value.slice B l.length d).ownBlock = some b)) A' k'.1.gs) (hn : A' = none → k'.1.gs.length = 0) :
    AddI F w (st3 x w.heap.size (.int .i64 k'.1.ins) (.slice A' k'.1.gs.length c') (.bool k'.2)) k' A' c' B d l := by
  have hgr : x.grownBy (st3 x w.heap.size (.int .i64 k'.1.ins) (.slice A' k'.1.gs.length c') (.bool k'.2)) (some w.heap.size) := only_setCell (only_setCell (only_setCell (World.grownBy.refl _ _) _ _) _ _) _ _
  exact ⟨h.ks.set hF hs hn, own_of_heap h.own fun g hg => hgr.block g (h.own.lt g hg).2 (fun e => by injection e with e; have := (h.own.lt g hg).1; omega)⟩
theorem AddI.call {F : Nat → Prop} {w x x' : World} {k k' : N × Bool} {A A' : Option Addr} {c c' : Nat} {B : Option Addr} {d : Nat} {l : List Int} (h : AddI F w x k A c B d l) (hF : ∀ b, F b → b < w.heap.size) (hs : Lay.gate.Sl x' (fun b => G2 F w x (fun b => (Value.slice B l.length d).ownBlock = some b) b ∨ (x.heap.size ≤ b ∧ b < x'.heap.size)) A' k'.1.gs) (hb : Below x.heap.size x x') (hn : A' = none → k'.1.gs.length = 0) :
    AddI F w (st3 x' w.heap.size (.int .i64 k'.1.ins) (.slice A' k'.1.gs.length c') (.bool k'.2)) k' A' c' B d l := by
  refine (h.up hF hb).set hF (hs.mono fun b hb' => ?_) hn
  have hr := lt_of_block h.ks.res
  rcases hb' with (h9 | h9) | h9
  · exact .inl h9
  · exact .inr ⟨h9.1, Nat.lt_of_lt_of_le h9.2.1 hb.size, h9.2.2⟩
  · exact .inr ⟨by omega, h9.2, fun e => by have := (h.own.lt b e).2; omega⟩
def ATup (F S : Nat → Prop) (w : World) (m : (N × Bool) × Int) (v : Value) (z : World) : Prop := ∃ A2 c2, v = .tuple #[.agg #[.int .i64 m.1.1.ins, .slice A2 m.1.1.gs.length c2, .bool m.1.2], .int .i64 m.2] ∧ (A2 = none → m.1.1.gs.length = 0) ∧ Lay.gate.Sl z (G2 F w z S) A2 m.1.1.gs ∧ w.heap.size ≤ z.heap.size
def ANet (F S : Nat → Prop) (w : World) (m : (N × Bool) × Int) (v : Value) (z : World) : Prop := ∃ A2 c2, v = .agg #[.int .i64 m.1.1.ins, .slice A2 m.1.1.gs.length c2, .bool m.1.2] ∧ (A2 = none → m.1.1.gs.length = 0) ∧ Lay.gate.Sl z (G2 F w z S) A2 m.1.1.gs ∧ w.heap.size ≤ z.heap.size
theorem g2_stS {F S : Nat → Prop} {w x y : World} {A : Option Addr} {gs : List G} (hF : ∀ b, F b → b < w.heap.size) (h3 : Lay.gate.Sl x (G2 F w x S) A gs) (h4 : w.heap.size ≤ x.heap.size) (hR : x.grownBy y (some w.heap.size)) : Lay.gate.Sl y (G2 F w y S) A gs :=
  (h3.keep fun b hb => hR.block b (hb.elim (fun h9 => Nat.lt_of_lt_of_le (hF b h9) h4) (fun h9 => h9.2.1)) (fun e => by injection e with e; exact hb.elim (fun h9 => by have := hF b h9; omega) (fun h9 => by omega))).mono fun b hb => hb.imp id fun h9 => ⟨h9.1, Nat.lt_of_lt_of_le h9.2.1 hR.size, h9.2.2⟩
theorem ATup.up {F S : Nat → Prop} {w x y : World} {m : (N × Bool) × Int} {v : Value} (hF : ∀ b, F b → b < w.heap.size) (h : ATup F S w m v x) (hb : Below x.heap.size x y) : ATup F S w m v y := by
  obtain ⟨A2, c2, h1, h2, h3, h4⟩ := h
  exact ⟨A2, c2, h1, h2, G2.up2 h3 (fun b hb => Nat.lt_of_lt_of_le (hF b hb) h4) hb, Nat.le_trans h4 hb.size⟩
theorem ATup.st {F S : Nat → Prop} {w x y : World} {m : (N × Bool) × Int} {v : Value} (hF : ∀ b, F b → b < w.heap.size) (h : ATup F S w m v x) (hR : x.grownBy y (some w.heap.size)) : ATup F S w m v y := by
  obtain ⟨A2, c2, h1, h2, h3, h4⟩ := h
  exact ⟨A2, c2, h1, h2, g2_stS hF h3 h4 hR, Nat.le_trans h4 hR.size⟩
theorem ANet.up {F S : Nat → Prop} {w x y : World} {m : (N × Bool) × Int} {v : Value} (hF : ∀ b, F b → b < w.heap.size) (h : ANet F S w m v x) (hb : Below x.heap.size x y) : ANet F S w m v y := by
  obtain ⟨A2, c2, h1, h2, h3, h4⟩ := h
  exact ⟨A2, c2, h1, h2, G2.up2 h3 (fun b hb => Nat.lt_of_lt_of_le (hF b hb) h4) hb, Nat.le_trans h4 hb.size⟩
theorem ANet.st {F S : Nat → Prop} {w x y : World} {m : (N × Bool) × Int} {v : Value} (hF : ∀ b, F b → b < w.heap.size) (h : ANet F S w m v x) (hR : x.grownBy y (some w.heap.size)) : ANet F S w m v y := by
  obtain ⟨A2, c2, h1, h2, h3, h4⟩ := h
  exact ⟨A2, c2, h1, h2, g2_stS hF h3 h4 hR, Nat.le_trans h4 hR.size⟩
set_option maxRecDepth 100000 in
set_option maxHeartbeats 8000000 in
theorem l7Add_any (F : Nat → Prop) (A : Option Addr) (c : Nat) (k : N × Bool) (c0 : Int) (X Y : Option Addr) (cx cy : Nat) (xs ys : List Int) (w : World) (h : Lay.gate.Sl w F A k.1.gs) (hF : ∀ b, F b → b < w.heap.size) (hA : A = none → k.1.gs.length = 0) (hnb : NB k.1) (hc : RB c0) (hX : Lay.int.Rd w X xs) (hY : Lay.int.Rd w Y ys) (hxm : ∀ x ∈ xs, RB x) (hym : ∀ y ∈ ys, RB y) (hl : xs.length = ys.length) (hn : xs.length ≤ 1000) :
    Calls Tryd.prog 97 #[.agg #[.int .i64 k.1.ins, .slice A k.1.gs.length c, .bool k.2], .slice X xs.length cx, .slice Y ys.length cy, .int .i64 c0] w (RetKL F w (run opsR (sumP xs ys c0) k)) := by
  obtain ⟨T, hT⟩ : ∃ T, T = run opsR (sumP xs ys c0) k := ⟨_, rfl⟩
  rw [← hT]
  have HT := Lib.hid hT
  have K0 := KS.two (c := c) h hF hA
  have HRW := Lib.hid (h.below K0.bel hF)
  have HNIL := Lib.hid hA
  have HF := Lib.hid hF
  have HNB := Lib.hid hnb
  have HX := Lib.hid hX
  have HY := Lib.hid hY
  have HXM := Lib.hid hxm
  have HYM := Lib.hid hym
  have HL := Lib.hid hl
  have HC0 := Lib.hid hc
  have K0 := Lib.hid K0
  have hX0s : ((w.alloc (.cells #[.int .i64 k.1.ins, .slice A k.1.gs.length c, .bool k.2] 68)).alloc (.cells #[.int .i64 0, .slice none 0 0, .bool false] 68)).heap.size = w.heap.size + 2 := by simp
  clear h hA hnb hX hY hxm hym hc hT
  rw [← hl]
  clear hl
  go_enter Tryd.func97, Tryd.ntmps97
  go_wp2
  generalize hX0 : (w.alloc (.cells #[.int .i64 k.1.ins, .slice A k.1.gs.length c, .bool k.2] 68)).alloc (.cells #[.int .i64 0, .slice none 0 0, .bool false] 68) = X0 at *
  clear hX0
  have hal : Below X0.heap.size X0 (X0.alloc (.cells #[] 3)) := (Below.refl _ _).alloc (Nat.le_refl _) _
  have hown0 : OwnI (X0.alloc (.cells #[] 3)) (w.heap.size + 2) (.slice (some ⟨w.heap.size + 1 + 1, 0, none⟩) 0 0) [] := own_lit0 hX0s
  have K1 := Lib.hid (K0.out.up HF.out hal)
  have HO0 := Lib.hid hown0
  have HRW := Lib.hid (HRW.out.below hal (fun b hb => by have := HF.out b hb; omega))
  clear hal hown0 K0
  go_loopw [10, 11, 3] (fun out i cv wr => ∃ (j : Nat) (k1 : N × Bool) (l : List Int) (A1 B : Option Addr) (c1 d : Nat) (cc : Int), j ≤ xs.length ∧ i = .int .i64 j ∧ out = .slice B l.length d ∧ cv = .int .i64 cc ∧ RB cc ∧ l.length = j ∧ (∀ m ∈ l, RB m) ∧ AddI F w wr k1 A1 c1 B d l ∧ NB k1.1 ∧ Hid ((let z := run opsR (sumP (xs.drop j) (ys.drop j) cc) k1; (z.1, l ++ z.2)) = T)) (fun _ i _ _ => xs.length - (intOf i).toNat)
  case atStart => exact ⟨0, k, [], A, some ⟨w.heap.size + 1 + 1, 0, none⟩, c, 0, c0, Nat.zero_le _, rfl, rfl, rfl, HC0.out, rfl, (fun _ h => by cases h), ⟨⟨K1.out.bel, K1.out.var, K1.out.res, HRW.out.mono fun _ => .inl, HNIL.out⟩, HO0.out⟩, HNB.out, Lib.hid (by rw [HT.out]; rfl)⟩
  case round =>
    obtain ⟨j, k1, l, A1, B, c1, d, cc, hj, rfl, rfl, rfl, hcc, hlj, hlm, hks, hnb1, hst⟩ := hrel
    have HCC := Lib.hid hcc
    have HLM := Lib.hid hlm
    have HKS := Lib.hid hks
    have HLJ := Lib.hid hlj
    have HNB1 := Lib.hid hnb1
    clear hlm hks hlj hnb1 hcc
    by_cases hlt : j < xs.length
    · have hlt2 : (j : Int) < xs.length := by omega
      have hlty : j < ys.length := by rw [← HL.out]; exact hlt
      obtain ⟨x, hx⟩ : ∃ x, xs[j]? = some x := ⟨_, List.getElem?_eq_getElem hlt⟩
      obtain ⟨y, hy⟩ : ∃ y, ys[j]? = some y := ⟨_, List.getElem?_eq_getElem hlty⟩
      have hxg : xs[j] = x := (List.getElem?_eq_some_iff.1 hx).2
      have hyg : ys[j] = y := (List.getElem?_eq_some_iff.1 hy).2
      have HXYM := Lib.hid (And.intro (HXM.out x (List.mem_of_getElem? hx)) (HYM.out y (List.mem_of_getElem? hy)))
      obtain ⟨adx, rfl, -, -⟩ := HX.out.at_int hlt
      obtain ⟨ady, rfl, -, -⟩ := HY.out.at_int hlty
      have HST := Lib.hid ((run_sum (o := opsR) xs ys j x y hx hy k1 cc l).symm.trans hst.out)
      have HRX : Hid (∀ z, Below w.heap.size w z → z.cell? (adx.add j) = some (.int .i64 x)) := Lib.hid fun z hz => by
        obtain ⟨ad, e, _, hc⟩ := (HX.out.up hz).at_int hlt
        injection e with e; subst e; rw [← hxg]; exact hc
      have HRY : Hid (∀ z, Below w.heap.size w z → z.cell? (ady.add j) = some (.int .i64 y)) := Lib.hid fun z hz => by
        obtain ⟨ad, e, _, hc⟩ := (HY.out.up hz).at_int hlty
        injection e with e; subst e; rw [← hyg]; exact hc
      have hll : l.length ≤ 1000 := by have := HLJ.out; omega
      clear hx hy hxg hyg hst hlty
      obtain ⟨m, h9⟩ : ∃ m, m = opsR.xor k1 x y := ⟨_, rfl⟩
      have HM := Lib.hid h9
      have HMB : Hid (NB m.1.1 ∧ RB m.2) := Lib.hid (by rw [h9]; exact opsR_xor_nb HNB1.out HXYM.out.1 HXYM.out.2)
      clear h9
      obtain ⟨u, h9⟩ : ∃ u, u = opsR.xor m.1 m.2 cc := ⟨_, rfl⟩
      have HU := Lib.hid h9
      have HUB : Hid (NB u.1.1 ∧ RB u.2) := Lib.hid (by rw [h9]; exact opsR_xor_nb HMB.out.1 HMB.out.2 HCC.out)
      clear h9
      obtain ⟨p, h9⟩ : ∃ p, p = opsR.and u.1 x y := ⟨_, rfl⟩
      have HP := Lib.hid h9
      have HPB : Hid (NB p.1.1 ∧ RB p.2) := Lib.hid (by rw [h9]; exact opsR_and_nb HUB.out.1 HXYM.out.1 HXYM.out.2)
      clear h9
      obtain ⟨q, h9⟩ : ∃ q, q = opsR.and p.1 m.2 cc := ⟨_, rfl⟩
      have HQ := Lib.hid h9
      have HQB : Hid (NB q.1.1 ∧ RB q.2) := Lib.hid (by rw [h9]; exact opsR_and_nb HPB.out.1 HMB.out.2 HCC.out)
      clear h9
      obtain ⟨g, h9⟩ : ∃ g, g = run opsR (orP p.2 q.2) q.1 := ⟨_, rfl⟩
      have HG := Lib.hid h9
      have HGB : Hid (NB g.1.1 ∧ RB g.2) := Lib.hid (by rw [h9]; exact or_rb HQB.out.1 HPB.out.2 HQB.out.2)
      clear h9
      have HST : Hid ((let r := run opsR (sumP (xs.drop (j + 1)) (ys.drop (j + 1)) g.2) g.1; (r.1, (l ++ [u.2]) ++ r.2)) = T) := Lib.hid (by rw [HG.out, HQ.out, HP.out, HU.out, HM.out]; exact HST.out)
      obtain ⟨l2, hl2⟩ : ∃ l2, l2 = l ++ [u.2] := ⟨_, rfl⟩
      have HL2 := Lib.hid hl2
      clear hl2
      go_wp2
      refine wp_region_rel4 [[], [], [], [(1, 25), (2, 26)], [(3, 27)], [], [], [(5, 29), (6, 30)], [(7, 31)], [(0, 24), (4, 28), (8, 32)], [(9, 33)], [(10, 23)], [(10, 23)], [(11, 34)], [(12, 35)]]
        (fun x9 y9 => Below x9.heap.size x9 y9)
        [(13, fun x9 y9 => x9.grownBy y9 (some w.heap.size))]
        (fun f9 x9 => (f9 13 = false → AddI F w x9 k1 A1 c1 B d l) ∧ (f9 13 = true → ∃ A9 c9, AddI F w x9 m.1 A9 c9 B d l) ∧ Below w.heap.size w x9)
        [fun vs9 _ => vs9 0 = (.agg #[.int .i64 k1.1.ins, .slice A1 k1.1.gs.length c1, .bool k1.2]),
    fun vs9 _ => vs9 1 = (.slice (some adx) xs.length cx),
    fun vs9 _ => vs9 2 = (.int .i64 (j : Int)),
    fun vs9 _ => vs9 3 = (.pointer (some (adx.add j))),
    fun vs9 _ => vs9 4 = (.int .i64 x),
    fun vs9 _ => vs9 5 = (.slice (some ady) xs.length cy),
    fun vs9 _ => vs9 6 = (.int .i64 (j : Int)),
    fun vs9 _ => vs9 7 = (.pointer (some (ady.add j))),
    fun vs9 _ => vs9 8 = (.int .i64 y),
    fun vs9 y9 => (fun v z => ATup F (fun b => (Value.slice B l.length d).ownBlock = some b) w m v z) (vs9 9) y9,
    fun vs9 y9 => (fun v z => ATup F (fun b => (Value.slice B l.length d).ownBlock = some b) w m v z) (vs9 10) y9,
    fun vs9 y9 => (fun v z => ANet F (fun b => (Value.slice B l.length d).ownBlock = some b) w m v z) (vs9 11) y9,
    fun vs9 _ => vs9 12 = (.int .i64 m.2),
    fun _ _ => True,
    fun vs9 _ => vs9 14 = (.int .i64 m.2)]
        [(0, 24), (1, 25), (2, 26), (3, 27), (4, 28), (5, 29), (6, 30), (7, 31), (8, 32), (9, 33), (10, 23), (11, 34), (12, 35), (14, 12)] (by kernel_rfl) (by kernel_rfl) (by kernel_rfl) (by kernel_rfl)
        (fun _ => Below.refl _ _) ⟨fun _ => World.grownBy.refl _ _, trivial⟩
        ⟨⟨.inr (fun _ _ _ h _ => h), ⟨.inr (.inr (fun _ _ _ h _ => h)), trivial⟩⟩,
    ⟨.inr (fun _ _ _ h _ => h), ⟨.inr (.inr (fun _ _ _ h _ => h)), trivial⟩⟩,
    ⟨.inr (fun _ _ _ h _ => h), ⟨.inr (.inr (fun _ _ _ h _ => h)), trivial⟩⟩,
    ⟨.inr (fun _ _ _ h _ => h), ⟨.inr (.inr (fun _ _ _ h _ => h)), trivial⟩⟩,
    ⟨.inr (fun _ _ _ h _ => h), ⟨.inr (.inr (fun _ _ _ h _ => h)), trivial⟩⟩,
    ⟨.inr (fun _ _ _ h _ => h), ⟨.inr (.inr (fun _ _ _ h _ => h)), trivial⟩⟩,
    ⟨.inr (fun _ _ _ h _ => h), ⟨.inr (.inr (fun _ _ _ h _ => h)), trivial⟩⟩,
    ⟨.inr (fun _ _ _ h _ => h), ⟨.inr (.inr (fun _ _ _ h _ => h)), trivial⟩⟩,
    ⟨.inr (fun _ _ _ h _ => h), ⟨.inr (.inr (fun _ _ _ h _ => h)), trivial⟩⟩,
    ⟨.inr (fun vs9 x9 y9 h9 hR9 => (show ∀ v9 y8 y7, (fun v z => ATup F (fun b => (Value.slice B l.length d).ownBlock = some b) w m v z) v9 y8 → (fun x9 y9 => Below x9.heap.size x9 y9) y8 y7 → (fun v z => ATup F (fun b => (Value.slice B l.length d).ownBlock = some b) w m v z) v9 y7 from fun _ _ _ h9 hR => h9.up HF.out hR) (vs9 9) x9 y9 h9 hR9), ⟨.inr (.inr (fun vs9 x9 y9 h9 hR9 => (show ∀ v9 y8 y7, (fun v z => ATup F (fun b => (Value.slice B l.length d).ownBlock = some b) w m v z) v9 y8 → (fun x9 y9 => x9.grownBy y9 (some w.heap.size)) y8 y7 → (fun v z => ATup F (fun b => (Value.slice B l.length d).ownBlock = some b) w m v z) v9 y7 from fun _ _ _ h9 hR => h9.st HF.out hR) (vs9 9) x9 y9 h9 hR9)), trivial⟩⟩,
    ⟨.inr (fun vs9 x9 y9 h9 hR9 => (show ∀ v9 y8 y7, (fun v z => ATup F (fun b => (Value.slice B l.length d).ownBlock = some b) w m v z) v9 y8 → (fun x9 y9 => Below x9.heap.size x9 y9) y8 y7 → (fun v z => ATup F (fun b => (Value.slice B l.length d).ownBlock = some b) w m v z) v9 y7 from fun _ _ _ h9 hR => h9.up HF.out hR) (vs9 10) x9 y9 h9 hR9), ⟨.inr (.inr (fun vs9 x9 y9 h9 hR9 => (show ∀ v9 y8 y7, (fun v z => ATup F (fun b => (Value.slice B l.length d).ownBlock = some b) w m v z) v9 y8 → (fun x9 y9 => x9.grownBy y9 (some w.heap.size)) y8 y7 → (fun v z => ATup F (fun b => (Value.slice B l.length d).ownBlock = some b) w m v z) v9 y7 from fun _ _ _ h9 hR => h9.st HF.out hR) (vs9 10) x9 y9 h9 hR9)), trivial⟩⟩,
    ⟨.inr (fun vs9 x9 y9 h9 hR9 => (show ∀ v9 y8 y7, (fun v z => ANet F (fun b => (Value.slice B l.length d).ownBlock = some b) w m v z) v9 y8 → (fun x9 y9 => Below x9.heap.size x9 y9) y8 y7 → (fun v z => ANet F (fun b => (Value.slice B l.length d).ownBlock = some b) w m v z) v9 y7 from fun _ _ _ h9 hR => h9.up HF.out hR) (vs9 11) x9 y9 h9 hR9), ⟨.inr (.inr (fun vs9 x9 y9 h9 hR9 => (show ∀ v9 y8 y7, (fun v z => ANet F (fun b => (Value.slice B l.length d).ownBlock = some b) w m v z) v9 y8 → (fun x9 y9 => x9.grownBy y9 (some w.heap.size)) y8 y7 → (fun v z => ANet F (fun b => (Value.slice B l.length d).ownBlock = some b) w m v z) v9 y7 from fun _ _ _ h9 hR => h9.st HF.out hR) (vs9 11) x9 y9 h9 hR9)), trivial⟩⟩,
    ⟨.inr (fun _ _ _ h _ => h), ⟨.inr (.inr (fun _ _ _ h _ => h)), trivial⟩⟩,
    ⟨.inr (fun _ _ _ h _ => h), ⟨.inr (.inl rfl), trivial⟩⟩,
    ⟨.inr (fun _ _ _ h _ => h), ⟨.inr (.inr (fun _ _ _ h _ => h)), trivial⟩⟩, trivial⟩ ⟨fun vs vs' x h _ hv => (by dsimp only at hv ⊢; first | (rw [← h]; exact hv) | exact hv),
    fun vs vs' x h _ hv => (by dsimp only at hv ⊢; first | (rw [← h]; exact hv) | exact hv),
    fun vs vs' x h _ hv => (by dsimp only at hv ⊢; first | (rw [← h]; exact hv) | exact hv),
    fun vs vs' x h _ hv => (by dsimp only at hv ⊢; first | (rw [← h]; exact hv) | exact hv),
    fun vs vs' x h _ hv => (by dsimp only at hv ⊢; first | (rw [← h]; exact hv) | exact hv),
    fun vs vs' x h _ hv => (by dsimp only at hv ⊢; first | (rw [← h]; exact hv) | exact hv),
    fun vs vs' x h _ hv => (by dsimp only at hv ⊢; first | (rw [← h]; exact hv) | exact hv),
    fun vs vs' x h _ hv => (by dsimp only at hv ⊢; first | (rw [← h]; exact hv) | exact hv),
    fun vs vs' x h _ hv => (by dsimp only at hv ⊢; first | (rw [← h]; exact hv) | exact hv),
    fun vs vs' x h _ hv => (by dsimp only at hv ⊢; first | (rw [← h]; exact hv) | exact hv),
    fun vs vs' x h _ hv => (by dsimp only at hv ⊢; first | (rw [← h]; exact hv) | exact hv),
    fun vs vs' x h _ hv => (by dsimp only at hv ⊢; first | (rw [← h]; exact hv) | exact hv),
    fun vs vs' x h _ hv => (by dsimp only at hv ⊢; first | (rw [← h]; exact hv) | exact hv),
    fun _ _ _ _ _ _ => trivial,
    fun vs vs' x h _ hv => (by dsimp only at hv ⊢; first | (rw [← h]; exact hv) | exact hv), trivial⟩ (⟨fun _ => HKS.out.up HF.out (below_drewN (Below.refl _ _) 1), (fun h => by cases h), bthen HKS.out.ks.bel (below_drewN (Below.refl _ _) 1)⟩) ⟨?_, ?_, ?_, ?_, ?_, ?_, ?_, ?_, ?_, ?_, ?_, ?_, ?_, ?_, ?_, trivial⟩ ?_
      · intro vals xw f hf1 hf2 hf3 hI hF
        have k13 : f 13 = false := hf3 13 (by kernel_rfl)
        clear hf2 hf3
        dsimp only [owes4, bare]
        simp only [putsD, Act.put, List.setIfInBounds_toArray, List.set_cons_zero, List.set_cons_succ]
        have hv9 := (hI.1 k13).ks.var
        have y0 := (cell_of_block hv9 0).1
        have y1 := (cell_of_block hv9 1).1
        have y2 := (cell_of_block hv9 2).1
        go_wp2
        exact ⟨rfl, rfl, ⟨fun h9 => absurd h9 (Nat.ne_of_beq_eq_false rfl), fun _ => Below.refl _ _⟩, hI⟩
      · intro vals xw f hf1 hf2 hf3 hI hF
        clear hf2 hf3
        dsimp only [owes4, bare]
        simp only [putsD, Act.put, List.setIfInBounds_toArray, List.set_cons_zero, List.set_cons_succ]
        go_wp2
        exact ⟨rfl, rfl, ⟨fun h9 => absurd h9 (Nat.ne_of_beq_eq_false rfl), fun _ => Below.refl _ _⟩, hI⟩
      · intro vals xw f hf1 hf2 hf3 hI hF
        clear hf2 hf3
        dsimp only [owes4, bare]
        simp only [putsD, Act.put, List.setIfInBounds_toArray, List.set_cons_zero, List.set_cons_succ]
        go_wp2
        exact ⟨rfl, rfl, ⟨fun h9 => absurd h9 (Nat.ne_of_beq_eq_false rfl), fun _ => Below.refl _ _⟩, hI⟩
      · intro vals xw f hf1 hf2 hf3 hI hF
        clear hf2 hf3
        simp only [saysD, List.getD_cons_zero, List.getD_cons_succ, and_true] at hF
        obtain ⟨e25, e26⟩ := hF
        dsimp only [owes4, bare]
        simp only [putsD, Act.put, List.setIfInBounds_toArray, List.set_cons_zero, List.set_cons_succ]
        simp only [e25, e26]
        go_wp2
        exact ⟨rfl, rfl, ⟨fun h9 => absurd h9 (Nat.ne_of_beq_eq_false rfl), fun _ => Below.refl _ _⟩, hI⟩
      · intro vals xw f hf1 hf2 hf3 hI hF
        clear hf2 hf3
        simp only [saysD, List.getD_cons_zero, List.getD_cons_succ, and_true] at hF
        have e27 := hF
        dsimp only [owes4, bare]
        simp only [putsD, Act.put, List.setIfInBounds_toArray, List.set_cons_zero, List.set_cons_succ]
        simp only [e27]
        have c9 := HRX.out _ hI.2.2
        go_wp2
        exact ⟨rfl, rfl, ⟨fun h9 => absurd h9 (Nat.ne_of_beq_eq_false rfl), fun _ => Below.refl _ _⟩, hI⟩
      · intro vals xw f hf1 hf2 hf3 hI hF
        clear hf2 hf3
        dsimp only [owes4, bare]
        simp only [putsD, Act.put, List.setIfInBounds_toArray, List.set_cons_zero, List.set_cons_succ]
        go_wp2
        exact ⟨rfl, rfl, ⟨fun h9 => absurd h9 (Nat.ne_of_beq_eq_false rfl), fun _ => Below.refl _ _⟩, hI⟩
      · intro vals xw f hf1 hf2 hf3 hI hF
        clear hf2 hf3
        dsimp only [owes4, bare]
        simp only [putsD, Act.put, List.setIfInBounds_toArray, List.set_cons_zero, List.set_cons_succ]
        go_wp2
        exact ⟨rfl, rfl, ⟨fun h9 => absurd h9 (Nat.ne_of_beq_eq_false rfl), fun _ => Below.refl _ _⟩, hI⟩
      · intro vals xw f hf1 hf2 hf3 hI hF
        clear hf2 hf3
        simp only [saysD, List.getD_cons_zero, List.getD_cons_succ, and_true] at hF
        obtain ⟨e29, e30⟩ := hF
        dsimp only [owes4, bare]
        simp only [putsD, Act.put, List.setIfInBounds_toArray, List.set_cons_zero, List.set_cons_succ]
        simp only [e29, e30]
        go_wp2
        exact ⟨rfl, rfl, ⟨fun h9 => absurd h9 (Nat.ne_of_beq_eq_false rfl), fun _ => Below.refl _ _⟩, hI⟩
      · intro vals xw f hf1 hf2 hf3 hI hF
        clear hf2 hf3
        simp only [saysD, List.getD_cons_zero, List.getD_cons_succ, and_true] at hF
        have e31 := hF
        dsimp only [owes4, bare]
        simp only [putsD, Act.put, List.setIfInBounds_toArray, List.set_cons_zero, List.set_cons_succ]
        simp only [e31]
        have c9 := HRY.out _ hI.2.2
        go_wp2
        exact ⟨rfl, rfl, ⟨fun h9 => absurd h9 (Nat.ne_of_beq_eq_false rfl), fun _ => Below.refl _ _⟩, hI⟩
      · intro vals xw f hf1 hf2 hf3 hI hF
        have k13 : f 13 = false := hf3 13 (by kernel_rfl)
        clear hf2 hf3
        simp only [saysD, List.getD_cons_zero, List.getD_cons_succ, and_true] at hF
        obtain ⟨e24, e28, e32⟩ := hF
        dsimp only [owes4, bare]
        simp only [putsD, Act.put, List.setIfInBounds_toArray, List.set_cons_zero, List.set_cons_succ]
        simp only [e24, e28, e32]
        have HI := Lib.hid hI
        have HK := Lib.hid (hI.1 k13)
        have hsz9 := hI.2.2.size
        clear hI
        have HC := Lib.hid (l7Xor_any (G2 F w xw (fun b => (Value.slice B l.length d).ownBlock = some b)) A1 c1 k1 x y xw HK.out.ks.row (KS2.lt HK.out.ks.bel HF.out) HK.out.ks.nil HNB1.out HXYM.out.1 HXYM.out.2)
        rw [← HM.out] at HC
        go_wp2_with fail
        refine HC.out.mono ?_
        rintro e wx ⟨A9, c9, rfl, h2, h3, h4⟩
        have H3 := Lib.hid h3
        have H4 := Lib.hid h4
        clear h3 h4 HC
        go_wp2
        refine ⟨rfl, ⟨A9, c9, rfl, h2, H3.out.mono ?_, Nat.le_trans hsz9 H4.out.size⟩, ⟨fun h9 => absurd h9 (Nat.ne_of_beq_eq_false rfl), fun _ => H4.out⟩, (fun h => (HI.out.1 h).up HF.out H4.out), (fun h => absurd (k13.symm.trans h) (by simp)), bthen HI.out.2.2 H4.out⟩
        intro b hb
        rcases hb with (h9 | h9) | h9
        · exact .inl h9
        · exact .inr ⟨h9.1, Nat.lt_of_lt_of_le h9.2.1 H4.out.size, h9.2.2⟩
        · exact .inr ⟨by have := lt_of_block HK.out.ks.res; omega, h9.2, fun e => by have := (HK.out.own.lt b e).2; omega⟩
      · intro vals xw f hf1 hf2 hf3 hI hF
        clear hf2 hf3
        simp only [saysD, List.getD_cons_zero, List.getD_cons_succ, and_true] at hF
        obtain ⟨A9, c9, e33, h2, h3, h4⟩ := hF
        dsimp only [owes4, bare]
        simp only [putsD, Act.put, List.setIfInBounds_toArray, List.set_cons_zero, List.set_cons_succ]
        simp only [e33]
        go_wp2
        exact ⟨rfl, ⟨A9, c9, rfl, h2, h3, h4⟩, ⟨fun h9 => absurd h9 (Nat.ne_of_beq_eq_false rfl), fun _ => Below.refl _ _⟩, hI⟩
      · intro vals xw f hf1 hf2 hf3 hI hF
        clear hf2 hf3
        simp only [saysD, List.getD_cons_zero, List.getD_cons_succ, and_true] at hF
        obtain ⟨A9, c9, e23, h2, h3, h4⟩ := hF
        dsimp only [owes4, bare]
        simp only [putsD, Act.put, List.setIfInBounds_toArray, List.set_cons_zero, List.set_cons_succ]
        simp only [e23]
        go_wp2
        exact ⟨rfl, ⟨A9, c9, rfl, h2, h3, h4⟩, ⟨fun h9 => absurd h9 (Nat.ne_of_beq_eq_false rfl), fun _ => Below.refl _ _⟩, hI⟩
      · intro vals xw f hf1 hf2 hf3 hI hF
        clear hf2 hf3
        simp only [saysD, List.getD_cons_zero, List.getD_cons_succ, and_true] at hF
        obtain ⟨A9, c9, e23, h2, h3, h4⟩ := hF
        dsimp only [owes4, bare]
        simp only [putsD, Act.put, List.setIfInBounds_toArray, List.set_cons_zero, List.set_cons_succ]
        simp only [e23]
        go_wp2
        exact ⟨rfl, rfl, ⟨fun h9 => absurd h9 (Nat.ne_of_beq_eq_false rfl), fun _ => Below.refl _ _⟩, hI⟩
      · intro vals xw f hf1 hf2 hf3 hI hF
        clear hf2 hf3
        simp only [saysD, List.getD_cons_zero, List.getD_cons_succ, and_true] at hF
        obtain ⟨A9, c9, e34, h2, h3, h4⟩ := hF
        dsimp only [owes4, bare]
        simp only [putsD, Act.put, List.setIfInBounds_toArray, List.set_cons_zero, List.set_cons_succ]
        simp only [e34]
        have HI := Lib.hid hI
        have HK := Lib.hid (hI.1 hf1)
        have hv9 := HK.out.ks.var
        have y0 := (cell_of_block hv9 0).1
        have y1 := (cell_of_block hv9 1).1
        have y2 := (cell_of_block hv9 2).1
        have g0 := (cell_of_block hv9 0).2
        have g1 := (cell_of_block hv9 1).2
        have g2 := (cell_of_block hv9 2).2
        have H3 := Lib.hid h3
        clear hI hv9 h3 h4
        go_wp2
        have hset := HK.out.set (c' := c9) HF.out H3.out h2
        have hgr : xw.grownBy (st3 xw w.heap.size (.int .i64 m.1.1.ins) (.slice A9 m.1.1.gs.length c9) (.bool m.1.2)) (some w.heap.size) := only_setCell (only_setCell (only_setCell (World.grownBy.refl _ _) _ _) _ _) _ _
        exact ⟨rfl, trivial, ⟨fun _ => hgr, fun h9 => absurd rfl h9⟩, fun h => absurd ((did_same f 13).symm.trans h) (by simp), fun _ => ⟨A9, c9, hset⟩, st3_below HI.out.2.2 (Nat.le_refl _) _ _ _⟩
      · intro vals xw f hf1 hf2 hf3 hI hF
        clear hf2 hf3
        simp only [saysD, List.getD_cons_zero, List.getD_cons_succ, and_true] at hF
        have e35 := hF
        dsimp only [owes4, bare]
        simp only [putsD, Act.put, List.setIfInBounds_toArray, List.set_cons_zero, List.set_cons_succ]
        simp only [e35]
        go_wp2
        exact ⟨rfl, rfl, ⟨fun h9 => absurd h9 (Nat.ne_of_beq_eq_false rfl), fun _ => Below.refl _ _⟩, hI⟩
      · intro vals xw f hall hI hF
        rw [show List.range _ = [0, 1, 2, 3, 4, 5, 6, 7, 8, 9, 10, 11, 12, 13, 14] from rfl] at hF
        simp only [says, List.getD_cons_zero, List.getD_cons_succ, and_true] at hF
        obtain ⟨A2, c2, hk2⟩ := hI.2.1 (hall 13 (by decide))
        have e9 : vals 14 = .int .i64 m.2 := by obtain ⟨_, _, _, _, _, _, _, _, _, _, _, _, _, _, e9⟩ := hF; exact e9
        have K2 := Lib.hid hk2
        clear hF hk2 hI
        simp only [putsD, Act.put, List.setIfInBounds_toArray, List.set_cons_zero, List.set_cons_succ]
        simp only [e9]
        clear e9
        have hv9 := K2.out.ks.var
        have y0 := (cell_of_block hv9 0).1
        have y1 := (cell_of_block hv9 1).1
        have y2 := (cell_of_block hv9 2).1
        clear hv9
        have HC := Lib.hid (l7Xor_any _ A2 c2 m.1 m.2 cc _ K2.out.ks.row (KS2.lt K2.out.ks.bel HF.out) K2.out.ks.nil HMB.out.1 HMB.out.2 HCC.out)
        rw [← HU.out] at HC
        go_wp2_with fail
        refine HC.out.mono ?_
        rintro e z3 ⟨A3, c3, rfl, hn9, hs9, hb9⟩
        have hv9 := (hb9.block _ (lt_of_block K2.out.ks.var)).trans K2.out.ks.var
        clear y0 y1 y2 HC
        have y0 := (cell_of_block hv9 0).1
        have y1 := (cell_of_block hv9 1).1
        have y2 := (cell_of_block hv9 2).1
        have g0 := (cell_of_block hv9 0).2
        have g1 := (cell_of_block hv9 1).2
        have g2 := (cell_of_block hv9 2).2
        have K9 := K2.out.call (c' := c3) HF.out hs9 hb9 hn9
        dsimp only [st3] at K9
        have K3 := Lib.hid K9
        clear K9 hs9 hb9 hn9 hv9 K2
        go_wp2
        generalize hX3 : ((z3.setCell ⟨w.heap.size, 0, none⟩ (.int .i64 u.1.1.ins)).setCell ⟨w.heap.size, 1, none⟩ (.slice A3 u.1.1.gs.length c3)).setCell ⟨w.heap.size, 2, none⟩ (.bool u.1.2) = X3 at *
        clear hX3 y0 y1 y2 g0 g1 g2
        refine wp_region_rel4 [[], [], [], [(1, 45), (2, 46)], [(3, 47)], [], [], [(5, 49), (6, 50)], [(7, 51)], [(0, 44), (4, 48), (8, 52)], [(9, 53)], [(10, 43)], [(10, 43)], [(11, 54)], [(12, 55)]]
          (fun x9 y9 => Below x9.heap.size x9 y9)
          [(13, fun x9 y9 => x9.grownBy y9 (some w.heap.size))]
          (fun f9 x9 => (f9 13 = false → AddI F w x9 u.1 A3 c3 B d l) ∧ (f9 13 = true → ∃ A9 c9, AddI F w x9 p.1 A9 c9 B d l) ∧ Below w.heap.size w x9)
          [fun vs9 _ => vs9 0 = (.agg #[.int .i64 u.1.1.ins, .slice A3 u.1.1.gs.length c3, .bool u.1.2]),
    fun vs9 _ => vs9 1 = (.slice (some adx) xs.length cx),
    fun vs9 _ => vs9 2 = (.int .i64 (j : Int)),
    fun vs9 _ => vs9 3 = (.pointer (some (adx.add j))),
    fun vs9 _ => vs9 4 = (.int .i64 x),
    fun vs9 _ => vs9 5 = (.slice (some ady) xs.length cy),
    fun vs9 _ => vs9 6 = (.int .i64 (j : Int)),
    fun vs9 _ => vs9 7 = (.pointer (some (ady.add j))),
    fun vs9 _ => vs9 8 = (.int .i64 y),
    fun vs9 y9 => (fun v z => ATup F (fun b => (Value.slice B l.length d).ownBlock = some b) w p v z) (vs9 9) y9,
    fun vs9 y9 => (fun v z => ATup F (fun b => (Value.slice B l.length d).ownBlock = some b) w p v z) (vs9 10) y9,
    fun vs9 y9 => (fun v z => ANet F (fun b => (Value.slice B l.length d).ownBlock = some b) w p v z) (vs9 11) y9,
    fun vs9 _ => vs9 12 = (.int .i64 p.2),
    fun _ _ => True,
    fun vs9 _ => vs9 14 = (.int .i64 p.2)]
          [(0, 44), (1, 45), (2, 46), (3, 47), (4, 48), (5, 49), (6, 50), (7, 51), (8, 52), (9, 53), (10, 43), (11, 54), (12, 55), (14, 14)] (by kernel_rfl) (by kernel_rfl) (by kernel_rfl) (by kernel_rfl)
          (fun _ => Below.refl _ _) ⟨fun _ => World.grownBy.refl _ _, trivial⟩
          ⟨⟨.inr (fun _ _ _ h _ => h), ⟨.inr (.inr (fun _ _ _ h _ => h)), trivial⟩⟩,
    ⟨.inr (fun _ _ _ h _ => h), ⟨.inr (.inr (fun _ _ _ h _ => h)), trivial⟩⟩,
    ⟨.inr (fun _ _ _ h _ => h), ⟨.inr (.inr (fun _ _ _ h _ => h)), trivial⟩⟩,
    ⟨.inr (fun _ _ _ h _ => h), ⟨.inr (.inr (fun _ _ _ h _ => h)), trivial⟩⟩,
    ⟨.inr (fun _ _ _ h _ => h), ⟨.inr (.inr (fun _ _ _ h _ => h)), trivial⟩⟩,
    ⟨.inr (fun _ _ _ h _ => h), ⟨.inr (.inr (fun _ _ _ h _ => h)), trivial⟩⟩,
    ⟨.inr (fun _ _ _ h _ => h), ⟨.inr (.inr (fun _ _ _ h _ => h)), trivial⟩⟩,
    ⟨.inr (fun _ _ _ h _ => h), ⟨.inr (.inr (fun _ _ _ h _ => h)), trivial⟩⟩,
    ⟨.inr (fun _ _ _ h _ => h), ⟨.inr (.inr (fun _ _ _ h _ => h)), trivial⟩⟩,
    ⟨.inr (fun vs9 x9 y9 h9 hR9 => (show ∀ v9 y8 y7, (fun v z => ATup F (fun b => (Value.slice B l.length d).ownBlock = some b) w p v z) v9 y8 → (fun x9 y9 => Below x9.heap.size x9 y9) y8 y7 → (fun v z => ATup F (fun b => (Value.slice B l.length d).ownBlock = some b) w p v z) v9 y7 from fun _ _ _ h9 hR => h9.up HF.out hR) (vs9 9) x9 y9 h9 hR9), ⟨.inr (.inr (fun vs9 x9 y9 h9 hR9 => (show ∀ v9 y8 y7, (fun v z => ATup F (fun b => (Value.slice B l.length d).ownBlock = some b) w p v z) v9 y8 → (fun x9 y9 => x9.grownBy y9 (some w.heap.size)) y8 y7 → (fun v z => ATup F (fun b => (Value.slice B l.length d).ownBlock = some b) w p v z) v9 y7 from fun _ _ _ h9 hR => h9.st HF.out hR) (vs9 9) x9 y9 h9 hR9)), trivial⟩⟩,
    ⟨.inr (fun vs9 x9 y9 h9 hR9 => (show ∀ v9 y8 y7, (fun v z => ATup F (fun b => (Value.slice B l.length d).ownBlock = some b) w p v z) v9 y8 → (fun x9 y9 => Below x9.heap.size x9 y9) y8 y7 → (fun v z => ATup F (fun b => (Value.slice B l.length d).ownBlock = some b) w p v z) v9 y7 from fun _ _ _ h9 hR => h9.up HF.out hR) (vs9 10) x9 y9 h9 hR9), ⟨.inr (.inr (fun vs9 x9 y9 h9 hR9 => (show ∀ v9 y8 y7, (fun v z => ATup F (fun b => (Value.slice B l.length d).ownBlock = some b) w p v z) v9 y8 → (fun x9 y9 => x9.grownBy y9 (some w.heap.size)) y8 y7 → (fun v z => ATup F (fun b => (Value.slice B l.length d).ownBlock = some b) w p v z) v9 y7 from fun _ _ _ h9 hR => h9.st HF.out hR) (vs9 10) x9 y9 h9 hR9)), trivial⟩⟩,
    ⟨.inr (fun vs9 x9 y9 h9 hR9 => (show ∀ v9 y8 y7, (fun v z => ANet F (fun b => (Value.slice B l.length d).ownBlock = some b) w p v z) v9 y8 → (fun x9 y9 => Below x9.heap.size x9 y9) y8 y7 → (fun v z => ANet F (fun b => (Value.slice B l.length d).ownBlock = some b) w p v z) v9 y7 from fun _ _ _ h9 hR => h9.up HF.out hR) (vs9 11) x9 y9 h9 hR9), ⟨.inr (.inr (fun vs9 x9 y9 h9 hR9 => (show ∀ v9 y8 y7, (fun v z => ANet F (fun b => (Value.slice B l.length d).ownBlock = some b) w p v z) v9 y8 → (fun x9 y9 => x9.grownBy y9 (some w.heap.size)) y8 y7 → (fun v z => ANet F (fun b => (Value.slice B l.length d).ownBlock = some b) w p v z) v9 y7 from fun _ _ _ h9 hR => h9.st HF.out hR) (vs9 11) x9 y9 h9 hR9)), trivial⟩⟩,
    ⟨.inr (fun _ _ _ h _ => h), ⟨.inr (.inr (fun _ _ _ h _ => h)), trivial⟩⟩,
    ⟨.inr (fun _ _ _ h _ => h), ⟨.inr (.inl rfl), trivial⟩⟩,
    ⟨.inr (fun _ _ _ h _ => h), ⟨.inr (.inr (fun _ _ _ h _ => h)), trivial⟩⟩, trivial⟩ ⟨fun vs vs' x h _ hv => (by dsimp only at hv ⊢; first | (rw [← h]; exact hv) | exact hv),
    fun vs vs' x h _ hv => (by dsimp only at hv ⊢; first | (rw [← h]; exact hv) | exact hv),
    fun vs vs' x h _ hv => (by dsimp only at hv ⊢; first | (rw [← h]; exact hv) | exact hv),
    fun vs vs' x h _ hv => (by dsimp only at hv ⊢; first | (rw [← h]; exact hv) | exact hv),
    fun vs vs' x h _ hv => (by dsimp only at hv ⊢; first | (rw [← h]; exact hv) | exact hv),
    fun vs vs' x h _ hv => (by dsimp only at hv ⊢; first | (rw [← h]; exact hv) | exact hv),
    fun vs vs' x h _ hv => (by dsimp only at hv ⊢; first | (rw [← h]; exact hv) | exact hv),
    fun vs vs' x h _ hv => (by dsimp only at hv ⊢; first | (rw [← h]; exact hv) | exact hv),
    fun vs vs' x h _ hv => (by dsimp only at hv ⊢; first | (rw [← h]; exact hv) | exact hv),
    fun vs vs' x h _ hv => (by dsimp only at hv ⊢; first | (rw [← h]; exact hv) | exact hv),
    fun vs vs' x h _ hv => (by dsimp only at hv ⊢; first | (rw [← h]; exact hv) | exact hv),
    fun vs vs' x h _ hv => (by dsimp only at hv ⊢; first | (rw [← h]; exact hv) | exact hv),
    fun vs vs' x h _ hv => (by dsimp only at hv ⊢; first | (rw [← h]; exact hv) | exact hv),
    fun _ _ _ _ _ _ => trivial,
    fun vs vs' x h _ hv => (by dsimp only at hv ⊢; first | (rw [← h]; exact hv) | exact hv), trivial⟩ (⟨fun _ => K3.out.up HF.out (below_drewN (Below.refl _ _) 1), (fun h => by cases h), bthen K3.out.ks.bel (below_drewN (Below.refl _ _) 1)⟩) ⟨?_, ?_, ?_, ?_, ?_, ?_, ?_, ?_, ?_, ?_, ?_, ?_, ?_, ?_, ?_, trivial⟩ ?_
        · intro vals xw f hf1 hf2 hf3 hI hF
          have k13 : f 13 = false := hf3 13 (by kernel_rfl)
          clear hf2 hf3
          dsimp only [owes4, bare]
          simp only [putsD, Act.put, List.setIfInBounds_toArray, List.set_cons_zero, List.set_cons_succ]
          have hv9 := (hI.1 k13).ks.var
          have y0 := (cell_of_block hv9 0).1
          have y1 := (cell_of_block hv9 1).1
          have y2 := (cell_of_block hv9 2).1
          go_wp2
          exact ⟨rfl, rfl, ⟨fun h9 => absurd h9 (Nat.ne_of_beq_eq_false rfl), fun _ => Below.refl _ _⟩, hI⟩
        · intro vals xw f hf1 hf2 hf3 hI hF
          clear hf2 hf3
          dsimp only [owes4, bare]
          simp only [putsD, Act.put, List.setIfInBounds_toArray, List.set_cons_zero, List.set_cons_succ]
          go_wp2
          exact ⟨rfl, rfl, ⟨fun h9 => absurd h9 (Nat.ne_of_beq_eq_false rfl), fun _ => Below.refl _ _⟩, hI⟩
        · intro vals xw f hf1 hf2 hf3 hI hF
          clear hf2 hf3
          dsimp only [owes4, bare]
          simp only [putsD, Act.put, List.setIfInBounds_toArray, List.set_cons_zero, List.set_cons_succ]
          go_wp2
          exact ⟨rfl, rfl, ⟨fun h9 => absurd h9 (Nat.ne_of_beq_eq_false rfl), fun _ => Below.refl _ _⟩, hI⟩
        · intro vals xw f hf1 hf2 hf3 hI hF
          clear hf2 hf3
          simp only [saysD, List.getD_cons_zero, List.getD_cons_succ, and_true] at hF
          obtain ⟨e45, e46⟩ := hF
          dsimp only [owes4, bare]
          simp only [putsD, Act.put, List.setIfInBounds_toArray, List.set_cons_zero, List.set_cons_succ]
          simp only [e45, e46]
          go_wp2
          exact ⟨rfl, rfl, ⟨fun h9 => absurd h9 (Nat.ne_of_beq_eq_false rfl), fun _ => Below.refl _ _⟩, hI⟩
        · intro vals xw f hf1 hf2 hf3 hI hF
          clear hf2 hf3
          simp only [saysD, List.getD_cons_zero, List.getD_cons_succ, and_true] at hF
          have e47 := hF
          dsimp only [owes4, bare]
          simp only [putsD, Act.put, List.setIfInBounds_toArray, List.set_cons_zero, List.set_cons_succ]
          simp only [e47]
          have c9 := HRX.out _ hI.2.2
          go_wp2
          exact ⟨rfl, rfl, ⟨fun h9 => absurd h9 (Nat.ne_of_beq_eq_false rfl), fun _ => Below.refl _ _⟩, hI⟩
        · intro vals xw f hf1 hf2 hf3 hI hF
          clear hf2 hf3
          dsimp only [owes4, bare]
          simp only [putsD, Act.put, List.setIfInBounds_toArray, List.set_cons_zero, List.set_cons_succ]
          go_wp2
          exact ⟨rfl, rfl, ⟨fun h9 => absurd h9 (Nat.ne_of_beq_eq_false rfl), fun _ => Below.refl _ _⟩, hI⟩
        · intro vals xw f hf1 hf2 hf3 hI hF
          clear hf2 hf3
          dsimp only [owes4, bare]
          simp only [putsD, Act.put, List.setIfInBounds_toArray, List.set_cons_zero, List.set_cons_succ]
          go_wp2
          exact ⟨rfl, rfl, ⟨fun h9 => absurd h9 (Nat.ne_of_beq_eq_false rfl), fun _ => Below.refl _ _⟩, hI⟩
        · intro vals xw f hf1 hf2 hf3 hI hF
          clear hf2 hf3
          simp only [saysD, List.getD_cons_zero, List.getD_cons_succ, and_true] at hF
          obtain ⟨e49, e50⟩ := hF
          dsimp only [owes4, bare]
          simp only [putsD, Act.put, List.setIfInBounds_toArray, List.set_cons_zero, List.set_cons_succ]
          simp only [e49, e50]
          go_wp2
          exact ⟨rfl, rfl, ⟨fun h9 => absurd h9 (Nat.ne_of_beq_eq_false rfl), fun _ => Below.refl _ _⟩, hI⟩
        · intro vals xw f hf1 hf2 hf3 hI hF
          clear hf2 hf3
          simp only [saysD, List.getD_cons_zero, List.getD_cons_succ, and_true] at hF
          have e51 := hF
          dsimp only [owes4, bare]
          simp only [putsD, Act.put, List.setIfInBounds_toArray, List.set_cons_zero, List.set_cons_succ]
          simp only [e51]
          have c9 := HRY.out _ hI.2.2
          go_wp2
          exact ⟨rfl, rfl, ⟨fun h9 => absurd h9 (Nat.ne_of_beq_eq_false rfl), fun _ => Below.refl _ _⟩, hI⟩
        · intro vals xw f hf1 hf2 hf3 hI hF
          have k13 : f 13 = false := hf3 13 (by kernel_rfl)
          clear hf2 hf3
          simp only [saysD, List.getD_cons_zero, List.getD_cons_succ, and_true] at hF
          obtain ⟨e44, e48, e52⟩ := hF
          dsimp only [owes4, bare]
          simp only [putsD, Act.put, List.setIfInBounds_toArray, List.set_cons_zero, List.set_cons_succ]
          simp only [e44, e48, e52]
          have HI := Lib.hid hI
          have HK := Lib.hid (hI.1 k13)
          have hsz9 := hI.2.2.size
          clear hI
          have HC := Lib.hid (l7And_any (G2 F w xw (fun b => (Value.slice B l.length d).ownBlock = some b)) A3 c3 u.1 x y xw HK.out.ks.row (KS2.lt HK.out.ks.bel HF.out) HK.out.ks.nil HUB.out.1 HXYM.out.1 HXYM.out.2)
          rw [← HP.out] at HC
          go_wp2_with fail
          refine HC.out.mono ?_
          rintro e wx ⟨A9, c9, rfl, h2, h3, h4⟩
          have H3 := Lib.hid h3
          have H4 := Lib.hid h4
          clear h3 h4 HC
          go_wp2
          refine ⟨rfl, ⟨A9, c9, rfl, h2, H3.out.mono ?_, Nat.le_trans hsz9 H4.out.size⟩, ⟨fun h9 => absurd h9 (Nat.ne_of_beq_eq_false rfl), fun _ => H4.out⟩, (fun h => (HI.out.1 h).up HF.out H4.out), (fun h => absurd (k13.symm.trans h) (by simp)), bthen HI.out.2.2 H4.out⟩
          intro b hb
          rcases hb with (h9 | h9) | h9
          · exact .inl h9
          · exact .inr ⟨h9.1, Nat.lt_of_lt_of_le h9.2.1 H4.out.size, h9.2.2⟩
          · exact .inr ⟨by have := lt_of_block HK.out.ks.res; omega, h9.2, fun e => by have := (HK.out.own.lt b e).2; omega⟩
        · intro vals xw f hf1 hf2 hf3 hI hF
          clear hf2 hf3
          simp only [saysD, List.getD_cons_zero, List.getD_cons_succ, and_true] at hF
          obtain ⟨A9, c9, e53, h2, h3, h4⟩ := hF
          dsimp only [owes4, bare]
          simp only [putsD, Act.put, List.setIfInBounds_toArray, List.set_cons_zero, List.set_cons_succ]
          simp only [e53]
          go_wp2
          exact ⟨rfl, ⟨A9, c9, rfl, h2, h3, h4⟩, ⟨fun h9 => absurd h9 (Nat.ne_of_beq_eq_false rfl), fun _ => Below.refl _ _⟩, hI⟩
        · intro vals xw f hf1 hf2 hf3 hI hF
          clear hf2 hf3
          simp only [saysD, List.getD_cons_zero, List.getD_cons_succ, and_true] at hF
          obtain ⟨A9, c9, e43, h2, h3, h4⟩ := hF
          dsimp only [owes4, bare]
          simp only [putsD, Act.put, List.setIfInBounds_toArray, List.set_cons_zero, List.set_cons_succ]
          simp only [e43]
          go_wp2
          exact ⟨rfl, ⟨A9, c9, rfl, h2, h3, h4⟩, ⟨fun h9 => absurd h9 (Nat.ne_of_beq_eq_false rfl), fun _ => Below.refl _ _⟩, hI⟩
        · intro vals xw f hf1 hf2 hf3 hI hF
          clear hf2 hf3
          simp only [saysD, List.getD_cons_zero, List.getD_cons_succ, and_true] at hF
          obtain ⟨A9, c9, e43, h2, h3, h4⟩ := hF
          dsimp only [owes4, bare]
          simp only [putsD, Act.put, List.setIfInBounds_toArray, List.set_cons_zero, List.set_cons_succ]
          simp only [e43]
          go_wp2
          exact ⟨rfl, rfl, ⟨fun h9 => absurd h9 (Nat.ne_of_beq_eq_false rfl), fun _ => Below.refl _ _⟩, hI⟩
        · intro vals xw f hf1 hf2 hf3 hI hF
          clear hf2 hf3
          simp only [saysD, List.getD_cons_zero, List.getD_cons_succ, and_true] at hF
          obtain ⟨A9, c9, e54, h2, h3, h4⟩ := hF
          dsimp only [owes4, bare]
          simp only [putsD, Act.put, List.setIfInBounds_toArray, List.set_cons_zero, List.set_cons_succ]
          simp only [e54]
          have HI := Lib.hid hI
          have HK := Lib.hid (hI.1 hf1)
          have hv9 := HK.out.ks.var
          have y0 := (cell_of_block hv9 0).1
          have y1 := (cell_of_block hv9 1).1
          have y2 := (cell_of_block hv9 2).1
          have g0 := (cell_of_block hv9 0).2
          have g1 := (cell_of_block hv9 1).2
          have g2 := (cell_of_block hv9 2).2
          have H3 := Lib.hid h3
          clear hI hv9 h3 h4
          go_wp2
          have hset := HK.out.set (c' := c9) HF.out H3.out h2
          have hgr : xw.grownBy (st3 xw w.heap.size (.int .i64 p.1.1.ins) (.slice A9 p.1.1.gs.length c9) (.bool p.1.2)) (some w.heap.size) := only_setCell (only_setCell (only_setCell (World.grownBy.refl _ _) _ _) _ _) _ _
          exact ⟨rfl, trivial, ⟨fun _ => hgr, fun h9 => absurd rfl h9⟩, fun h => absurd ((did_same f 13).symm.trans h) (by simp), fun _ => ⟨A9, c9, hset⟩, st3_below HI.out.2.2 (Nat.le_refl _) _ _ _⟩
        · intro vals xw f hf1 hf2 hf3 hI hF
          clear hf2 hf3
          simp only [saysD, List.getD_cons_zero, List.getD_cons_succ, and_true] at hF
          have e55 := hF
          dsimp only [owes4, bare]
          simp only [putsD, Act.put, List.setIfInBounds_toArray, List.set_cons_zero, List.set_cons_succ]
          simp only [e55]
          go_wp2
          exact ⟨rfl, rfl, ⟨fun h9 => absurd h9 (Nat.ne_of_beq_eq_false rfl), fun _ => Below.refl _ _⟩, hI⟩
        · intro vals xw f hall hI hF
          rw [show List.range _ = [0, 1, 2, 3, 4, 5, 6, 7, 8, 9, 10, 11, 12, 13, 14] from rfl] at hF
          simp only [says, List.getD_cons_zero, List.getD_cons_succ, and_true] at hF
          obtain ⟨A4, c4, hk2⟩ := hI.2.1 (hall 13 (by decide))
          have e9 : vals 14 = .int .i64 p.2 := by obtain ⟨_, _, _, _, _, _, _, _, _, _, _, _, _, _, e9⟩ := hF; exact e9
          have K4 := Lib.hid hk2
          clear hF hk2 hI
          simp only [putsD, Act.put, List.setIfInBounds_toArray, List.set_cons_zero, List.set_cons_succ]
          simp only [e9]
          clear e9
          have hv9 := K4.out.ks.var
          have y0 := (cell_of_block hv9 0).1
          have y1 := (cell_of_block hv9 1).1
          have y2 := (cell_of_block hv9 2).1
          clear hv9
          have HC := Lib.hid (l7And_any _ A4 c4 p.1 m.2 cc _ K4.out.ks.row (KS2.lt K4.out.ks.bel HF.out) K4.out.ks.nil HPB.out.1 HMB.out.2 HCC.out)
          rw [← HQ.out] at HC
          go_wp2_with fail
          refine HC.out.mono ?_
          rintro e z5 ⟨A5, c5, rfl, hn9, hs9, hb9⟩
          have hv9 := (hb9.block _ (lt_of_block K4.out.ks.var)).trans K4.out.ks.var
          clear y0 y1 y2 HC
          have y0 := (cell_of_block hv9 0).1
          have y1 := (cell_of_block hv9 1).1
          have y2 := (cell_of_block hv9 2).1
          have g0 := (cell_of_block hv9 0).2
          have g1 := (cell_of_block hv9 1).2
          have g2 := (cell_of_block hv9 2).2
          have K9 := K4.out.call (c' := c5) HF.out hs9 hb9 hn9
          dsimp only [st3] at K9
          have K5 := Lib.hid K9
          clear K9 hs9 hb9 hn9 hv9 K4
          have hv9 := K5.out.ks.var
          have y0 := (cell_of_block hv9 0).1
          have y1 := (cell_of_block hv9 1).1
          have y2 := (cell_of_block hv9 2).1
          clear hv9
          have HC := Lib.hid (l7Or_any _ A5 c5 q.1 p.2 q.2 _ K5.out.ks.row (KS2.lt K5.out.ks.bel HF.out) K5.out.ks.nil HQB.out.1 HPB.out.2 HQB.out.2)
          rw [← HG.out] at HC
          go_wp2_with fail
          refine HC.out.mono ?_
          generalize hX5 : ((z5.setCell ⟨w.heap.size, 0, none⟩ (.int .i64 q.1.1.ins)).setCell ⟨w.heap.size, 1, none⟩ (.slice A5 q.1.1.gs.length c5)).setCell ⟨w.heap.size, 2, none⟩ (.bool q.1.2) = X5 at *
          clear hX5
          rintro e z6 ⟨A6, c6, rfl, hn9, hs9, hb9⟩
          have hv9 := (hb9.block _ (lt_of_block K5.out.ks.var)).trans K5.out.ks.var
          clear y0 y1 y2 HC g0 g1 g2
          have y0 := (cell_of_block hv9 0).1
          have y1 := (cell_of_block hv9 1).1
          have y2 := (cell_of_block hv9 2).1
          have g0 := (cell_of_block hv9 0).2
          have g1 := (cell_of_block hv9 1).2
          have g2 := (cell_of_block hv9 2).2
          have K9 := K5.out.call (c' := c6) HF.out hs9 hb9 hn9
          dsimp only [st3] at K9
          have K6 := Lib.hid K9
          clear K9 hs9 hb9 hn9 hv9 K5
          have hown9 := K6.out.own
          have hsz9 : w.heap.size + 2 ≤ (((z6.setCell ⟨w.heap.size, 0, none⟩ (.int .i64 g.1.1.ins)).setCell ⟨w.heap.size, 1, none⟩ (.slice A6 g.1.1.gs.length c6)).setCell ⟨w.heap.size, 2, none⟩ (.bool g.1.2)).heap.size := by have := lt_of_block K6.out.ks.res; omega
          have K6 := Lib.hid K6.out
          go_wp2_with (at_builtin; refine wpList_append_int7 (ys := l2) (by rfl) (.tmp 70) (.tmp 72) (by rfl) (by rfl) (by rfl) (by simp [World.setCell]) hown9 (by omega) hsz9 HL2.out ?_; intro B2 d2 w2 hown2 hg2 hbk2)
          have hk3 := K6.out.ks.grown (v' := .slice B2 l2.length d2) HF.out hg2 (fun g hg => (K6.out.own.lt g hg).1) hbk2
          go_roundw
          case rel => exact ⟨j + 1, g.1, l2, A6, B2, c6, d2, g.2, by omega, by go_num, rfl, rfl, HGB.out.2, by rw [HL2.out, List.length_append, HLJ.out]; rfl, fun z hz => by
              rw [HL2.out] at hz
              rcases List.mem_append.1 hz with hz | hz
              · exact HLM.out z hz
              · rw [List.mem_singleton.1 hz]; exact HUB.out.2, ⟨hk3, hown2⟩, HGB.out.1, Lib.hid (by rw [HL2.out]; exact HST.out)⟩
          case measure => simp [intOf]; omega
    · have hje : j = xs.length := by omega
      subst hje
      have hlt2 : ¬ ((xs.length : Nat) : Int) < xs.length := by omega
      have hv9 := HKS.out.ks.var
      have y0 := (cell_of_block hv9 0).1
      have y1 := (cell_of_block hv9 1).1
      have y2 := (cell_of_block hv9 2).1
      have hr9 := HKS.out.ks.res
      have r0 := (cell_of_block hr9 0).1
      have r1 := (cell_of_block hr9 1).1
      have r2 := (cell_of_block hr9 2).1
      have rf0 := (cell_of_block hr9 0).2
      have rf1 := (cell_of_block hr9 1).2
      have rf2 := (cell_of_block hr9 2).2
      clear hv9 hr9
      go_wp2
      have hs := st3_same HKS.out.ks.res (.int .i64 k1.1.ins) (.slice A1 k1.1.gs.length c1) (.bool k1.2)
      have k5 := (cell_of_block hs 0).1
      have k6 := (cell_of_block hs 1).1
      have k7 := (cell_of_block hs 2).1
      have kf5 := (cell_of_block hs 0).2
      have kf6 := (cell_of_block hs 1).2
      have kf7 := (cell_of_block hs 2).2
      refine bodyPost_ret (v := .tuple #[.agg #[.int .i64 k1.1.ins, .slice A1 k1.1.gs.length c1, .bool k1.2], .slice B l.length d]) (by simp [results, Tryd.results97, go_sem, k5, k6, k7, kf5, kf6, kf7]) rfl ?_
      have hd1 : xs.drop xs.length = [] := List.drop_length
      have hd2 : ys.drop xs.length = [] := by rw [HL.out]; exact List.drop_length
      have hst2 := hst.out
      rw [hd1, hd2] at hst2
      have hT2 : T = (k1, l) := by rw [← hst2]; show (k1, l ++ []) = _; rw [List.append_nil]
      rw [hT2]
      obtain ⟨B', d', e9, hcap, hsl⟩ := HKS.out.own.form
      injection e9 with e1 e2 e3
      subst e1 e3
      refine ⟨A1, c1, B, d, rfl, HKS.out.ks.nil, (st3_sl (h := w.heap.size + 1) HKS.out.ks.row (fun b hb => ?_) _ _ _).mono (fun b hb => ?_), hcap, (st3_sl (h := w.heap.size + 1) hsl (fun b hb => by omega) _ _ _).mono (fun b hb => by rw [st3_size]; omega), HLM.out, st3_below HKS.out.ks.bel (by omega) _ _ _⟩
      · rcases hb with hb | hb
        · have := HF.out b hb; omega
        · omega
      · rw [st3_size]
        exact hb.imp id fun h9 => ⟨by omega, h9.2.1⟩
end Go.Proofs.YtjghcaghigebjaaDoor
