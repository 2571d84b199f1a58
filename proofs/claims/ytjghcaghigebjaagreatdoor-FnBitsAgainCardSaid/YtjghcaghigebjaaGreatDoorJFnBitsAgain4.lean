/- Programs of gates for products, quotients, shifts; bounds of what programs answer. -/
import Derived.Lib.AppendZeros
import Derived.Test.YtjghcaghigebjaaGreatDoorJFnBitsAgain0
import Derived.Test.YtjghcaghigebjaaGreatDoorJFnBitsAgain2
import Derived.Test.YtjghcaghigebjaaGreatDoorJFnBitsAgain3
namespace Go.Proofs.YtjghcaghigebjaaGreatDoor
open Go Go.RowKit
theorem KS.two2 {F : Nat → Prop} {w x : World} {k : N × Bool} {A : Option Addr} {c : Nat} (h : KS F w x k A c) : KS2 F w x k A c (fun _ => False) := ⟨h.bel, h.var, h.res, h.row.mono fun b hb => hb.imp id fun h9 => ⟨h9.1, h9.2, fun e => e⟩, h.nil⟩
theorem KS2.one2 {F : Nat → Prop} {w x : World} {k : N × Bool} {A : Option Addr} {c : Nat} {S : Nat → Prop} (h : KS2 F w x k A c S) : KS F w x k A c := ⟨h.bel, h.var, h.res, h.row.mono fun b hb => hb.imp id fun h9 => ⟨h9.1, h9.2.1⟩, h.nil⟩
theorem opsR_xor_nb {k : N × Bool} {x y : Int} (h : NB k.1) (hx : RB x) (hy : RB y) : NB (opsR.xor k x y).1.1 ∧ RB (opsR.xor k x y).2 := stepR_nb h (xor1_nb h hx hy)
theorem opsR_and_nb {k : N × Bool} {x y : Int} (h : NB k.1) (hx : RB x) (hy : RB y) : NB (opsR.and k x y).1.1 ∧ RB (opsR.and k x y).2 := stepR_nb h (and1_nb h hx hy)
def KTup (F : Nat → Prop) (w : World) (m : (N × Bool) × Int) (v : Value) (z : World) : Prop := ∃ A2 c2, v = .tuple #[.agg #[.int .i64 m.1.1.ins, .slice A2 m.1.1.gs.length c2, .bool m.1.2], .int .i64 m.2] ∧ (A2 = none → m.1.1.gs.length = 0) ∧ Lay.gate.Sl z (G2 F w z (fun _ => False)) A2 m.1.1.gs ∧ w.heap.size ≤ z.heap.size
def KNet (F : Nat → Prop) (w : World) (m : (N × Bool) × Int) (v : Value) (z : World) : Prop := ∃ A2 c2, v = .agg #[.int .i64 m.1.1.ins, .slice A2 m.1.1.gs.length c2, .bool m.1.2] ∧ (A2 = none → m.1.1.gs.length = 0) ∧ Lay.gate.Sl z (G2 F w z (fun _ => False)) A2 m.1.1.gs ∧ w.heap.size ≤ z.heap.size
theorem g2_st {F : Nat → Prop} {w x y : World} {A : Option Addr} {gs : List G} (hF : ∀ b, F b → b < w.heap.size) (h3 : Lay.gate.Sl x (G2 F w x (fun _ => False)) A gs) (h4 : w.heap.size ≤ x.heap.size) (hR : x.grownBy y (some w.heap.size)) : Lay.gate.Sl y (G2 F w y (fun _ => False)) A gs :=
 (h3.keep fun b hb => hR.block b (hb.elim (fun h9 => Nat.lt_of_lt_of_le (hF b h9) h4) (fun h9 => h9.2.1)) (fun e => by injection e with e; exact hb.elim (fun h9 => by have := hF b h9; omega) (fun h9 => by omega))).mono fun b hb => hb.imp id fun h9 => ⟨h9.1, Nat.lt_of_lt_of_le h9.2.1 hR.size, h9.2.2⟩
theorem KTup.up {F : Nat → Prop} {w x y : World} {m : (N × Bool) × Int} {v : Value} (hF : ∀ b, F b → b < w.heap.size) (h : KTup F w m v x) (hb : Below x.heap.size x y) : KTup F w m v y := by
 obtain ⟨A2, c2, h1, h2, h3, h4⟩ := h
 exact ⟨A2, c2, h1, h2, G2.up2 h3 (fun b hb => Nat.lt_of_lt_of_le (hF b hb) h4) hb, Nat.le_trans h4 hb.size⟩
theorem KTup.st {F : Nat → Prop} {w x y : World} {m : (N × Bool) × Int} {v : Value} (hF : ∀ b, F b → b < w.heap.size) (h : KTup F w m v x) (hR : x.grownBy y (some w.heap.size)) : KTup F w m v y := by
 obtain ⟨A2, c2, h1, h2, h3, h4⟩ := h
 exact ⟨A2, c2, h1, h2, g2_st hF h3 h4 hR, Nat.le_trans h4 hR.size⟩
theorem KNet.up {F : Nat → Prop} {w x y : World} {m : (N × Bool) × Int} {v : Value} (hF : ∀ b, F b → b < w.heap.size) (h : KNet F w m v x) (hb : Below x.heap.size x y) : KNet F w m v y := by
 obtain ⟨A2, c2, h1, h2, h3, h4⟩ := h
 exact ⟨A2, c2, h1, h2, G2.up2 h3 (fun b hb => Nat.lt_of_lt_of_le (hF b hb) h4) hb, Nat.le_trans h4 hb.size⟩
theorem KNet.st {F : Nat → Prop} {w x y : World} {m : (N × Bool) × Int} {v : Value} (hF : ∀ b, F b → b < w.heap.size) (h : KNet F w m v x) (hR : x.grownBy y (some w.heap.size)) : KNet F w m v y := by
 obtain ⟨A2, c2, h1, h2, h3, h4⟩ := h
 exact ⟨A2, c2, h1, h2, g2_st hF h3 h4 hR, Nat.le_trans h4 hR.size⟩
set_option maxRecDepth 100000 in
set_option maxHeartbeats 4000000 in
theorem l7Less_any (F : Nat → Prop) (A : Option Addr) (c : Nat) (k : N × Bool) (X Y : Option Addr) (cx cy : Nat) (xs ys : List Int) (w : World) (h : Lay.gate.Sl w F A k.1.gs) (hF : ∀ b, F b → b < w.heap.size) (hA : A = none → k.1.gs.length = 0) (hnb : NB k.1) (hX : Lay.int.Rd w X xs) (hY : Lay.int.Rd w Y ys) (hxm : ∀ x ∈ xs, RB x) (hym : ∀ y ∈ ys, RB y) (hl : xs.length = ys.length) (hn : xs.length ≤ 1000) :
  Calls Tryz.prog 136 #[.agg #[.int .i64 k.1.ins, .slice A k.1.gs.length c, .bool k.2], .slice X xs.length cx, .slice Y ys.length cy] w (RetK F w (run opsR (lessP xs ys (-1)) k)) := by
 obtain ⟨T, hT⟩ : ∃ T, T = run opsR (lessP xs ys (-1)) k := ⟨_, rfl⟩
 rw [← hT]
 have HT := zH hT
 have K0 := zH (KS.two (c := c) h hF hA)
 have HF := zH hF
 have HNB := zH hnb
 have HX := zH hX
 have HY := zH hY
 have HXM := zH hxm
 have HYM := zH hym
 have HL := zH hl
 clear h hA hnb hX hY hxm hym hT
 rw [← hl]
 clear hl
 go_enter Tryz.func136, Tryz.ntmps136
 go_wp2
 generalize hX0 : (w.alloc (.cells #[.int .i64 k.1.ins, .slice A k.1.gs.length c, .bool k.2] 95)).alloc (.cells #[.int .i64 0, .slice none 0 0, .bool false] 95) = X0 at *
 clear hX0
 go_loopw [8, 9] (fun rv i wr => ∃ (j : Nat) (k1 : N × Bool) (rr : Int) (A1 : Option Addr) (c1 : Nat), j ≤ xs.length ∧ i = .int .i64 j ∧ rv = .int .i64 rr ∧ RB rr ∧ KS2 F w wr k1 A1 c1 (fun _ => False) ∧ NB k1.1 ∧ Hid (run opsR (lessP (xs.drop j) (ys.drop j) rr) k1 = T)) (fun _ i _ => xs.length - (intOf i).toNat)
 case atStart => exact ⟨0, k, (-1), A, c, Nat.zero_le _, rfl, rfl, by unfold RB; omega, K0.out.two2, HNB.out, zH (by rw [HT.out]; rfl)⟩
 case round =>
  obtain ⟨j, k1, rr, A1, c1, hj, rfl, rfl, hrr, hks, hnb1, hst⟩ := hrel
  have HRR := zH hrr
  have HKS := zH hks
  have HNB1 := zH hnb1
  clear hrr hks hnb1
  by_cases hlt : j < xs.length
  ·
   have hlt2 : (j : Int) < xs.length := by omega
   have hlty : j < ys.length := by rw [← HL.out]; exact hlt
   obtain ⟨x, hx⟩ : ∃ x, xs[j]? = some x := ⟨_, List.getElem?_eq_getElem hlt⟩
   obtain ⟨y, hy⟩ : ∃ y, ys[j]? = some y := ⟨_, List.getElem?_eq_getElem hlty⟩
   have hxg : xs[j] = x := (List.getElem?_eq_some_iff.1 hx).2
   have hyg : ys[j] = y := (List.getElem?_eq_some_iff.1 hy).2
   have HXYM := zH (And.intro (HXM.out x (List.mem_of_getElem? hx)) (HYM.out y (List.mem_of_getElem? hy)))
   obtain ⟨adx, rfl, -, -⟩ := HX.out.at_int hlt
   obtain ⟨ady, rfl, -, -⟩ := HY.out.at_int hlty
   obtain ⟨m, hm⟩ : ∃ m, m = opsR.xor k1 x y := ⟨_, rfl⟩
   have HST := zH ((run_less (o := opsR) xs ys j x y hx hy k1 rr).symm.trans hst.out)
   have HM := zH hm
   have HMB : Hid (NB m.1.1 ∧ RB m.2) := zH (by rw [hm]; exact opsR_xor_nb HNB1.out HXYM.out.1 HXYM.out.2)
   have HRX : Hid (∀ z, Below w.heap.size w z → z.cell? (adx.add j) = some (.int .i64 x)) := zH fun z hz => by
    obtain ⟨ad, e, _, hc⟩ := (HX.out.up hz).at_int hlt
    injection e with e; subst e; rw [← hxg]; exact hc
   have HRY : Hid (∀ z, Below w.heap.size w z → z.cell? (ady.add j) = some (.int .i64 y)) := zH fun z hz => by
    obtain ⟨ad, e, _, hc⟩ := (HY.out.up hz).at_int hlty
    injection e with e; subst e; rw [← hyg]; exact hc
   clear hm hx hy hxg hyg hst hlty
   go_wp2
   refine z05 [[], [], [], [(1, 19), (2, 20)], [(3, 21)], [], [], [(5, 23), (6, 24)], [(7, 25)], [(0, 18), (4, 22), (8, 26)], [(9, 27)], [(10, 17)], [(10, 17)], [(11, 28)], [(12, 29)]]
    (fun x9 y9 => Below x9.heap.size x9 y9)
    [(13, fun x9 y9 => x9.grownBy y9 (some w.heap.size))]
    (fun f9 x9 => (f9 13 = false → KS2 F w x9 k1 A1 c1 (fun _ => False)) ∧ (f9 13 = true → ∃ A2 c2, KS2 F w x9 m.1 A2 c2 (fun _ => False)) ∧ Below w.heap.size w x9)
    [fun vs9 _ => vs9 0 = (.agg #[.int .i64 k1.1.ins, .slice A1 k1.1.gs.length c1, .bool k1.2]),
  fun vs9 _ => vs9 1 = (.slice (some adx) xs.length cx),
  fun vs9 _ => vs9 2 = (.int .i64 (j : Int)),
  fun vs9 _ => vs9 3 = (.pointer (some (adx.add j))),
  fun vs9 _ => vs9 4 = (.int .i64 x),
  fun vs9 _ => vs9 5 = (.slice (some ady) xs.length cy),
  fun vs9 _ => vs9 6 = (.int .i64 (j : Int)),
  fun vs9 _ => vs9 7 = (.pointer (some (ady.add j))),
  fun vs9 _ => vs9 8 = (.int .i64 y),
  fun vs9 y9 => (fun v z => KTup F w m v z) (vs9 9) y9,
  fun vs9 y9 => (fun v z => KTup F w m v z) (vs9 10) y9,
  fun vs9 y9 => (fun v z => KNet F w m v z) (vs9 11) y9,
  fun vs9 _ => vs9 12 = (.int .i64 m.2),
  fun _ _ => True,
  fun vs9 _ => vs9 14 = (.int .i64 m.2)]
    [(0, 18), (1, 19), (2, 20), (3, 21), (4, 22), (5, 23), (6, 24), (7, 25), (8, 26), (9, 27), (10, 17), (11, 28), (12, 29), (14, 10)] (by kernel_rfl) (by kernel_rfl) (by kernel_rfl) (by kernel_rfl)
    (fun _ => Below.refl _ _) ⟨fun _ => World.grownBy.refl _ _, trivial⟩
    ⟨⟨.inr zK, ⟨.inr (.inr zK), trivial⟩⟩,
  ⟨.inr zK, ⟨.inr (.inr zK), trivial⟩⟩,
  ⟨.inr zK, ⟨.inr (.inr zK), trivial⟩⟩,
  ⟨.inr zK, ⟨.inr (.inr zK), trivial⟩⟩,
  ⟨.inr zK, ⟨.inr (.inr zK), trivial⟩⟩,
  ⟨.inr zK, ⟨.inr (.inr zK), trivial⟩⟩,
  ⟨.inr zK, ⟨.inr (.inr zK), trivial⟩⟩,
  ⟨.inr zK, ⟨.inr (.inr zK), trivial⟩⟩,
  ⟨.inr zK, ⟨.inr (.inr zK), trivial⟩⟩,
  ⟨.inr (zS (fun v z => KTup F w m v z) (fun _ _ _ h9 hR => h9.up HF.out hR)), ⟨.inr (.inr (zS (fun v z => KTup F w m v z) (fun _ _ _ h9 hR => h9.st HF.out hR))), trivial⟩⟩,
  ⟨.inr (zS (fun v z => KTup F w m v z) (fun _ _ _ h9 hR => h9.up HF.out hR)), ⟨.inr (.inr (zS (fun v z => KTup F w m v z) (fun _ _ _ h9 hR => h9.st HF.out hR))), trivial⟩⟩,
  ⟨.inr (zS (fun v z => KNet F w m v z) (fun _ _ _ h9 hR => h9.up HF.out hR)), ⟨.inr (.inr (zS (fun v z => KNet F w m v z) (fun _ _ _ h9 hR => h9.st HF.out hR))), trivial⟩⟩,
  ⟨.inr zK, ⟨.inr (.inr zK), trivial⟩⟩,
  ⟨.inr zK, ⟨.inr (.inl rfl), trivial⟩⟩,
  ⟨.inr zK, ⟨.inr (.inr zK), trivial⟩⟩, trivial⟩ ⟨fun _ _ _ h _ v => (by simpa only [← h] using v),
  fun _ _ _ h _ v => (by simpa only [← h] using v),
  fun _ _ _ h _ v => (by simpa only [← h] using v),
  fun _ _ _ h _ v => (by simpa only [← h] using v),
  fun _ _ _ h _ v => (by simpa only [← h] using v),
  fun _ _ _ h _ v => (by simpa only [← h] using v),
  fun _ _ _ h _ v => (by simpa only [← h] using v),
  fun _ _ _ h _ v => (by simpa only [← h] using v),
  fun _ _ _ h _ v => (by simpa only [← h] using v),
  fun _ _ _ h _ v => (by simpa only [← h] using v),
  fun _ _ _ h _ v => (by simpa only [← h] using v),
  fun _ _ _ h _ v => (by simpa only [← h] using v),
  fun _ _ _ h _ v => (by simpa only [← h] using v),
  fun _ _ _ _ _ _ => trivial,
  fun _ _ _ h _ v => (by simpa only [← h] using v), trivial⟩ (⟨fun _ => HKS.out.up HF.out (z01 (Below.refl _ _) 1), (fun h => by cases h), bthen HKS.out.bel (z01 (Below.refl _ _) 1)⟩) ⟨?_, ?_, ?_, ?_, ?_, ?_, ?_, ?_, ?_, ?_, ?_, ?_, ?_, ?_, ?_, trivial⟩ ?_
   ·
    intro vals xw f hf1 hf2 hf3 hI hF
    have k13 : f 13 = false := hf3 13 (by kernel_rfl)
    clear hf2 hf3
    dsimp only [owes4, bare]
    simp only [putsD, Act.put, zA, zB, zC]
    have hv9 := (hI.1 k13).var
    have y0 := (z00 hv9 0).1
    have y1 := (z00 hv9 1).1
    have y2 := (z00 hv9 2).1
    go_wp2
    exact ⟨rfl, rfl, ⟨zN rfl, fun _ => Below.refl _ _⟩, hI⟩
   ·
    rintro vals xw f hf1 - - hI hF
    dsimp only [owes4, bare]
    simp only [putsD, Act.put, zA, zB, zC]
    go_wp2
    exact ⟨rfl, rfl, ⟨zN rfl, fun _ => Below.refl _ _⟩, hI⟩
   ·
    rintro vals xw f hf1 - - hI hF
    dsimp only [owes4, bare]
    simp only [putsD, Act.put, zA, zB, zC]
    go_wp2
    exact ⟨rfl, rfl, ⟨zN rfl, fun _ => Below.refl _ _⟩, hI⟩
   ·
    rintro vals xw f hf1 - - hI hF
    simp only [saysD, zD, zE, and_true] at hF
    obtain ⟨e19, e20⟩ := hF
    dsimp only [owes4, bare]
    simp only [putsD, Act.put, zA, zB, zC]
    simp only [e19, e20]
    go_wp2
    exact ⟨rfl, rfl, ⟨zN rfl, fun _ => Below.refl _ _⟩, hI⟩
   ·
    rintro vals xw f hf1 - - hI hF
    simp only [saysD, zD, zE, and_true] at hF
    have e21 := hF
    dsimp only [owes4, bare]
    simp only [putsD, Act.put, zA, zB, zC]
    simp only [e21]
    have c9 := HRX.out _ hI.2.2
    go_wp2
    exact ⟨rfl, rfl, ⟨zN rfl, fun _ => Below.refl _ _⟩, hI⟩
   ·
    rintro vals xw f hf1 - - hI hF
    dsimp only [owes4, bare]
    simp only [putsD, Act.put, zA, zB, zC]
    go_wp2
    exact ⟨rfl, rfl, ⟨zN rfl, fun _ => Below.refl _ _⟩, hI⟩
   ·
    rintro vals xw f hf1 - - hI hF
    dsimp only [owes4, bare]
    simp only [putsD, Act.put, zA, zB, zC]
    go_wp2
    exact ⟨rfl, rfl, ⟨zN rfl, fun _ => Below.refl _ _⟩, hI⟩
   ·
    rintro vals xw f hf1 - - hI hF
    simp only [saysD, zD, zE, and_true] at hF
    obtain ⟨e23, e24⟩ := hF
    dsimp only [owes4, bare]
    simp only [putsD, Act.put, zA, zB, zC]
    simp only [e23, e24]
    go_wp2
    exact ⟨rfl, rfl, ⟨zN rfl, fun _ => Below.refl _ _⟩, hI⟩
   ·
    rintro vals xw f hf1 - - hI hF
    simp only [saysD, zD, zE, and_true] at hF
    have e25 := hF
    dsimp only [owes4, bare]
    simp only [putsD, Act.put, zA, zB, zC]
    simp only [e25]
    have c9 := HRY.out _ hI.2.2
    go_wp2
    exact ⟨rfl, rfl, ⟨zN rfl, fun _ => Below.refl _ _⟩, hI⟩
   ·
    intro vals xw f hf1 hf2 hf3 hI hF
    have k13 : f 13 = false := hf3 13 (by kernel_rfl)
    clear hf2 hf3
    simp only [saysD, zD, zE, and_true] at hF
    obtain ⟨e18, e22, e26⟩ := hF
    dsimp only [owes4, bare]
    simp only [putsD, Act.put, zA, zB, zC]
    simp only [e18, e22, e26]
    have HI := zH hI
    have HK := zH (hI.1 k13)
    have hsz9 := hI.2.2.size
    clear hI
    have HC := zH (l7Xor_any (G2 F w xw (fun _ => False)) A1 c1 k1 x y xw HK.out.row (KS2.lt HK.out.bel HF.out) HK.out.nil HNB1.out HXYM.out.1 HXYM.out.2)
    rw [← HM.out] at HC
    go_wp2_with fail
    refine HC.out.mono ?_
    rintro e wx ⟨A2, c2, rfl, h2, h3, h4⟩
    have H3 := zH h3
    have H4 := zH h4
    clear h3 h4 HC
    go_wp2
    refine ⟨rfl, ⟨A2, c2, rfl, h2, H3.out.mono ?_, Nat.le_trans hsz9 H4.out.size⟩, ⟨zN rfl, fun _ => H4.out⟩, (fun h => (HI.out.1 h).up HF.out H4.out), (fun h => absurd (k13.symm.trans h) (by simp)), bthen HI.out.2.2 H4.out⟩
    intro b hb
    rcases hb with (h9 | h9) | h9
    · exact .inl h9
    · exact .inr ⟨h9.1, Nat.lt_of_lt_of_le h9.2.1 H4.out.size, h9.2.2⟩
    · exact .inr ⟨by have := HK.out.bel.size; have := lt_of_block HK.out.res; omega, h9.2, fun e => e⟩
   ·
    rintro vals xw f hf1 - - hI hF
    simp only [saysD, zD, zE, and_true] at hF
    obtain ⟨A2, c2, e27, h2, h3, h4⟩ := hF
    dsimp only [owes4, bare]
    simp only [putsD, Act.put, zA, zB, zC]
    simp only [e27]
    go_wp2
    exact ⟨rfl, ⟨A2, c2, rfl, h2, h3, h4⟩, ⟨zN rfl, fun _ => Below.refl _ _⟩, hI⟩
   ·
    rintro vals xw f hf1 - - hI hF
    simp only [saysD, zD, zE, and_true] at hF
    obtain ⟨A2, c2, e17, h2, h3, h4⟩ := hF
    dsimp only [owes4, bare]
    simp only [putsD, Act.put, zA, zB, zC]
    simp only [e17]
    go_wp2
    exact ⟨rfl, ⟨A2, c2, rfl, h2, h3, h4⟩, ⟨zN rfl, fun _ => Below.refl _ _⟩, hI⟩
   ·
    rintro vals xw f hf1 - - hI hF
    simp only [saysD, zD, zE, and_true] at hF
    obtain ⟨A2, c2, e17, h2, h3, h4⟩ := hF
    dsimp only [owes4, bare]
    simp only [putsD, Act.put, zA, zB, zC]
    simp only [e17]
    go_wp2
    exact ⟨rfl, rfl, ⟨zN rfl, fun _ => Below.refl _ _⟩, hI⟩
   ·
    rintro vals xw f hf1 - - hI hF
    simp only [saysD, zD, zE, and_true] at hF
    obtain ⟨A2, c2, e28, h2, h3, h4⟩ := hF
    dsimp only [owes4, bare]
    simp only [putsD, Act.put, zA, zB, zC]
    simp only [e28]
    have HI := zH hI
    have HK := zH (hI.1 hf1)
    have hv9 := HK.out.var
    have y0 := (z00 hv9 0).1
    have y1 := (z00 hv9 1).1
    have y2 := (z00 hv9 2).1
    have g0 := (z00 hv9 0).2
    have g1 := (z00 hv9 1).2
    have g2 := (z00 hv9 2).2
    have H3 := zH h3
    clear hI hv9 h3 h4
    go_wp2
    have hset := HK.out.set (c' := c2) HF.out H3.out h2
    have hgr : xw.grownBy (st3 xw w.heap.size (.int .i64 m.1.1.ins) (.slice A2 m.1.1.gs.length c2) (.bool m.1.2)) (some w.heap.size) := z02 (z02 (z02 (World.grownBy.refl _ _) _ _) _ _) _ _
    exact ⟨rfl, trivial, ⟨fun _ => hgr, fun h9 => absurd rfl h9⟩, fun h => absurd ((z10 f 13).symm.trans h) (by simp), fun _ => ⟨A2, c2, hset⟩, z09 HI.out.2.2 (Nat.le_refl _) _ _ _⟩
   ·
    rintro vals xw f hf1 - - hI hF
    simp only [saysD, zD, zE, and_true] at hF
    have e29 := hF
    dsimp only [owes4, bare]
    simp only [putsD, Act.put, zA, zB, zC]
    simp only [e29]
    go_wp2
    exact ⟨rfl, rfl, ⟨zN rfl, fun _ => Below.refl _ _⟩, hI⟩
   ·
    intro vals xw f hall hI hF
    rw [show List.range _ = [0, 1, 2, 3, 4, 5, 6, 7, 8, 9, 10, 11, 12, 13, 14] from rfl] at hF
    simp only [says, zD, zE, and_true] at hF
    obtain ⟨A2, c2, hk2⟩ := hI.2.1 (hall 13 (by decide))
    have e9 : vals 14 = .int .i64 m.2 := by obtain ⟨_, _, _, _, _, _, _, _, _, _, _, _, _, _, e9⟩ := hF; exact e9
    have HK2 := zH hk2
    clear hF hk2 hI
    simp only [putsD, Act.put, zA, zB, zC]
    simp only [e9]
    clear e9
    have hmb := HMB.out.2
    obtain ⟨hm0, hm1⟩ := hmb
    obtain ⟨p, hp⟩ : ∃ p, p = run opsR (muxP m.2 y rr) m.1 := ⟨_, rfl⟩
    have HP := zH hp
    have HPB : Hid (NB p.1.1 ∧ RB p.2) := zH (by rw [hp]; exact mux_rb HMB.out.1 HMB.out.2 HXYM.out.2 HRR.out)
    clear hp
    go_wp2
    refine z05 [[], [], [], [], [(2, 33), (3, 34)], [(4, 35)], [], [(0, 31), (1, 32), (5, 36), (6, 37)], [(7, 38)], [(8, 30)], [(8, 30)], [(9, 39)], [(10, 40)]]
     (fun x9 y9 => Below x9.heap.size x9 y9)
     [(11, fun x9 y9 => x9.grownBy y9 (some w.heap.size))]
     (fun f9 x9 => (f9 11 = false → KS2 F w x9 m.1 A2 c2 (fun _ => False)) ∧ (f9 11 = true → ∃ A3 c3, KS2 F w x9 p.1 A3 c3 (fun _ => False)) ∧ Below w.heap.size w x9)
     [fun vs9 _ => vs9 0 = (.agg #[.int .i64 m.1.1.ins, .slice A2 m.1.1.gs.length c2, .bool m.1.2]),
  fun vs9 _ => vs9 1 = (.int .i64 m.2),
  fun vs9 _ => vs9 2 = (.slice (some ady) xs.length cy),
  fun vs9 _ => vs9 3 = (.int .i64 (j : Int)),
  fun vs9 _ => vs9 4 = (.pointer (some (ady.add j))),
  fun vs9 _ => vs9 5 = (.int .i64 y),
  fun vs9 _ => vs9 6 = (.int .i64 rr),
  fun vs9 y9 => (fun v z => KTup F w p v z) (vs9 7) y9,
  fun vs9 y9 => (fun v z => KTup F w p v z) (vs9 8) y9,
  fun vs9 y9 => (fun v z => KNet F w p v z) (vs9 9) y9,
  fun vs9 _ => vs9 10 = (.int .i64 p.2),
  fun _ _ => True,
  fun vs9 _ => vs9 12 = (.int .i64 p.2)]
     [(0, 31), (1, 32), (2, 33), (3, 34), (4, 35), (5, 36), (6, 37), (7, 38), (8, 30), (9, 39), (10, 40), (12, 8)] (by kernel_rfl) (by kernel_rfl) (by kernel_rfl) (by kernel_rfl)
     (fun _ => Below.refl _ _) ⟨fun _ => World.grownBy.refl _ _, trivial⟩
     ⟨⟨.inr zK, ⟨.inr (.inr zK), trivial⟩⟩,
  ⟨.inr zK, ⟨.inr (.inr zK), trivial⟩⟩,
  ⟨.inr zK, ⟨.inr (.inr zK), trivial⟩⟩,
  ⟨.inr zK, ⟨.inr (.inr zK), trivial⟩⟩,
  ⟨.inr zK, ⟨.inr (.inr zK), trivial⟩⟩,
  ⟨.inr zK, ⟨.inr (.inr zK), trivial⟩⟩,
  ⟨.inr zK, ⟨.inr (.inr zK), trivial⟩⟩,
  ⟨.inr (zS (fun v z => KTup F w p v z) (fun _ _ _ h9 hR => h9.up HF.out hR)), ⟨.inr (.inr (zS (fun v z => KTup F w p v z) (fun _ _ _ h9 hR => h9.st HF.out hR))), trivial⟩⟩,
  ⟨.inr (zS (fun v z => KTup F w p v z) (fun _ _ _ h9 hR => h9.up HF.out hR)), ⟨.inr (.inr (zS (fun v z => KTup F w p v z) (fun _ _ _ h9 hR => h9.st HF.out hR))), trivial⟩⟩,
  ⟨.inr (zS (fun v z => KNet F w p v z) (fun _ _ _ h9 hR => h9.up HF.out hR)), ⟨.inr (.inr (zS (fun v z => KNet F w p v z) (fun _ _ _ h9 hR => h9.st HF.out hR))), trivial⟩⟩,
  ⟨.inr zK, ⟨.inr (.inr zK), trivial⟩⟩,
  ⟨.inr zK, ⟨.inr (.inl rfl), trivial⟩⟩,
  ⟨.inr zK, ⟨.inr (.inr zK), trivial⟩⟩, trivial⟩ ⟨fun _ _ _ h _ v => (by simpa only [← h] using v),
  fun _ _ _ h _ v => (by simpa only [← h] using v),
  fun _ _ _ h _ v => (by simpa only [← h] using v),
  fun _ _ _ h _ v => (by simpa only [← h] using v),
  fun _ _ _ h _ v => (by simpa only [← h] using v),
  fun _ _ _ h _ v => (by simpa only [← h] using v),
  fun _ _ _ h _ v => (by simpa only [← h] using v),
  fun _ _ _ h _ v => (by simpa only [← h] using v),
  fun _ _ _ h _ v => (by simpa only [← h] using v),
  fun _ _ _ h _ v => (by simpa only [← h] using v),
  fun _ _ _ h _ v => (by simpa only [← h] using v),
  fun _ _ _ _ _ _ => trivial,
  fun _ _ _ h _ v => (by simpa only [← h] using v), trivial⟩ (⟨fun _ => HK2.out.up HF.out (z01 (Below.refl _ _) 1), (fun h => by cases h), bthen HK2.out.bel (z01 (Below.refl _ _) 1)⟩) ⟨?_, ?_, ?_, ?_, ?_, ?_, ?_, ?_, ?_, ?_, ?_, ?_, ?_, trivial⟩ ?_
    ·
     intro vals xw f hf1 hf2 hf3 hI hF
     have k11 : f 11 = false := hf3 11 (by kernel_rfl)
     clear hf2 hf3
     dsimp only [owes4, bare]
     simp only [putsD, Act.put, zA, zB, zC]
     have hv9 := (hI.1 k11).var
     have y0 := (z00 hv9 0).1
     have y1 := (z00 hv9 1).1
     have y2 := (z00 hv9 2).1
     go_wp2
     exact ⟨rfl, rfl, ⟨zN rfl, fun _ => Below.refl _ _⟩, hI⟩
    ·
     rintro vals xw f hf1 - - hI hF
     dsimp only [owes4, bare]
     simp only [putsD, Act.put, zA, zB, zC]
     go_wp2
     exact ⟨rfl, rfl, ⟨zN rfl, fun _ => Below.refl _ _⟩, hI⟩
    ·
     rintro vals xw f hf1 - - hI hF
     dsimp only [owes4, bare]
     simp only [putsD, Act.put, zA, zB, zC]
     go_wp2
     exact ⟨rfl, rfl, ⟨zN rfl, fun _ => Below.refl _ _⟩, hI⟩
    ·
     rintro vals xw f hf1 - - hI hF
     dsimp only [owes4, bare]
     simp only [putsD, Act.put, zA, zB, zC]
     go_wp2
     exact ⟨rfl, rfl, ⟨zN rfl, fun _ => Below.refl _ _⟩, hI⟩
    ·
     rintro vals xw f hf1 - - hI hF
     simp only [saysD, zD, zE, and_true] at hF
     obtain ⟨e33, e34⟩ := hF
     dsimp only [owes4, bare]
     simp only [putsD, Act.put, zA, zB, zC]
     simp only [e33, e34]
     go_wp2
     exact ⟨rfl, rfl, ⟨zN rfl, fun _ => Below.refl _ _⟩, hI⟩
    ·
     rintro vals xw f hf1 - - hI hF
     simp only [saysD, zD, zE, and_true] at hF
     have e35 := hF
     dsimp only [owes4, bare]
     simp only [putsD, Act.put, zA, zB, zC]
     simp only [e35]
     have c9 := HRY.out _ hI.2.2
     go_wp2
     exact ⟨rfl, rfl, ⟨zN rfl, fun _ => Below.refl _ _⟩, hI⟩
    ·
     rintro vals xw f hf1 - - hI hF
     dsimp only [owes4, bare]
     simp only [putsD, Act.put, zA, zB, zC]
     go_wp2
     exact ⟨rfl, rfl, ⟨zN rfl, fun _ => Below.refl _ _⟩, hI⟩
    ·
     intro vals xw f hf1 hf2 hf3 hI hF
     have k11 : f 11 = false := hf3 11 (by kernel_rfl)
     clear hf2 hf3
     simp only [saysD, zD, zE, and_true] at hF
     obtain ⟨e31, e32, e36, e37⟩ := hF
     dsimp only [owes4, bare]
     simp only [putsD, Act.put, zA, zB, zC]
     simp only [e31, e32, e36, e37]
     have HI := zH hI
     have HK := zH (hI.1 k11)
     have hsz9 := hI.2.2.size
     clear hI
     have HC := zH (l7One_any (G2 F w xw (fun _ => False)) A2 c2 m.1 m.2 y rr xw HK.out.row (KS2.lt HK.out.bel HF.out) HK.out.nil HMB.out.1 HMB.out.2 HXYM.out.2 HRR.out)
     rw [← HP.out] at HC
     go_wp2_with fail
     refine HC.out.mono ?_
     rintro e wx ⟨A3, c3, rfl, h2, h3, h4⟩
     have H3 := zH h3
     have H4 := zH h4
     clear h3 h4 HC
     go_wp2
     refine ⟨rfl, ⟨A3, c3, rfl, h2, H3.out.mono ?_, Nat.le_trans hsz9 H4.out.size⟩, ⟨zN rfl, fun _ => H4.out⟩, (fun h => (HI.out.1 h).up HF.out H4.out), (fun h => absurd (k11.symm.trans h) (by simp)), bthen HI.out.2.2 H4.out⟩
     intro b hb
     rcases hb with (h9 | h9) | h9
     · exact .inl h9
     · exact .inr ⟨h9.1, Nat.lt_of_lt_of_le h9.2.1 H4.out.size, h9.2.2⟩
     · exact .inr ⟨by have := HK.out.bel.size; have := lt_of_block HK.out.res; omega, h9.2, fun e => e⟩
    ·
     rintro vals xw f hf1 - - hI hF
     simp only [saysD, zD, zE, and_true] at hF
     obtain ⟨A3, c3, e38, h2, h3, h4⟩ := hF
     dsimp only [owes4, bare]
     simp only [putsD, Act.put, zA, zB, zC]
     simp only [e38]
     go_wp2
     exact ⟨rfl, ⟨A3, c3, rfl, h2, h3, h4⟩, ⟨zN rfl, fun _ => Below.refl _ _⟩, hI⟩
    ·
     rintro vals xw f hf1 - - hI hF
     simp only [saysD, zD, zE, and_true] at hF
     obtain ⟨A3, c3, e30, h2, h3, h4⟩ := hF
     dsimp only [owes4, bare]
     simp only [putsD, Act.put, zA, zB, zC]
     simp only [e30]
     go_wp2
     exact ⟨rfl, ⟨A3, c3, rfl, h2, h3, h4⟩, ⟨zN rfl, fun _ => Below.refl _ _⟩, hI⟩
    ·
     rintro vals xw f hf1 - - hI hF
     simp only [saysD, zD, zE, and_true] at hF
     obtain ⟨A3, c3, e30, h2, h3, h4⟩ := hF
     dsimp only [owes4, bare]
     simp only [putsD, Act.put, zA, zB, zC]
     simp only [e30]
     go_wp2
     exact ⟨rfl, rfl, ⟨zN rfl, fun _ => Below.refl _ _⟩, hI⟩
    ·
     rintro vals xw f hf1 - - hI hF
     simp only [saysD, zD, zE, and_true] at hF
     obtain ⟨A3, c3, e39, h2, h3, h4⟩ := hF
     dsimp only [owes4, bare]
     simp only [putsD, Act.put, zA, zB, zC]
     simp only [e39]
     have HI := zH hI
     have HK := zH (hI.1 hf1)
     have hv9 := HK.out.var
     have y0 := (z00 hv9 0).1
     have y1 := (z00 hv9 1).1
     have y2 := (z00 hv9 2).1
     have g0 := (z00 hv9 0).2
     have g1 := (z00 hv9 1).2
     have g2 := (z00 hv9 2).2
     have H3 := zH h3
     clear hI hv9 h3 h4
     go_wp2
     have hset := HK.out.set (c' := c3) HF.out H3.out h2
     have hgr : xw.grownBy (st3 xw w.heap.size (.int .i64 p.1.1.ins) (.slice A3 p.1.1.gs.length c3) (.bool p.1.2)) (some w.heap.size) := z02 (z02 (z02 (World.grownBy.refl _ _) _ _) _ _) _ _
     exact ⟨rfl, trivial, ⟨fun _ => hgr, fun h9 => absurd rfl h9⟩, fun h => absurd ((z10 f 11).symm.trans h) (by simp), fun _ => ⟨A3, c3, hset⟩, z09 HI.out.2.2 (Nat.le_refl _) _ _ _⟩
    ·
     rintro vals xw f hf1 - - hI hF
     simp only [saysD, zD, zE, and_true] at hF
     have e40 := hF
     dsimp only [owes4, bare]
     simp only [putsD, Act.put, zA, zB, zC]
     simp only [e40]
     go_wp2
     exact ⟨rfl, rfl, ⟨zN rfl, fun _ => Below.refl _ _⟩, hI⟩
    ·
     intro vals xw f hall hI hF
     rw [show List.range _ = [0, 1, 2, 3, 4, 5, 6, 7, 8, 9, 10, 11, 12] from rfl] at hF
     simp only [says, zD, zE, and_true] at hF
     obtain ⟨A3, c3, hk2⟩ := hI.2.1 (hall 11 (by decide))
     have e9 : vals 12 = .int .i64 p.2 := by obtain ⟨_, _, _, _, _, _, _, _, _, _, _, _, e9⟩ := hF; exact e9
     have HK2 := zH hk2
     clear hF hk2 hI
     simp only [putsD, Act.put, zA, zB, zC]
     simp only [e9]
     clear e9
     go_wp2
     go_roundw
     case rel => exact ⟨j + 1, p.1, p.2, A3, c3, by omega, by go_num, rfl, HPB.out.2, HK2.out, HPB.out.1, zH (by rw [HP.out, HM.out]; exact HST.out)⟩
     case measure => simp [intOf]; omega
  ·
   have hje : j = xs.length := by omega
   subst hje
   have hlt2 : ¬ ((xs.length : Nat) : Int) < xs.length := by omega
   have hv9 := HKS.out.var
   have y0 := (z00 hv9 0).1
   have y1 := (z00 hv9 1).1
   have y2 := (z00 hv9 2).1
   have hr9 := HKS.out.res
   have r0 := (z00 hr9 0).1
   have r1 := (z00 hr9 1).1
   have r2 := (z00 hr9 2).1
   have rf0 := (z00 hr9 0).2
   have rf1 := (z00 hr9 1).2
   have rf2 := (z00 hr9 2).2
   clear hv9 hr9
   go_wp2
   have hs := z15 HKS.out.res (.int .i64 k1.1.ins) (.slice A1 k1.1.gs.length c1) (.bool k1.2)
   have k5 := (z00 hs 0).1
   have k6 := (z00 hs 1).1
   have k7 := (z00 hs 2).1
   have kf5 := (z00 hs 0).2
   have kf6 := (z00 hs 1).2
   have kf7 := (z00 hs 2).2
   refine bodyPost_ret (v := .tuple #[.agg #[.int .i64 k1.1.ins, .slice A1 k1.1.gs.length c1, .bool k1.2], .int .i64 rr]) (by simp [results, Tryz.results136, go_sem, k5, k6, k7, kf5, kf6, kf7]) rfl ?_
   have hd1 : xs.drop xs.length = [] := List.drop_length
   have hd2 : ys.drop xs.length = [] := by rw [HL.out]; exact List.drop_length
   have hst2 := hst.out
   rw [hd1, hd2] at hst2
   have hT2 : T = (k1, rr) := by rw [← hst2]; rfl
   rw [hT2]
   exact HKS.out.one2.done HF.out
def Vals (many : Nat) (put : List Int) (vs : List Int) : Prop := vs.length = many + 1 ∧ ∀ v : Nat, 1 ≤ v → v ≤ many → vs[v]? = some (sg put v)
theorem Good.at {many : Int} {put : List Int} (h : Good many put) {k : Nat} (hk : k < put.length) : put[k] ∉ put.take k ∧ -put[k] ∉ put.take k := by
 have hp := List.pairwise_iff_getElem.1 h.nodup
 refine ⟨fun hm => ?_, fun hm => ?_⟩
 all_goals
  obtain ⟨i, hi, e⟩ := List.getElem_of_mem hm
  have hik : i < k := by simp at hi; omega
  rw [List.getElem_take] at e
  exact hp i k (by simp <;> omega) (by simpa using hk) hik (by simp only [List.getElem_map, e] <;> omega)
def ValsAt (M : Nat) (put : List Int) (v : Value) (x : World) : Prop := ∃ (A : Option Addr) (c : Nat) (vs : List Int), v = .slice A vs.length c ∧ Vals M put vs ∧ Lay.int.Rd x A vs
theorem ValsAt.up {M : Nat} {put : List Int} {v : Value} {x x' : World} (h : ValsAt M put v x) (hb : Below x.heap.size x x') : ValsAt M put v x' := by
 obtain ⟨A, c, vs, h1, h2, h3⟩ := h
 exact ⟨A, c, vs, h1, h2, h3.up hb⟩
def Fact.vals (M : Nat) (put : List Int) : Fact := .of (ValsAt M put) fun _ _ _ h hb => h.up hb
def lenOf : Value → Nat
 | .slice _ n _ => n
 | _ => 0
def PlacesOk (M : Nat) (put pl : List Int) : Prop :=
 pl.length = M + 1 ∧ ∀ v : Nat, 1 ≤ v → v ≤ M → (∃ k, ∃ h : k < put.length, put[k].natAbs = v ∧ pl[v]? = some ((k : Int) + 1)) ∨ ((∀ l ∈ put, l.natAbs ≠ v) ∧ pl[v]? = some 0)
def BelowS (lo : Nat) (S : Nat → Prop) (w w' : World) : Prop := Below lo w w' ∧ ∀ x, S x → w'.heap[x]? = w.heap[x]?
theorem BelowS.refl (lo : Nat) (S : Nat → Prop) (w : World) : BelowS lo S w w := ⟨Below.refl _ _, fun _ _ => rfl⟩
theorem BelowS.trans {lo : Nat} {S : Nat → Prop} {w w' w'' : World} (h : BelowS lo S w w') (h' : BelowS lo S w' w'') : BelowS lo S w w'' := ⟨h.1.trans h'.1, fun x hx => (h'.2 x hx).trans (h.2 x hx)⟩
theorem BelowS.of {lo : Nat} {S : Nat → Prop} {w w' : World} (h : Below w.heap.size w w') (hlo : lo ≤ w.heap.size) (hS : ∀ x, S x → x < w.heap.size) : BelowS lo S w w' := ⟨h.mono hlo, fun x hx => h.block x (hS x hx)⟩
theorem PlacesOk.snoc {M : Nat} {put pl : List Int} (h : PlacesOk M put pl) {l : Int} (h0 : l ≠ 0) (h1 : -(M : Int) ≤ l) (h2 : l ≤ M) (h3 : l ∉ put) (h4 : -l ∉ put) : PlacesOk M (put ++ [l]) (pl.set l.natAbs ((put.length : Int) + 1)) := by
 refine ⟨by rw [List.length_set]; exact h.1, fun v hv1 hv2 => ?_⟩
 by_cases e : l.natAbs = v
 ·
  refine .inl ⟨put.length, by simp, by simp [e], ?_⟩
  rw [← e, List.getElem?_set_self (by rw [h.1]; omega)]
 ·
  rw [List.getElem?_set_ne e]
  rcases h.2 v hv1 hv2 with ⟨k, hk, hk1, hk2⟩ | ⟨hn, hk2⟩
  · exact .inl ⟨k, by simp; omega, by rw [List.getElem_append_left hk]; exact hk1, hk2⟩
  ·
   refine .inr ⟨fun x hx => ?_, hk2⟩
   rcases List.mem_append.1 hx with hx | hx
   · exact hn x hx
   · rw [List.mem_singleton.1 hx]; exact e
theorem OwnI.gr {S : Nat → Prop} {w w' : World} {base : Nat} {v : Value} {xs : List Int} (h : OwnI w base v xs) (hg : Gr S w w') (hr : ∀ b, S b → b < base) : OwnI w' base v xs :=
 own_of_heap h fun g hg' => hg.block g (h.lt g hg').2 (fun e => by have := hr g e; have := (h.lt g hg').1; omega)
theorem OwnI.ab {S : Nat → Prop} {w : World} {base c : Nat} {A : Option Addr} {xs : List Int} (h : OwnI w base (.slice A xs.length c) xs) (hr : ∀ b, S b → b < base) : Lay.int.Sl w (Ab S w) A xs := by
 obtain ⟨A', c', e, h1, h2⟩ := h.form
 injection e with e1 e2 e3
 subst e1
 exact h2.mono fun b hb => ⟨hb.2, fun e => by have := hr b e; have := hb.1; omega⟩
def RetDI (r : Nat) (p N : Int) (ok : List Int → Prop) (w : World) (e : Ending) (w' : World) : Prop := ∃ A c xs, e = .returned (.slice A xs.length c) ∧ OwnI w' w.heap.size (.slice A xs.length c) xs ∧ ok xs ∧ Drawn r p N w w'
theorem own_lit0I (w : World) : OwnI (w.alloc (.cells #[] 3)) w.heap.size (.slice (some ⟨w.heap.size, 0, none⟩) 0 0) [] := own_lit0 rfl
def RetNw (xs : List Int) (w : World) (e : Ending) (w' : World) : Prop := ∃ B d, e = .returned (.slice B xs.length d) ∧ xs.length ≤ d ∧ Lay.int.Sl w' (Own w.heap.size w') B xs ∧ Below w.heap.size w w'
theorem take_step' {α : Type} {l : List α} {j : Nat} {x : α} (h : l[j]? = some x) : l.take (j + 1) = l.take j ++ [x] := by
 rw [List.take_add_one, h]; rfl
set_option maxRecDepth 100000 in
set_option maxHeartbeats 2000000 in
theorem l7Turn_any (X : Option Addr) (c : Nat) (xs : List Int) (w : World) (hX : Lay.int.Rd w X xs) (hxi : ∀ x ∈ xs, RB x) (hn : xs.length ≤ 500) :
  Calls Tryz.prog 105 #[.slice X xs.length c] w (RetNw (xs.map Neg.neg) w) := by
 have hal : Below w.heap.size w (w.alloc (.cells #[] 3)) := (Below.refl _ _).alloc (Nat.le_refl _) _
 have hown0 : OwnI (w.alloc (.cells #[] 3)) w.heap.size (.slice (some ⟨w.heap.size, 0, none⟩) ([] : List Int).length 0) [] := own_lit0I w
 have HX := zH hX
 have HXI := zH hxi
 clear hX hxi
 go_enter Tryz.func105, Tryz.ntmps105
 go_wp2
 go_loopw [3, 4] (fun s i wr => ∃ (j : Nat) (l : List Int) (B : Option Addr) (d : Nat), j ≤ xs.length ∧ i = .int .i64 j ∧ s = .slice B l.length d ∧ l.length = j ∧ l = (xs.map Neg.neg).take j ∧ OwnI wr w.heap.size (.slice B l.length d) l ∧ Below w.heap.size w wr) (fun _ i _ => xs.length - (intOf i).toNat)
 case atStart => exact ⟨0, [], _, 0, Nat.zero_le _, rfl, rfl, rfl, rfl, hown0, hal⟩
 case round =>
  obtain ⟨j, l, B, d, hj, rfl, rfl, hlj, hle, hown, hbr⟩ := hrel
  have HLE := zH hle
  have HLJ := zH hlj
  have hl3 : l.length ≤ 1000 := by omega
  have hws : w.heap.size ≤ wr.heap.size := hbr.size
  clear hle hlj
  by_cases hlt : j < xs.length
  ·
   have hlt2 : (j : Int) < xs.length := by omega
   have hxi := HXI.out _ (List.getElem_mem hlt)
   obtain ⟨ad, rfl, -, hcell⟩ := (HX.out.up hbr).at_int hlt
   have HXT := zH (show (xs.map Neg.neg)[j]? = some (-xs[j]) by rw [List.getElem?_map, List.getElem?_eq_getElem hlt]; rfl)
   obtain ⟨x, hx⟩ : ∃ x, x = xs[j] := ⟨_, rfl⟩
   rw [← hx] at hcell hxi HXT
   clear hx
   obtain ⟨hx0, hx1⟩ := hxi
   obtain ⟨l2, hl2⟩ : ∃ l2, l2 = l ++ [(-x)] := ⟨_, rfl⟩
   have HL2 := zH hl2
   clear hl2
   go_wp2_with (at_builtin; refine z08 (ys := l2) (by rfl) (.tmp 12) (.tmp 18) (by rfl) (by rfl) (by rfl) hown (by omega) hws HL2.out ?_; intro B3 d3 w3 hown3 hg3 hbk3)
   have hb3 := hbr.grown hg3 hbr.size fun g e => (hown.lt g e).1
   clear hbk3 hg3 hown hbr
   go_roundw
   case rel => exact ⟨j + 1, l2, B3, d3, by omega, by go_num, rfl, by rw [HL2.out, List.length_append, HLJ.out]; rfl, by
     rw [HL2.out, HLE.out]
     exact (take_step' HXT.out).symm, hown3, hb3⟩
   case measure => simp [intOf]; omega
  ·
   have hje : j = xs.length := by omega
   have hfin : l = xs.map Neg.neg := by rw [HLE.out, hje]; exact List.take_of_length_le (by simp)
   go_wp2
   go_ret
   rw [← hfin]
   exact ⟨B, d, rfl, hown.cap, hown.own, hbr⟩
theorem run_sum {σ : Type} {o : Ops σ} (xs ys : List Int) (k : Nat) (x y : Int) (hx : xs[k]? = some x) (hy : ys[k]? = some y) (s : σ) (c : Int) (l : List Int) :
  (let r := run o (sumP (xs.drop k) (ys.drop k) c) s; (r.1, l ++ r.2)) = (let m := o.xor s x y; let u := o.xor m.1 m.2 c; let p := o.and u.1 x y; let q := o.and p.1 m.2 c; let g := run o (orP p.2 q.2) q.1; let r := run o (sumP (xs.drop (k + 1)) (ys.drop (k + 1)) g.2) g.1; (r.1, (l ++ [u.2]) ++ r.2)) := by
 obtain ⟨hk, rfl⟩ := List.getElem?_eq_some_iff.1 hx
 obtain ⟨hk', rfl⟩ := List.getElem?_eq_some_iff.1 hy
 rw [List.drop_eq_getElem_cons hk, List.drop_eq_getElem_cons hk']
 simp only [sumP, run_bind, run, List.append_assoc, List.singleton_append]
theorem or_rb {x y : Int} {k : N × Bool} (h : NB k.1) (hx : RB x) (hy : RB y) : NB (run opsR (orP x y) k).1.1 ∧ RB (run opsR (orP x y) k).2 := by
 have h3 : NB (opsR.and k (-x) (-y)).1.1 ∧ RB (opsR.and k (-x) (-y)).2 := stepR_nb h (and1_nb h hx.neg hy.neg)
 exact ⟨h3.1, h3.2.neg⟩
theorem wpList_append_int7 {Q : Exit → Act → World → Prop} {ops : Array Oper} {rest : List Oper} {o : Oper} {a : Act} {W : World} {lo b : Nat} {A : Option Addr} {c : Nat} {xs ys : List Int} {x : Int} {e' : TypeId} (hgd : o.guard = none) (s y : Operand)
  (ho : o.op = .call { callee := .builtin .append, args := #[s, y], argTypes := #[34, 34] }) (hs : a.eval s = .slice A xs.length c) (hy : a.eval y = .slice (some ⟨b, 0, none⟩) 1 1) (hb : b = W.heap.size)
  (hown : OwnI W lo (.slice A xs.length c) xs) (hn : xs.length ≤ 2000000) (hlo : lo ≤ W.heap.size) (hys : ys = xs ++ [x])
  (h : ∀ A' c' w', OwnI w' lo (.slice A' ys.length c') ys → W.grownBy w' (Value.slice A xs.length c).ownBlock →
   ((Value.slice A' ys.length c').ownBlock = (Value.slice A xs.length c).ownBlock ∨ ∃ g, (Value.slice A' ys.length c').ownBlock = some g ∧ W.heap.size ≤ g) → wpList Tryz.prog ops Q rest (a.put o.dst (.slice A' ys.length c')) w') :
  wpList Tryz.prog ops Q (o :: rest) a (W.alloc (.cells #[.int .i64 x] e')) := by
 subst hb; exact z08 hgd s y ho hs hy hown hn hlo hys h
structure AddI (F : Nat → Prop) (w x : World) (k : N × Bool) (A : Option Addr) (c : Nat) (B : Option Addr) (d : Nat) (l : List Int) : Prop where
 ks : KS2 F w x k A c (fun b => (Value.slice B l.length d).ownBlock = some b)
 own : OwnI x (w.heap.size + 2) (.slice B l.length d) l
theorem AddI.up {F : Nat → Prop} {w x x' : World} {k : N × Bool} {A : Option Addr} {c : Nat} {B : Option Addr} {d : Nat} {l : List Int} (h : AddI F w x k A c B d l) (hF : ∀ b, F b → b < w.heap.size) (hb : Below x.heap.size x x') : AddI F w x' k A c B d l := ⟨h.ks.up hF hb, h.own.up hb⟩
theorem AddI.set {F : Nat → Prop} {w x : World} {k k' : N × Bool} {A A' : Option Addr} {c c' : Nat} {B : Option Addr} {d : Nat} {l : List Int} (h : AddI F w x k A c B d l) (hF : ∀ b, F b → b < w.heap.size) (hs : Lay.gate.Sl x (G2 F w x (fun b => (Value.slice B l.length d).ownBlock = some b)) A' k'.1.gs) (hn : A' = none → k'.1.gs.length = 0) :
  AddI F w (st3 x w.heap.size (.int .i64 k'.1.ins) (.slice A' k'.1.gs.length c') (.bool k'.2)) k' A' c' B d l := by
 have hgr : x.grownBy (st3 x w.heap.size (.int .i64 k'.1.ins) (.slice A' k'.1.gs.length c') (.bool k'.2)) (some w.heap.size) := z02 (z02 (z02 (World.grownBy.refl _ _) _ _) _ _) _ _
 exact ⟨h.ks.set hF hs hn, own_of_heap h.own fun g hg => hgr.block g (h.own.lt g hg).2 (fun e => by injection e with e; have := (h.own.lt g hg).1; omega)⟩
theorem AddI.call {F : Nat → Prop} {w x x' : World} {k k' : N × Bool} {A A' : Option Addr} {c c' : Nat} {B : Option Addr} {d : Nat} {l : List Int} (h : AddI F w x k A c B d l) (hF : ∀ b, F b → b < w.heap.size) (hs : Lay.gate.Sl x' (fun b => G2 F w x (fun b => (Value.slice B l.length d).ownBlock = some b) b ∨ (x.heap.size ≤ b ∧ b < x'.heap.size)) A' k'.1.gs) (hb : Below x.heap.size x x') (hn : A' = none → k'.1.gs.length = 0) :
  AddI F w (st3 x' w.heap.size (.int .i64 k'.1.ins) (.slice A' k'.1.gs.length c') (.bool k'.2)) k' A' c' B d l := by
 refine (h.up hF hb).set hF (hs.mono fun b hb' => ?_) hn
 have hr := lt_of_block h.ks.res
 rcases hb' with (h9 | h9) | h9
 · exact .inl h9
 · exact .inr ⟨h9.1, Nat.lt_of_lt_of_le h9.2.1 hb.size, h9.2.2⟩
 · exact .inr ⟨by omega, h9.2, fun e => by have := (h.own.lt b e).2; omega⟩
def ATup (F S : Nat → Prop) (w : World) (m : (N × Bool) × Int) (v : Value) (z : World) : Prop := ∃ A2 c2, v = .tuple #[.agg #[.int .i64 m.1.1.ins, .slice A2 m.1.1.gs.length c2, .bool m.1.2], .int .i64 m.2] ∧ (A2 = none → m.1.1.gs.length = 0) ∧ Lay.gate.Sl z (G2 F w z S) A2 m.1.1.gs ∧ w.heap.size ≤ z.heap.size
def ANet (F S : Nat → Prop) (w : World) (m : (N × Bool) × Int) (v : Value) (z : World) : Prop := ∃ A2 c2, v = .agg #[.int .i64 m.1.1.ins, .slice A2 m.1.1.gs.length c2, .bool m.1.2] ∧ (A2 = none → m.1.1.gs.length = 0) ∧ Lay.gate.Sl z (G2 F w z S) A2 m.1.1.gs ∧ w.heap.size ≤ z.heap.size
theorem g2_stS {F S : Nat → Prop} {w x y : World} {A : Option Addr} {gs : List G} (hF : ∀ b, F b → b < w.heap.size) (h3 : Lay.gate.Sl x (G2 F w x S) A gs) (h4 : w.heap.size ≤ x.heap.size) (hR : x.grownBy y (some w.heap.size)) : Lay.gate.Sl y (G2 F w y S) A gs :=
 (h3.keep fun b hb => hR.block b (hb.elim (fun h9 => Nat.lt_of_lt_of_le (hF b h9) h4) (fun h9 => h9.2.1)) (fun e => by injection e with e; exact hb.elim (fun h9 => by have := hF b h9; omega) (fun h9 => by omega))).mono fun b hb => hb.imp id fun h9 => ⟨h9.1, Nat.lt_of_lt_of_le h9.2.1 hR.size, h9.2.2⟩
theorem ATup.up {F S : Nat → Prop} {w x y : World} {m : (N × Bool) × Int} {v : Value} (hF : ∀ b, F b → b < w.heap.size) (h : ATup F S w m v x) (hb : Below x.heap.size x y) : ATup F S w m v y := by
 obtain ⟨A2, c2, h1, h2, h3, h4⟩ := h
 exact ⟨A2, c2, h1, h2, G2.up2 h3 (fun b hb => Nat.lt_of_lt_of_le (hF b hb) h4) hb, Nat.le_trans h4 hb.size⟩
theorem ATup.st {F S : Nat → Prop} {w x y : World} {m : (N × Bool) × Int} {v : Value} (hF : ∀ b, F b → b < w.heap.size) (h : ATup F S w m v x) (hR : x.grownBy y (some w.heap.size)) : ATup F S w m v y := by
 obtain ⟨A2, c2, h1, h2, h3, h4⟩ := h
 exact ⟨A2, c2, h1, h2, g2_stS hF h3 h4 hR, Nat.le_trans h4 hR.size⟩
theorem ANet.up {F S : Nat → Prop} {w x y : World} {m : (N × Bool) × Int} {v : Value} (hF : ∀ b, F b → b < w.heap.size) (h : ANet F S w m v x) (hb : Below x.heap.size x y) : ANet F S w m v y := by
 obtain ⟨A2, c2, h1, h2, h3, h4⟩ := h
 exact ⟨A2, c2, h1, h2, G2.up2 h3 (fun b hb => Nat.lt_of_lt_of_le (hF b hb) h4) hb, Nat.le_trans h4 hb.size⟩
theorem ANet.st {F S : Nat → Prop} {w x y : World} {m : (N × Bool) × Int} {v : Value} (hF : ∀ b, F b → b < w.heap.size) (h : ANet F S w m v x) (hR : x.grownBy y (some w.heap.size)) : ANet F S w m v y := by
 obtain ⟨A2, c2, h1, h2, h3, h4⟩ := h
 exact ⟨A2, c2, h1, h2, g2_stS hF h3 h4 hR, Nat.le_trans h4 hR.size⟩
set_option maxRecDepth 100000 in
set_option maxHeartbeats 8000000 in
theorem l7Add_any (F : Nat → Prop) (A : Option Addr) (c : Nat) (k : N × Bool) (c0 : Int) (X Y : Option Addr) (cx cy : Nat) (xs ys : List Int) (w : World) (h : Lay.gate.Sl w F A k.1.gs) (hF : ∀ b, F b → b < w.heap.size) (hA : A = none → k.1.gs.length = 0) (hnb : NB k.1) (hc : RB c0) (hX : Lay.int.Rd w X xs) (hY : Lay.int.Rd w Y ys) (hxm : ∀ x ∈ xs, RB x) (hym : ∀ y ∈ ys, RB y) (hl : xs.length = ys.length) (hn : xs.length ≤ 1000) :
  Calls Tryz.prog 104 #[.agg #[.int .i64 k.1.ins, .slice A k.1.gs.length c, .bool k.2], .slice X xs.length cx, .slice Y ys.length cy, .int .i64 c0] w (RetKL F w (run opsR (sumP xs ys c0) k)) := by
 obtain ⟨T, hT⟩ : ∃ T, T = run opsR (sumP xs ys c0) k := ⟨_, rfl⟩
 rw [← hT]
 have HT := zH hT
 have K0 := KS.two (c := c) h hF hA
 have HRW := zH (h.below K0.bel hF)
 have HNIL := zH hA
 have HF := zH hF
 have HNB := zH hnb
 have HX := zH hX
 have HY := zH hY
 have HXM := zH hxm
 have HYM := zH hym
 have HL := zH hl
 have HC0 := zH hc
 have K0 := zH K0
 have hX0s : ((w.alloc (.cells #[.int .i64 k.1.ins, .slice A k.1.gs.length c, .bool k.2] 95)).alloc (.cells #[.int .i64 0, .slice none 0 0, .bool false] 95)).heap.size = w.heap.size + 2 := by simp
 clear h hA hnb hX hY hxm hym hc hT
 rw [← hl]
 clear hl
 go_enter Tryz.func104, Tryz.ntmps104
 go_wp2
 generalize hX0 : (w.alloc (.cells #[.int .i64 k.1.ins, .slice A k.1.gs.length c, .bool k.2] 95)).alloc (.cells #[.int .i64 0, .slice none 0 0, .bool false] 95) = X0 at *
 clear hX0
 have hal : Below X0.heap.size X0 (X0.alloc (.cells #[] 3)) := (Below.refl _ _).alloc (Nat.le_refl _) _
 have hown0 : OwnI (X0.alloc (.cells #[] 3)) (w.heap.size + 2) (.slice (some ⟨w.heap.size + 1 + 1, 0, none⟩) 0 0) [] := own_lit0 hX0s
 have K1 := zH (K0.out.up HF.out hal)
 have HO0 := zH hown0
 have HRW := zH (HRW.out.below hal (fun b hb => by have := HF.out b hb; omega))
 clear hal hown0 K0
 go_loopw [10, 11, 3] (fun out i cv wr => ∃ (j : Nat) (k1 : N × Bool) (l : List Int) (A1 B : Option Addr) (c1 d : Nat) (cc : Int), j ≤ xs.length ∧ i = .int .i64 j ∧ out = .slice B l.length d ∧ cv = .int .i64 cc ∧ RB cc ∧ l.length = j ∧ (∀ m ∈ l, RB m) ∧ AddI F w wr k1 A1 c1 B d l ∧ NB k1.1 ∧ Hid ((let z := run opsR (sumP (xs.drop j) (ys.drop j) cc) k1; (z.1, l ++ z.2)) = T)) (fun _ i _ _ => xs.length - (intOf i).toNat)
 case atStart => exact ⟨0, k, [], A, some ⟨w.heap.size + 1 + 1, 0, none⟩, c, 0, c0, Nat.zero_le _, rfl, rfl, rfl, HC0.out, rfl, (fun _ h => by cases h), ⟨⟨K1.out.bel, K1.out.var, K1.out.res, HRW.out.mono fun _ => .inl, HNIL.out⟩, HO0.out⟩, HNB.out, zH (by rw [HT.out]; rfl)⟩
 case round =>
  obtain ⟨j, k1, l, A1, B, c1, d, cc, hj, rfl, rfl, rfl, hcc, hlj, hlm, hks, hnb1, hst⟩ := hrel
  have HCC := zH hcc
  have HLM := zH hlm
  have HKS := zH hks
  have HLJ := zH hlj
  have HNB1 := zH hnb1
  clear hlm hks hlj hnb1 hcc
  by_cases hlt : j < xs.length
  ·
   have hlt2 : (j : Int) < xs.length := by omega
   have hlty : j < ys.length := by rw [← HL.out]; exact hlt
   obtain ⟨x, hx⟩ : ∃ x, xs[j]? = some x := ⟨_, List.getElem?_eq_getElem hlt⟩
   obtain ⟨y, hy⟩ : ∃ y, ys[j]? = some y := ⟨_, List.getElem?_eq_getElem hlty⟩
   have hxg : xs[j] = x := (List.getElem?_eq_some_iff.1 hx).2
   have hyg : ys[j] = y := (List.getElem?_eq_some_iff.1 hy).2
   have HXYM := zH (And.intro (HXM.out x (List.mem_of_getElem? hx)) (HYM.out y (List.mem_of_getElem? hy)))
   obtain ⟨adx, rfl, -, -⟩ := HX.out.at_int hlt
   obtain ⟨ady, rfl, -, -⟩ := HY.out.at_int hlty
   have HST := zH ((run_sum (o := opsR) xs ys j x y hx hy k1 cc l).symm.trans hst.out)
   have HRX : Hid (∀ z, Below w.heap.size w z → z.cell? (adx.add j) = some (.int .i64 x)) := zH fun z hz => by
    obtain ⟨ad, e, _, hc⟩ := (HX.out.up hz).at_int hlt
    injection e with e; subst e; rw [← hxg]; exact hc
   have HRY : Hid (∀ z, Below w.heap.size w z → z.cell? (ady.add j) = some (.int .i64 y)) := zH fun z hz => by
    obtain ⟨ad, e, _, hc⟩ := (HY.out.up hz).at_int hlty
    injection e with e; subst e; rw [← hyg]; exact hc
   have hll : l.length ≤ 1000 := by have := HLJ.out; omega
   clear hx hy hxg hyg hst hlty
   obtain ⟨m, h9⟩ : ∃ m, m = opsR.xor k1 x y := ⟨_, rfl⟩
   have HM := zH h9
   have HMB : Hid (NB m.1.1 ∧ RB m.2) := zH (by rw [h9]; exact opsR_xor_nb HNB1.out HXYM.out.1 HXYM.out.2)
   clear h9
   obtain ⟨u, h9⟩ : ∃ u, u = opsR.xor m.1 m.2 cc := ⟨_, rfl⟩
   have HU := zH h9
   have HUB : Hid (NB u.1.1 ∧ RB u.2) := zH (by rw [h9]; exact opsR_xor_nb HMB.out.1 HMB.out.2 HCC.out)
   clear h9
   obtain ⟨p, h9⟩ : ∃ p, p = opsR.and u.1 x y := ⟨_, rfl⟩
   have HP := zH h9
   have HPB : Hid (NB p.1.1 ∧ RB p.2) := zH (by rw [h9]; exact opsR_and_nb HUB.out.1 HXYM.out.1 HXYM.out.2)
   clear h9
   obtain ⟨q, h9⟩ : ∃ q, q = opsR.and p.1 m.2 cc := ⟨_, rfl⟩
   have HQ := zH h9
   have HQB : Hid (NB q.1.1 ∧ RB q.2) := zH (by rw [h9]; exact opsR_and_nb HPB.out.1 HMB.out.2 HCC.out)
   clear h9
   obtain ⟨g, h9⟩ : ∃ g, g = run opsR (orP p.2 q.2) q.1 := ⟨_, rfl⟩
   have HG := zH h9
   have HGB : Hid (NB g.1.1 ∧ RB g.2) := zH (by rw [h9]; exact or_rb HQB.out.1 HPB.out.2 HQB.out.2)
   clear h9
   have HST : Hid ((let r := run opsR (sumP (xs.drop (j + 1)) (ys.drop (j + 1)) g.2) g.1; (r.1, (l ++ [u.2]) ++ r.2)) = T) := zH (by rw [HG.out, HQ.out, HP.out, HU.out, HM.out]; exact HST.out)
   obtain ⟨l2, hl2⟩ : ∃ l2, l2 = l ++ [u.2] := ⟨_, rfl⟩
   have HL2 := zH hl2
   clear hl2
   go_wp2
   refine z05 [[], [], [], [(1, 25), (2, 26)], [(3, 27)], [], [], [(5, 29), (6, 30)], [(7, 31)], [(0, 24), (4, 28), (8, 32)], [(9, 33)], [(10, 23)], [(10, 23)], [(11, 34)], [(12, 35)]]
    (fun x9 y9 => Below x9.heap.size x9 y9)
    [(13, fun x9 y9 => x9.grownBy y9 (some w.heap.size))]
    (fun f9 x9 => (f9 13 = false → AddI F w x9 k1 A1 c1 B d l) ∧ (f9 13 = true → ∃ A9 c9, AddI F w x9 m.1 A9 c9 B d l) ∧ Below w.heap.size w x9)
    [fun vs9 _ => vs9 0 = (.agg #[.int .i64 k1.1.ins, .slice A1 k1.1.gs.length c1, .bool k1.2]),
  fun vs9 _ => vs9 1 = (.slice (some adx) xs.length cx),
  fun vs9 _ => vs9 2 = (.int .i64 (j : Int)),
  fun vs9 _ => vs9 3 = (.pointer (some (adx.add j))),
  fun vs9 _ => vs9 4 = (.int .i64 x),
  fun vs9 _ => vs9 5 = (.slice (some ady) xs.length cy),
  fun vs9 _ => vs9 6 = (.int .i64 (j : Int)),
  fun vs9 _ => vs9 7 = (.pointer (some (ady.add j))),
  fun vs9 _ => vs9 8 = (.int .i64 y),
  fun vs9 y9 => (fun v z => ATup F (fun b => (Value.slice B l.length d).ownBlock = some b) w m v z) (vs9 9) y9,
  fun vs9 y9 => (fun v z => ATup F (fun b => (Value.slice B l.length d).ownBlock = some b) w m v z) (vs9 10) y9,
  fun vs9 y9 => (fun v z => ANet F (fun b => (Value.slice B l.length d).ownBlock = some b) w m v z) (vs9 11) y9,
  fun vs9 _ => vs9 12 = (.int .i64 m.2),
  fun _ _ => True,
  fun vs9 _ => vs9 14 = (.int .i64 m.2)]
    [(0, 24), (1, 25), (2, 26), (3, 27), (4, 28), (5, 29), (6, 30), (7, 31), (8, 32), (9, 33), (10, 23), (11, 34), (12, 35), (14, 12)] (by kernel_rfl) (by kernel_rfl) (by kernel_rfl) (by kernel_rfl)
    (fun _ => Below.refl _ _) ⟨fun _ => World.grownBy.refl _ _, trivial⟩
    ⟨⟨.inr zK, ⟨.inr (.inr zK), trivial⟩⟩,
  ⟨.inr zK, ⟨.inr (.inr zK), trivial⟩⟩,
  ⟨.inr zK, ⟨.inr (.inr zK), trivial⟩⟩,
  ⟨.inr zK, ⟨.inr (.inr zK), trivial⟩⟩,
  ⟨.inr zK, ⟨.inr (.inr zK), trivial⟩⟩,
  ⟨.inr zK, ⟨.inr (.inr zK), trivial⟩⟩,
  ⟨.inr zK, ⟨.inr (.inr zK), trivial⟩⟩,
  ⟨.inr zK, ⟨.inr (.inr zK), trivial⟩⟩,
  ⟨.inr zK, ⟨.inr (.inr zK), trivial⟩⟩,
  ⟨.inr (zS (fun v z => ATup F (fun b => (Value.slice B l.length d).ownBlock = some b) w m v z) (fun _ _ _ h9 hR => h9.up HF.out hR)), ⟨.inr (.inr (zS (fun v z => ATup F (fun b => (Value.slice B l.length d).ownBlock = some b) w m v z) (fun _ _ _ h9 hR => h9.st HF.out hR))), trivial⟩⟩,
  ⟨.inr (zS (fun v z => ATup F (fun b => (Value.slice B l.length d).ownBlock = some b) w m v z) (fun _ _ _ h9 hR => h9.up HF.out hR)), ⟨.inr (.inr (zS (fun v z => ATup F (fun b => (Value.slice B l.length d).ownBlock = some b) w m v z) (fun _ _ _ h9 hR => h9.st HF.out hR))), trivial⟩⟩,
  ⟨.inr (zS (fun v z => ANet F (fun b => (Value.slice B l.length d).ownBlock = some b) w m v z) (fun _ _ _ h9 hR => h9.up HF.out hR)), ⟨.inr (.inr (zS (fun v z => ANet F (fun b => (Value.slice B l.length d).ownBlock = some b) w m v z) (fun _ _ _ h9 hR => h9.st HF.out hR))), trivial⟩⟩,
  ⟨.inr zK, ⟨.inr (.inr zK), trivial⟩⟩,
  ⟨.inr zK, ⟨.inr (.inl rfl), trivial⟩⟩,
  ⟨.inr zK, ⟨.inr (.inr zK), trivial⟩⟩, trivial⟩ ⟨fun _ _ _ h _ v => (by simpa only [← h] using v),
  fun _ _ _ h _ v => (by simpa only [← h] using v),
  fun _ _ _ h _ v => (by simpa only [← h] using v),
  fun _ _ _ h _ v => (by simpa only [← h] using v),
  fun _ _ _ h _ v => (by simpa only [← h] using v),
  fun _ _ _ h _ v => (by simpa only [← h] using v),
  fun _ _ _ h _ v => (by simpa only [← h] using v),
  fun _ _ _ h _ v => (by simpa only [← h] using v),
  fun _ _ _ h _ v => (by simpa only [← h] using v),
  fun _ _ _ h _ v => (by simpa only [← h] using v),
  fun _ _ _ h _ v => (by simpa only [← h] using v),
  fun _ _ _ h _ v => (by simpa only [← h] using v),
  fun _ _ _ h _ v => (by simpa only [← h] using v),
  fun _ _ _ _ _ _ => trivial,
  fun _ _ _ h _ v => (by simpa only [← h] using v), trivial⟩ (⟨fun _ => HKS.out.up HF.out (z01 (Below.refl _ _) 1), (fun h => by cases h), bthen HKS.out.ks.bel (z01 (Below.refl _ _) 1)⟩) ⟨?_, ?_, ?_, ?_, ?_, ?_, ?_, ?_, ?_, ?_, ?_, ?_, ?_, ?_, ?_, trivial⟩ ?_
   ·
    intro vals xw f hf1 hf2 hf3 hI hF
    have k13 : f 13 = false := hf3 13 (by kernel_rfl)
    clear hf2 hf3
    dsimp only [owes4, bare]
    simp only [putsD, Act.put, zA, zB, zC]
    have hv9 := (hI.1 k13).ks.var
    have y0 := (z00 hv9 0).1
    have y1 := (z00 hv9 1).1
    have y2 := (z00 hv9 2).1
    go_wp2
    exact ⟨rfl, rfl, ⟨zN rfl, fun _ => Below.refl _ _⟩, hI⟩
   ·
    rintro vals xw f hf1 - - hI hF
    dsimp only [owes4, bare]
    simp only [putsD, Act.put, zA, zB, zC]
    go_wp2
    exact ⟨rfl, rfl, ⟨zN rfl, fun _ => Below.refl _ _⟩, hI⟩
   ·
    rintro vals xw f hf1 - - hI hF
    dsimp only [owes4, bare]
    simp only [putsD, Act.put, zA, zB, zC]
    go_wp2
    exact ⟨rfl, rfl, ⟨zN rfl, fun _ => Below.refl _ _⟩, hI⟩
   ·
    rintro vals xw f hf1 - - hI hF
    simp only [saysD, zD, zE, and_true] at hF
    obtain ⟨e25, e26⟩ := hF
    dsimp only [owes4, bare]
    simp only [putsD, Act.put, zA, zB, zC]
    simp only [e25, e26]
    go_wp2
    exact ⟨rfl, rfl, ⟨zN rfl, fun _ => Below.refl _ _⟩, hI⟩
   ·
    rintro vals xw f hf1 - - hI hF
    simp only [saysD, zD, zE, and_true] at hF
    have e27 := hF
    dsimp only [owes4, bare]
    simp only [putsD, Act.put, zA, zB, zC]
    simp only [e27]
    have c9 := HRX.out _ hI.2.2
    go_wp2
    exact ⟨rfl, rfl, ⟨zN rfl, fun _ => Below.refl _ _⟩, hI⟩
   ·
    rintro vals xw f hf1 - - hI hF
    dsimp only [owes4, bare]
    simp only [putsD, Act.put, zA, zB, zC]
    go_wp2
    exact ⟨rfl, rfl, ⟨zN rfl, fun _ => Below.refl _ _⟩, hI⟩
   ·
    rintro vals xw f hf1 - - hI hF
    dsimp only [owes4, bare]
    simp only [putsD, Act.put, zA, zB, zC]
    go_wp2
    exact ⟨rfl, rfl, ⟨zN rfl, fun _ => Below.refl _ _⟩, hI⟩
   ·
    rintro vals xw f hf1 - - hI hF
    simp only [saysD, zD, zE, and_true] at hF
    obtain ⟨e29, e30⟩ := hF
    dsimp only [owes4, bare]
    simp only [putsD, Act.put, zA, zB, zC]
    simp only [e29, e30]
    go_wp2
    exact ⟨rfl, rfl, ⟨zN rfl, fun _ => Below.refl _ _⟩, hI⟩
   ·
    rintro vals xw f hf1 - - hI hF
    simp only [saysD, zD, zE, and_true] at hF
    have e31 := hF
    dsimp only [owes4, bare]
    simp only [putsD, Act.put, zA, zB, zC]
    simp only [e31]
    have c9 := HRY.out _ hI.2.2
    go_wp2
    exact ⟨rfl, rfl, ⟨zN rfl, fun _ => Below.refl _ _⟩, hI⟩
   ·
    intro vals xw f hf1 hf2 hf3 hI hF
    have k13 : f 13 = false := hf3 13 (by kernel_rfl)
    clear hf2 hf3
    simp only [saysD, zD, zE, and_true] at hF
    obtain ⟨e24, e28, e32⟩ := hF
    dsimp only [owes4, bare]
    simp only [putsD, Act.put, zA, zB, zC]
    simp only [e24, e28, e32]
    have HI := zH hI
    have HK := zH (hI.1 k13)
    have hsz9 := hI.2.2.size
    clear hI
    have HC := zH (l7Xor_any (G2 F w xw (fun b => (Value.slice B l.length d).ownBlock = some b)) A1 c1 k1 x y xw HK.out.ks.row (KS2.lt HK.out.ks.bel HF.out) HK.out.ks.nil HNB1.out HXYM.out.1 HXYM.out.2)
    rw [← HM.out] at HC
    go_wp2_with fail
    refine HC.out.mono ?_
    rintro e wx ⟨A9, c9, rfl, h2, h3, h4⟩
    have H3 := zH h3
    have H4 := zH h4
    clear h3 h4 HC
    go_wp2
    refine ⟨rfl, ⟨A9, c9, rfl, h2, H3.out.mono ?_, Nat.le_trans hsz9 H4.out.size⟩, ⟨zN rfl, fun _ => H4.out⟩, (fun h => (HI.out.1 h).up HF.out H4.out), (fun h => absurd (k13.symm.trans h) (by simp)), bthen HI.out.2.2 H4.out⟩
    intro b hb
    rcases hb with (h9 | h9) | h9
    · exact .inl h9
    · exact .inr ⟨h9.1, Nat.lt_of_lt_of_le h9.2.1 H4.out.size, h9.2.2⟩
    · exact .inr ⟨by have := lt_of_block HK.out.ks.res; omega, h9.2, fun e => by have := (HK.out.own.lt b e).2; omega⟩
   ·
    rintro vals xw f hf1 - - hI hF
    simp only [saysD, zD, zE, and_true] at hF
    obtain ⟨A9, c9, e33, h2, h3, h4⟩ := hF
    dsimp only [owes4, bare]
    simp only [putsD, Act.put, zA, zB, zC]
    simp only [e33]
    go_wp2
    exact ⟨rfl, ⟨A9, c9, rfl, h2, h3, h4⟩, ⟨zN rfl, fun _ => Below.refl _ _⟩, hI⟩
   ·
    rintro vals xw f hf1 - - hI hF
    simp only [saysD, zD, zE, and_true] at hF
    obtain ⟨A9, c9, e23, h2, h3, h4⟩ := hF
    dsimp only [owes4, bare]
    simp only [putsD, Act.put, zA, zB, zC]
    simp only [e23]
    go_wp2
    exact ⟨rfl, ⟨A9, c9, rfl, h2, h3, h4⟩, ⟨zN rfl, fun _ => Below.refl _ _⟩, hI⟩
   ·
    rintro vals xw f hf1 - - hI hF
    simp only [saysD, zD, zE, and_true] at hF
    obtain ⟨A9, c9, e23, h2, h3, h4⟩ := hF
    dsimp only [owes4, bare]
    simp only [putsD, Act.put, zA, zB, zC]
    simp only [e23]
    go_wp2
    exact ⟨rfl, rfl, ⟨zN rfl, fun _ => Below.refl _ _⟩, hI⟩
   ·
    rintro vals xw f hf1 - - hI hF
    simp only [saysD, zD, zE, and_true] at hF
    obtain ⟨A9, c9, e34, h2, h3, h4⟩ := hF
    dsimp only [owes4, bare]
    simp only [putsD, Act.put, zA, zB, zC]
    simp only [e34]
    have HI := zH hI
    have HK := zH (hI.1 hf1)
    have hv9 := HK.out.ks.var
    have y0 := (z00 hv9 0).1
    have y1 := (z00 hv9 1).1
    have y2 := (z00 hv9 2).1
    have g0 := (z00 hv9 0).2
    have g1 := (z00 hv9 1).2
    have g2 := (z00 hv9 2).2
    have H3 := zH h3
    clear hI hv9 h3 h4
    go_wp2
    have hset := HK.out.set (c' := c9) HF.out H3.out h2
    have hgr : xw.grownBy (st3 xw w.heap.size (.int .i64 m.1.1.ins) (.slice A9 m.1.1.gs.length c9) (.bool m.1.2)) (some w.heap.size) := z02 (z02 (z02 (World.grownBy.refl _ _) _ _) _ _) _ _
    exact ⟨rfl, trivial, ⟨fun _ => hgr, fun h9 => absurd rfl h9⟩, fun h => absurd ((z10 f 13).symm.trans h) (by simp), fun _ => ⟨A9, c9, hset⟩, z09 HI.out.2.2 (Nat.le_refl _) _ _ _⟩
   ·
    rintro vals xw f hf1 - - hI hF
    simp only [saysD, zD, zE, and_true] at hF
    have e35 := hF
    dsimp only [owes4, bare]
    simp only [putsD, Act.put, zA, zB, zC]
    simp only [e35]
    go_wp2
    exact ⟨rfl, rfl, ⟨zN rfl, fun _ => Below.refl _ _⟩, hI⟩
   ·
    intro vals xw f hall hI hF
    rw [show List.range _ = [0, 1, 2, 3, 4, 5, 6, 7, 8, 9, 10, 11, 12, 13, 14] from rfl] at hF
    simp only [says, zD, zE, and_true] at hF
    obtain ⟨A2, c2, hk2⟩ := hI.2.1 (hall 13 (by decide))
    have e9 : vals 14 = .int .i64 m.2 := by obtain ⟨_, _, _, _, _, _, _, _, _, _, _, _, _, _, e9⟩ := hF; exact e9
    have K2 := zH hk2
    clear hF hk2 hI
    simp only [putsD, Act.put, zA, zB, zC]
    simp only [e9]
    clear e9
    have hv9 := K2.out.ks.var
    have y0 := (z00 hv9 0).1
    have y1 := (z00 hv9 1).1
    have y2 := (z00 hv9 2).1
    clear hv9
    have HC := zH (l7Xor_any _ A2 c2 m.1 m.2 cc _ K2.out.ks.row (KS2.lt K2.out.ks.bel HF.out) K2.out.ks.nil HMB.out.1 HMB.out.2 HCC.out)
    rw [← HU.out] at HC
    go_wp2_with fail
    refine HC.out.mono ?_
    rintro e z3 ⟨A3, c3, rfl, hn9, hs9, hb9⟩
    have hv9 := (hb9.block _ (lt_of_block K2.out.ks.var)).trans K2.out.ks.var
    clear y0 y1 y2 HC
    have y0 := (z00 hv9 0).1
    have y1 := (z00 hv9 1).1
    have y2 := (z00 hv9 2).1
    have g0 := (z00 hv9 0).2
    have g1 := (z00 hv9 1).2
    have g2 := (z00 hv9 2).2
    have K9 := K2.out.call (c' := c3) HF.out hs9 hb9 hn9
    dsimp only [st3] at K9
    have K3 := zH K9
    clear K9 hs9 hb9 hn9 hv9 K2
    go_wp2
    generalize hX3 : ((z3.setCell ⟨w.heap.size, 0, none⟩ (.int .i64 u.1.1.ins)).setCell ⟨w.heap.size, 1, none⟩ (.slice A3 u.1.1.gs.length c3)).setCell ⟨w.heap.size, 2, none⟩ (.bool u.1.2) = X3 at *
    clear hX3 y0 y1 y2 g0 g1 g2
    refine z05 [[], [], [], [(1, 45), (2, 46)], [(3, 47)], [], [], [(5, 49), (6, 50)], [(7, 51)], [(0, 44), (4, 48), (8, 52)], [(9, 53)], [(10, 43)], [(10, 43)], [(11, 54)], [(12, 55)]]
     (fun x9 y9 => Below x9.heap.size x9 y9)
     [(13, fun x9 y9 => x9.grownBy y9 (some w.heap.size))]
     (fun f9 x9 => (f9 13 = false → AddI F w x9 u.1 A3 c3 B d l) ∧ (f9 13 = true → ∃ A9 c9, AddI F w x9 p.1 A9 c9 B d l) ∧ Below w.heap.size w x9)
     [fun vs9 _ => vs9 0 = (.agg #[.int .i64 u.1.1.ins, .slice A3 u.1.1.gs.length c3, .bool u.1.2]),
  fun vs9 _ => vs9 1 = (.slice (some adx) xs.length cx),
  fun vs9 _ => vs9 2 = (.int .i64 (j : Int)),
  fun vs9 _ => vs9 3 = (.pointer (some (adx.add j))),
  fun vs9 _ => vs9 4 = (.int .i64 x),
  fun vs9 _ => vs9 5 = (.slice (some ady) xs.length cy),
  fun vs9 _ => vs9 6 = (.int .i64 (j : Int)),
  fun vs9 _ => vs9 7 = (.pointer (some (ady.add j))),
  fun vs9 _ => vs9 8 = (.int .i64 y),
  fun vs9 y9 => (fun v z => ATup F (fun b => (Value.slice B l.length d).ownBlock = some b) w p v z) (vs9 9) y9,
  fun vs9 y9 => (fun v z => ATup F (fun b => (Value.slice B l.length d).ownBlock = some b) w p v z) (vs9 10) y9,
  fun vs9 y9 => (fun v z => ANet F (fun b => (Value.slice B l.length d).ownBlock = some b) w p v z) (vs9 11) y9,
  fun vs9 _ => vs9 12 = (.int .i64 p.2),
  fun _ _ => True,
  fun vs9 _ => vs9 14 = (.int .i64 p.2)]
     [(0, 44), (1, 45), (2, 46), (3, 47), (4, 48), (5, 49), (6, 50), (7, 51), (8, 52), (9, 53), (10, 43), (11, 54), (12, 55), (14, 14)] (by kernel_rfl) (by kernel_rfl) (by kernel_rfl) (by kernel_rfl)
     (fun _ => Below.refl _ _) ⟨fun _ => World.grownBy.refl _ _, trivial⟩
     ⟨⟨.inr zK, ⟨.inr (.inr zK), trivial⟩⟩,
  ⟨.inr zK, ⟨.inr (.inr zK), trivial⟩⟩,
  ⟨.inr zK, ⟨.inr (.inr zK), trivial⟩⟩,
  ⟨.inr zK, ⟨.inr (.inr zK), trivial⟩⟩,
  ⟨.inr zK, ⟨.inr (.inr zK), trivial⟩⟩,
  ⟨.inr zK, ⟨.inr (.inr zK), trivial⟩⟩,
  ⟨.inr zK, ⟨.inr (.inr zK), trivial⟩⟩,
  ⟨.inr zK, ⟨.inr (.inr zK), trivial⟩⟩,
  ⟨.inr zK, ⟨.inr (.inr zK), trivial⟩⟩,
  ⟨.inr (zS (fun v z => ATup F (fun b => (Value.slice B l.length d).ownBlock = some b) w p v z) (fun _ _ _ h9 hR => h9.up HF.out hR)), ⟨.inr (.inr (zS (fun v z => ATup F (fun b => (Value.slice B l.length d).ownBlock = some b) w p v z) (fun _ _ _ h9 hR => h9.st HF.out hR))), trivial⟩⟩,
  ⟨.inr (zS (fun v z => ATup F (fun b => (Value.slice B l.length d).ownBlock = some b) w p v z) (fun _ _ _ h9 hR => h9.up HF.out hR)), ⟨.inr (.inr (zS (fun v z => ATup F (fun b => (Value.slice B l.length d).ownBlock = some b) w p v z) (fun _ _ _ h9 hR => h9.st HF.out hR))), trivial⟩⟩,
  ⟨.inr (zS (fun v z => ANet F (fun b => (Value.slice B l.length d).ownBlock = some b) w p v z) (fun _ _ _ h9 hR => h9.up HF.out hR)), ⟨.inr (.inr (zS (fun v z => ANet F (fun b => (Value.slice B l.length d).ownBlock = some b) w p v z) (fun _ _ _ h9 hR => h9.st HF.out hR))), trivial⟩⟩,
  ⟨.inr zK, ⟨.inr (.inr zK), trivial⟩⟩,
  ⟨.inr zK, ⟨.inr (.inl rfl), trivial⟩⟩,
  ⟨.inr zK, ⟨.inr (.inr zK), trivial⟩⟩, trivial⟩ ⟨fun _ _ _ h _ v => (by simpa only [← h] using v),
  fun _ _ _ h _ v => (by simpa only [← h] using v),
  fun _ _ _ h _ v => (by simpa only [← h] using v),
  fun _ _ _ h _ v => (by simpa only [← h] using v),
  fun _ _ _ h _ v => (by simpa only [← h] using v),
  fun _ _ _ h _ v => (by simpa only [← h] using v),
  fun _ _ _ h _ v => (by simpa only [← h] using v),
  fun _ _ _ h _ v => (by simpa only [← h] using v),
  fun _ _ _ h _ v => (by simpa only [← h] using v),
  fun _ _ _ h _ v => (by simpa only [← h] using v),
  fun _ _ _ h _ v => (by simpa only [← h] using v),
  fun _ _ _ h _ v => (by simpa only [← h] using v),
  fun _ _ _ h _ v => (by simpa only [← h] using v),
  fun _ _ _ _ _ _ => trivial,
  fun _ _ _ h _ v => (by simpa only [← h] using v), trivial⟩ (⟨fun _ => K3.out.up HF.out (z01 (Below.refl _ _) 1), (fun h => by cases h), bthen K3.out.ks.bel (z01 (Below.refl _ _) 1)⟩) ⟨?_, ?_, ?_, ?_, ?_, ?_, ?_, ?_, ?_, ?_, ?_, ?_, ?_, ?_, ?_, trivial⟩ ?_
    ·
     intro vals xw f hf1 hf2 hf3 hI hF
     have k13 : f 13 = false := hf3 13 (by kernel_rfl)
     clear hf2 hf3
     dsimp only [owes4, bare]
     simp only [putsD, Act.put, zA, zB, zC]
     have hv9 := (hI.1 k13).ks.var
     have y0 := (z00 hv9 0).1
     have y1 := (z00 hv9 1).1
     have y2 := (z00 hv9 2).1
     go_wp2
     exact ⟨rfl, rfl, ⟨zN rfl, fun _ => Below.refl _ _⟩, hI⟩
    ·
     rintro vals xw f hf1 - - hI hF
     dsimp only [owes4, bare]
     simp only [putsD, Act.put, zA, zB, zC]
     go_wp2
     exact ⟨rfl, rfl, ⟨zN rfl, fun _ => Below.refl _ _⟩, hI⟩
    ·
     rintro vals xw f hf1 - - hI hF
     dsimp only [owes4, bare]
     simp only [putsD, Act.put, zA, zB, zC]
     go_wp2
     exact ⟨rfl, rfl, ⟨zN rfl, fun _ => Below.refl _ _⟩, hI⟩
    ·
     rintro vals xw f hf1 - - hI hF
     simp only [saysD, zD, zE, and_true] at hF
     obtain ⟨e45, e46⟩ := hF
     dsimp only [owes4, bare]
     simp only [putsD, Act.put, zA, zB, zC]
     simp only [e45, e46]
     go_wp2
     exact ⟨rfl, rfl, ⟨zN rfl, fun _ => Below.refl _ _⟩, hI⟩
    ·
     rintro vals xw f hf1 - - hI hF
     simp only [saysD, zD, zE, and_true] at hF
     have e47 := hF
     dsimp only [owes4, bare]
     simp only [putsD, Act.put, zA, zB, zC]
     simp only [e47]
     have c9 := HRX.out _ hI.2.2
     go_wp2
     exact ⟨rfl, rfl, ⟨zN rfl, fun _ => Below.refl _ _⟩, hI⟩
    ·
     rintro vals xw f hf1 - - hI hF
     dsimp only [owes4, bare]
     simp only [putsD, Act.put, zA, zB, zC]
     go_wp2
     exact ⟨rfl, rfl, ⟨zN rfl, fun _ => Below.refl _ _⟩, hI⟩
    ·
     rintro vals xw f hf1 - - hI hF
     dsimp only [owes4, bare]
     simp only [putsD, Act.put, zA, zB, zC]
     go_wp2
     exact ⟨rfl, rfl, ⟨zN rfl, fun _ => Below.refl _ _⟩, hI⟩
    ·
     rintro vals xw f hf1 - - hI hF
     simp only [saysD, zD, zE, and_true] at hF
     obtain ⟨e49, e50⟩ := hF
     dsimp only [owes4, bare]
     simp only [putsD, Act.put, zA, zB, zC]
     simp only [e49, e50]
     go_wp2
     exact ⟨rfl, rfl, ⟨zN rfl, fun _ => Below.refl _ _⟩, hI⟩
    ·
     rintro vals xw f hf1 - - hI hF
     simp only [saysD, zD, zE, and_true] at hF
     have e51 := hF
     dsimp only [owes4, bare]
     simp only [putsD, Act.put, zA, zB, zC]
     simp only [e51]
     have c9 := HRY.out _ hI.2.2
     go_wp2
     exact ⟨rfl, rfl, ⟨zN rfl, fun _ => Below.refl _ _⟩, hI⟩
    ·
     intro vals xw f hf1 hf2 hf3 hI hF
     have k13 : f 13 = false := hf3 13 (by kernel_rfl)
     clear hf2 hf3
     simp only [saysD, zD, zE, and_true] at hF
     obtain ⟨e44, e48, e52⟩ := hF
     dsimp only [owes4, bare]
     simp only [putsD, Act.put, zA, zB, zC]
     simp only [e44, e48, e52]
     have HI := zH hI
     have HK := zH (hI.1 k13)
     have hsz9 := hI.2.2.size
     clear hI
     have HC := zH (l7And_any (G2 F w xw (fun b => (Value.slice B l.length d).ownBlock = some b)) A3 c3 u.1 x y xw HK.out.ks.row (KS2.lt HK.out.ks.bel HF.out) HK.out.ks.nil HUB.out.1 HXYM.out.1 HXYM.out.2)
     rw [← HP.out] at HC
     go_wp2_with fail
     refine HC.out.mono ?_
     rintro e wx ⟨A9, c9, rfl, h2, h3, h4⟩
     have H3 := zH h3
     have H4 := zH h4
     clear h3 h4 HC
     go_wp2
     refine ⟨rfl, ⟨A9, c9, rfl, h2, H3.out.mono ?_, Nat.le_trans hsz9 H4.out.size⟩, ⟨zN rfl, fun _ => H4.out⟩, (fun h => (HI.out.1 h).up HF.out H4.out), (fun h => absurd (k13.symm.trans h) (by simp)), bthen HI.out.2.2 H4.out⟩
     intro b hb
     rcases hb with (h9 | h9) | h9
     · exact .inl h9
     · exact .inr ⟨h9.1, Nat.lt_of_lt_of_le h9.2.1 H4.out.size, h9.2.2⟩
     · exact .inr ⟨by have := lt_of_block HK.out.ks.res; omega, h9.2, fun e => by have := (HK.out.own.lt b e).2; omega⟩
    ·
     rintro vals xw f hf1 - - hI hF
     simp only [saysD, zD, zE, and_true] at hF
     obtain ⟨A9, c9, e53, h2, h3, h4⟩ := hF
     dsimp only [owes4, bare]
     simp only [putsD, Act.put, zA, zB, zC]
     simp only [e53]
     go_wp2
     exact ⟨rfl, ⟨A9, c9, rfl, h2, h3, h4⟩, ⟨zN rfl, fun _ => Below.refl _ _⟩, hI⟩
    ·
     rintro vals xw f hf1 - - hI hF
     simp only [saysD, zD, zE, and_true] at hF
     obtain ⟨A9, c9, e43, h2, h3, h4⟩ := hF
     dsimp only [owes4, bare]
     simp only [putsD, Act.put, zA, zB, zC]
     simp only [e43]
     go_wp2
     exact ⟨rfl, ⟨A9, c9, rfl, h2, h3, h4⟩, ⟨zN rfl, fun _ => Below.refl _ _⟩, hI⟩
    ·
     rintro vals xw f hf1 - - hI hF
     simp only [saysD, zD, zE, and_true] at hF
     obtain ⟨A9, c9, e43, h2, h3, h4⟩ := hF
     dsimp only [owes4, bare]
     simp only [putsD, Act.put, zA, zB, zC]
     simp only [e43]
     go_wp2
     exact ⟨rfl, rfl, ⟨zN rfl, fun _ => Below.refl _ _⟩, hI⟩
    ·
     rintro vals xw f hf1 - - hI hF
     simp only [saysD, zD, zE, and_true] at hF
     obtain ⟨A9, c9, e54, h2, h3, h4⟩ := hF
     dsimp only [owes4, bare]
     simp only [putsD, Act.put, zA, zB, zC]
     simp only [e54]
     have HI := zH hI
     have HK := zH (hI.1 hf1)
     have hv9 := HK.out.ks.var
     have y0 := (z00 hv9 0).1
     have y1 := (z00 hv9 1).1
     have y2 := (z00 hv9 2).1
     have g0 := (z00 hv9 0).2
     have g1 := (z00 hv9 1).2
     have g2 := (z00 hv9 2).2
     have H3 := zH h3
     clear hI hv9 h3 h4
     go_wp2
     have hset := HK.out.set (c' := c9) HF.out H3.out h2
     have hgr : xw.grownBy (st3 xw w.heap.size (.int .i64 p.1.1.ins) (.slice A9 p.1.1.gs.length c9) (.bool p.1.2)) (some w.heap.size) := z02 (z02 (z02 (World.grownBy.refl _ _) _ _) _ _) _ _
     exact ⟨rfl, trivial, ⟨fun _ => hgr, fun h9 => absurd rfl h9⟩, fun h => absurd ((z10 f 13).symm.trans h) (by simp), fun _ => ⟨A9, c9, hset⟩, z09 HI.out.2.2 (Nat.le_refl _) _ _ _⟩
    ·
     rintro vals xw f hf1 - - hI hF
     simp only [saysD, zD, zE, and_true] at hF
     have e55 := hF
     dsimp only [owes4, bare]
     simp only [putsD, Act.put, zA, zB, zC]
     simp only [e55]
     go_wp2
     exact ⟨rfl, rfl, ⟨zN rfl, fun _ => Below.refl _ _⟩, hI⟩
    ·
     intro vals xw f hall hI hF
     rw [show List.range _ = [0, 1, 2, 3, 4, 5, 6, 7, 8, 9, 10, 11, 12, 13, 14] from rfl] at hF
     simp only [says, zD, zE, and_true] at hF
     obtain ⟨A4, c4, hk2⟩ := hI.2.1 (hall 13 (by decide))
     have e9 : vals 14 = .int .i64 p.2 := by obtain ⟨_, _, _, _, _, _, _, _, _, _, _, _, _, _, e9⟩ := hF; exact e9
     have K4 := zH hk2
     clear hF hk2 hI
     simp only [putsD, Act.put, zA, zB, zC]
     simp only [e9]
     clear e9
     have hv9 := K4.out.ks.var
     have y0 := (z00 hv9 0).1
     have y1 := (z00 hv9 1).1
     have y2 := (z00 hv9 2).1
     clear hv9
     have HC := zH (l7And_any _ A4 c4 p.1 m.2 cc _ K4.out.ks.row (KS2.lt K4.out.ks.bel HF.out) K4.out.ks.nil HPB.out.1 HMB.out.2 HCC.out)
     rw [← HQ.out] at HC
     go_wp2_with fail
     refine HC.out.mono ?_
     rintro e z5 ⟨A5, c5, rfl, hn9, hs9, hb9⟩
     have hv9 := (hb9.block _ (lt_of_block K4.out.ks.var)).trans K4.out.ks.var
     clear y0 y1 y2 HC
     have y0 := (z00 hv9 0).1
     have y1 := (z00 hv9 1).1
     have y2 := (z00 hv9 2).1
     have g0 := (z00 hv9 0).2
     have g1 := (z00 hv9 1).2
     have g2 := (z00 hv9 2).2
     have K9 := K4.out.call (c' := c5) HF.out hs9 hb9 hn9
     dsimp only [st3] at K9
     have K5 := zH K9
     clear K9 hs9 hb9 hn9 hv9 K4
     have hv9 := K5.out.ks.var
     have y0 := (z00 hv9 0).1
     have y1 := (z00 hv9 1).1
     have y2 := (z00 hv9 2).1
     clear hv9
     have HC := zH (l7Or_any _ A5 c5 q.1 p.2 q.2 _ K5.out.ks.row (KS2.lt K5.out.ks.bel HF.out) K5.out.ks.nil HQB.out.1 HPB.out.2 HQB.out.2)
     rw [← HG.out] at HC
     go_wp2_with fail
     refine HC.out.mono ?_
     generalize hX5 : ((z5.setCell ⟨w.heap.size, 0, none⟩ (.int .i64 q.1.1.ins)).setCell ⟨w.heap.size, 1, none⟩ (.slice A5 q.1.1.gs.length c5)).setCell ⟨w.heap.size, 2, none⟩ (.bool q.1.2) = X5 at *
     clear hX5
     rintro e z6 ⟨A6, c6, rfl, hn9, hs9, hb9⟩
     have hv9 := (hb9.block _ (lt_of_block K5.out.ks.var)).trans K5.out.ks.var
     clear y0 y1 y2 HC g0 g1 g2
     have y0 := (z00 hv9 0).1
     have y1 := (z00 hv9 1).1
     have y2 := (z00 hv9 2).1
     have g0 := (z00 hv9 0).2
     have g1 := (z00 hv9 1).2
     have g2 := (z00 hv9 2).2
     have K9 := K5.out.call (c' := c6) HF.out hs9 hb9 hn9
     dsimp only [st3] at K9
     have K6 := zH K9
     clear K9 hs9 hb9 hn9 hv9 K5
     have hown9 := K6.out.own
     have hsz9 : w.heap.size + 2 ≤ (((z6.setCell ⟨w.heap.size, 0, none⟩ (.int .i64 g.1.1.ins)).setCell ⟨w.heap.size, 1, none⟩ (.slice A6 g.1.1.gs.length c6)).setCell ⟨w.heap.size, 2, none⟩ (.bool g.1.2)).heap.size := by have := lt_of_block K6.out.ks.res; omega
     have K6 := zH K6.out
     go_wp2_with (at_builtin; refine wpList_append_int7 (ys := l2) (by rfl) (.tmp 70) (.tmp 72) (by rfl) (by rfl) (by rfl) (by simp [World.setCell]) hown9 (by omega) hsz9 HL2.out ?_; intro B2 d2 w2 hown2 hg2 hbk2)
     have hk3 := K6.out.ks.grown (v' := .slice B2 l2.length d2) HF.out hg2 (fun g hg => (K6.out.own.lt g hg).1) hbk2
     go_roundw
     case rel => exact ⟨j + 1, g.1, l2, A6, B2, c6, d2, g.2, by omega, by go_num, rfl, rfl, HGB.out.2, by rw [HL2.out, List.length_append, HLJ.out]; rfl, fun z hz => by
       rw [HL2.out] at hz
       rcases List.mem_append.1 hz with hz | hz
       · exact HLM.out z hz
       · rw [List.mem_singleton.1 hz]; exact HUB.out.2, ⟨hk3, hown2⟩, HGB.out.1, zH (by rw [HL2.out]; exact HST.out)⟩
     case measure => simp [intOf]; omega
  ·
   have hje : j = xs.length := by omega
   subst hje
   have hlt2 : ¬ ((xs.length : Nat) : Int) < xs.length := by omega
   have hv9 := HKS.out.ks.var
   have y0 := (z00 hv9 0).1
   have y1 := (z00 hv9 1).1
   have y2 := (z00 hv9 2).1
   have hr9 := HKS.out.ks.res
   have r0 := (z00 hr9 0).1
   have r1 := (z00 hr9 1).1
   have r2 := (z00 hr9 2).1
   have rf0 := (z00 hr9 0).2
   have rf1 := (z00 hr9 1).2
   have rf2 := (z00 hr9 2).2
   clear hv9 hr9
   go_wp2
   have hs := z15 HKS.out.ks.res (.int .i64 k1.1.ins) (.slice A1 k1.1.gs.length c1) (.bool k1.2)
   have k5 := (z00 hs 0).1
   have k6 := (z00 hs 1).1
   have k7 := (z00 hs 2).1
   have kf5 := (z00 hs 0).2
   have kf6 := (z00 hs 1).2
   have kf7 := (z00 hs 2).2
   refine bodyPost_ret (v := .tuple #[.agg #[.int .i64 k1.1.ins, .slice A1 k1.1.gs.length c1, .bool k1.2], .slice B l.length d]) (by simp [results, Tryz.results104, go_sem, k5, k6, k7, kf5, kf6, kf7]) rfl ?_
   have hd1 : xs.drop xs.length = [] := List.drop_length
   have hd2 : ys.drop xs.length = [] := by rw [HL.out]; exact List.drop_length
   have hst2 := hst.out
   rw [hd1, hd2] at hst2
   have hT2 : T = (k1, l) := by rw [← hst2]; show (k1, l ++ []) = _; rw [List.append_nil]
   rw [hT2]
   obtain ⟨B', d', e9, hcap, hsl⟩ := HKS.out.own.form
   injection e9 with e1 e2 e3
   subst e1 e3
   refine ⟨A1, c1, B, d, rfl, HKS.out.ks.nil, (st3_sl (h := w.heap.size + 1) HKS.out.ks.row (fun b hb => ?_) _ _ _).mono (fun b hb => ?_), hcap, (st3_sl (h := w.heap.size + 1) hsl (fun b hb => by omega) _ _ _).mono (fun b hb => by rw [z13]; omega), HLM.out, z09 HKS.out.ks.bel (by omega) _ _ _⟩
   ·
    rcases hb with hb | hb
    · have := HF.out b hb; omega
    · omega
   ·
    rw [z13]
    exact hb.imp id fun h9 => ⟨by omega, h9.2.1⟩
def SumI (a0 a1 : Addr) (lo : Nat) (W : World) (q r : Nat) (s s' : BS) (A : Option Addr) (c : Nat) (l : List Int) (called : Bool) (x : World) : Prop := BelB lo W x ∧ Bd a0 a1 lo x q r (if called = true then s' else s) ∧ OwnSg x W.heap.size (.slice A l.length c) l
theorem SumI.up {a0 a1 : Addr} {lo : Nat} {W : World} {q r : Nat} {s s' : BS} {A : Option Addr} {c : Nat} {l : List Int} {called : Bool} {x x' : World} (h : SumI a0 a1 lo W q r s s' A c l called x) (hb : Below x.heap.size x x') : SumI a0 a1 lo W q r s s' A c l called x' := ⟨h.1.trans (.of hb h.2.1.size), h.2.1.up hb, z07 h.2.2 hb (Nat.le_refl _)⟩
theorem or_mb {x y : Int} {s : BS} (h : NB s.n) (hx : RB x) (hy : RB y) : NB (run opsP (orP x y) s).1.n ∧ MB (run opsP (orP x y) s).2 := by
 have h3 := opsP_and_mb (x := -x) (y := -y) h hx.neg hy.neg
 exact ⟨h3.1, h3.2.neg⟩
set_option maxRecDepth 100000 in
set_option maxHeartbeats 8000000 in
theorem bSum_any (a0 a1 : Addr) (lo q r : Nat) (c0 : Int) (X Y : Option Addr) (cx cy : Nat) (xs ys : List Int) (s : BS) (w : World) (h : Bd a0 a1 lo w q r s) (hc : MB c0) (hX : Lay.int.Pl w X xs) (hY : Lay.int.Pl w Y ys) (hxm : ∀ x ∈ xs, MB x) (hym : ∀ y ∈ ys, MB y) (hl : xs.length = ys.length) (hn : xs.length ≤ 1000) :
  Calls Tryz.prog 96 #[.pointer (some ⟨q, 0, none⟩), .slice X xs.length cx, .slice Y ys.length cy, .int .i64 c0] w (RetL a0 a1 lo w q r (run opsP (sumP xs ys c0) s)) := by
 obtain ⟨T, hT⟩ : ∃ T, T = run opsP (sumP xs ys c0) s := ⟨_, rfl⟩
 rw [← hT]
 have HT := zH hT
 have HB := zH h
 have HX := zH hX
 have HY := zH hY
 have HXM := zH hxm
 have HYM := zH hym
 have HL := zH hl
 have HC0 := zH hc
 have hlo := h.size
 clear hT h hX hY hxm hym hc
 rw [← hl]
 clear hl
 go_enter Tryz.func96, Tryz.ntmps96
 go_wp2
 go_loopw [9, 16, 3] (fun out i cv wr => ∃ (k : Nat) (s1 : BS) (l : List Int) (A : Option Addr) (c : Nat) (cc : Int), k ≤ xs.length ∧ i = .int .i64 k ∧ out = .slice A l.length c ∧ cv = .int .i64 cc ∧ MB cc ∧ l.length = k ∧ (∀ m ∈ l, MB m) ∧ SumI a0 a1 lo w q r s1 s1 A c l false wr ∧ Hid ((let z := run opsP (sumP (xs.drop k) (ys.drop k) cc) s1; (z.1, l ++ z.2)) = T)) (fun _ i _ _ => xs.length - (intOf i).toNat)
 case atStart => exact ⟨0, s, [], none, 0, c0, Nat.zero_le _, rfl, rfl, rfl, HC0.out, rfl, (fun _ h => by cases h), ⟨.refl _ _, HB.out, OwnSg.nil _ _⟩, zH (by rw [HT.out]; rfl)⟩
 case round =>
  obtain ⟨k, s1, l, A, c, cc, hk, rfl, rfl, rfl, hcc, hlk, hlm, hsi, hst⟩ := hrel
  have HCC := zH hcc
  have HLM := zH hlm
  have HSI := zH hsi
  have HLK := zH hlk
  clear hlm hsi hlk hcc
  by_cases hlt : k < xs.length
  ·
   have hlt2 : (k : Int) < xs.length := by omega
   have hlty : k < ys.length := by rw [← HL.out]; exact hlt
   obtain ⟨x, hx⟩ : ∃ x, xs[k]? = some x := ⟨_, List.getElem?_eq_getElem hlt⟩
   obtain ⟨y, hy⟩ : ∃ y, ys[k]? = some y := ⟨_, List.getElem?_eq_getElem hlty⟩
   have hxg : xs[k] = x := (List.getElem?_eq_some_iff.1 hx).2
   have hyg : ys[k] = y := (List.getElem?_eq_some_iff.1 hy).2
   have HXYM := zH (And.intro (HXM.out x (List.mem_of_getElem? hx)) (HYM.out y (List.mem_of_getElem? hy)))
   obtain ⟨adx, rfl, -, -⟩ := HX.out.at_int hlt
   obtain ⟨ady, rfl, -, -⟩ := HY.out.at_int hlty
   have HST := zH ((run_sum (o := opsP) xs ys k x y hx hy s1 cc l).symm.trans hst.out)
   have HRX : Hid (∀ z, BelB lo w z → z.cell? (adx.add k) = some (.int .i64 x)) := zH fun z hz => by
    obtain ⟨ad, e, _, hc⟩ := (HX.out.upB hz).at_int hlt
    injection e with e; subst e; rw [← hxg]; exact hc
   have HRY : Hid (∀ z, BelB lo w z → z.cell? (ady.add k) = some (.int .i64 y)) := zH fun z hz => by
    obtain ⟨ad, e, _, hc⟩ := (HY.out.upB hz).at_int hlty
    injection e with e; subst e; rw [← hyg]; exact hc
   have hll : l.length ≤ 1000 := by have := HLK.out; omega
   clear hx hy hxg hyg hst hlty
   obtain ⟨m, h9⟩ : ∃ m, m = opsP.xor s1 x y := ⟨_, rfl⟩
   have HM := zH h9
   have HMB : Hid (NB m.1.n ∧ MB m.2) := zH (by rw [h9]; exact opsP_xor_mb HSI.out.2.1.nb HXYM.out.1.rb HXYM.out.2.rb)
   clear h9
   obtain ⟨u, h9⟩ : ∃ u, u = opsP.xor m.1 m.2 cc := ⟨_, rfl⟩
   have HU := zH h9
   have HUB : Hid (NB u.1.n ∧ MB u.2) := zH (by rw [h9]; exact opsP_xor_mb HMB.out.1 HMB.out.2.rb HCC.out.rb)
   clear h9
   obtain ⟨p, h9⟩ : ∃ p, p = opsP.and u.1 x y := ⟨_, rfl⟩
   have HP := zH h9
   have HPB : Hid (NB p.1.n ∧ MB p.2) := zH (by rw [h9]; exact opsP_and_mb HUB.out.1 HXYM.out.1.rb HXYM.out.2.rb)
   clear h9
   obtain ⟨v, h9⟩ : ∃ v, v = opsP.and p.1 m.2 cc := ⟨_, rfl⟩
   have HV := zH h9
   have HVB : Hid (NB v.1.n ∧ MB v.2) := zH (by rw [h9]; exact opsP_and_mb HPB.out.1 HMB.out.2.rb HCC.out.rb)
   clear h9
   obtain ⟨g, h9⟩ : ∃ g, g = run opsP (orP p.2 v.2) v.1 := ⟨_, rfl⟩
   have HG := zH h9
   have HGB : Hid (NB g.1.n ∧ MB g.2) := zH (by rw [h9]; exact or_mb HVB.out.1 HPB.out.2.rb HVB.out.2.rb)
   clear h9
   have HST : Hid ((let z := run opsP (sumP (xs.drop (k + 1)) (ys.drop (k + 1)) g.2) g.1; (z.1, (l ++ [u.2]) ++ z.2)) = T) := zH (by rw [HG.out, HV.out, HP.out, HU.out, HM.out]; exact HST.out)
   obtain ⟨l2, hl2⟩ : ∃ l2, l2 = l ++ [u.2] := ⟨_, rfl⟩
   have HL2 := zH hl2
   clear hl2
   go_wp2
   have HSZ : Hid (∀ z, BelB lo w z → w.heap.size ≤ z.heap.size) := zH fun z hz => hz.bel.size
   refine z05 [[], [], [], [(1, 20), (2, 21)], [(3, 22)], [], [], [(5, 24), (6, 25)], [(7, 26)], [(0, 19), (4, 23), (8, 27)], [(9, 28)]]
    (fun x9 y9 => Below x9.heap.size x9 y9)
    [(9, fun x9 y9 => BelB lo x9 y9)]
    (fun f9 x9 => SumI a0 a1 lo w q r s1 m.1 A c l (f9 9) x9)
    [fun vs9 _ => vs9 0 = (.pointer (some ⟨q, 0, none⟩)),
     fun vs9 _ => vs9 1 = (.slice (some adx) xs.length cx),
     fun vs9 _ => vs9 2 = (.int .i64 (k : Int)),
     fun vs9 _ => vs9 3 = (.pointer (some (adx.add k))),
     fun vs9 _ => vs9 4 = (.int .i64 x),
     fun vs9 _ => vs9 5 = (.slice (some ady) xs.length cy),
     fun vs9 _ => vs9 6 = (.int .i64 (k : Int)),
     fun vs9 _ => vs9 7 = (.pointer (some (ady.add k))),
     fun vs9 _ => vs9 8 = (.int .i64 y),
     fun vs9 _ => vs9 9 = (.int .i64 m.2),
     fun vs9 _ => vs9 10 = (.int .i64 m.2)]
    [(0, 19), (1, 20), (2, 21), (3, 22), (4, 23), (5, 24), (6, 25), (7, 26), (8, 27), (9, 28), (10, 11)] (by kernel_rfl) (by kernel_rfl) (by kernel_rfl) (by kernel_rfl)
    (fun _ => Below.refl _ _) ⟨fun _ => BelB.refl _ _, trivial⟩
    ⟨⟨.inr zK, ⟨.inr (.inr zK), trivial⟩⟩,
     ⟨.inr zK, ⟨.inr (.inr zK), trivial⟩⟩,
     ⟨.inr zK, ⟨.inr (.inr zK), trivial⟩⟩,
     ⟨.inr zK, ⟨.inr (.inr zK), trivial⟩⟩,
     ⟨.inr zK, ⟨.inr (.inr zK), trivial⟩⟩,
     ⟨.inr zK, ⟨.inr (.inr zK), trivial⟩⟩,
     ⟨.inr zK, ⟨.inr (.inr zK), trivial⟩⟩,
     ⟨.inr zK, ⟨.inr (.inr zK), trivial⟩⟩,
     ⟨.inr zK, ⟨.inr (.inr zK), trivial⟩⟩,
     ⟨.inr zK, ⟨.inr (.inl rfl), trivial⟩⟩,
     ⟨.inr zK, ⟨.inr (.inr zK), trivial⟩⟩, trivial⟩ ⟨fun _ _ _ h _ v => (by simpa only [← h] using v),
     fun _ _ _ h _ v => (by simpa only [← h] using v),
     fun _ _ _ h _ v => (by simpa only [← h] using v),
     fun _ _ _ h _ v => (by simpa only [← h] using v),
     fun _ _ _ h _ v => (by simpa only [← h] using v),
     fun _ _ _ h _ v => (by simpa only [← h] using v),
     fun _ _ _ h _ v => (by simpa only [← h] using v),
     fun _ _ _ h _ v => (by simpa only [← h] using v),
     fun _ _ _ h _ v => (by simpa only [← h] using v),
     fun _ _ _ h _ v => (by simpa only [← h] using v),
     fun _ _ _ h _ v => (by simpa only [← h] using v), trivial⟩ ((show SumI a0 a1 lo w q r s1 m.1 A c l false _ from ⟨HSI.out.1.trans (.of (z01 (Below.refl _ _) 1) HSI.out.2.1.size), by rw [if_neg (by simp)]; exact HSI.out.2.1.up (z01 (Below.refl _ _) 1), z07 HSI.out.2.2 (z01 (Below.refl _ _) 1) (Nat.le_refl _)⟩)) ⟨?_, ?_, ?_, ?_, ?_, ?_, ?_, ?_, ?_, ?_, ?_, trivial⟩ ?_
   ·
    rintro vals xw f hf1 - - hI hF
    dsimp only [owes4, bare]
    simp only [putsD, Act.put, zA, zB, zC]
    go_wp2
    exact ⟨rfl, rfl, ⟨zN rfl, fun _ => Below.refl _ _⟩, hI⟩
   ·
    rintro vals xw f hf1 - - hI hF
    dsimp only [owes4, bare]
    simp only [putsD, Act.put, zA, zB, zC]
    go_wp2
    exact ⟨rfl, rfl, ⟨zN rfl, fun _ => Below.refl _ _⟩, hI⟩
   ·
    rintro vals xw f hf1 - - hI hF
    dsimp only [owes4, bare]
    simp only [putsD, Act.put, zA, zB, zC]
    go_wp2
    exact ⟨rfl, rfl, ⟨zN rfl, fun _ => Below.refl _ _⟩, hI⟩
   ·
    rintro vals xw f hf1 - - hI hF
    simp only [saysD, zD, zE, and_true] at hF
    obtain ⟨e1, e2⟩ := hF
    dsimp only [owes4, bare]
    simp only [putsD, Act.put, zA, zB, zC]
    simp only [e1, e2]
    go_wp2
    exact ⟨rfl, rfl, ⟨zN rfl, fun _ => Below.refl _ _⟩, hI⟩
   ·
    rintro vals xw f hf1 - - hI hF
    simp only [saysD, zD, zE, and_true] at hF
    have e1 := hF
    dsimp only [owes4, bare]
    simp only [putsD, Act.put, zA, zB, zC]
    simp only [e1]
    have c9 := HRX.out _ hI.1
    go_wp2
    exact ⟨rfl, rfl, ⟨zN rfl, fun _ => Below.refl _ _⟩, hI⟩
   ·
    rintro vals xw f hf1 - - hI hF
    dsimp only [owes4, bare]
    simp only [putsD, Act.put, zA, zB, zC]
    go_wp2
    exact ⟨rfl, rfl, ⟨zN rfl, fun _ => Below.refl _ _⟩, hI⟩
   ·
    rintro vals xw f hf1 - - hI hF
    dsimp only [owes4, bare]
    simp only [putsD, Act.put, zA, zB, zC]
    go_wp2
    exact ⟨rfl, rfl, ⟨zN rfl, fun _ => Below.refl _ _⟩, hI⟩
   ·
    rintro vals xw f hf1 - - hI hF
    simp only [saysD, zD, zE, and_true] at hF
    obtain ⟨e1, e2⟩ := hF
    dsimp only [owes4, bare]
    simp only [putsD, Act.put, zA, zB, zC]
    simp only [e1, e2]
    go_wp2
    exact ⟨rfl, rfl, ⟨zN rfl, fun _ => Below.refl _ _⟩, hI⟩
   ·
    rintro vals xw f hf1 - - hI hF
    simp only [saysD, zD, zE, and_true] at hF
    have e1 := hF
    dsimp only [owes4, bare]
    simp only [putsD, Act.put, zA, zB, zC]
    simp only [e1]
    have c9 := HRY.out _ hI.1
    go_wp2
    exact ⟨rfl, rfl, ⟨zN rfl, fun _ => Below.refl _ _⟩, hI⟩
   ·
    rintro vals xw f hf1 - - hI hF
    simp only [saysD, zD, zE, and_true] at hF
    obtain ⟨e1, e2, e3⟩ := hF
    dsimp only [owes4, bare]
    simp only [putsD, Act.put, zA, zB, zC]
    simp only [e1, e2, e3]
    obtain ⟨i1, i2, i3⟩ := hI
    rw [hf1, if_neg (by simp)] at i2
    have I1 := zH i1
    have I3 := zH i3
    have HC := zH (bXor_any a0 a1 lo q r s1 x y xw i2 HXYM.out.1 HXYM.out.2)
    rw [← HM.out] at HC
    clear i1 i2 i3
    go_wp2_with fail
    refine HC.out.mono ?_
    rintro e wx ⟨rfl, hb9, hd9⟩
    have HB9 := zH hb9
    have HD9 := zH hd9
    clear hb9 hd9 HC
    go_wp2
    exact ⟨rfl, rfl, ⟨fun _ => HB9.out, fun h9 => absurd rfl h9⟩, I1.out.trans HB9.out, by rw [z10, if_pos rfl]; exact HD9.out, I3.out.upB HB9.out⟩
   ·
    rintro vals xw f hf1 - - hI hF
    simp only [saysD, zD, zE, and_true] at hF
    have e1 := hF
    dsimp only [owes4, bare]
    simp only [putsD, Act.put, zA, zB, zC]
    simp only [e1]
    go_wp2
    exact ⟨rfl, rfl, ⟨zN rfl, fun _ => Below.refl _ _⟩, hI⟩
   ·
    intro vals xw f hall hI hF
    rw [show List.range _ = [0, 1, 2, 3, 4, 5, 6, 7, 8, 9, 10] from rfl] at hF
    simp only [says, zD, zE, and_true] at hF
    obtain ⟨i1, i2, i3⟩ := hI
    rw [hall 9 (by decide), if_pos rfl] at i2
    have e9 : vals 10 = .int .i64 m.2 := by obtain ⟨_, _, _, _, _, _, _, _, _, _, e9⟩ := hF; exact e9
    simp only [putsD, Act.put, zA, zB, zC]
    simp only [e9]
    clear e9 hF
    have I1 := zH i1
    have I2 := zH i2
    have I3 := zH i3
    clear i1 i2 i3
    have HC := zH (bXor_any a0 a1 lo q r m.1 m.2 cc _ I2.out HMB.out.2 HCC.out)
    rw [← HU.out] at HC
    go_wp2_with fail
    refine HC.out.mono ?_
    rintro e z2 ⟨rfl, hb9, hd9⟩
    have B2 := zH (I1.out.trans hb9)
    have D2 := zH hd9
    have O2 := zH (I3.out.upB hb9)
    clear hb9 hd9 HC
    have hsz2 : w.heap.size ≤ z2.heap.size := HSZ.out _ B2.out
    have hal9 : Below z2.heap.size z2 (z2.alloc (.cells #[.int .i64 u.2] 123)) := (Below.refl _ _).alloc (Nat.le_refl _) _
    have HAL := zH hal9
    have hsz8 : w.heap.size ≤ (z2.alloc (.cells #[.int .i64 u.2] 123)).heap.size := Nat.le_trans hsz2 hal9.size
    have O2 : Hid (OwnSg (z2.alloc (.cells #[.int .i64 u.2] 123)) w.heap.size (.slice A l.length c) l) := zH (z07 O2.out hal9 (Nat.le_refl _))
    clear hal9
    go_wp2_with (at_builtin; refine wpList_append_sig2 (ys := l2) (by rfl) (.tmp 29) (.tmp 34) (by rfl) (by rfl) (by rfl) O2.out (heap_alloc_new _ _) (by omega) hsz8 HL2.out ?_; intro A2 c2 w3 hown3 hg3)
    have hal9 := HAL.out
    obtain ⟨hs9, hb8⟩ := O2.out.grown hg3 hsz8 hlo
    have B3 := zH ((B2.out.trans (.of hal9 D2.out.size)).then hb8 hlo)
    have D3 := zH ((D2.out.up hal9).upS hs9)
    have O3 := zH hown3
    clear hal9 hs9 hb8 hown3 hg3 HAL B2 D2 O2 hsz8
    go_wp2
    refine z05 [[], [], [], [(1, 37), (2, 38)], [(3, 39)], [], [], [(5, 41), (6, 42)], [(7, 43)], [(0, 36), (4, 40), (8, 44)], [(9, 45)]]
     (fun x9 y9 => Below x9.heap.size x9 y9)
     [(9, fun x9 y9 => BelB lo x9 y9)]
     (fun f9 x9 => SumI a0 a1 lo w q r u.1 p.1 A2 c2 l2 (f9 9) x9)
     [fun vs9 _ => vs9 0 = (.pointer (some ⟨q, 0, none⟩)),
     fun vs9 _ => vs9 1 = (.slice (some adx) xs.length cx),
     fun vs9 _ => vs9 2 = (.int .i64 (k : Int)),
     fun vs9 _ => vs9 3 = (.pointer (some (adx.add k))),
     fun vs9 _ => vs9 4 = (.int .i64 x),
     fun vs9 _ => vs9 5 = (.slice (some ady) xs.length cy),
     fun vs9 _ => vs9 6 = (.int .i64 (k : Int)),
     fun vs9 _ => vs9 7 = (.pointer (some (ady.add k))),
     fun vs9 _ => vs9 8 = (.int .i64 y),
     fun vs9 _ => vs9 9 = (.int .i64 p.2),
     fun vs9 _ => vs9 10 = (.int .i64 p.2)]
     [(0, 36), (1, 37), (2, 38), (3, 39), (4, 40), (5, 41), (6, 42), (7, 43), (8, 44), (9, 45), (10, 12)] (by kernel_rfl) (by kernel_rfl) (by kernel_rfl) (by kernel_rfl)
     (fun _ => Below.refl _ _) ⟨fun _ => BelB.refl _ _, trivial⟩
     ⟨⟨.inr zK, ⟨.inr (.inr zK), trivial⟩⟩,
     ⟨.inr zK, ⟨.inr (.inr zK), trivial⟩⟩,
     ⟨.inr zK, ⟨.inr (.inr zK), trivial⟩⟩,
     ⟨.inr zK, ⟨.inr (.inr zK), trivial⟩⟩,
     ⟨.inr zK, ⟨.inr (.inr zK), trivial⟩⟩,
     ⟨.inr zK, ⟨.inr (.inr zK), trivial⟩⟩,
     ⟨.inr zK, ⟨.inr (.inr zK), trivial⟩⟩,
     ⟨.inr zK, ⟨.inr (.inr zK), trivial⟩⟩,
     ⟨.inr zK, ⟨.inr (.inr zK), trivial⟩⟩,
     ⟨.inr zK, ⟨.inr (.inl rfl), trivial⟩⟩,
     ⟨.inr zK, ⟨.inr (.inr zK), trivial⟩⟩, trivial⟩ ⟨fun _ _ _ h _ v => (by simpa only [← h] using v),
     fun _ _ _ h _ v => (by simpa only [← h] using v),
     fun _ _ _ h _ v => (by simpa only [← h] using v),
     fun _ _ _ h _ v => (by simpa only [← h] using v),
     fun _ _ _ h _ v => (by simpa only [← h] using v),
     fun _ _ _ h _ v => (by simpa only [← h] using v),
     fun _ _ _ h _ v => (by simpa only [← h] using v),
     fun _ _ _ h _ v => (by simpa only [← h] using v),
     fun _ _ _ h _ v => (by simpa only [← h] using v),
     fun _ _ _ h _ v => (by simpa only [← h] using v),
     fun _ _ _ h _ v => (by simpa only [← h] using v), trivial⟩ ((show SumI a0 a1 lo w q r u.1 p.1 A2 c2 l2 false _ from ⟨B3.out.trans (.of (z01 (Below.refl _ _) 1) D3.out.size), by rw [if_neg (by simp)]; exact D3.out.up (z01 (Below.refl _ _) 1), z07 O3.out (z01 (Below.refl _ _) 1) (Nat.le_refl _)⟩)) ⟨?_, ?_, ?_, ?_, ?_, ?_, ?_, ?_, ?_, ?_, ?_, trivial⟩ ?_
    ·
     rintro vals xw f hf1 - - hI hF
     dsimp only [owes4, bare]
     simp only [putsD, Act.put, zA, zB, zC]
     go_wp2
     exact ⟨rfl, rfl, ⟨zN rfl, fun _ => Below.refl _ _⟩, hI⟩
    ·
     rintro vals xw f hf1 - - hI hF
     dsimp only [owes4, bare]
     simp only [putsD, Act.put, zA, zB, zC]
     go_wp2
     exact ⟨rfl, rfl, ⟨zN rfl, fun _ => Below.refl _ _⟩, hI⟩
    ·
     rintro vals xw f hf1 - - hI hF
     dsimp only [owes4, bare]
     simp only [putsD, Act.put, zA, zB, zC]
     go_wp2
     exact ⟨rfl, rfl, ⟨zN rfl, fun _ => Below.refl _ _⟩, hI⟩
    ·
     rintro vals xw f hf1 - - hI hF
     simp only [saysD, zD, zE, and_true] at hF
     obtain ⟨e1, e2⟩ := hF
     dsimp only [owes4, bare]
     simp only [putsD, Act.put, zA, zB, zC]
     simp only [e1, e2]
     go_wp2
     exact ⟨rfl, rfl, ⟨zN rfl, fun _ => Below.refl _ _⟩, hI⟩
    ·
     rintro vals xw f hf1 - - hI hF
     simp only [saysD, zD, zE, and_true] at hF
     have e1 := hF
     dsimp only [owes4, bare]
     simp only [putsD, Act.put, zA, zB, zC]
     simp only [e1]
     have c9 := HRX.out _ hI.1
     go_wp2
     exact ⟨rfl, rfl, ⟨zN rfl, fun _ => Below.refl _ _⟩, hI⟩
    ·
     rintro vals xw f hf1 - - hI hF
     dsimp only [owes4, bare]
     simp only [putsD, Act.put, zA, zB, zC]
     go_wp2
     exact ⟨rfl, rfl, ⟨zN rfl, fun _ => Below.refl _ _⟩, hI⟩
    ·
     rintro vals xw f hf1 - - hI hF
     dsimp only [owes4, bare]
     simp only [putsD, Act.put, zA, zB, zC]
     go_wp2
     exact ⟨rfl, rfl, ⟨zN rfl, fun _ => Below.refl _ _⟩, hI⟩
    ·
     rintro vals xw f hf1 - - hI hF
     simp only [saysD, zD, zE, and_true] at hF
     obtain ⟨e1, e2⟩ := hF
     dsimp only [owes4, bare]
     simp only [putsD, Act.put, zA, zB, zC]
     simp only [e1, e2]
     go_wp2
     exact ⟨rfl, rfl, ⟨zN rfl, fun _ => Below.refl _ _⟩, hI⟩
    ·
     rintro vals xw f hf1 - - hI hF
     simp only [saysD, zD, zE, and_true] at hF
     have e1 := hF
     dsimp only [owes4, bare]
     simp only [putsD, Act.put, zA, zB, zC]
     simp only [e1]
     have c9 := HRY.out _ hI.1
     go_wp2
     exact ⟨rfl, rfl, ⟨zN rfl, fun _ => Below.refl _ _⟩, hI⟩
    ·
     rintro vals xw f hf1 - - hI hF
     simp only [saysD, zD, zE, and_true] at hF
     obtain ⟨e1, e2, e3⟩ := hF
     dsimp only [owes4, bare]
     simp only [putsD, Act.put, zA, zB, zC]
     simp only [e1, e2, e3]
     obtain ⟨i1, i2, i3⟩ := hI
     rw [hf1, if_neg (by simp)] at i2
     have I1 := zH i1
     have I3 := zH i3
     have HC := zH (bAnd_any a0 a1 lo q r u.1 x y xw i2 HXYM.out.1 HXYM.out.2)
     rw [← HP.out] at HC
     clear i1 i2 i3
     go_wp2_with fail
     refine HC.out.mono ?_
     rintro e wx ⟨rfl, hb9, hd9⟩
     have HB9 := zH hb9
     have HD9 := zH hd9
     clear hb9 hd9 HC
     go_wp2
     exact ⟨rfl, rfl, ⟨fun _ => HB9.out, fun h9 => absurd rfl h9⟩, I1.out.trans HB9.out, by rw [z10, if_pos rfl]; exact HD9.out, I3.out.upB HB9.out⟩
    ·
     rintro vals xw f hf1 - - hI hF
     simp only [saysD, zD, zE, and_true] at hF
     have e1 := hF
     dsimp only [owes4, bare]
     simp only [putsD, Act.put, zA, zB, zC]
     simp only [e1]
     go_wp2
     exact ⟨rfl, rfl, ⟨zN rfl, fun _ => Below.refl _ _⟩, hI⟩
    ·
     intro vals xw f hall hI hF
     rw [show List.range _ = [0, 1, 2, 3, 4, 5, 6, 7, 8, 9, 10] from rfl] at hF
     simp only [says, zD, zE, and_true] at hF
     obtain ⟨i1, i2, i3⟩ := hI
     rw [hall 9 (by decide), if_pos rfl] at i2
     have e9 : vals 10 = .int .i64 p.2 := by obtain ⟨_, _, _, _, _, _, _, _, _, _, e9⟩ := hF; exact e9
     simp only [putsD, Act.put, zA, zB, zC]
     simp only [e9]
     clear e9 hF
     have I1 := zH i1
     have I2 := zH i2
     have I3 := zH i3
     clear i1 i2 i3
     have HC := zH (bAnd_any a0 a1 lo q r p.1 m.2 cc _ I2.out HMB.out.2 HCC.out)
     rw [← HV.out] at HC
     go_wp2_with fail
     refine HC.out.mono ?_
     rintro e z4 ⟨rfl, hb9, hd9⟩
     have B4 := zH (I1.out.trans hb9)
     have D4 := zH hd9
     have O4 := zH (I3.out.upB hb9)
     clear hb9 hd9 HC
     have HC := zH (bOr_any a0 a1 lo q r v.1 p.2 v.2 _ D4.out HPB.out.2 HVB.out.2)
     rw [← HG.out] at HC
     go_wp2_with fail
     refine HC.out.mono ?_
     rintro e z5 ⟨rfl, hb9, hd9⟩
     have B5 := zH (B4.out.trans hb9)
     have D5 := zH hd9
     have O5 := zH (O4.out.upB hb9)
     clear hb9 hd9 HC
     go_wp2
     go_roundw
     case rel => exact ⟨k + 1, g.1, l2, A2, c2, g.2, by omega, by go_num, rfl, rfl, HGB.out.2, by rw [HL2.out, List.length_append, HLK.out]; rfl, fun z hz => by
      rw [HL2.out] at hz
      rcases List.mem_append.1 hz with hz | hz
      · exact HLM.out z hz
      · rw [List.mem_singleton.1 hz]; exact HUB.out.2, ⟨B5.out, D5.out, O5.out⟩, zH (by rw [HL2.out]; exact HST.out)⟩
     case measure => simp [intOf]; omega
  ·
   have hke : k = xs.length := by omega
   subst hke
   have hlt2 : ¬ ((xs.length : Nat) : Int) < xs.length := by omega
   go_wp2
   go_ret
   have hd1 : xs.drop xs.length = [] := List.drop_length
   have hd2 : ys.drop xs.length = [] := by rw [HL.out]; exact List.drop_length
   have hst2 := hst.out
   rw [hd1, hd2] at hst2
   have hT2 : T = (s1, l) := by rw [← hst2]; show (s1, l ++ []) = _; rw [List.append_nil]
   rw [hT2]
   exact ⟨A, c, rfl, HSI.out.2.2.pl.1, HSI.out.2.2.pl.2, HLM.out, HSI.out.1, HSI.out.2.1⟩
set_option maxHeartbeats 1000000 in
theorem offs_any (n : Nat) (w : World) (hn : n ≤ 1000) : Calls Tryz.prog 127 #[.int .i64 (n : Int)] w (RetOw (List.replicate n (-1)) w) := by
 have hal : Below w.heap.size w (w.alloc (.cells #[.int .i64 (-1)] 123)) := (Below.refl _ _).alloc (Nat.le_refl _) _
 have HAL := zH hal
 obtain ⟨rs, hrs⟩ : ∃ rs, rs = List.replicate n (-1 : Int) := ⟨_, rfl⟩
 rw [← hrs]
 have HC := zH (repeat_any (-1) n w.heap.size 123 _ (heap_alloc_new w (.cells #[.int .i64 (-1)] 123)) hn)
 rw [← hrs] at HC
 clear hal hrs
 go_enter Tryz.func127, Tryz.ntmps127
 go_wp2_with fail
 refine HC.out.mono ?_
 rintro e w1 ⟨A, c, rfl, h1, h2⟩
 have H1 := zH h1
 have H2 := zH h2
 clear h1 h2 HC
 go_wp2
 go_ret
 exact ⟨A, c, rfl, own_mono H1.out HAL.out.size, bthen HAL.out H2.out⟩
theorem grow_eq (n : Nat) (w : World) (h0 : 0 < n) (hn : n ≤ 4000) : ∃ c w2, (Builtin.append_ #[77, 3] 77 #[.slice none 0 0, .int .i64 (n : Int)]).run Tryz.prog w = .ok (.slice (some ⟨w.heap.size, 0, none⟩) n c) w2 ∧ n ≤ c ∧ c ≤ maxLen ∧ OwnSg w2 w.heap.size (.slice (some ⟨w.heap.size, 0, none⟩) 0 c) [] ∧ Below w.heap.size w w2 := by
 obtain ⟨i0, hi0, hz0, hz1, hz2⟩ := info_parts signal_info
 have hr := Lib.run_append_nil_zeros (P := Tryz.prog) w 77 3 77 123 i0 _ .i64 .i64 Tryz.underlying77 Tryz.underlying3 hi0 hz0 n h0 (by omega) (by omega) (by rw [hz2]; omega)
 have hg := grownCap_ge w n 0 123
 have hl := grownCap_le_maxLen w n 0 123 (by unfold maxLen; omega)
 generalize grownCap w n 0 123 = c at *
 have hsz : (Builtin.zeroCells (Value.int .i64 0).cells n ++ Builtin.zeroCells (Value.int .i64 0).cells (c - n)).size = c := by
  rw [Array.size_append, size_zeroCells, size_zeroCells, show (Value.int .i64 0).cells.size = 1 from rfl]; omega
 generalize Builtin.zeroCells (Value.int .i64 0).cells n ++ Builtin.zeroCells (Value.int .i64 0).cells (c - n) = cur at *
 refine ⟨c, _, hr, hg, hl, ⟨by simp, .inr ⟨w.heap.size, c, cur, rfl, Nat.le_refl _, heap_alloc_new w.drew _, Nat.zero_le _, hl, by rw [hsz, Nat.mul_one], by simp⟩⟩, ?_⟩
 exact (z01 (Below.refl _ _) 1).alloc (Nat.le_refl _) _
set_option maxRecDepth 100000 in
set_option maxHeartbeats 2000000 in
theorem growNil_any (n : Nat) (w : World) (hn : n ≤ 4000) : Calls Tryz.prog 122 #[.slice none 0 0, .int .i64 (n : Int)] w (RetOw [] w) := by
 rcases Nat.eq_zero_or_pos n with rfl | h0
 ·
  simp only [Int.cast_ofNat_Int]
  go_enter Tryz.func122, Tryz.ntmps122
  go_wp2
  go_ret
  exact ⟨none, 0, rfl, OwnSg.nil _ _, Below.refl _ _⟩
 ·
  have hpos : (0 : Int) < n := by omega
  obtain ⟨c, w2, hr, hc, hm, ho, hb⟩ := grow_eq n w h0 hn
  have HR := zH hr
  have HO := zH ho
  have HB := zH hb
  unfold maxLen at hm
  clear hr ho hb
  go_enter Tryz.func122, Tryz.ntmps122
  go_wp2_with (at_builtin; refine Lib.wpList_append_run _ (by rfl) (.tmp 20) (.tmp 21) _ _ (by rfl) _ _ (by rfl) (by rfl) _ _ HR.out ?_)
  go_ret
  exact ⟨_, c, rfl, HO.out, HB.out⟩
theorem wpList_append_sigs {Q : Exit → Act → World → Prop} {ops : Array Oper} {rest : List Oper} {o : Oper} {a : Act} {w : World} {lo : Nat} {A Y : Option Addr} {c cy : Nat} {xs ys zs : List Int} (hgd : o.guard = none) (s y : Operand)
  (ho : o.op = .call { callee := .builtin .append, args := #[s, y], argTypes := #[77, 77] }) (hs : a.eval s = .slice A xs.length c) (hy : a.eval y = .slice Y ys.length cy)
  (hown : OwnSg w lo (.slice A xs.length c) xs) (hY : Lay.int.Rd w Y ys) (hYn : Y = none → ys.length = 0) (hn : xs.length + ys.length ≤ 1048576) (hlo : lo ≤ w.heap.size) (hzs : zs = xs ++ ys)
  (h : ∀ A' c' w', OwnSg w' lo (.slice A' zs.length c') zs → w.grownBy w' (Value.slice A xs.length c).ownBlock → wpList Tryz.prog ops Q rest (a.put o.dst (.slice A' zs.length c')) w') : wpList Tryz.prog ops Q (o :: rest) a w := by
 obtain ⟨i0, hi0, hz0, hz1, hz2⟩ := info_parts signal_info
 have hl : zs.length = xs.length + ys.length := by rw [hzs]; simp
 have hc : zs.map (Value.int .i64) = xs.map (Value.int .i64) ++ ys.map (Value.int .i64) := by rw [hzs]; simp
 refine wpList_append_src (P := Tryz.prog) w hgd s y 77 ho lo 123 i0 _ 1 8 Tryz.underlying77 hi0 hz0 hz1 hz2 (by rfl) (by omega) _ xs.length (xs.map (Value.int .i64)) hs hown Y ys.length cy (ys.map (Value.int .i64)) hy (src_ints hY) (ints_one _) zs.length hl.symm (by unfold maxLen; omega) (by omega) hlo hYn ?_
 intro A' c' w' h2 _ h3
 exact h A' c' w' (by unfold OwnSg; rw [hc]; exact h2) h3
set_option maxRecDepth 100000 in
set_option maxHeartbeats 4000000 in
theorem concat_any (X Y : Option Addr) (cx cy : Nat) (xs ys : List Int) (b : Nat) (t : TypeId) (w : World) (hb : w.heap[b]? = some (.cells #[.slice Y ys.length cy, .slice X xs.length cx] t (0, 0))) (hX : Lay.int.Rd w X xs) (hY : Lay.int.Rd w Y ys) (hXn : X = none → xs.length = 0) (hYn : Y = none → ys.length = 0) (hn : xs.length ≤ 1000) (hn' : ys.length ≤ 1000) :
  Calls Tryz.prog 91 #[.slice (some ⟨b, 0, none⟩) 2 2] w (RetOw (ys ++ xs) w) := by
 have z0 := (z00 hb 0).1
 have z1 := (z00 hb 1).1
 have HX := zH hX
 have HY := zH hY
 have HXN := zH hXn
 have HYN := zH hYn
 have HBX := zH hb
 have HG := zH (growNil_any (ys.length + xs.length) w (by omega))
 obtain ⟨zs, hzs⟩ : ∃ zs, zs = ys ++ xs := ⟨_, rfl⟩
 have HZ := zH hzs
 rw [← hzs]
 clear hb hX hY hXn hYn hzs
 go_enter Tryz.func91, Tryz.ntmps91
 go_wp2
 go_loop [3, 11] (fun sz i => (i = .int .i64 0 ∧ sz = .int .i64 0) ∨ (i = .int .i64 1 ∧ sz = .int .i64 (ys.length : Int)) ∨ (i = .int .i64 2 ∧ sz = .int .i64 ((ys.length : Int) + xs.length))) (fun _ i => 2 - (intOf i).toNat)
 case atStart => exact .inl ⟨rfl, rfl⟩
 case round =>
  rcases hrel with ⟨rfl, rfl⟩ | ⟨rfl, rfl⟩ | ⟨rfl, rfl⟩
  ·
   go_wp2
   go_round
   case rel => exact .inr (.inl ⟨rfl, rfl⟩)
   case measure => simp [intOf]
  ·
   go_wp2
   go_round
   case rel => exact .inr (.inr ⟨rfl, rfl⟩)
   case measure => simp [intOf]
  ·
   rw [show (ys.length : Int) + (xs.length : Int) = ((ys.length + xs.length : Nat) : Int) by omega]
   clear z0 z1
   go_wp2_with fail
   refine HG.out.mono ?_
   rintro e w1 ⟨A1, c1, rfl, ho1, hb1⟩
   have HO1 := zH ho1
   have HB1 := zH hb1
   clear ho1 hb1 HG
   go_wp2
   go_loopw [6, 27] (fun nw i wr => ∃ (l : List Int) (A : Option Addr) (c : Nat), ((i = .int .i64 0 ∧ l = []) ∨ (i = .int .i64 1 ∧ l = ys) ∨ (i = .int .i64 2 ∧ l = zs)) ∧ nw = .slice A l.length c ∧ OwnSg wr w.heap.size (.slice A l.length c) l ∧ Below w.heap.size w wr) (fun _ i _ => 2 - (intOf i).toNat)
   case atStart => exact ⟨[], A1, c1, .inl ⟨rfl, rfl⟩, rfl, HO1.out, HB1.out⟩
   case round =>
    obtain ⟨l, A, c, hil, rfl, hown, hbr⟩ := hrel
    have hz := (hbr.block b (lt_of_block HBX.out)).trans HBX.out
    have z0 := (z00 hz 0).1
    have z1 := (z00 hz 1).1
    have HOWN := zH hown
    have HBR := zH hbr
    have hsz := hbr.size
    have HYR := zH (HY.out.up hbr)
    have HXR := zH (HX.out.up hbr)
    clear hz hown hbr
    rcases hil with ⟨rfl, hl⟩ | ⟨rfl, hl⟩ | ⟨rfl, hl⟩
    ·
     have HL := zH (show ys = l ++ ys by rw [hl]; rfl)
     have hll : l.length + ys.length ≤ 1048576 := by rw [hl]; simp; omega
     clear hl
     go_wp2_with (at_builtin; refine wpList_append_sigs (zs := ys) (by rfl) (.tmp 31) (.tmp 32) (by rfl) (by rfl) (by rfl) HOWN.out HYR.out HYN.out hll hsz HL.out ?_; intro A2 c2 w2 hown2 hg2)
     have hb2 := HBR.out.grown hg2 hsz fun g e => (HOWN.out.lt g e).1
     go_roundw
     case rel => exact ⟨ys, A2, c2, .inr (.inl ⟨rfl, rfl⟩), rfl, hown2, hb2⟩
     case measure => simp [intOf]
    ·
     have HL := zH (show zs = l ++ xs by rw [hl, HZ.out])
     have hll : l.length + xs.length ≤ 1048576 := by rw [hl]; omega
     clear hl
     go_wp2_with (at_builtin; refine wpList_append_sigs (zs := zs) (by rfl) (.tmp 31) (.tmp 32) (by rfl) (by rfl) (by rfl) HOWN.out HXR.out HXN.out hll hsz HL.out ?_; intro A2 c2 w2 hown2 hg2)
     have hb2 := HBR.out.grown hg2 hsz fun g e => (HOWN.out.lt g e).1
     go_roundw
     case rel => exact ⟨zs, A2, c2, .inr (.inr ⟨rfl, rfl⟩), rfl, hown2, hb2⟩
     case measure => simp [intOf]
    ·
     subst hl
     go_wp2
     go_ret
     exact ⟨A, c, rfl, HOWN.out, HBR.out⟩
def catS (n : N) (xs ys : List Int) : BS × List Int := (⟨n, failE none (decide (4 < xs.length + ys.length)) 0⟩, ys ++ xs)
set_option maxHeartbeats 2000000 in
theorem bCat_any (a0 a1 : Addr) (lo q r : Nat) (n : N) (X Y : Option Addr) (cx cy : Nat) (xs ys : List Int) (w : World) (h : Bd a0 a1 lo w q r ⟨n, none⟩) (hX : Lay.int.Pl w X xs) (hY : Lay.int.Pl w Y ys) (hXn : X = none → xs.length = 0) (hYn : Y = none → ys.length = 0) (hxm : ∀ x ∈ xs, MB x) (hym : ∀ y ∈ ys, MB y) (hn : xs.length ≤ 500) (hn' : ys.length ≤ 500) :
  Calls Tryz.prog 47 #[.pointer (some ⟨q, 0, none⟩), .int .i64 14, .slice X xs.length cx, .slice Y ys.length cy] w (RetL a0 a1 lo w q r (catS n xs ys)) := by
 have HBD := zH h
 have hlo := h.size
 have HX := zH hX
 have HY := zH hY
 have HXN := zH hXn
 have HYN := zH hYn
 obtain ⟨bb, hbb⟩ : ∃ bb, bb = decide (4 < xs.length + ys.length) := ⟨_, rfl⟩
 have hbI : decide ((4 : Int) < (xs.length : Int) + (ys.length : Int)) = bb := by rw [hbb, decide_eq_decide]; omega
 have HF := zH (fail_any a0 a1 lo q r none bb 0 w h.toBx)
 have g0 := h.g.c0
 have hv : errV a0 a1 (some 0) = sentV a0 := rfl
 rw [hv] at HF
 obtain ⟨zs, hzs⟩ : ∃ zs, zs = ys ++ xs := ⟨_, rfl⟩
 have HZM : Hid (∀ m ∈ zs, MB m) := zH fun m hm => by rw [hzs] at hm; exact (List.mem_append.1 hm).elim (hym m) (hxm m)
 have HZ := zH hzs
 rw [show catS n xs ys = (⟨n, failE none bb 0⟩, zs) by rw [hbb, hzs]; rfl]
 clear h hX hY hXn hYn hxm hym hv hzs hbb
 go_enter Tryz.func47, Tryz.ntmps47
 go_wp2_with fail
 refine HF.out.mono ?_
 rintro e w1 ⟨rfl, hb1, hx1, hk1⟩
 have hal : Below w1.heap.size w1 (w1.alloc (.cells #[.slice Y ys.length cy, .slice X xs.length cx] 77)) := (Below.refl _ _).alloc (Nat.le_refl _) _
 have HB1 := zH (hb1.trans (.of hal hx1.size))
 have HD1 := zH ((Bx.bd HBD.out hx1 hk1 (fun h => (failE_none h).1)).up hal)
 have HX := zH ((HX.out.upB hb1).upP hal)
 have HY := zH ((HY.out.upB hb1).upP hal)
 have HC := zH (concat_any X Y cx cy xs ys w1.heap.size 77 _ (heap_alloc_new w1 (.cells #[.slice Y ys.length cy, .slice X xs.length cx] 77)) HX.out.plrd HY.out.plrd HXN.out HYN.out (by omega) (by omega))
 rw [← HZ.out] at HC
 clear hb1 hx1 hk1 hal HF g0 hbI
 go_wp2_with fail
 refine HC.out.mono ?_
 rintro e w2 ⟨A2, c2, rfl, ho2, hb2⟩
 have HO2 := zH ho2
 have HB2 := zH hb2
 clear ho2 hb2 HC
 go_wp2
 go_ret
 exact ⟨A2, c2, rfl, HO2.out.pl.1, HO2.out.pl.2, HZM.out, HB1.out.trans (.of HB2.out HD1.out.size), HD1.out.up HB2.out⟩
def PG.bd {α : Type} (B : Int → Prop) (Φ : α → Prop) : PG α → Prop
 | .ret a => Φ a
 | .and x y k => (B x ∧ B y) ∧ ∀ m, B m → (k m).bd B Φ
 | .xor x y k => (B x ∧ B y) ∧ ∀ m, B m → (k m).bd B Φ
theorem bd_bind {α β : Type} {B : Int → Prop} {Φ : β → Prop} (f : α → PG β) : ∀ (p : PG α), p.bd B (fun a => (f a).bd B Φ) → (p.bind f).bd B Φ
 | .ret _, h => h
 | .and _ _ k, h => ⟨h.1, fun m hm => bd_bind f (k m) (h.2 m hm)⟩
 | .xor _ _ k, h => ⟨h.1, fun m hm => bd_bind f (k m) (h.2 m hm)⟩
theorem PG.bd.mono {α : Type} {B : Int → Prop} {Φ Ψ : α → Prop} (h : ∀ a, Φ a → Ψ a) : ∀ {p : PG α}, p.bd B Φ → p.bd B Ψ
 | .ret _, hp => h _ hp
 | .and _ _ k, hp => ⟨hp.1, fun m hm => PG.bd.mono h (hp.2 m hm)⟩
 | .xor _ _ k, hp => ⟨hp.1, fun m hm => PG.bd.mono h (hp.2 m hm)⟩
theorem bd_runR {α : Type} {Φ : α → Prop} : ∀ (p : PG α) (k : N × Bool), p.bd RB Φ → NB k.1 → NB (run opsR p k).1.1 ∧ Φ (run opsR p k).2
 | .ret _, _, h, hk => ⟨hk, h⟩
 | .and x y f, k, h, hk => by
  have h1 : NB (opsR.and k x y).1.1 ∧ RB (opsR.and k x y).2 := stepR_nb hk (and1_nb hk h.1.1 h.1.2)
  exact bd_runR (f _) _ (h.2 _ h1.2) h1.1
 | .xor x y f, k, h, hk => by
  have h1 : NB (opsR.xor k x y).1.1 ∧ RB (opsR.xor k x y).2 := stepR_nb hk (xor1_nb hk h.1.1 h.1.2)
  exact bd_runR (f _) _ (h.2 _ h1.2) h1.1
theorem bd_runP {α : Type} {Φ : α → Prop} : ∀ (p : PG α) (s : BS), p.bd MB Φ → NB s.n → NB (run opsP p s).1.n ∧ Φ (run opsP p s).2
 | .ret _, _, h, hk => ⟨hk, h⟩
 | .and x y f, s, h, hk => by
  have h1 : NB (opsP.and s x y).1.n ∧ MB (opsP.and s x y).2 := stepP_nb hk (and1_nb hk h.1.1.rb h.1.2.rb)
  exact bd_runP (f _) _ (h.2 _ h1.2) h1.1
 | .xor x y f, s, h, hk => by
  have h1 : NB (opsP.xor s x y).1.n ∧ MB (opsP.xor s x y).2 := stepP_nb hk (xor1_nb hk h.1.1.rb h.1.2.rb)
  exact bd_runP (f _) _ (h.2 _ h1.2) h1.1
structure BOk (B : Int → Prop) : Prop where
 neg : ∀ m, B m → B (-m)
 one : B 1
 off : B (-1)
theorem bok_rb : BOk RB := ⟨fun _ h => h.neg, by unfold RB; omega, by unfold RB; omega⟩
theorem bok_mb : BOk MB := ⟨fun _ h => h.neg, by unfold MB; omega, by unfold MB; omega⟩
section
variable {B : Int → Prop} (hB : BOk B)
include hB
theorem or_bd {x y : Int} {Φ : Int → Prop} (hx : B x) (hy : B y) (h : ∀ m, B m → Φ m) : (orP x y).bd B Φ := ⟨⟨hB.neg _ hx, hB.neg _ hy⟩, fun m hm => h _ (hB.neg _ hm)⟩
theorem mux_bd {c x y : Int} {Φ : Int → Prop} (hc : B c) (hx : B x) (hy : B y) (h : ∀ m, B m → Φ m) : (muxP c x y).bd B Φ :=
 ⟨⟨hc, hx⟩, fun _ hp => ⟨⟨hB.neg _ hc, hy⟩, fun _ hq => or_bd hB hp hq h⟩⟩
omit hB in
theorem each_bd {f : Int → Int → PG Int} (hf : ∀ (x y : Int) (Ψ : Int → Prop), B x → B y → (∀ m, B m → Ψ m) → (f x y).bd B Ψ) : ∀ (xs ys : List Int) (Φ : List Int → Prop), (∀ x ∈ xs, B x) → (∀ y ∈ ys, B y) → (∀ l, (∀ m ∈ l, B m) → (xs.length = ys.length → l.length = xs.length) → Φ l) → (eachP f xs ys).bd B Φ
 | [], [], Φ, _, _, h => h [] (fun _ h => by cases h) fun _ => rfl
 | x :: xs, y :: ys, Φ, hx, hy, h => by
  refine bd_bind _ _ (hf x y _ (hx _ (.head _)) (hy _ (.head _)) fun m hm => bd_bind _ _ (each_bd hf xs ys _ (fun z hz => hx z (.tail _ hz)) (fun z hz => hy z (.tail _ hz)) fun l hl hll => ?_))
  refine h (m :: l) (fun z hz => ?_) fun e => by rw [List.length_cons, hll (by simpa using e), List.length_cons]
  rcases List.mem_cons.1 hz with rfl | hz
  · exact hm
  · exact hl z hz
 | [], _ :: _, Φ, _, _, h => h [] (fun _ h => by cases h) fun e => by simp at e
 | _ :: _, [], Φ, _, _, h => h [] (fun _ h => by cases h) fun e => by simp at e
theorem sum_bd : ∀ (xs ys : List Int) (c : Int) (Φ : List Int → Prop), B c → (∀ x ∈ xs, B x) → (∀ y ∈ ys, B y) → (∀ l, (∀ m ∈ l, B m) → (xs.length = ys.length → l.length = xs.length) → Φ l) → (sumP xs ys c).bd B Φ
 | [], [], _, Φ, _, _, _, h => h [] (fun _ h => by cases h) fun _ => rfl
 | x :: xs, y :: ys, c, Φ, hc, hx, hy, h => by
  have x0 := hx _ (.head _)
  have y0 := hy _ (.head _)
  refine ⟨⟨x0, y0⟩, fun d hd => ⟨⟨hd, hc⟩, fun s hs => ⟨⟨x0, y0⟩, fun p hp => ⟨⟨hd, hc⟩, fun q hq => ?_⟩⟩⟩⟩
  refine bd_bind _ _ (or_bd hB hp hq fun c' hc' => bd_bind _ _ (sum_bd xs ys c' _ hc' (fun z hz => hx z (.tail _ hz)) (fun z hz => hy z (.tail _ hz)) fun l hl hll => ?_))
  refine h (s :: l) (fun z hz => ?_) fun e => by rw [List.length_cons, hll (by simpa using e), List.length_cons]
  rcases List.mem_cons.1 hz with rfl | hz
  · exact hs
  · exact hl z hz
 | [], _ :: _, _, Φ, _, _, _, h => h [] (fun _ h => by cases h) fun e => by simp at e
 | _ :: _, [], _, Φ, _, _, _, h => h [] (fun _ h => by cases h) fun e => by simp at e
theorem less_bd : ∀ (xs ys : List Int) (r : Int) (Φ : Int → Prop), B r → (∀ x ∈ xs, B x) → (∀ y ∈ ys, B y) → (∀ m, B m → Φ m) → (lessP xs ys r).bd B Φ
 | [], [], _, Φ, hr, _, _, h => h _ hr
 | x :: xs, y :: ys, r, Φ, hr, hx, hy, h => by
  refine ⟨⟨hx _ (.head _), hy _ (.head _)⟩, fun d hd => bd_bind _ _ (mux_bd hB hd (hy _ (.head _)) hr fun r' hr' => ?_)⟩
  exact less_bd xs ys r' Φ hr' (fun z hz => hx z (.tail _ hz)) (fun z hz => hy z (.tail _ hz)) h
 | [], _ :: _, _, Φ, hr, _, _, h => h _ hr
 | _ :: _, [], _, Φ, hr, _, _, h => h _ hr
end
def mapP (f : Int → PG Int) : List Int → PG (List Int)
 | [] => .ret []
 | x :: xs => (f x).bind fun m => (mapP f xs).bind fun l => .ret (m :: l)
def andP (y x : Int) : PG Int := .and x y .ret
def rowP (xs : List Int) (i : Nat) (y : Int) : PG (List Int) := (mapP (andP y) (xs.take (xs.length - i))).bind fun l => .ret (List.replicate i (-1) ++ l)
def mulP (xs : List Int) : List Int → Nat → List Int → PG (List Int)
 | [], _, s => .ret s
 | y :: ys, i, s => (rowP xs i y).bind fun row => (sumP s row (-1)).bind fun s' => mulP xs ys (i + 1) s'
def divP (xs wide : List Int) : Nat → List Int → List Int → PG (List Int × List Int)
 | 0, q, r => .ret (q, r)
 | at_ + 1, q, r => (lessP (xs.getD at_ 0 :: r) wide (-1)).bind fun l => (sumP (xs.getD at_ 0 :: r) (wide.map Neg.neg) 1).bind fun u =>
   (eachP (muxP l) ((xs.getD at_ 0 :: r).take xs.length) (u.take xs.length)).bind fun r' => divP xs wide at_ (q.set at_ (-l)) r'
def fromL (up : Bool) (s : List Int) (step : Nat) (fill : Int) : List Int := (List.range s.length).map fun k => if up = true then (if k < step then fill else s.getD (k - step) 0) else if k + step < s.length then s.getD (k + step) 0 else fill
def shiftP (up : Bool) (fill : Int) : List Int → Nat → List Int → PG (List Int)
 | [], _, s => .ret s
 | c :: cs, i, s => (eachP (muxP c) (fromL up s (2 ^ i) fill) s).bind fun s' => shiftP up fill cs (i + 1) s'
theorem fromL_len (up : Bool) (s : List Int) (step : Nat) (fill : Int) : (fromL up s step fill).length = s.length := by unfold fromL; simp
section
variable {B : Int → Prop} (hB : BOk B)
omit hB in
theorem map_bd {f : Int → PG Int} (hf : ∀ (x : Int) (Ψ : Int → Prop), B x → (∀ m, B m → Ψ m) → (f x).bd B Ψ) : ∀ (xs : List Int) (Φ : List Int → Prop), (∀ x ∈ xs, B x) → (∀ l, (∀ m ∈ l, B m) → l.length = xs.length → Φ l) → (mapP f xs).bd B Φ
 | [], Φ, _, h => h [] (fun _ h => by cases h) rfl
 | x :: xs, Φ, hx, h => by
  refine bd_bind _ _ (hf x _ (hx _ (.head _)) fun m hm => bd_bind _ _ (map_bd hf xs _ (fun z hz => hx z (.tail _ hz)) fun l hl hll => ?_))
  refine h (m :: l) (fun z hz => ?_) (by rw [List.length_cons, hll, List.length_cons])
  rcases List.mem_cons.1 hz with rfl | hz
  · exact hm
  · exact hl z hz
include hB
theorem row_bd {xs : List Int} {i : Nat} {y : Int} {Φ : List Int → Prop} (hi : i ≤ xs.length) (hx : ∀ x ∈ xs, B x) (hy : B y) (h : ∀ l, (∀ m ∈ l, B m) → l.length = xs.length → Φ l) : (rowP xs i y).bd B Φ := by
 refine bd_bind _ _ (map_bd (f := andP y) (fun x Ψ hx h => ⟨⟨hx, hy⟩, h⟩) _ _ (fun z hz => hx z (List.mem_of_mem_take hz)) fun l hl hll => ?_)
 refine h _ (fun z hz => ?_) (by rw [List.length_append, hll, List.length_replicate, List.length_take]; omega)
 rcases List.mem_append.1 hz with hz | hz
 · rw [List.eq_of_mem_replicate hz]; exact hB.off
 · exact hl z hz
theorem mul_bd {xs : List Int} (hx : ∀ x ∈ xs, B x) : ∀ (ys : List Int) (i : Nat) (s : List Int) (Φ : List Int → Prop), i + ys.length ≤ xs.length → (∀ y ∈ ys, B y) → (∀ m ∈ s, B m) → s.length = xs.length → (∀ l, (∀ m ∈ l, B m) → l.length = xs.length → Φ l) → (mulP xs ys i s).bd B Φ
 | [], _, s, Φ, _, _, hs, hl, h => h s hs hl
 | y :: ys, i, s, Φ, hi, hy, hs, hl, h => by
  rw [List.length_cons] at hi
  refine bd_bind _ _ (row_bd hB (by omega) hx (hy _ (.head _)) fun row hr hrl => bd_bind _ _ (sum_bd hB _ _ _ _ hB.off hs hr fun s' hs' hsl => ?_))
  exact mul_bd hx ys (i + 1) s' Φ (by omega) (fun z hz => hy z (.tail _ hz)) hs' (by rw [hsl (by omega), hl]) h
omit hB in
theorem getD_inP {xs : List Int} {k : Nat} (hx : ∀ x ∈ xs, B x) (hk : k < xs.length) : B (xs.getD k 0) := by
 rw [List.getD_eq_getElem?_getD, List.getElem?_eq_getElem hk]; exact hx _ (List.getElem_mem hk)
theorem div_bd {xs wide : List Int} (hx : ∀ x ∈ xs, B x) (hw : ∀ x ∈ wide, B x) (hwl : wide.length = xs.length + 1) : ∀ (k : Nat) (q r : List Int) (Φ : List Int × List Int → Prop), k ≤ xs.length → (∀ m ∈ q, B m) → (∀ m ∈ r, B m) → q.length = xs.length → r.length = xs.length → (∀ z, (∀ m ∈ z.1, B m) → (∀ m ∈ z.2, B m) → z.1.length = xs.length → z.2.length = xs.length → Φ z) → (divP xs wide k q r).bd B Φ
 | 0, q, r, Φ, _, hq, hr, hql, hrl, h => h (q, r) hq hr hql hrl
 | k + 1, q, r, Φ, hk, hq, hr, hql, hrl, h => by
  have ht : ∀ z ∈ xs.getD k 0 :: r, B z := fun z hz => by
   rcases List.mem_cons.1 hz with rfl | hz
   · exact getD_inP hx (by omega)
   · exact hr z hz
  have hn : ∀ z ∈ wide.map Neg.neg, B z := fun z hz => by
   obtain ⟨y, hy, rfl⟩ := List.mem_map.1 hz
   exact hB.neg _ (hw y hy)
  refine bd_bind _ _ (less_bd hB _ _ _ _ hB.off ht hw fun l hl => bd_bind _ _ (sum_bd hB _ _ _ _ hB.one ht hn fun u hu hul => bd_bind _ _ (each_bd (fun x y Ψ hx hy h => mux_bd hB hl hx hy h) _ _ _ (fun z hz => ht z (List.mem_of_mem_take hz)) (fun z hz => hu z (List.mem_of_mem_take hz)) fun r' hr' hrl' => ?_)))
  have hul' : u.length = xs.length + 1 := by rw [hul (by rw [List.length_cons, List.length_map, hwl, hrl]), List.length_cons, hrl]
  refine div_bd hx hw hwl k _ r' Φ (by omega) (fun z hz => ?_) hr' (by rw [List.length_set]; exact hql) ?_ h
  ·
   rcases List.mem_or_eq_of_mem_set hz with hz | hz
   · exact hq z hz
   · rw [hz]; exact hB.neg _ hl
  · rw [hrl' (by rw [List.length_take, List.length_take, List.length_cons, hul', hrl]), List.length_take, List.length_cons, hrl]; omega
theorem shift_bd {up : Bool} {fill : Int} (hf : B fill) : ∀ (cs : List Int) (i : Nat) (s : List Int) (n : Nat) (Φ : List Int → Prop), (∀ c ∈ cs, B c) → (∀ m ∈ s, B m) → s.length = n → (∀ l, (∀ m ∈ l, B m) → l.length = n → Φ l) → (shiftP up fill cs i s).bd B Φ
 | [], _, s, n, Φ, _, hs, hl, h => h s hs hl
 | c :: cs, i, s, n, Φ, hc, hs, hl, h => by
  have hfr : ∀ z ∈ fromL up s (2 ^ i) fill, B z := fun z hz => by
   unfold fromL at hz
   obtain ⟨k, hk, rfl⟩ := List.mem_map.1 hz
   rw [List.mem_range] at hk
   have hg : ∀ j, j < s.length → B (s.getD j 0) := fun j hj => getD_inP hs hj
   split
   ·
    split
    · exact hf
    · exact hg _ (Nat.lt_of_le_of_lt (Nat.sub_le _ _) hk)
   ·
    split
    · exact hg _ (by assumption)
    · exact hf
  refine bd_bind _ _ (each_bd (fun x y Ψ hx hy h => mux_bd hB (hc _ (.head _)) hx hy h) _ _ _ hfr hs fun s' hs' hsl => ?_)
  exact shift_bd hf cs (i + 1) s' n Φ (fun z hz => hc z (.tail _ hz)) hs' (by rw [hsl (fromL_len _ _ _ _), fromL_len, hl]) h
end
def binP (op : Int) (xs ys : List Int) : PG (List Int) :=
 if op = 3 then eachP (fun x y => .and x y .ret) xs ys
 else if op = 4 then eachP orP xs ys
 else if op = 5 then eachP (fun x y => .xor x y .ret) xs ys
 else if op = 6 then sumP xs ys (-1)
 else if op = 7 then sumP xs (ys.map Neg.neg) 1
 else if op = 8 then mulP xs ys 0 (List.replicate xs.length (-1))
 else if op = 9 then (divP xs (ys ++ [-1]) xs.length (List.replicate xs.length (-1)) (List.replicate xs.length (-1))).bind fun z => .ret z.1
 else if op = 10 then (divP xs (ys ++ [-1]) xs.length (List.replicate xs.length (-1)) (List.replicate xs.length (-1))).bind fun z => .ret z.2
 else if op = 11 then shiftP true (-1) ys 0 xs
 else if op = 12 then shiftP false (-1) ys 0 xs
 else if op = 13 then shiftP false (xs.getD (xs.length - 1) 0) ys 0 xs
 else .ret (ys ++ xs)
end Go.Proofs.YtjghcaghigebjaaGreatDoor
