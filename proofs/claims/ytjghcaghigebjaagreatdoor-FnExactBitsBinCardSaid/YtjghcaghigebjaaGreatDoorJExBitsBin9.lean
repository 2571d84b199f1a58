/- The program's BitsBin, whatever its operation makes. The reference's l7Un, BitsUn. A drawn region, each operation once: what is said of an operation's value may hold until a later operation alone. No program is named here. The reference's l7Bin. The reference's BitsUn. The reference's BitsBin. -/
import Derived.Test.YtjghcaghigebjaaGreatDoorJExBitsBin2
import Derived.Test.YtjghcaghigebjaaGreatDoorJExBitsBin3
import Derived.Test.YtjghcaghigebjaaGreatDoorJExBitsBin4
import Derived.Test.YtjghcaghigebjaaGreatDoorJExBitsBin5
import Derived.Test.YtjghcaghigebjaaGreatDoorJExBitsBin8
/-! The program's BitsBin, whatever its operation makes. -/
namespace Go.Proofs.YtjghcaghigebjaaGreatDoor
open Go Go.RowKit

def binZ (n : N) (xs ys : List Int) (Z : BS × List Int) : N × List Int := if (goodL n xs && goodL n ys) = true then bitsOut Z else (⟨0, []⟩, [])
/-- The operation's contract, the lists being right. -/
def BinC (op : Int) (n : N) (xs ys : List Int) (Z : BS × List Int) : Prop := ∀ (a0 a1 : Addr) (lo q r : Nat) (X Y : Option Addr) (cx cy : Nat) (w : World), Bd a0 a1 lo w q r ⟨n, none⟩ → Lay.int.Pl w X xs → Lay.int.Pl w Y ys →
  Calls Tryz.prog 47 #[.pointer (some ⟨q, 0, none⟩), .int .i64 op, .slice X xs.length cx, .slice Y ys.length cy] w (RetL a0 a1 lo w q r Z)
theorem bin_out {n : N} {xs ys : List Int} {Z : BS × List Int} {e2 : Option Nat} (h3 : e2 = failE none (!goodL n xs || !goodL n ys) 0) : binZ n xs ys Z = if e2 = none then bitsOut Z else (⟨0, []⟩, []) := by
  rw [h3]
  unfold binZ
  cases goodL n xs <;> cases goodL n ys <;> simp [failE]
set_option maxRecDepth 100000 in
set_option maxHeartbeats 4000000 in
theorem bitsBin1_any (a0 a1 : Addr) (lo q r ba bb bc : Nat) (n : N) (A B : Option Addr) (ca cb : Nat) (xs ys : List Int) (op : Int) (Z : BS × List Int) (w : World) (h : Bd a0 a1 lo w q r ⟨n, none⟩) (hbin : goodL n xs = true → goodL n ys = true → BinC op n xs ys Z) (hZ : Z.2.length ≤ 1000)
    (ha : w.heap[ba]? = some (.cells #[.slice A xs.length ca] 34 (0, 0))) (hb : w.heap[bb]? = some (.cells #[.slice B ys.length cb] 34 (0, 0))) (hc : w.heap[bc]? = some (.cells #[.int .i64 op] 3 (0, 0)))
    (hX : Lay.int.Sl w (fun b => b < lo) A xs) (hY : Lay.int.Sl w (fun b => b < lo) B ys) (hxi : i64s xs) (hyi : i64s ys) (hlxs : xs.length ≤ 1048576) (hlys : ys.length ≤ 1048576) :
    Calls Tryz.prog 45 #[.pointer (some ⟨q, 0, none⟩), .pointer (some ⟨ba, 0, none⟩), .pointer (some ⟨bb, 0, none⟩), .pointer (some ⟨bc, 0, none⟩)] w (RetBC a0 a1 lo w q r (binZ n xs ys Z)) := by
  have HA := Lib.hid ha
  have HB := Lib.hid hb
  have HCc := Lib.hid hc
  have Hxs := Lib.hid hX
  have Hys := Lib.hid hY
  have HIxs := Lib.hid hxi
  have HIys := Lib.hid hyi
  have HBD := Lib.hid h
  have HNB := Lib.hid h.nb
  have HBIN := Lib.hid hbin
  have HZL := Lib.hid hZ
  have hlo := h.size
  obtain ⟨e1, he1⟩ : ∃ e1, e1 = listE n none xs := ⟨_, rfl⟩
  obtain ⟨e2, he2⟩ : ∃ e2, e2 = listE n e1 ys := ⟨_, rfl⟩
  have HE1 := Lib.hid he1
  have HE2 := Lib.hid he2
  have h3 : e2 = failE none (!goodL n xs || !goodL n ys) 0 := by rw [he2, he1]; unfold listE; rw [failE_twice]
  have HOUT := Lib.hid (bin_out (Z := Z) h3)
  have HGOOD : Hid (e2 = none → goodL n xs = true ∧ goodL n ys = true) := Lib.hid (fun h0 => by
    rw [h3] at h0
    have := (failE_none h0).2
    revert this
    cases goodL n xs <;> cases goodL n ys <;> simp)
  clear he1 he2 h3 h ha hb hc hX hY hxi hyi hbin hZ
  go_enter Tryz.func45, Tryz.ntmps45
  go_wp2
  refine wp_region_rel4 [[], [], [(0, 8), (1, 9)], [], [], [(3, 11), (4, 12)], [(2, 10)], [(5, 13)]]
    (fun x9 y9 => Below x9.heap.size x9 y9)
    [(2, fun x9 y9 => BelB lo x9 y9), (5, fun x9 y9 => BelB lo x9 y9)]
    (fun f9 x9 => TwoI a0 a1 lo w q r n (stE (f9 5) e2 (stE (f9 2) e1 none)) x9)
    [fun vs9 _ => vs9 0 = (.pointer (some ⟨q, 0, none⟩)),
    fun vs9 _ => vs9 1 = (.slice A xs.length ca),
    fun vs9 y9 => (fun v z => ∃ A9 c9, v = .slice A9 xs.length c9 ∧ xs.length ≤ c9 ∧ Lay.int.Pl z A9 xs) (vs9 2) y9,
    fun vs9 _ => vs9 3 = (.pointer (some ⟨q, 0, none⟩)),
    fun vs9 _ => vs9 4 = (.slice B ys.length cb),
    fun vs9 y9 => (fun v z => ∃ A9 c9, v = .slice A9 ys.length c9 ∧ ys.length ≤ c9 ∧ Lay.int.Pl z A9 ys) (vs9 5) y9,
    fun vs9 _ => vs9 6 = vs9 2,
    fun vs9 _ => vs9 7 = vs9 5]
    [(0, 8), (1, 9), (2, 10), (3, 11), (4, 12), (5, 13), (6, 6), (7, 7)] (by kernel_rfl) (by kernel_rfl) (by kernel_rfl) (by kernel_rfl)
    (fun _ => Below.refl _ _) ⟨fun _ => BelB.refl _ _, fun _ => BelB.refl _ _, trivial⟩
    ⟨⟨.inr (fun _ _ _ h _ => h), ⟨.inr (.inr (fun _ _ _ h _ => h)), .inr (.inr (fun _ _ _ h _ => h)), trivial⟩⟩,
    ⟨.inr (fun _ _ _ h _ => h), ⟨.inr (.inr (fun _ _ _ h _ => h)), .inr (.inr (fun _ _ _ h _ => h)), trivial⟩⟩,
    ⟨.inr (fun vs9 x9 y9 h9 hR9 => (show ∀ v9 y8 y7, (fun v z => ∃ A9 c9, v = .slice A9 xs.length c9 ∧ xs.length ≤ c9 ∧ Lay.int.Pl z A9 xs) v9 y8 → (fun x9 y9 => Below x9.heap.size x9 y9) y8 y7 → (fun v z => ∃ A9 c9, v = .slice A9 xs.length c9 ∧ xs.length ≤ c9 ∧ Lay.int.Pl z A9 xs) v9 y7 from fun _ _ _ ⟨A9, c9, h1, h2, h3⟩ hR => ⟨A9, c9, h1, h2, h3.upP hR⟩) (vs9 2) x9 y9 h9 hR9), ⟨.inr (.inl rfl), .inr (.inr (fun vs9 x9 y9 h9 hR9 => (show ∀ v9 y8 y7, (fun v z => ∃ A9 c9, v = .slice A9 xs.length c9 ∧ xs.length ≤ c9 ∧ Lay.int.Pl z A9 xs) v9 y8 → (fun x9 y9 => BelB lo x9 y9) y8 y7 → (fun v z => ∃ A9 c9, v = .slice A9 xs.length c9 ∧ xs.length ≤ c9 ∧ Lay.int.Pl z A9 xs) v9 y7 from fun _ _ _ ⟨A9, c9, h1, h2, h3⟩ hR => ⟨A9, c9, h1, h2, h3.upB hR⟩) (vs9 2) x9 y9 h9 hR9)), trivial⟩⟩,
    ⟨.inr (fun _ _ _ h _ => h), ⟨.inr (.inr (fun _ _ _ h _ => h)), .inr (.inr (fun _ _ _ h _ => h)), trivial⟩⟩,
    ⟨.inr (fun _ _ _ h _ => h), ⟨.inr (.inr (fun _ _ _ h _ => h)), .inr (.inr (fun _ _ _ h _ => h)), trivial⟩⟩,
    ⟨.inr (fun vs9 x9 y9 h9 hR9 => (show ∀ v9 y8 y7, (fun v z => ∃ A9 c9, v = .slice A9 ys.length c9 ∧ ys.length ≤ c9 ∧ Lay.int.Pl z A9 ys) v9 y8 → (fun x9 y9 => Below x9.heap.size x9 y9) y8 y7 → (fun v z => ∃ A9 c9, v = .slice A9 ys.length c9 ∧ ys.length ≤ c9 ∧ Lay.int.Pl z A9 ys) v9 y7 from fun _ _ _ ⟨A9, c9, h1, h2, h3⟩ hR => ⟨A9, c9, h1, h2, h3.upP hR⟩) (vs9 5) x9 y9 h9 hR9), ⟨.inl (by kernel_rfl), .inr (.inl rfl), trivial⟩⟩,
    ⟨.inr (fun _ _ _ h _ => h), ⟨.inr (.inr (fun _ _ _ h _ => h)), .inr (.inr (fun _ _ _ h _ => h)), trivial⟩⟩,
    ⟨.inr (fun _ _ _ h _ => h), ⟨.inr (.inr (fun _ _ _ h _ => h)), .inr (.inr (fun _ _ _ h _ => h)), trivial⟩⟩, trivial⟩ ⟨fun vs vs' x h _ hv => (by dsimp only at hv ⊢; first | (rw [← h]; exact hv) | exact hv),
    fun vs vs' x h _ hv => (by dsimp only at hv ⊢; first | (rw [← h]; exact hv) | exact hv),
    fun vs vs' x h _ hv => (by dsimp only at hv ⊢; first | (rw [← h]; exact hv) | exact hv),
    fun vs vs' x h _ hv => (by dsimp only at hv ⊢; first | (rw [← h]; exact hv) | exact hv),
    fun vs vs' x h _ hv => (by dsimp only at hv ⊢; first | (rw [← h]; exact hv) | exact hv),
    fun vs vs' x h _ hv => (by dsimp only at hv ⊢; first | (rw [← h]; exact hv) | exact hv),
    fun vs vs' x h hd hv => (by have h2 := hd 2 (by decide); show vs' 6 = vs' 2; exact h.symm.trans (Eq.trans hv h2)),
    fun vs vs' x h hd hv => (by have h2 := hd 5 (by decide); show vs' 7 = vs' 5; exact h.symm.trans (Eq.trans hv h2)), trivial⟩ (⟨BelB.of (below_drewN (Below.refl _ _) 1) hlo, HBD.out.toBx.up (below_drewN (Below.refl _ _) 1), (HBD.out.circ rfl).up (below_drewN (Below.refl _ _) 1)⟩) ⟨?_, ?_, ?_, ?_, ?_, ?_, ?_, ?_, trivial⟩ ?_
  · intro vals xw f hf1 hf2 hf3 hI hF
    clear hf2 hf3
    dsimp only [owes4, bare]
    simp only [putsD, Act.put, List.setIfInBounds_toArray, List.set_cons_zero, List.set_cons_succ]
    go_wp2
    exact ⟨rfl, rfl, ⟨fun h9 => absurd h9 (Nat.ne_of_beq_eq_false rfl), fun _ => ⟨fun h9 => absurd h9 (Nat.ne_of_beq_eq_false rfl), fun _ => Below.refl _ _⟩⟩, hI⟩
  · intro vals xw f hf1 hf2 hf3 hI hF
    clear hf2 hf3
    dsimp only [owes4, bare]
    simp only [putsD, Act.put, List.setIfInBounds_toArray, List.set_cons_zero, List.set_cons_succ]
    have c9 := (cell_of_block (kd_of hI.1 HA.out (by decide) (by decide) (by decide)) 0).1
    go_wp2
    exact ⟨rfl, rfl, ⟨fun h9 => absurd h9 (Nat.ne_of_beq_eq_false rfl), fun _ => ⟨fun h9 => absurd h9 (Nat.ne_of_beq_eq_false rfl), fun _ => Below.refl _ _⟩⟩, hI⟩
  · intro vals xw f hf1 hf2 hf3 hI hF
    have k5 : f 5 = false := hf3 5 (by kernel_rfl)
    clear hf2 hf3
    simp only [saysD, List.getD_cons_zero, List.getD_cons_succ, and_true] at hF
    obtain ⟨e8, e9⟩ := hF
    dsimp only [owes4, bare]
    simp only [putsD, Act.put, List.setIfInBounds_toArray, List.set_cons_zero, List.set_cons_succ]
    simp only [e8, e9]
    have hI := hI
    rw [hf1, k5] at hI
    have HX9 := Lib.hid (Hxs.out.below hI.1.bel (fun _ h => h))
    have I1 := Lib.hid hI.1
    have HC9 := Lib.hid (list_any a0 a1 lo q r n none A ca xs xw hI.2.1 hI.2.2 HNB.out HX9.out HIxs.out hlxs)
    clear hI HX9
    go_wp2_with fail
    refine HC9.out.mono ?_
    rintro e wx ⟨A9, c9, rfl, h1, h2, h3, h4, h5⟩
    have H2 := Lib.hid h2
    have H3 := Lib.hid h3
    have H4 := Lib.hid h4
    have H5 := Lib.hid h5
    clear h2 h3 h4 h5 HC9
    go_wp2
    exact ⟨rfl, ⟨A9, c9, rfl, h1, H2.out⟩, ⟨fun _ => H3.out, fun h9 => absurd rfl h9⟩, show TwoI a0 a1 lo w q r n (stE (did f 2 5) e2 (stE (did f 2 2) e1 none)) wx from (by rw [did_same, did_ne (by decide), k5]; exact ⟨I1.out.trans H3.out, by rw [HE1.out]; exact H4.out, H5.out⟩)⟩
  · intro vals xw f hf1 hf2 hf3 hI hF
    clear hf2 hf3
    dsimp only [owes4, bare]
    simp only [putsD, Act.put, List.setIfInBounds_toArray, List.set_cons_zero, List.set_cons_succ]
    go_wp2
    exact ⟨rfl, rfl, ⟨fun h9 => absurd h9 (Nat.ne_of_beq_eq_false rfl), fun _ => ⟨fun h9 => absurd h9 (Nat.ne_of_beq_eq_false rfl), fun _ => Below.refl _ _⟩⟩, hI⟩
  · intro vals xw f hf1 hf2 hf3 hI hF
    clear hf2 hf3
    dsimp only [owes4, bare]
    simp only [putsD, Act.put, List.setIfInBounds_toArray, List.set_cons_zero, List.set_cons_succ]
    have c9 := (cell_of_block (kd_of hI.1 HB.out (by decide) (by decide) (by decide)) 0).1
    go_wp2
    exact ⟨rfl, rfl, ⟨fun h9 => absurd h9 (Nat.ne_of_beq_eq_false rfl), fun _ => ⟨fun h9 => absurd h9 (Nat.ne_of_beq_eq_false rfl), fun _ => Below.refl _ _⟩⟩, hI⟩
  · intro vals xw f hf1 hf2 hf3 hI hF
    have k2 : f 2 = true := hf2 2 (by kernel_rfl)
    clear hf2 hf3
    simp only [saysD, List.getD_cons_zero, List.getD_cons_succ, and_true] at hF
    obtain ⟨e11, e12⟩ := hF
    dsimp only [owes4, bare]
    simp only [putsD, Act.put, List.setIfInBounds_toArray, List.set_cons_zero, List.set_cons_succ]
    simp only [e11, e12]
    have hI := hI
    rw [hf1, k2] at hI
    have HX9 := Lib.hid (Hys.out.below hI.1.bel (fun _ h => h))
    have I1 := Lib.hid hI.1
    have HC9 := Lib.hid (list_any a0 a1 lo q r n e1 B cb ys xw hI.2.1 hI.2.2 HNB.out HX9.out HIys.out hlys)
    clear hI HX9
    go_wp2_with fail
    refine HC9.out.mono ?_
    rintro e wx ⟨A9, c9, rfl, h1, h2, h3, h4, h5⟩
    have H2 := Lib.hid h2
    have H3 := Lib.hid h3
    have H4 := Lib.hid h4
    have H5 := Lib.hid h5
    clear h2 h3 h4 h5 HC9
    go_wp2
    exact ⟨rfl, ⟨A9, c9, rfl, h1, H2.out⟩, ⟨fun h9 => absurd h9 (Nat.ne_of_beq_eq_false rfl), fun _ => ⟨fun _ => H3.out, fun h9 => absurd rfl h9⟩⟩, show TwoI a0 a1 lo w q r n (stE (did f 5 5) e2 (stE (did f 5 2) e1 none)) wx from (by rw [did_same]; exact ⟨I1.out.trans H3.out, by rw [HE2.out]; exact H4.out, H5.out⟩)⟩
  · intro vals xw f hf1 hf2 hf3 hI hF
    clear hf2 hf3
    simp only [saysD, List.getD_cons_zero, List.getD_cons_succ, and_true] at hF
    obtain ⟨B8, d8, e10, _⟩ := hF
    dsimp only [owes4, bare]
    simp only [putsD, Act.put, List.setIfInBounds_toArray, List.set_cons_zero, List.set_cons_succ]
    simp only [e10]
    go_wp2
    exact ⟨rfl, e10.symm, ⟨fun h9 => absurd h9 (Nat.ne_of_beq_eq_false rfl), fun _ => ⟨fun h9 => absurd h9 (Nat.ne_of_beq_eq_false rfl), fun _ => Below.refl _ _⟩⟩, hI⟩
  · intro vals xw f hf1 hf2 hf3 hI hF
    clear hf2 hf3
    simp only [saysD, List.getD_cons_zero, List.getD_cons_succ, and_true] at hF
    obtain ⟨B8, d8, e13, _⟩ := hF
    dsimp only [owes4, bare]
    simp only [putsD, Act.put, List.setIfInBounds_toArray, List.set_cons_zero, List.set_cons_succ]
    simp only [e13]
    go_wp2
    exact ⟨rfl, e13.symm, ⟨fun h9 => absurd h9 (Nat.ne_of_beq_eq_false rfl), fun _ => ⟨fun h9 => absurd h9 (Nat.ne_of_beq_eq_false rfl), fun _ => Below.refl _ _⟩⟩, hI⟩
  · intro vals xw f hall hI hF
    rw [show List.range _ = [0, 1, 2, 3, 4, 5, 6, 7] from rfl] at hF
    simp only [says, List.getD_cons_zero, List.getD_cons_succ, and_true] at hF
    have i9 : TwoI a0 a1 lo w q r n (stE (f 5) e2 (stE (f 2) e1 none)) xw := hI
    rw [hall 5 (by decide)] at i9
    obtain ⟨_, _, ⟨A7, c7, e7, hc7, hp7⟩, _, _, ⟨B7, d7, e8, hd7, hq7⟩, e5, e6⟩ := hF
    rw [e7] at e5
    rw [e8] at e6
    simp only [putsD, Act.put, List.setIfInBounds_toArray, List.set_cons_zero, List.set_cons_succ]
    simp only [e5, e6]
    have I1 := Lib.hid i9.1
    have I2 := Lib.hid (show Bx a0 a1 lo xw q r e2 from i9.2.1)
    have I3 := Lib.hid i9.2.2
    have HP7 := Lib.hid hp7
    have HQ7 := Lib.hid hq7
    clear i9 hI e5 e6 e7 e8 hp7 hq7
    have y1 := (cell_of_block I2.out.box 1).1
    rcases e2 with _ | e2
    · simp only [errV] at y1
      obtain ⟨g1, g2⟩ := HGOOD.out rfl
      have y3 := (cell_of_block (kd_of I1.out HCc.out (by decide) (by decide) (by decide)) 0).1
      have HCH := Lib.hid (HBIN.out g1 g2 a0 a1 lo q r A7 B7 c7 d7 xw ⟨I2.out, HNB.out, fun _ => I3.out⟩ HP7.out HQ7.out)
      clear g1 g2
      go_wp2_with fail
      refine HCH.out.mono ?_
      rintro e w9 ⟨A8, c8, rfl, k1, k2, k3, k4, k5⟩
      have K2 := Lib.hid k2
      have K4 := Lib.hid (I1.out.trans k4)
      have K5 := Lib.hid k5
      clear k2 k3 k4 k5 HCH y1 y3
      go_wp2
      go_ret
      exact ⟨Z, A8, c8, rfl, HZL.out, K2.out, K4.out, K5.out, by rw [HOUT.out]; exact (if_pos trivial).symm⟩
    · obtain ⟨a, ha⟩ : ∃ a, errV a0 a1 (some e2) = sentV a := by rcases e2 with _ | e2 <;> exact ⟨_, rfl⟩
      simp only [ha] at y1
      clear ha
      go_wp2
      go_ret
      exact ⟨(⟨n, some e2⟩, []), none, 0, rfl, Nat.zero_le _, .nil _ _ _ _, I1.out, ⟨I2.out, HNB.out, fun h => by cases h⟩, by rw [HOUT.out, if_neg (by simp)]; rfl⟩
set_option maxRecDepth 100000 in
set_option maxHeartbeats 4000000 in
theorem built_bin (a0 a1 : Addr) (l0 : Nat) (ba bb bc : Nat) (A : Option Addr) (c : Nat) (n : N) (w : World) (out : N × List Int) (K : World → Prop) (hg : Glb a0 a1 l0 w) (hl0 : l0 ≤ w.heap.size) (hK : ∀ x, Below w.heap.size w x → K x) (h : Lay.gate.Rd w A n.gs) (hn : n.gs.length ≤ 1048576) (hA : A = none → n.gs.length = 0) (hi : okInts n)
    (hcall : ∀ (lo q r : Nat) (z : World), Bd a0 a1 lo z q r ⟨n, none⟩ → netOk n = true → K z → w.heap.size ≤ lo → Calls Tryz.prog 45 #[.pointer (some ⟨q, 0, none⟩), .pointer (some ⟨ba, 0, none⟩), .pointer (some ⟨bb, 0, none⟩), .pointer (some ⟨bc, 0, none⟩)] z (RetBC a0 a1 lo z q r out)) :
    Calls Tryz.prog 44 #[.agg #[.int .i64 n.ins, .slice A n.gs.length c], .func (.func 45) #[] #[.pointer (some ⟨ba, 0, none⟩), .pointer (some ⟨bb, 0, none⟩), .pointer (some ⟨bc, 0, none⟩)]] w (RetBits (pickN (netOk n) out) w) := by
  obtain ⟨hW, hB0, hB1, hWS⟩ := two_boxes w (.cells #[.int .i64 n.ins, .slice A n.gs.length c] 29) (.cells #[.int .i64 0, .slice none 0 0] 29)
  have HW := Lib.hid hW
  have HB1 := Lib.hid hB1
  have HG := Lib.hid hg
  have HK := Lib.hid hK
  have HCALL := Lib.hid hcall
  have HRN := Lib.hid (readNet_any A c n _ (h.up hW) hn hA hi)
  have HWS := Lib.hid hWS
  clear hg hK hcall h hi hB0 hB1 hWS hW
  go_enter Tryz.func44, Tryz.ntmps44
  go_wp2_with fail
  refine HRN.out.mono ?_
  generalize (w.alloc (.cells #[.int .i64 n.ins, .slice A n.gs.length c] 29)).alloc (.cells #[.int .i64 0, .slice none 0 0] 29) = w2 at *
  rintro e w3 ⟨hb3, hcase⟩
  have HB1 := Lib.hid ((hb3.block _ (lt_of_block HB1.out)).trans HB1.out)
  have HB3 := Lib.hid hb3
  clear hb3 HRN
  rcases hcase with ⟨hok, r, rfl, hC⟩ | ⟨hok, rfl⟩
  rotate_left
  · have k5 := (cell_of_block HB1.out 0).1
    have k6 := (cell_of_block HB1.out 1).1
    have kf5 := (cell_of_block HB1.out 0).2
    have kf6 := (cell_of_block HB1.out 1).2
    have HOK := Lib.hid hok
    clear hok
    go_wp2
    refine bodyPost_ret (v := .tuple #[.agg #[.int .i64 0, .slice none 0 0], .slice none 0 0]) (by simp [results, Tryz.results44, go_sem, k5, k6, kf5, kf6]) rfl ?_
    rw [show pickN (netOk n) out = (⟨0, []⟩, []) by rw [HOK.out]; rfl]
    refine ⟨none, none, 0, 0, rfl, Nat.zero_le _, Nat.zero_le _, .nil _ _ _ _, .nil _ _ _ _, ?_, apart_nil rfl⟩
    repeat (refine below_set ?_ (by show w.heap.size ≤ w.heap.size + 1; omega) _)
    exact bthen HW.out HB3.out
  have HOK := Lib.hid hok
  have hnb : NB n := by have := (netOk_iff n).1 hok; exact ⟨this.1, this.2.1, this.2.2.1⟩
  have HNB := Lib.hid hnb
  have HC := Lib.hid hC
  clear hok hnb hC
  have hal : Below w3.heap.size w3 (w3.alloc (.cells #[.pointer (some ⟨r, 0, none⟩), .nilIface] 83)) := (Below.refl _ _).alloc (Nat.le_refl _) _
  have hlo2 : l0 ≤ w2.heap.size := Nat.le_trans hl0 HW.out.size
  have hbd : Bd a0 a1 w2.heap.size (w3.alloc (.cells #[.pointer (some ⟨r, 0, none⟩), .nilIface] 83)) w3.heap.size r ⟨n, none⟩ :=
    ⟨⟨(HG.out.mono hl0).below (bthen HW.out (HB3.out.trans (hal.mono HB3.out.size))) |>.mono HW.out.size, heap_alloc_new _ _, HB3.out.size⟩, HNB.out, fun _ => HC.out.up hal⟩
  have HAL := Lib.hid hal
  have HC4 := Lib.hid (HCALL.out w2.heap.size w3.heap.size r _ hbd HOK.out (HK.out _ (bthen HW.out (HB3.out.trans (hal.mono HB3.out.size)))) HW.out.size)
  clear hal hbd HCALL HK
  go_wp2_with fail
  refine HC4.out.mono ?_
  rintro e w5 ⟨T, A5, c5, rfl, hl5, hp5, hb5, hd5, hT5⟩
  have HB5 : Hid (Below w2.heap.size w2 w5) := Lib.hid (HB3.out.trans ((HAL.out.mono HB3.out.size).trans hb5.bel))
  have HB1 : Hid (w5.heap[w.heap.size + 1]? = some (.cells #[.int .i64 0, .slice none 0 0] 29 (0, 0))) := Lib.hid (by
    have h9 : w.heap.size + 1 < w2.heap.size := by rw [HWS.out]; omega
    exact (hb5.bel.block _ h9).trans ((HAL.out.block _ (Nat.lt_of_lt_of_le h9 HB3.out.size)).trans HB1.out))
  have HP5 := Lib.hid hp5
  have HD5 := Lib.hid hd5
  have HT5 := Lib.hid hT5
  clear hp5 hd5 hT5 HC4 hb5 HAL HC HNB HB3
  have k5 := (cell_of_block HB1.out 0).1
  have k6 := (cell_of_block HB1.out 1).1
  have kf5 := (cell_of_block HB1.out 0).2
  have kf6 := (cell_of_block HB1.out 1).2
  have c0 := HD5.out.g.c0
  have c1 := HD5.out.g.c1
  have q0 := (cell_of_block HD5.out.box 0).1
  have q1 := (cell_of_block HD5.out.box 1).1
  have HGL := Lib.hid HD5.out.g
  obtain ⟨⟨n5, e5⟩, l5⟩ := T
  dsimp only at q1 hl5
  have hfin : ∀ X : World, Below w2.heap.size w2 X → Below w.heap.size w X := fun X hX => bthen HW.out hX
  have HFIN := Lib.hid hfin
  clear hfin
  rcases e5 with _ | e5
  · simp only [errV] at q1
    have hC5 := HD5.out.circ rfl
    obtain ⟨A6, c6, r0, r1, ho6⟩ := circ_cells hC5
    have HO6 := Lib.hid ho6
    have HN : Hid (∀ (b : Addr) (m : Nat), Calls Tryz.prog 87 #[.nilIface, sentV b] (w5.drewN m) fun e w' => e = .returned (.bool false) ∧ w5.drewN m = w') := Lib.hid fun b m => is_nil b _
    have HS5 := Lib.hid hC5.lt
    clear hC5 ho6
    go_wp2
    go_quiet ((go_at_call 87; with_reducible exact quiet_left (HN.out _ _)))
    go_wp2
    clear HN
    have HLT : Hid (w.heap.size + 1 < w2.heap.size) := Lib.hid (by rw [HWS.out]; omega)
    have HQ : Hid (∀ x : World, w5.grownBy x (some (w.heap.size + 1)) → x.cell? ⟨w3.heap.size, 0, none⟩ = some (.pointer (some ⟨r, 0, none⟩)) ∧ x.cell? ⟨r, 0, none⟩ = some (.int .i64 n5.ins) ∧ x.cell? ⟨r, 1, none⟩ = some (.slice A6 n5.gs.length c6)) := Lib.hid fun x hx => by
      have hq := (hx.block _ (lt_of_block HD5.out.box) (fun e => by injection e with e; have := HD5.out.low; have := HLT.out; omega)).trans HD5.out.box
      have hr := hx.block r HS5.out.2 (fun e => by injection e with e; have := HS5.out.1; have := HLT.out; omega)
      exact ⟨(cell_of_block hq 0).1, (World.cell?_of_block (w := w5) (a := ⟨r, 0, none⟩) hr).trans r0, (World.cell?_of_block (w := w5) (a := ⟨r, 1, none⟩) hr).trans r1⟩
    have HL5 : Hid (∀ x : World, w5.grownBy x (some (w.heap.size + 1)) → Lay.int.Rd x A5 l5) := Lib.hid fun x hx => by
      refine (HP5.out.keep fun b hb => hx.block b hb.lt fun e => ?_).mono fun b hb => Nat.lt_of_lt_of_le hb.lt hx.size
      injection e with e
      subst e
      obtain ⟨cs, fr, h9⟩ := hb
      rw [HB1.out] at h9
      injection h9 with h9
      injection h9 with _ h9 _
      exact absurd h9 (by decide)
    refine wp_region_rel4 [[], [(0, 39)], [(1, 40)], [(2, 41)], [(3, 42)], [(4, 43)], [(5, 44)], [], [(7, 46)], [(6, 45)], [(8, 47)]]
      (fun x9 y9 => Below x9.heap.size x9 y9)
      [(9, fun x9 y9 => x9.grownBy y9 (some (w.heap.size + 1)))]
      (fun f9 x9 => BuiltI w5 (w.heap.size + 1) (.agg #[.int .i64 n5.ins, .slice A6 n5.gs.length c6]) #[.int .i64 n5.ins, .slice A6 n5.gs.length c6] (f9 9) x9)
      [fun vs9 _ => vs9 0 = (.pointer (some ⟨w3.heap.size, 0, none⟩)),
    fun vs9 _ => vs9 1 = (.pointer (some ⟨w3.heap.size, 0, none⟩)),
    fun vs9 _ => vs9 2 = (.pointer (some ⟨w3.heap.size, 0, none⟩)),
    fun vs9 _ => vs9 3 = (.pointer (some ⟨r, 0, none⟩)),
    fun vs9 _ => vs9 4 = (.pointer (some ⟨r, 0, none⟩)),
    fun vs9 _ => vs9 5 = (.pointer (some ⟨r, 0, none⟩)),
    fun vs9 _ => vs9 6 = (.agg #[.int .i64 n5.ins, .slice A6 n5.gs.length c6]),
    fun vs9 _ => vs9 7 = (.slice A5 l5.length c5),
    fun vs9 y9 => (fun v z => ∃ B d, v = .slice B l5.length d ∧ l5.length ≤ d ∧ Lay.int.Sl z (Own w5.heap.size z) B l5) (vs9 8) y9,
    fun _ _ => True,
    fun vs9 _ => vs9 10 = vs9 8]
      [(0, 39), (1, 40), (2, 41), (3, 42), (4, 43), (5, 44), (6, 45), (7, 46), (8, 47), (10, 5)] (by kernel_rfl) (by kernel_rfl) (by kernel_rfl) (by kernel_rfl)
      (fun _ => Below.refl _ _) ⟨fun _ => World.grownBy.refl _ _, trivial⟩
      ⟨⟨.inr (fun _ _ _ h _ => h), ⟨.inr (.inr (fun _ _ _ h _ => h)), trivial⟩⟩,
    ⟨.inr (fun _ _ _ h _ => h), ⟨.inr (.inr (fun _ _ _ h _ => h)), trivial⟩⟩,
    ⟨.inr (fun _ _ _ h _ => h), ⟨.inr (.inr (fun _ _ _ h _ => h)), trivial⟩⟩,
    ⟨.inr (fun _ _ _ h _ => h), ⟨.inr (.inr (fun _ _ _ h _ => h)), trivial⟩⟩,
    ⟨.inr (fun _ _ _ h _ => h), ⟨.inr (.inr (fun _ _ _ h _ => h)), trivial⟩⟩,
    ⟨.inr (fun _ _ _ h _ => h), ⟨.inr (.inr (fun _ _ _ h _ => h)), trivial⟩⟩,
    ⟨.inr (fun _ _ _ h _ => h), ⟨.inr (.inr (fun _ _ _ h _ => h)), trivial⟩⟩,
    ⟨.inr (fun _ _ _ h _ => h), ⟨.inr (.inr (fun _ _ _ h _ => h)), trivial⟩⟩,
    ⟨.inr (fun vs9 x9 y9 h9 hR9 => (show ∀ v9 y8 y7, (fun v z => ∃ B d, v = .slice B l5.length d ∧ l5.length ≤ d ∧ Lay.int.Sl z (Own w5.heap.size z) B l5) v9 y8 → (fun x9 y9 => Below x9.heap.size x9 y9) y8 y7 → (fun v z => ∃ B d, v = .slice B l5.length d ∧ l5.length ≤ d ∧ Lay.int.Sl z (Own w5.heap.size z) B l5) v9 y7 from fun _ _ _ ⟨B, d, h1, h2, h3⟩ hR => ⟨B, d, h1, h2, h3.own_up hR⟩) (vs9 8) x9 y9 h9 hR9), ⟨.inr (.inr (fun vs9 x9 y9 h9 hR9 => (show ∀ v9 y8 y7, (fun v z => ∃ B d, v = .slice B l5.length d ∧ l5.length ≤ d ∧ Lay.int.Sl z (Own w5.heap.size z) B l5) v9 y8 → (fun x9 y9 => x9.grownBy y9 (some (w.heap.size + 1))) y8 y7 → (fun v z => ∃ B d, v = .slice B l5.length d ∧ l5.length ≤ d ∧ Lay.int.Sl z (Own w5.heap.size z) B l5) v9 y7 from fun _ _ _ ⟨B, d, h1, h2, h3⟩ hR => ⟨B, d, h1, h2, own_grown9 h3 hR (Nat.lt_of_lt_of_le HLT.out HB5.out.size)⟩) (vs9 8) x9 y9 h9 hR9)), trivial⟩⟩,
    ⟨.inr (fun _ _ _ h _ => h), ⟨.inr (.inl rfl), trivial⟩⟩,
    ⟨.inr (fun _ _ _ h _ => h), ⟨.inr (.inr (fun _ _ _ h _ => h)), trivial⟩⟩, trivial⟩ ⟨fun vs vs' x h _ hv => (by dsimp only at hv ⊢; first | (rw [← h]; exact hv) | exact hv),
    fun vs vs' x h _ hv => (by dsimp only at hv ⊢; first | (rw [← h]; exact hv) | exact hv),
    fun vs vs' x h _ hv => (by dsimp only at hv ⊢; first | (rw [← h]; exact hv) | exact hv),
    fun vs vs' x h _ hv => (by dsimp only at hv ⊢; first | (rw [← h]; exact hv) | exact hv),
    fun vs vs' x h _ hv => (by dsimp only at hv ⊢; first | (rw [← h]; exact hv) | exact hv),
    fun vs vs' x h _ hv => (by dsimp only at hv ⊢; first | (rw [← h]; exact hv) | exact hv),
    fun vs vs' x h _ hv => (by dsimp only at hv ⊢; first | (rw [← h]; exact hv) | exact hv),
    fun vs vs' x h _ hv => (by dsimp only at hv ⊢; first | (rw [← h]; exact hv) | exact hv),
    fun vs vs' x h _ hv => (by dsimp only at hv ⊢; first | (rw [← h]; exact hv) | exact hv),
    fun _ _ _ _ _ _ => trivial,
    fun vs vs' x h hd hv => (by have h2 := hd 8 (by decide); show vs' 10 = vs' 8; exact h.symm.trans (Eq.trans hv h2)), trivial⟩ (⟨grown_of9 (below_drewN (below_drewN (Below.refl _ _) nq) 1) _, fun _ => HB1.out, fun h => by cases h⟩) ⟨?_, ?_, ?_, ?_, ?_, ?_, ?_, ?_, ?_, ?_, ?_, trivial⟩ ?_
    · intro vals xw f hf1 hf2 hf3 hI hF
      clear hf2 hf3
      dsimp only [owes4, bare]
      simp only [putsD, Act.put, List.setIfInBounds_toArray, List.set_cons_zero, List.set_cons_succ]
      go_wp2
      exact ⟨rfl, rfl, ⟨fun h9 => absurd h9 (Nat.ne_of_beq_eq_false rfl), fun _ => Below.refl _ _⟩, hI⟩
    · intro vals xw f hf1 hf2 hf3 hI hF
      clear hf2 hf3
      simp only [saysD, List.getD_cons_zero, List.getD_cons_succ, and_true] at hF
      have e39 := hF
      dsimp only [owes4, bare]
      simp only [putsD, Act.put, List.setIfInBounds_toArray, List.set_cons_zero, List.set_cons_succ]
      simp only [e39]
      go_wp2
      exact ⟨rfl, rfl, ⟨fun h9 => absurd h9 (Nat.ne_of_beq_eq_false rfl), fun _ => Below.refl _ _⟩, hI⟩
    · intro vals xw f hf1 hf2 hf3 hI hF
      clear hf2 hf3
      simp only [saysD, List.getD_cons_zero, List.getD_cons_succ, and_true] at hF
      have e40 := hF
      dsimp only [owes4, bare]
      simp only [putsD, Act.put, List.setIfInBounds_toArray, List.set_cons_zero, List.set_cons_succ]
      simp only [e40]
      go_wp2
      exact ⟨rfl, rfl, ⟨fun h9 => absurd h9 (Nat.ne_of_beq_eq_false rfl), fun _ => Below.refl _ _⟩, hI⟩
    · intro vals xw f hf1 hf2 hf3 hI hF
      clear hf2 hf3
      simp only [saysD, List.getD_cons_zero, List.getD_cons_succ, and_true] at hF
      have e41 := hF
      have c9 := (HQ.out xw hI.1).1
      dsimp only [owes4, bare]
      simp only [putsD, Act.put, List.setIfInBounds_toArray, List.set_cons_zero, List.set_cons_succ]
      simp only [e41]
      go_wp2
      exact ⟨rfl, rfl, ⟨fun h9 => absurd h9 (Nat.ne_of_beq_eq_false rfl), fun _ => Below.refl _ _⟩, hI⟩
    · intro vals xw f hf1 hf2 hf3 hI hF
      clear hf2 hf3
      simp only [saysD, List.getD_cons_zero, List.getD_cons_succ, and_true] at hF
      have e42 := hF
      dsimp only [owes4, bare]
      simp only [putsD, Act.put, List.setIfInBounds_toArray, List.set_cons_zero, List.set_cons_succ]
      simp only [e42]
      go_wp2
      exact ⟨rfl, rfl, ⟨fun h9 => absurd h9 (Nat.ne_of_beq_eq_false rfl), fun _ => Below.refl _ _⟩, hI⟩
    · intro vals xw f hf1 hf2 hf3 hI hF
      clear hf2 hf3
      simp only [saysD, List.getD_cons_zero, List.getD_cons_succ, and_true] at hF
      have e43 := hF
      dsimp only [owes4, bare]
      simp only [putsD, Act.put, List.setIfInBounds_toArray, List.set_cons_zero, List.set_cons_succ]
      simp only [e43]
      go_wp2
      exact ⟨rfl, rfl, ⟨fun h9 => absurd h9 (Nat.ne_of_beq_eq_false rfl), fun _ => Below.refl _ _⟩, hI⟩
    · intro vals xw f hf1 hf2 hf3 hI hF
      clear hf2 hf3
      simp only [saysD, List.getD_cons_zero, List.getD_cons_succ, and_true] at hF
      have e44 := hF
      have c9 := (HQ.out xw hI.1).2.1
      have c8 := (HQ.out xw hI.1).2.2
      dsimp only [owes4, bare]
      simp only [putsD, Act.put, List.setIfInBounds_toArray, List.set_cons_zero, List.set_cons_succ]
      simp only [e44]
      go_wp2
      exact ⟨rfl, rfl, ⟨fun h9 => absurd h9 (Nat.ne_of_beq_eq_false rfl), fun _ => Below.refl _ _⟩, hI⟩
    · intro vals xw f hf1 hf2 hf3 hI hF
      clear hf2 hf3
      dsimp only [owes4, bare]
      simp only [putsD, Act.put, List.setIfInBounds_toArray, List.set_cons_zero, List.set_cons_succ]
      go_wp2
      exact ⟨rfl, rfl, ⟨fun h9 => absurd h9 (Nat.ne_of_beq_eq_false rfl), fun _ => Below.refl _ _⟩, hI⟩
    · intro vals xw f hf1 hf2 hf3 hI hF
      clear hf2 hf3
      simp only [saysD, List.getD_cons_zero, List.getD_cons_succ, and_true] at hF
      have e46 := hF
      dsimp only [owes4, bare]
      simp only [putsD, Act.put, List.setIfInBounds_toArray, List.set_cons_zero, List.set_cons_succ]
      simp only [e46]
      have HI := Lib.hid hI
      have hsz9 : w5.heap.size ≤ xw.heap.size := hI.1.size
      have HRD := Lib.hid (HL5.out xw hI.1)
      clear hI
      go_wp2_with fail
      refine (numbers_any A5 c5 l5 xw HRD.out (by omega)).mono ?_
      rintro e wx ⟨B, d, rfl, h1, h2, h3⟩
      have H3 := Lib.hid h3
      have H2 := Lib.hid (own_mono9 h2 hsz9)
      clear h2 h3
      go_wp2
      exact ⟨rfl, ⟨B, d, rfl, h1, H2.out⟩, ⟨fun h9 => absurd h9 (Nat.ne_of_beq_eq_false rfl), fun _ => H3.out⟩, HI.out.up H3.out⟩
    · intro vals xw f hf1 hf2 hf3 hI hF
      clear hf2 hf3
      simp only [saysD, List.getD_cons_zero, List.getD_cons_succ, and_true] at hF
      have e45 := hF
      dsimp only [owes4, bare]
      simp only [putsD, Act.put, List.setIfInBounds_toArray, List.set_cons_zero, List.set_cons_succ]
      simp only [e45]
      have hbx := hI.2.1 hf1
      have j6 := (cell_of_block hbx 0).1
      have j7 := (cell_of_block hbx 1).1
      have f6 := (cell_of_block hbx 0).2
      have f7 := (cell_of_block hbx 1).2
      have HG1 := Lib.hid hI.1
      have HBX := Lib.hid hbx
      clear hI hbx
      go_wp2
      have h1 := heap_set_same xw (w.heap.size + 1) 0 (.int .i64 n5.ins) _ _ HBX.out
      have h2 := heap_set_same _ (w.heap.size + 1) 1 (.slice A6 n5.gs.length c6) _ _ h1
      have h3 : xw.grownBy ((xw.setCell ⟨w.heap.size + 1, 0, none⟩ (.int .i64 n5.ins)).setCell ⟨w.heap.size + 1, 1, none⟩ (.slice A6 n5.gs.length c6)) (some (w.heap.size + 1)) := only_setCell (only_setCell (World.grownBy.refl _ _) _ _) _ _
      exact ⟨rfl, trivial, ⟨fun _ => h3, fun h9 => absurd rfl h9⟩, grown_trans9 HG1.out h3, fun h => absurd ((did_same f 9).symm.trans h) (by simp), fun _ => h2⟩
    · intro vals xw f hf1 hf2 hf3 hI hF
      clear hf2 hf3
      simp only [saysD, List.getD_cons_zero, List.getD_cons_succ, and_true] at hF
      obtain ⟨B8, d8, e47, _⟩ := hF
      dsimp only [owes4, bare]
      simp only [putsD, Act.put, List.setIfInBounds_toArray, List.set_cons_zero, List.set_cons_succ]
      simp only [e47]
      go_wp2
      exact ⟨rfl, e47.symm, ⟨fun h9 => absurd h9 (Nat.ne_of_beq_eq_false rfl), fun _ => Below.refl _ _⟩, hI⟩
    · intro vals xw f hall hI hF
      rw [show List.range _ = [0, 1, 2, 3, 4, 5, 6, 7, 8, 9, 10] from rfl] at hF
      simp only [says, List.getD_cons_zero, List.getD_cons_succ, and_true] at hF
      obtain ⟨_, _, _, _, _, _, _, _, ⟨B8, d8, e47, hd8, hs8⟩, e5⟩ := hF
      rw [e47] at e5
      have hbx := hI.2.2 (hall 9 (by decide))
      have k5 := (cell_of_block hbx 0).1
      have k6 := (cell_of_block hbx 1).1
      have kf5 := (cell_of_block hbx 0).2
      have kf6 := (cell_of_block hbx 1).2
      have HG1 := Lib.hid hI.1
      have HS8 := Lib.hid hs8
      have HD8 := Lib.hid hd8
      clear hI hbx hs8 hd8
      simp only [putsD, Act.put, List.setIfInBounds_toArray, List.set_cons_zero, List.set_cons_succ]
      simp only [e5]
      clear e5 e47
      go_wp2
      refine bodyPost_ret (v := .tuple #[.agg #[.int .i64 n5.ins, .slice A6 n5.gs.length c6], .slice B8 l5.length d8]) (by simp [results, Tryz.results44, go_sem, k5, k6, kf5, kf6]) rfl ?_
      rw [show pickN (netOk n) out = out by rw [HOK.out]; rfl, ← HT5.out]
      show RetBits (n5, l5) w _ _
      exact ⟨A6, B8, c6, d8, rfl, HO6.out.sl.1, HD8.out, own_mono9 (own_grown9 HO6.out.own HG1.out HLT.out) HW.out.size, own_mono9 HS8.out (Nat.le_trans HW.out.size HB5.out.size), (HFIN.out _ HB5.out).grown HG1.out (bthen HW.out HB5.out).size (fun k hk => by injection hk with hk; omega), apart_of HO6.out.own HS8.out (fun b h1 h2 => by have := h1.2.1; have := h2.1; omega)⟩
  · obtain ⟨a, ha⟩ : ∃ a, errV a0 a1 (some e5) = sentV a := by rcases e5 with _ | e5 <;> exact ⟨_, rfl⟩
    simp only [ha] at q1
    have hcase : (a = a0 ∧ True) ∨ a = a1 := by
      rcases e5 with _ | e5
      · injection ha with _ ha; injection ha with ha; injection ha with ha; exact .inl ⟨ha.symm, trivial⟩
      · injection ha with _ ha; injection ha with ha; injection ha with ha; exact .inr ha.symm
    clear ha
    have HT6 : Hid (out = (⟨0, []⟩, [])) := Lib.hid (by rw [← HT5.out]; exact if_neg (by simp))
    have HSM : Hid (∀ (b : Addr) (m : Nat), Calls Tryz.prog 87 #[sentV b, sentV b] (w5.drewN m) fun e w' => e = .returned (.bool true) ∧ w5.drewN m = w') := Lib.hid fun b m => is_same b _
    have HOT : Hid (∀ (m : Nat), Calls Tryz.prog 87 #[sentV a0, sentV a1] (w5.drewN m) fun e w' => e = .returned (.bool false) ∧ w5.drewN m = w') := Lib.hid fun m => by
      obtain ⟨ca, ta, h0⟩ := HGL.out.b0
      obtain ⟨cb, tb, h1⟩ := HGL.out.b1
      exact is_other a0 a1 ca cb ta tb _ HGL.out.ne h0 h1
    rcases hcase with ⟨rfl, _⟩ | rfl
    · go_wp2
      go_quiet ((go_at_call 87; first | with_reducible exact quiet_left (HOT.out _) | with_reducible exact quiet_left (HSM.out _ _)))
      clear HSM HOT
      go_wp2
      refine bodyPost_ret (v := .tuple #[.agg #[.int .i64 0, .slice none 0 0], .slice none 0 0]) (by simp [results, Tryz.results44, go_sem, k5, k6, kf5, kf6]) rfl ?_
      rw [show pickN (netOk n) out = out by rw [HOK.out]; rfl, HT6.out]
      refine ⟨none, none, 0, 0, rfl, Nat.zero_le _, Nat.zero_le _, .nil _ _ _ _, .nil _ _ _ _, ?_, apart_nil rfl⟩
      repeat (refine below_set ?_ (by show w.heap.size ≤ w.heap.size + 1; omega) _)
      exact below_drewN (HFIN.out _ HB5.out) _
    · go_wp2
      go_quiet ((go_at_call 87; first | with_reducible exact quiet_left (HSM.out _ _) | with_reducible exact quiet_left (HOT.out _)))
      clear HSM HOT
      go_wp2
      refine bodyPost_ret (v := .tuple #[.agg #[.int .i64 0, .slice none 0 0], .slice none 0 0]) (by simp [results, Tryz.results44, go_sem, k5, k6, kf5, kf6]) rfl ?_
      rw [show pickN (netOk n) out = out by rw [HOK.out]; rfl, HT6.out]
      refine ⟨none, none, 0, 0, rfl, Nat.zero_le _, Nat.zero_le _, .nil _ _ _ _, .nil _ _ _ _, ?_, apart_nil rfl⟩
      repeat (refine below_set ?_ (by show w.heap.size ≤ w.heap.size + 1; omega) _)
      exact below_drewN (HFIN.out _ HB5.out) _

set_option maxRecDepth 100000 in
set_option maxHeartbeats 4000000 in
theorem implBitsBin_any (a0 a1 : Addr) (l0 : Nat) (n : N) (c0 : Int) (xs ys : List Int) (A X Y : Option Addr) (c cx cy : Nat) (w : World) (hg : Glb a0 a1 l0 w) (hl0 : l0 ≤ w.heap.size) (h : Lay.gate.Rd w A n.gs) (hn : n.gs.length ≤ 1048576) (hA : A = none → n.gs.length = 0) (hi : okInts n)
    (hX : Lay.int.Rd w X xs) (hY : Lay.int.Rd w Y ys) (hxi : i64s xs) (hyi : i64s ys) (Z : BS × List Int) (hbin : netOk n = true → goodL n xs = true → goodL n ys = true → BinC c0 n xs ys Z) (hZ : Z.2.length ≤ 1000) (hlx : xs.length ≤ 1048576) (hly : ys.length ≤ 1048576) :
    Calls Tryz.prog 12 #[.agg #[.int .i64 n.ins, .slice A n.gs.length c], .int .i64 c0, .slice X xs.length cx, .slice Y ys.length cy] w (RetBits (pickN (netOk n) (binZ n xs ys Z)) w) := by
  obtain ⟨hW, hB0, hB1, hB2, hB3, hB4, hWS⟩ := five_boxes w (.cells #[.int .i64 n.ins, .slice A n.gs.length c] 29) (.cells #[.int .i64 c0] 3) (.cells #[.slice X xs.length cx] 34) (.cells #[.slice Y ys.length cy] 34) (.cells #[.int .i64 0, .slice none 0 0] 29)
  have HW := Lib.hid hW
  have HB0 := Lib.hid hB0
  have HB1 := Lib.hid hB1
  have HB2 := Lib.hid hB2
  have HB3 := Lib.hid hB3
  have HB4 := Lib.hid hB4
  have HWS := Lib.hid hWS
  have z0 := (cell_of_block hB0 0).1
  have z1 := (cell_of_block hB0 1).1
  have HCL := Lib.hid (built_bin a0 a1 l0 (w.heap.size + 1 + 1) (w.heap.size + 1 + 1 + 1) (w.heap.size + 1) A c n _ (binZ n xs ys Z)
    (fun z => z.heap[w.heap.size + 1 + 1]? = some (.cells #[.slice X xs.length cx] 34 (0, 0)) ∧ z.heap[w.heap.size + 1 + 1 + 1]? = some (.cells #[.slice Y ys.length cy] 34 (0, 0)) ∧ z.heap[w.heap.size + 1]? = some (.cells #[.int .i64 c0] 3 (0, 0)) ∧ Lay.int.Sl z (fun b => b < w.heap.size) X xs ∧ Lay.int.Sl z (fun b => b < w.heap.size) Y ys)
    (hg.below (hW.mono hl0)) (Nat.le_trans hl0 hW.size) (fun x hx => ⟨(hx.block _ (by rw [hWS]; omega)).trans hB2, (hx.block _ (by rw [hWS]; omega)).trans hB3, (hx.block _ (by rw [hWS]; omega)).trans hB1, (hX.below (bthen hW hx) (fun _ h => h)), hY.below (bthen hW hx) (fun _ h => h)⟩)
    (h.up hW) hn hA hi (fun lo q r z hz hok9 hk hlo => bitsBin1_any a0 a1 lo q r _ _ _ n X Y cx cy xs ys c0 Z z hz (hbin hok9) hZ hk.1 hk.2.1 hk.2.2.1 (hk.2.2.2.1.mono fun b hb => by rw [hWS] at hlo; omega) (hk.2.2.2.2.mono fun b hb => by rw [hWS] at hlo; omega) hxi hyi hlx hly))
  clear hg h hA hi hX hY hxi hyi hbin hB0 hB1 hB2 hB3 hB4 hW hWS
  generalize hout : pickN (netOk n) (binZ n xs ys Z) = out at *
  have HOUT := Lib.hid hout
  clear hout
  go_enter Tryz.func12, Tryz.ntmps12
  go_wp2_with fail
  refine HCL.out.mono ?_
  generalize ((((w.alloc (.cells #[.int .i64 n.ins, .slice A n.gs.length c] 29)).alloc (.cells #[.int .i64 c0] 3)).alloc (.cells #[.slice X xs.length cx] 34)).alloc (.cells #[.slice Y ys.length cy] 34)).alloc (.cells #[.int .i64 0, .slice none 0 0] 29) = W at *
  rintro e w1 ⟨A1, B1, c1, d1, rfl, h1, h2, h3, h4, h5, h6⟩
  have hb4 := (h5.block _ (lt_of_block HB4.out)).trans HB4.out
  have HX4 := Lib.hid hb4
  have j6 := (cell_of_block hb4 0).1
  have j7 := (cell_of_block hb4 1).1
  have f6 := (cell_of_block hb4 0).2
  have f7 := (cell_of_block hb4 1).2
  have H3 := Lib.hid h3
  have H4 := Lib.hid h4
  have H5 := Lib.hid h5
  clear hb4 h3 h4 h5 HCL
  go_wp2
  have hs1 := heap_set_same w1 (w.heap.size + 1 + 1 + 1 + 1) 0 (.int .i64 out.1.ins) _ _ HX4.out
  have hs2 := heap_set_same _ (w.heap.size + 1 + 1 + 1 + 1) 1 (.slice A1 out.1.gs.length c1) _ _ hs1
  have hs3 : w1.grownBy ((w1.setCell ⟨w.heap.size + 1 + 1 + 1 + 1, 0, none⟩ (.int .i64 out.1.ins)).setCell ⟨w.heap.size + 1 + 1 + 1 + 1, 1, none⟩ (.slice A1 out.1.gs.length c1)) (some (w.heap.size + 1 + 1 + 1 + 1)) := only_setCell (only_setCell (World.grownBy.refl _ _) _ _) _ _
  have k5 := (cell_of_block hs2 0).1
  have k6 := (cell_of_block hs2 1).1
  have kf5 := (cell_of_block hs2 0).2
  have kf6 := (cell_of_block hs2 1).2
  refine bodyPost_ret (v := .tuple #[.agg #[.int .i64 out.1.ins, .slice A1 out.1.gs.length c1], .slice B1 out.2.length d1]) (by simp [results, Tryz.results12, go_sem, k5, k6, kf5, kf6]) rfl ?_
  have hlt : w.heap.size + 1 + 1 + 1 + 1 < W.heap.size := by rw [HWS.out]; omega
  exact ⟨A1, B1, c1, d1, rfl, h1, h2, own_mono9 (own_grown9 H3.out hs3 hlt) HW.out.size, own_mono9 (own_grown9 H4.out hs3 hlt) HW.out.size, (bthen HW.out H5.out).grown hs3 (bthen HW.out H5.out).size (fun k hk => by injection hk with hk; omega), h6⟩
end Go.Proofs.YtjghcaghigebjaaGreatDoor

/-! The reference's l7Un, BitsUn. -/
namespace Go.Proofs.YtjghcaghigebjaaGreatDoor
open Go Go.RowKit

/-- In the blocks F, or made behind X0. -/
abbrev GU (F : Nat → Prop) (X0 z : World) (b : Nat) : Prop := F b ∨ (X0.heap.size ≤ b ∧ b < z.heap.size)
theorem Lay.Sl.upU {α : Type} {L : Lay α} {F : Nat → Prop} {X0 x x' : World} {A : Option Addr} {xs : List α} (h : L.Sl x (GU F X0 x) A xs) (hF : ∀ b, F b → b < x.heap.size) (hb : Below x.heap.size x x') : L.Sl x' (GU F X0 x') A xs :=
  (h.below hb (fun b hb' => hb'.elim (hF b) (fun h9 => h9.2))).mono fun b hb' => hb'.imp id fun h9 => ⟨h9.1, Nat.lt_of_lt_of_le h9.2 hb.size⟩
theorem Lay.Sl.stU {α : Type} {L : Lay α} {F : Nat → Prop} {X0 x x' : World} {A : Option Addr} {xs : List α} {g : Nat} (h : L.Sl x (GU F X0 x) A xs) (hF : ∀ b, F b → b < x.heap.size) (hg : x.grownBy x' (some g)) (h1 : g < X0.heap.size) (h2 : ¬ F g) : L.Sl x' (GU F X0 x') A xs :=
  (h.keep fun b hb => hg.block b (hb.elim (hF b) (fun h9 => h9.2)) (fun e => by injection e with e; subst e; exact hb.elim h2 (fun h9 => by omega))).mono fun b hb' => hb'.imp id fun h9 => ⟨h9.1, Nat.lt_of_lt_of_le h9.2 hg.size⟩
def NoB : Nat → Prop := fun _ => False
/-- A row of the call's own. -/
def URow (X0 : World) (l : List Int) (v : Value) (z : World) : Prop := ∃ B d, v = .slice B l.length d ∧ l.length ≤ d ∧ Lay.int.Sl z (GU NoB X0 z) B l
def UTup (F : Nat → Prop) (X0 : World) (T : (N × Bool) × List Int) (v : Value) (z : World) : Prop := ∃ A2 c2 B d, v = .tuple #[.agg #[.int .i64 T.1.1.ins, .slice A2 T.1.1.gs.length c2, .bool T.1.2], .slice B T.2.length d] ∧ (A2 = none → T.1.1.gs.length = 0) ∧ Lay.gate.Sl z (GU F X0 z) A2 T.1.1.gs ∧ T.2.length ≤ d ∧ Lay.int.Sl z (GU NoB X0 z) B T.2 ∧ X0.heap.size ≤ z.heap.size
def UNet (F : Nat → Prop) (X0 : World) (k : N × Bool) (v : Value) (z : World) : Prop := ∃ A2 c2, v = .agg #[.int .i64 k.1.ins, .slice A2 k.1.gs.length c2, .bool k.2] ∧ (A2 = none → k.1.gs.length = 0) ∧ Lay.gate.Sl z (GU F X0 z) A2 k.1.gs ∧ X0.heap.size ≤ z.heap.size
theorem URow.up {X0 x y : World} {l : List Int} {v : Value} (h : URow X0 l v x) (hb : Below x.heap.size x y) : URow X0 l v y := by
  obtain ⟨B, d, h1, h2, h3⟩ := h
  exact ⟨B, d, h1, h2, h3.upU (fun _ h => h.elim) hb⟩
theorem URow.st {X0 x y : World} {l : List Int} {v : Value} {g : Nat} (h : URow X0 l v x) (hg : x.grownBy y (some g)) (h1 : g < X0.heap.size) : URow X0 l v y := by
  obtain ⟨B, d, h2, h3, h4⟩ := h
  exact ⟨B, d, h2, h3, h4.stU (fun _ h => h.elim) hg h1 id⟩
theorem UTup.up {F : Nat → Prop} {X0 x y : World} {T : (N × Bool) × List Int} {v : Value} (hF : ∀ b, F b → b < X0.heap.size) (h : UTup F X0 T v x) (hb : Below x.heap.size x y) : UTup F X0 T v y := by
  obtain ⟨A2, c2, B, d, h1, h2, h3, h4, h5, h6⟩ := h
  exact ⟨A2, c2, B, d, h1, h2, h3.upU (fun b hb => Nat.lt_of_lt_of_le (hF b hb) h6) hb, h4, h5.upU (fun _ h => h.elim) hb, Nat.le_trans h6 hb.size⟩
theorem UTup.st {F : Nat → Prop} {X0 x y : World} {T : (N × Bool) × List Int} {v : Value} {g : Nat} (hF : ∀ b, F b → b < X0.heap.size) (h : UTup F X0 T v x) (hg : x.grownBy y (some g)) (hg1 : g < X0.heap.size) (hg2 : ¬ F g) : UTup F X0 T v y := by
  obtain ⟨A2, c2, B, d, h1, h2, h3, h4, h5, h6⟩ := h
  exact ⟨A2, c2, B, d, h1, h2, h3.stU (fun b hb => Nat.lt_of_lt_of_le (hF b hb) h6) hg hg1 hg2, h4, h5.stU (fun _ h => h.elim) hg hg1 id, Nat.le_trans h6 hg.size⟩
theorem UNet.up {F : Nat → Prop} {X0 x y : World} {k : N × Bool} {v : Value} (hF : ∀ b, F b → b < X0.heap.size) (h : UNet F X0 k v x) (hb : Below x.heap.size x y) : UNet F X0 k v y := by
  obtain ⟨A2, c2, h1, h2, h3, h6⟩ := h
  exact ⟨A2, c2, h1, h2, h3.upU (fun b hb => Nat.lt_of_lt_of_le (hF b hb) h6) hb, Nat.le_trans h6 hb.size⟩
theorem UNet.st {F : Nat → Prop} {X0 x y : World} {k : N × Bool} {v : Value} {g : Nat} (hF : ∀ b, F b → b < X0.heap.size) (h : UNet F X0 k v x) (hg : x.grownBy y (some g)) (hg1 : g < X0.heap.size) (hg2 : ¬ F g) : UNet F X0 k v y := by
  obtain ⟨A2, c2, h1, h2, h3, h6⟩ := h
  exact ⟨A2, c2, h1, h2, h3.stU (fun b hb => Nat.lt_of_lt_of_le (hF b hb) h6) hg hg1 hg2, Nat.le_trans h6 hg.size⟩
/-- What is so while the answer is laid. -/
def UnI (F : Nat → Prop) (w X0 : World) (k : N × Bool) (A : Option Addr) (c : Nat) (k2 : N × Bool) (done : Bool) (x : World) : Prop :=
  Below w.heap.size w x ∧ x.heap[w.heap.size]? = some (.cells #[.int .i64 k.1.ins, .slice A k.1.gs.length c, .bool k.2] 95 (0, 0)) ∧ (done = false → x.heap[w.heap.size + 1]? = some (.cells #[.int .i64 0, .slice none 0 0, .bool false] 95 (0, 0))) ∧ (done = true → ∃ A2 c2, x.heap[w.heap.size + 1]? = some (.cells #[.int .i64 k2.1.ins, .slice A2 k2.1.gs.length c2, .bool k2.2] 95 (0, 0)) ∧ (A2 = none → k2.1.gs.length = 0) ∧ Lay.gate.Sl x (GU F X0 x) A2 k2.1.gs) ∧ Lay.gate.Sl x F A k.1.gs ∧ X0.heap.size ≤ x.heap.size
theorem UnI.up {F : Nat → Prop} {w X0 x y : World} {k : N × Bool} {A : Option Addr} {c : Nat} {k2 : N × Bool} {done : Bool} (hF : ∀ b, F b → b < w.heap.size) (h : UnI F w X0 k A c k2 done x) (hb : Below x.heap.size x y) : UnI F w X0 k A c k2 done y := by
  obtain ⟨h1, h2, h3, h4, h5, h6⟩ := h
  have hF2 : ∀ b, F b → b < x.heap.size := fun b hb' => by have := hF b hb'; have := lt_of_block h2; omega
  refine ⟨bthen h1 hb, (hb.block _ (lt_of_block h2)).trans h2, fun hd => (hb.block _ (lt_of_block (h3 hd))).trans (h3 hd), fun hd => ?_, h5.below hb hF2, Nat.le_trans h6 hb.size⟩
  obtain ⟨A2, c2, g1, g2, g3⟩ := h4 hd
  exact ⟨A2, c2, (hb.block _ (lt_of_block g1)).trans g1, g2, g3.upU hF2 hb⟩
theorem UnI.st {F : Nat → Prop} {w X0 x : World} {k : N × Bool} {A : Option Addr} {c : Nat} {k2 : N × Bool} {A2 : Option Addr} {c2 : Nat} (hF : ∀ b, F b → b < w.heap.size) (hX : w.heap.size + 1 < X0.heap.size) (h : UnI F w X0 k A c k2 false x) (hs : Lay.gate.Sl x (GU F X0 x) A2 k2.1.gs) (hn : A2 = none → k2.1.gs.length = 0) :
    UnI F w X0 k A c k2 true (st3 x (w.heap.size + 1) (.int .i64 k2.1.ins) (.slice A2 k2.1.gs.length c2) (.bool k2.2)) ∧ x.grownBy (st3 x (w.heap.size + 1) (.int .i64 k2.1.ins) (.slice A2 k2.1.gs.length c2) (.bool k2.2)) (some (w.heap.size + 1)) := by
  obtain ⟨h1, h2, h3, h4, h5, h6⟩ := h
  have hgr : x.grownBy (st3 x (w.heap.size + 1) (.int .i64 k2.1.ins) (.slice A2 k2.1.gs.length c2) (.bool k2.2)) (some (w.heap.size + 1)) := only_setCell (only_setCell (only_setCell (World.grownBy.refl _ _) _ _) _ _) _ _
  have hF2 : ∀ b, F b → b < x.heap.size := fun b hb' => by have := hF b hb'; have := lt_of_block h2; omega
  have hng : ¬ F (w.heap.size + 1) := fun h9 => by have := hF _ h9; omega
  exact ⟨⟨st3_below h1 (by omega) _ _ _, (st3_other (by omega)).trans h2, fun h => (by cases h), fun _ => ⟨A2, c2, st3_same (h3 rfl) _ _ _, hn, hs.stU hF2 hgr hX hng⟩, st3_sl h5 (fun b hb e => hng (by rw [e] at hb; exact hb)) _ _ _, by rw [st3_size]; exact h6⟩, hgr⟩
end Go.Proofs.YtjghcaghigebjaaGreatDoor

/-! A drawn region, each operation once: what is said of an operation's value may hold until a later operation alone. No program is named here. -/
namespace Go.Proofs.YtjghcaghigebjaaGreatDoor
open Go Go.RowKit
variable {P : Program} {Q : Exit → Act → World → Prop}

/-- Whoever looks at a value looks at it before what is said of it ends. -/
def untilOk (ops : List Oper) (D : List (List Nat)) (U : List (Option Nat)) : Bool :=
  (List.range ops.length).all fun k => (D.getD k []).all fun j => match U.getD j none with | none => true | some u => decide (u = k) || reach ops ops.length u k
theorem untilOk_spec {ops : List Oper} {D : List (List Nat)} {U : List (Option Nat)} (h : untilOk ops D U = true) {k j u : Nat} (hk : k < ops.length) (hj : j ∈ D.getD k []) (hu : U.getD j none = some u) : u = k ∨ reach ops ops.length u k = true := by
  have h1 := List.all_eq_true.1 (List.all_eq_true.1 h k (List.mem_range.2 hk)) j hj
  rw [hu] at h1
  simpa using h1
structure RelInv5 (ops : List Oper) (I : (Nat → Bool) → World → Prop) (L : List Say) (U : List (Option Nat)) (a : Act) (listed : Array Bool) (a' : Act) (x : World) (vals : Nat → Value) : Prop where
  size : listed.size = ops.length
  closed : ∀ j k, waits ops k j = true → listed.getD k false = true → listed.getD j false = true
  tsize : a'.tmps.size = a.tmps.size
  defers : a'.defers = a.defers
  old : ∀ t, (∀ j, listed.getD j false = true → dstOf ops j ≠ some t) → a'.tmps[t]? = a.tmps[t]?
  new : ∀ j t, listed.getD j false = true → dstOf ops j = some t → a'.tmps[t]? = some (vals j)
  inv : I (fun i => listed.getD i false) x
  fact : ∀ j, listed.getD j false = true → (∀ u, U.getD j none = some u → listed.getD u false = false) → L.getD j (fun _ _ => True) vals x
theorem rel5_any {ops : List Oper} {D : List (List Nat)} {R : Nat → World → World → Prop} {I : (Nat → Bool) → World → Prop} {L : List Say} {U : List (Option Nat)} {a : Act} (hRr : ∀ k x, R k x x) (hL : ∀ j k, k < ops.length → j ≠ k → reach ops ops.length j k = false → U.getD j none ≠ some k → (∀ u, U.getD j none = some u → reach ops ops.length k u = false) → ∀ vs x x', L.getD j (fun _ _ => True) vs x → R k x x' → L.getD j (fun _ _ => True) vs x') (hLo : Locals D 0 L) (hU : untilOk ops D U = true) (hB : relOk4 ops D a.tmps.size = true)
    (hs : ∀ k o, ops[k]? = some o → obligR4 P ops D (R k) I L a k o)
    (hfin : ∀ vals x f, (∀ i, i < ops.length → f i = true) → I f x → says L vals x ((List.range ops.length).filter fun i => (U.getD i none).isNone) → Q .normal (puts ops vals (List.range ops.length) a) x) :
    ∀ (fuel : Nat) (listed : Array Bool) (a' : Act) (x : World) (vals : Nat → Value), cnt (fun i => listed.getD i false) ops.length ≤ fuel →
      RelInv5 ops I L U a listed a' x vals → wpAny P .any ops.toArray Q fuel listed a' x := by
  have hdd : ∀ i j t, dstOf ops i = some t → dstOf ops j = some t → i = j := fun i j t hi hj => by
    have hjl : j < ops.length := dst_lt hj
    have ho : ops[j]? = some ops[j] := List.getElem?_eq_getElem hjl
    exact (relOk4_spec hB j _ ho).2.2.2.2.2.2 i t (dst_lt hi) hi (by simpa [dstOf, ho] using hj)
  have hds : ∀ j t, dstOf ops j = some t → t < a.tmps.size := fun j t hj => by
    have hjl : j < ops.length := dst_lt hj
    have ho : ops[j]? = some ops[j] := List.getElem?_eq_getElem hjl
    exact (relOk4_spec hB j _ ho).2.2.2.1 t (by simpa [dstOf, ho] using hj)
  have hdone : ∀ (listed : Array Bool) (a' : Act) (x : World) (vals : Nat → Value), (∀ i, i < ops.length → listed.getD i false = true) → RelInv5 ops I L U a listed a' x vals → Q .normal a' x := by
    intro listed a' x vals hall inv
    have ha : a' = puts ops vals (List.range ops.length) a := by
      have ht : a'.tmps = (puts ops vals (List.range ops.length) a).tmps := by
        apply Array.ext_getElem?
        intro t
        by_cases h : ∃ j, dstOf ops j = some t
        · obtain ⟨j, hj⟩ := h
          rw [inv.new j t (hall j (dst_lt hj)) hj, puts_get (fun i j => hdd i j t) _ _ j (List.mem_range.2 (dst_lt hj)) hj (hds j t hj)]
        · rw [inv.old t (fun j _ e => h ⟨j, e⟩), puts_ne _ _ (fun i _ e => h ⟨i, e⟩)]
      have hdf : a'.defers = (puts ops vals (List.range ops.length) a).defers := by rw [puts_defers]; exact inv.defers
      cases a'
      cases hp : puts ops vals (List.range ops.length) a
      rw [hp] at ht hdf
      simp only at ht hdf
      rw [ht, hdf]
    rw [ha]
    exact hfin vals x _ hall inv.inv (says_iff.2 fun i hi => inv.fact i (hall i (List.mem_range.1 (List.mem_filter.1 hi).1)) (fun u hu => by have := (List.mem_filter.1 hi).2; rw [hu] at this; cases this))
  have hmin : ∀ (listed : Array Bool), listed.size = ops.length → ∀ i, i < ops.length → listed.getD i false = false → Region.ready .any ops.toArray listed ≠ [] := by
    intro listed hsz i
    induction i using Nat.strongRecOn with
    | _ i ih =>
      intro hi hun hr
      have ho : ops[i]? = some ops[i] := List.getElem?_eq_getElem hi
      by_cases h : ∀ e ∈ ops[i].after, Region.binds .any e = true → listed.getD e.on false = true
      · have : i ∈ Region.ready .any ops.toArray listed := mem_ready.2 ⟨getD_in (by omega) hun, ops[i], by simp [ho], h⟩
        rw [hr] at this; cases this
      · simp only [Classical.not_forall] at h
        obtain ⟨e, he, hb, hl⟩ := h
        have hlt := (relOk4_spec hB i _ ho).2.2.1 e he hb
        exact ih e.on hlt (by omega) (by simpa using hl) hr
  intro fuel
  induction fuel with
  | zero =>
    intro listed a' x vals hc inv
    have hall := cnt_zero (f := fun i => listed.getD i false) (Nat.le_zero.1 hc)
    refine ⟨?_, hdone _ _ _ _ hall inv⟩
    cases hr : Region.ready .any ops.toArray listed with
    | nil => rfl
    | cons k rs =>
      exfalso
      have hk : k ∈ Region.ready .any ops.toArray listed := by rw [hr]; simp
      obtain ⟨h0, o, ho, _⟩ := mem_ready.1 hk
      have hlt : k < ops.length := by
        have := (Array.getElem?_eq_some_iff.1 ho).1; simpa using this
      have h1 : listed.getD k false = true := hall k hlt
      rw [getD_both h0] at h1; cases h1
  | succ fuel ih =>
    intro listed a' x vals hc inv
    refine ⟨fun hr => ?_, fun k hk => ?_⟩
    · refine hdone _ _ _ _ (fun i hi => ?_) inv
      cases h : listed.getD i false with
      | true => rfl
      | false => exact absurd hr (hmin listed inv.size i hi h)
    · obtain ⟨h0, o, hoA, hwait⟩ := mem_ready.1 hk
      have ho : ops[k]? = some o := by simpa using hoA
      have hkl : k < ops.length := (List.getElem?_eq_some_iff.1 ho).1
      have h0f : listed.getD k false = false := getD_both h0
      have hsz : k < listed.size := by rw [inv.size]; exact hkl
      obtain ⟨hg, hsel, _, hdsz, hD, hlook, hdist⟩ := relOk4_spec hB k o ho
      have hw : ∀ m, waits ops k m = true → listed.getD m false = true := fun m hm => by
        obtain ⟨o', ho', e, he, hb, rfl⟩ := waits_spec.1 hm
        have : o' = o := Option.some.inj (ho'.symm.trans ho)
        subst this
        exact hwait e he hb
      have hDl : ∀ j ∈ D.getD k [], listed.getD j false = true := fun j hj => hw j (hD j hj).1
      have hdk : dstOf ops k = o.dst := by simp [dstOf, ho]
      -- the operation runs as it does in the small state
      have hexec : execOp a'.eval o = execOp (puts ops vals (D.getD k []) a).eval o := execOp_congr o hsel fun y hy => by
        cases y with
        | tmp t =>
          have ht : a'.tmps[t]? = (puts ops vals (D.getD k []) a).tmps[t]? := by
            by_cases h : ∃ j, dstOf ops j = some t
            · obtain ⟨j, hj⟩ := h
              rcases hlook j (dst_lt hj) (looks_spec ho hj hy) with hm | hm
              · rw [inv.new j t (hDl j hm) hj, puts_get (fun i j => hdd i j t) _ _ j hm hj (hds j t hj)]
              · have hjf : listed.getD j false = true → False := fun hjl => by
                  have := reach_listed inv.closed _ j k (fun m hm => inv.closed m j hm hjl) hm
                  rw [this] at h0f; cases h0f
                rw [inv.old t (fun i hi e => by have := hdd i j t e hj; subst this; exact hjf hi), puts_ne _ _ (fun i hi e => by have := hdd i j t e hj; subst this; exact hjf (hDl i hi))]
            · rw [inv.old t (fun j _ e => h ⟨j, e⟩), puts_ne _ _ (fun i _ e => h ⟨i, e⟩)]
          show a'.tmps.getD t undef = (puts ops vals (D.getD k []) a).tmps.getD t undef
          rw [Array.getD_eq_getD_getElem?, Array.getD_eq_getD_getElem?, ht]
        | _ => rfl
      have hcs := (cnt_set (f := fun i => listed.getD i false) (g := fun i => (listed.setIfInBounds k true).getD i false) h0f (getD_set (listed := listed) hsz) (n := ops.length)).2 hkl
      have hob := hs k o ho vals x (fun i => listed.getD i false) h0f (fun r h => reach_listed inv.closed _ k r (fun m hm => hw m hm) h) (fun r hr => by
        cases h : listed.getD r false with
        | false => rfl
        | true => exact absurd ((reach_listed inv.closed _ r k (fun m hm => inv.closed m r hm h) hr).symm.trans h0f) (by simp)) inv.inv (says_iff.2 fun j hj => inv.fact j (hDl j hj) (fun u hu => by
        rcases untilOk_spec hU hkl hj hu with rfl | hr
        · exact h0f
        · cases hlu : listed.getD u false with
          | false => rfl
          | true => exact absurd ((reach_listed inv.closed _ u k (fun m hm => inv.closed m u hm hlu) hr).symm.trans h0f) (by simp)))
      have hbs : (puts ops vals (D.getD k []) a).tmps.size = a.tmps.size := puts_size _ _
      have hbd : (puts ops vals (D.getD k []) a).defers = a.defers := puts_defers _ _
      have next : ∀ v x', (L.getD k (fun _ _ => True) (upd vals k (got o ((puts ops vals (D.getD k []) a).put o.dst v))) x' ∧ R k x x' ∧ I (did (fun i => listed.getD i false) k) x') →
          wpAny P .any ops.toArray Q fuel (listed.setIfInBounds k true) (a'.put o.dst v) x' := by
        intro v x' hq
        obtain ⟨hV, hR, hI'⟩ := hq
        have hgs := getD_set (listed := listed) hsz
        have hold : ∀ j, (listed.setIfInBounds k true).getD j false = true → j ≠ k → listed.getD j false = true := fun j hj hne => by
          rw [hgs, if_neg hne] at hj; exact hj
        refine ih _ _ x' (fun j => if j = k then got o ((puts ops vals (D.getD k []) a).put o.dst v) else vals j) ?_ ⟨by simp [inv.size], fun j m hm hl => ?_, by rw [put_size]; exact inv.tsize, by rw [put_defers]; exact inv.defers, fun t ht => ?_, fun j t hj hdj => ?_, by rw [show (fun i => (listed.setIfInBounds k true).getD i false) = fun j => if j = k then true else listed.getD j false from funext hgs]; exact hI', fun j hj hun => ?_⟩
        · omega
        · rw [hgs]
          by_cases e : j = k
          · rw [if_pos e]
          · rw [if_neg e]
            by_cases e' : m = k
            · subst e'; exact hw j hm
            · exact inv.closed j m hm (hold m hl e')
        · rw [put_get_ne _ _ _ _ (by
            have := ht k (by rw [hgs, if_pos rfl])
            rwa [hdk] at this)]
          refine inv.old t fun j hj => ht j ?_
          rw [hgs]; split <;> first | rfl | exact hj
        · by_cases e : j = k
          · subst e
            rw [hdk] at hdj
            have htl := hdsz t hdj
            rw [if_pos rfl, hdj, put_get _ _ _ (by rw [inv.tsize]; exact htl)]
            simp only [got, hdj]
            rw [Array.getD_eq_getD_getElem?, put_get _ _ _ (by rw [hbs]; exact htl)]
            rfl
          · rw [if_neg e, put_get_ne _ _ _ _ (fun e' => e (hdist j t (dst_lt hdj) hdj e'))]
            exact inv.new j t (hold j hj e) hdj
        · by_cases e : j = k
          · subst e; exact hV
          · have hjl := hold j hj e
            have hrj : reach ops ops.length j k = false := by
              cases h : reach ops ops.length j k with
              | false => rfl
              | true => rw [reach_listed inv.closed _ j k (fun m hm => inv.closed m j hm hjl) h] at h0f; cases h0f
            have hnk : U.getD j none ≠ some k := fun hu => by
              have := hun k hu
              rw [hgs, if_pos rfl] at this; cases this
            have hold9 : ∀ u, U.getD j none = some u → listed.getD u false = false := fun u hu => by
              have := hun u hu
              rw [hgs] at this
              by_cases e9 : u = k
              · rw [e9]; exact h0f
              · rwa [if_neg e9] at this
            have hru : ∀ u, U.getD j none = some u → reach ops ops.length k u = false := fun u hu => by
              cases h9 : reach ops ops.length k u with
              | false => rfl
              | true => exact absurd ((reach_listed inv.closed _ k u (fun m hm => hw m hm) h9).symm.trans (hold9 u hu)) (by simp)
            have hfj := hL j k hkl e hrj hnk hru vals x x' (inv.fact j hjl hold9) hR
            refine hLo.get j vals _ x' (by simp [upd, e]) (fun m hm => ?_) hfj
            have hmk : m ≠ k := fun e' => by
              have hjlt := listed_lt inv.size hjl
              have hw' := ((relOk4_spec hB j ops[j] (List.getElem?_eq_getElem hjlt)).2.2.2.2.1 m (by simpa using hm)).1
              rw [e'] at hw'
              rw [inv.closed k j hw' hjl] at h0f; cases h0f
            simp [upd, hmk]
      unfold wpOp
      rw [hoA]
      dsimp only
      have hgv : ∀ g b, o.guard = some (g, b) → ∃ d, dstOf ops g = some d ∧ a'.tmps[d]? = some (vals g) := fun g b hgb => by
        obtain ⟨h1, d, h2⟩ := hg g b hgb
        exact ⟨d, h2, inv.new g d (hDl g h1) h2⟩
      have hyield : ∀ g b, o.guard = some (g, b) → (Region.wanted o (yielded ops.toArray a'.tmps) = true ↔ vals g = .bool b) := fun g b hgb => by
        obtain ⟨d, h1, h2⟩ := hgv g b hgb
        have hy : yielded ops.toArray a'.tmps g = match some (vals g) with | some (.bool b) => some b | _ => none := by
          unfold yielded
          rw [show (ops.toArray[g]?).bind (·.dst) = some d from by simpa [dstOf] using h1]
          simp only [Option.bind_some, h2]
          cases vals g <;> rfl
        unfold Region.wanted
        rw [hgb]
        simp only [hy]
        constructor
        · intro h
          split at h
          · rename_i b' he
            injection he with he
            rw [he]
            have : b' = b := by simpa using h
            rw [this]
          · cases h
        · intro h
          rw [h]; simp
      have hskip : Region.wanted o (yielded ops.toArray a'.tmps) = false → wpAny P .any ops.toArray Q fuel (listed.setIfInBounds k true) (a'.put o.dst undef) x := fun hw0 => by
        cases hgd : o.guard with
        | none => unfold Region.wanted at hw0; rw [hgd] at hw0; cases hw0
        | some p =>
          obtain ⟨g, b⟩ := p
          have hne : vals g ≠ .bool b := fun e => by rw [(hyield g b hgd).2 e] at hw0; cases hw0
          obtain ⟨h1, h2⟩ := hob.2 g b hgd hne
          refine next undef x ⟨?_, hRr k x, h2⟩
          have : got o ((puts ops vals (D.getD k []) a).put o.dst undef) = undef := by
            unfold got
            cases hd : o.dst with
            | none => rfl
            | some d =>
              simp only
              rw [Array.getD_eq_getD_getElem?, put_get _ _ _ (by rw [hbs]; exact hdsz d hd)]
              rfl
          rw [this]; exact h1
      by_cases hwant : Region.wanted o (yielded ops.toArray a'.tmps) = true
      rotate_left
      · rw [if_neg hwant]
        exact hskip (by simpa using hwant)
      rw [if_pos hwant]
      have hob := hob.1 fun g b hgd => (hyield g b hgd).1 hwant
      refine .inl ?_
      unfold Oper.wp at hob ⊢
      rw [hexec]
      generalize (execOp (puts ops vals (D.getD k []) a).eval o).run P x = r at hob ⊢
      cases r with
      | ok n w' =>
        cases n <;> simp only [Oper.upon] at hob ⊢
        case value v => exact next v w' hob.2
        case skip => exact next _ w' hob.2
        case defer d =>
          have := hob.1
          rw [put_defers] at this
          exact absurd (congrArg List.length this) (by simp)
        case enter f args =>
          refine Calls.mono hob fun e w'' he => ?_
          cases e with
          | returned u => exact next u w'' he.2
          | panicked c => exact he.elim
          | outgrown => obtain ⟨_, _, h⟩ := he; exact h.elim
        case row row args => exact Rows.mono hob fun u w'' he => next u w'' he.2
      | halt e w' =>
        cases e <;> simp only [Oper.upon] at hob ⊢ <;> exact hob.elim


def StabS5 (ops : List Oper) (U : List (Option Nat)) (V : Say) (i : Nat) : List (Nat × (World → World → Prop)) → Prop
  | [] => True
  | p :: l => ((reach ops ops.length i p.1 || (match U.getD i none with | none => false | some u => u == p.1 || reach ops ops.length p.1 u)) = true ∨ i = p.1 ∨ ∀ vs x x', V vs x → p.2 x x' → V vs x') ∧ StabS5 ops U V i l
def Stabs5 (ops : List Oper) (U : List (Option Nat)) (R0 : World → World → Prop) (Rs : List (Nat × (World → World → Prop))) : Nat → List Say → Prop
  | _, [] => True
  | i, V :: l => ((isLast ops i = true ∨ ∀ vs x x', V vs x → R0 x x' → V vs x') ∧ StabS5 ops U V i Rs) ∧ Stabs5 ops U R0 Rs (i + 1) l
theorem relOf_stab5 {ops : List Oper} {U : List (Option Nat)} {R0 : World → World → Prop} {V : Say} {i k : Nat} (hik : i ≠ k) (hr : reach ops ops.length i k = false) (hu : U.getD i none ≠ some k) (hk : ∀ u, U.getD i none = some u → reach ops ops.length k u = false) (h0 : ∀ vs x x', V vs x → R0 x x' → V vs x') : ∀ {l : List (Nat × (World → World → Prop))}, StabS5 ops U V i l → ∀ vs x x', V vs x → relOf R0 l k x x' → V vs x'
  | [], _, vs, x, x', hv, h => h0 vs x x' hv h
  | p :: l, hs, vs, x, x', hv, h => by
    by_cases e : k = p.1
    · rcases hs.1 with h1 | h1 | h1
      · rw [Bool.or_eq_true] at h1
        rcases h1 with h1 | h1
        · rw [e, h1] at hr; cases hr
        · cases hU : U.getD i none with
          | none => rw [hU] at h1; cases h1
          | some u =>
            rw [hU] at h1
            simp only [Bool.or_eq_true, beq_iff_eq] at h1
            rcases h1 with h1 | h1
            · exact absurd (by rw [hU, h1, e]) hu
            · have := hk u hU
              rw [e, h1] at this; cases this
      · exact absurd (h1.trans e.symm) hik
      · exact h1 vs x x' hv (h.1 e)
    · exact relOf_stab5 hik hr hu hk h0 hs.2 vs x x' hv (h.2 e)
theorem Stabs5.get {ops : List Oper} {U : List (Option Nat)} {R0 : World → World → Prop} {Rs : List (Nat × (World → World → Prop))} {k : Nat} (hk : k < ops.length) : ∀ {L : List Say} {m : Nat}, Stabs5 ops U R0 Rs m L → ∀ i, m + i ≠ k → reach ops ops.length (m + i) k = false → U.getD (m + i) none ≠ some k → (∀ u, U.getD (m + i) none = some u → reach ops ops.length k u = false) → ∀ vs x x', L.getD i (fun _ _ => True) vs x → relOf R0 Rs k x x' → L.getD i (fun _ _ => True) vs x'
  | [], _, _, i, _, _, _, _, vs, x, x', _, _ => by simp
  | V :: l, m, h, 0, hik, hr, hu, hku, vs, x, x', hv, hR => by
    rcases h.1.1 with h1 | h1
    · exact (relOf_last (R0 := R0) (V := V) hik hr hk h1).elim
    · simpa using relOf_stab5 hik hr hu hku h1 h.1.2 vs x x' (by simpa using hv) hR
  | V :: l, m, h, i + 1, hik, hr, hu, hku, vs, x, x', hv, hR => by
    have e : m + (i + 1) = m + 1 + i := by omega
    rw [e] at hik hr hu hku
    simpa using Stabs5.get hk h.2 i hik hr hu hku vs x x' (by simpa using hv) hR
/-- A drawn region, each operation once. D: of each operation the ones that it looks at, with their slots; L: what is said of each one's value; R: what every operation does to memory; I: what is so all along, by which have been done. -/
theorem wp_region_rel5 {id : Nat} {ops : List Oper} {a : Act} {w : World} (D : List (List (Nat × Tmp))) (R0 : World → World → Prop) (Rs : List (Nat × (World → World → Prop))) (I : (Nat → Bool) → World → Prop) (L : List Say) (U : List (Option Nat)) (all : List (Nat × Tmp)) (hm : P.follows .mixedOrders = true)
    (hB : relOk4 ops (idxs D) a.tmps.size = true) (hD : D.all (fitsD ops) = true)
    (hall : (List.range ops.length).filterMap (fun i => (dstOf ops i).map fun t => (i, t)) = all)
    (hRr : ∀ x, R0 x x) (hRs : Refls Rs) (hU : untilOk ops (idxs D) U = true) (hL : Stabs5 ops U R0 Rs 0 L) (hLo : Locals (idxs D) 0 L) (h0 : I (fun _ => false) (w.drewN 1))
    (hs : sharesR4 P ops (relOf R0 Rs) I L a 0 ops D)
    (hfin : ∀ vals x f, (∀ i, i < ops.length → f i = true) → I f x → says L vals x ((List.range ops.length).filter fun i => (U.getD i none).isNone) → Q .normal (putsD vals all a) x) : (Code.region id ops.toArray true).wp P Q a w := by
  refine wp_region_any hm ?_
  have z0 : ∀ j, (Array.replicate ops.toArray.size false).getD j false = false := fun j => getD_replicate_false _ _
  have hle : ∀ (f : Nat → Bool) (n : Nat), cnt f n ≤ n := fun f n => by
    induction n with
    | zero => exact Nat.le_refl _
    | succ n ih => simp only [cnt]; split <;> omega
  have hrel := rel5_any (P := P) (Q := Q) (ops := ops) (a := a) (D := idxs D) (R := relOf R0 Rs) (I := I) (L := L) (U := U) (relOf_refl hRr hRs) (fun j k hk hjk hr hu hku vs x x' => Stabs5.get hk hL j (by rw [Nat.zero_add]; exact hjk) (by rw [Nat.zero_add]; exact hr) (by rw [Nat.zero_add]; exact hu) (by rw [Nat.zero_add]; exact hku) vs x x') hLo hU hB
  refine hrel (fun k o hk => ?_) (fun vals x f hn hI hf => ?_) _ _ _ _ (fun _ => undef) (Nat.le_trans (hle _ _) (by simp)) ?_
  rotate_left
  · rw [puts_all, hall]; exact hfin vals x f hn hI hf
  · exact ⟨by simp, fun j k _ hl => (by rw [z0] at hl; cases hl), rfl, rfl, fun _ _ => rfl, fun j t hj => (by rw [z0] at hj; cases hj), by rw [show (fun i => (Array.replicate ops.toArray.size false).getD i false) = fun _ => false from funext z0]; exact h0, fun j hj _ => (by rw [z0] at hj; cases hj)⟩
  · have hsh := sharesR4_get hs k o hk
    rw [Nat.zero_add] at hsh
    have hfit : fitsD ops (D.getD k []) = true := by
      rcases Nat.lt_or_ge k D.length with h | h
      · rw [show D.getD k [] = D[k] by simp [h]]; exact List.all_eq_true.1 hD _ (List.getElem_mem h)
      · rw [show D.getD k [] = [] by simp [h]]; rfl
    have hDk : (idxs D).getD k [] = (D.getD k []).map (·.1) := by
      unfold idxs
      rcases Nat.lt_or_ge k D.length with h | h
      · simp [h]
      · simp [h]
    intro vals x f hn hl hl2 hI hf
    rw [hDk, says_saysD] at hf
    have h := hsh vals x f hn hl hl2 hI hf
    rw [hDk, puts_putsD hfit]
    have hun : wpList P #[] (relQ4 (relOf R0 Rs k) I L vals f k o (putsD vals (D.getD k []) a) x) [bare o] (putsD vals (D.getD k []) a) x → o.wp P (putsD vals (D.getD k []) a) x (relQ4 (relOf R0 Rs k) I L vals f k o (putsD vals (D.getD k []) a) x .normal) (relQ4 (relOf R0 Rs k) I L vals f k o (putsD vals (D.getD k []) a) x) := fun h => by
      rcases wpList_bare h with h | ⟨_, _, h⟩
      · exact h
      · exact h.elim
    generalize o.guard = gd at h ⊢
    cases gd with
    | none => exact ⟨fun _ => hun h, fun g b e => by cases e⟩
    | some p =>
      obtain ⟨g, b⟩ := p
      exact ⟨fun e => hun (h.1 (e g b rfl)), fun g' b' e hne => by injection e with e; injection e with e1 e2; subst e1; subst e2; exact h.2 hne⟩
end Go.Proofs.YtjghcaghigebjaaGreatDoor

/-! The reference's l7Bin. -/
namespace Go.Proofs.YtjghcaghigebjaaGreatDoor
open Go Go.RowKit

theorem KS.outL {F : Nat → Prop} {w x x' : World} {k k' : N × Bool} {A A' B : Option Addr} {c c' d : Nat} {l : List Int} (h : KS F w x k A c) (hF : ∀ b, F b → b < w.heap.size) (hs : Lay.gate.Sl x' (fun b => (fun b => F b ∨ (w.heap.size + 2 ≤ b ∧ b < x.heap.size)) b ∨ (x.heap.size ≤ b ∧ b < x'.heap.size)) A' k'.1.gs) (hb : Below x.heap.size x x') (hn : A' = none → k'.1.gs.length = 0) (hd : l.length ≤ d) (hl : Lay.int.Sl x' (fun b => x.heap.size ≤ b ∧ b < x'.heap.size) B l) (hm : ∀ m ∈ l, RB m) :
    RetKL F w (k', l) (.returned (.tuple #[.agg #[.int .i64 k'.1.ins, .slice A' k'.1.gs.length c', .bool k'.2], .slice B l.length d])) (st3 x' (w.heap.size + 1) (.int .i64 k'.1.ins) (.slice A' k'.1.gs.length c') (.bool k'.2)) := by
  have hx := lt_of_block h.res
  refine ⟨A', c', B, d, rfl, hn, (st3_sl (h := w.heap.size + 1) hs (fun b hb' => ?_) _ _ _).mono (fun b hb' => ?_), hd, (st3_sl (h := w.heap.size + 1) hl (fun b hb' => by omega) _ _ _).mono (fun b hb' => ?_), hm, st3_below (bthen h.bel hb) (by omega) _ _ _⟩
  · rcases hb' with (hb' | hb') | hb'
    · have := hF b hb'; omega
    · omega
    · omega
  · rw [st3_size]
    have hsz := hb.size
    rcases hb' with (hb' | hb') | hb'
    · exact .inl hb'
    · exact .inr ⟨by omega, by omega⟩
    · exact .inr ⟨by omega, hb'.2⟩
  · rw [st3_size]; omega
theorem RetKL.up {F : Nat → Prop} {w x x' : World} {res : (N × Bool) × List Int} {e : Ending} (h : RetKL F w res e x) (hF : ∀ b, F b → b < w.heap.size) (hb : Below x.heap.size x x') : RetKL F w res e x' := by
  obtain ⟨A, c, B, d, h1, h2, h3, h4, h5, h6, h7⟩ := h
  exact ⟨A, c, B, d, h1, h2, (h3.below hb (fun b h9 => h9.elim (fun h => Nat.lt_of_lt_of_le (hF b h) h7.size) (fun h => h.2))).mono fun b h9 => h9.imp id fun h => ⟨h.1, Nat.lt_of_lt_of_le h.2 hb.size⟩, h4, (h5.below hb (fun b h9 => h9.2)).mono fun b h9 => ⟨h9.1, Nat.lt_of_lt_of_le h9.2 hb.size⟩, h6, bthen h7 hb⟩
/-- What is so while two rows are joined. -/
def CatI (F : Nat → Prop) (w X0 : World) (k : N × Bool) (A : Option Addr) (c : Nat) (done : Bool) (x : World) : Prop :=
  Below w.heap.size w x ∧ x.heap[w.heap.size]? = some (.cells #[.int .i64 k.1.ins, .slice A k.1.gs.length c, .bool k.2] 95 (0, 0)) ∧ (done = false → x.heap[w.heap.size + 1]? = some (.cells #[.int .i64 0, .slice none 0 0, .bool false] 95 (0, 0))) ∧ (done = true → x.heap[w.heap.size + 1]? = some (.cells #[.int .i64 k.1.ins, .slice A k.1.gs.length c, .bool k.2] 95 (0, 0))) ∧ Lay.gate.Sl x F A k.1.gs ∧ X0.heap.size ≤ x.heap.size
theorem CatI.up {F : Nat → Prop} {w X0 x y : World} {k : N × Bool} {A : Option Addr} {c : Nat} {done : Bool} (hF : ∀ b, F b → b < w.heap.size) (hX : w.heap.size + 1 < X0.heap.size) (h : CatI F w X0 k A c done x) (hb : Below X0.heap.size x y) : CatI F w X0 k A c done y := by
  obtain ⟨h1, h2, h3, h4, h5, h6⟩ := h
  exact ⟨h1.trans (hb.mono (by omega)), (hb.block _ (by omega)).trans h2, fun hd => (hb.block _ hX).trans (h3 hd), fun hd => (hb.block _ hX).trans (h4 hd), h5.below hb (fun b h9 => by have := hF b h9; omega), Nat.le_trans h6 hb.size⟩
def CatL (X0 : World) (v : Value) (z : World) : Prop := ∃ A, v = .slice A 0 0 ∧ OwnI z X0.heap.size (.slice A ([] : List Int).length 0) []
def CatR (X0 : World) (l : List Int) (v : Value) (z : World) : Prop := ∃ A c, v = .slice A l.length c ∧ OwnI z X0.heap.size (.slice A l.length c) l
theorem CatL.up {X0 x y : World} {v : Value} (h : CatL X0 v x) (hb : Below x.heap.size x y) : CatL X0 v y := by
  obtain ⟨A, h1, h2⟩ := h; exact ⟨A, h1, h2.up hb⟩
theorem CatR.up {X0 x y : World} {l : List Int} {v : Value} (h : CatR X0 l v x) (hb : Below x.heap.size x y) : CatR X0 l v y := by
  obtain ⟨A, c, h1, h2⟩ := h; exact ⟨A, c, h1, h2.up hb⟩
theorem CatL.st {X0 x y : World} {v : Value} {g : Nat} (h : CatL X0 v x) (hg : x.grownBy y (some g)) (h1 : g < X0.heap.size) : CatL X0 v y := by
  obtain ⟨A, h2, h3⟩ := h; exact ⟨A, h2, own_kept_lt h3 hg h1⟩
theorem CatR.st {X0 x y : World} {l : List Int} {v : Value} {g : Nat} (h : CatR X0 l v x) (hg : x.grownBy y (some g)) (h1 : g < X0.heap.size) : CatR X0 l v y := by
  obtain ⟨A, c, h2, h3⟩ := h; exact ⟨A, c, h2, own_kept_lt h3 hg h1⟩
set_option maxRecDepth 100000 in
set_option maxHeartbeats 16000000 in
theorem l7Bin_any (F : Nat → Prop) (A : Option Addr) (c : Nat) (k : N × Bool) (op : Int) (X Y : Option Addr) (cx cy : Nat) (xs ys : List Int) (w : World) (h : Lay.gate.Sl w F A k.1.gs) (hF : ∀ b, F b → b < w.heap.size) (hA : A = none → k.1.gs.length = 0) (hnb : NB k.1) (hop : 3 ≤ op ∧ op ≤ 14) (hX : Lay.int.Rd w X xs) (hY : Lay.int.Rd w Y ys) (hxm : ∀ x ∈ xs, RB x) (hym : ∀ y ∈ ys, RB y) (hl : op ≠ 14 → xs.length = ys.length) (h0 : 0 < xs.length) (hn : xs.length ≤ 8) (hn' : ys.length ≤ 8) :
    Calls Tryz.prog 53 #[.agg #[.int .i64 k.1.ins, .slice A k.1.gs.length c, .bool k.2], .int .i64 op, .slice X xs.length cx, .slice Y ys.length cy] w (RetKL F w (run opsR (binP op xs ys) k)) := by
  have hk0 := KS.two (c := c) h hF hA
  have K0 := Lib.hid hk0
  have HF := Lib.hid hF
  have HNB := Lib.hid hnb
  have HX := Lib.hid (hX.up hk0.bel)
  have HY := Lib.hid (hY.up hk0.bel)
  have HXB : Hid (∀ x, Below w.heap.size w x → Lay.int.Rd x X xs ∧ Lay.int.Rd x Y ys) := Lib.hid fun x hx => ⟨hX.up hx, hY.up hx⟩
  have y0 := (cell_of_block hk0.var 0).1
  have y1 := (cell_of_block hk0.var 1).1
  have y2 := (cell_of_block hk0.var 2).1
  have HL := Lib.hid hl
  have HXM := Lib.hid hxm
  have HYM := Lib.hid hym
  have HG := Lib.hid h
  have HNIL := Lib.hid hA
  clear h hF hA hnb hX hY hxm hym hl hk0
  obtain ⟨op0, op1⟩ := hop
  have hops : op = 3 ∨ op = 4 ∨ op = 5 ∨ op = 6 ∨ op = 7 ∨ op = 8 ∨ op = 9 ∨ op = 10 ∨ op = 11 ∨ op = 12 ∨ op = 13 ∨ op = 14 := by omega
  clear op0 op1
  rcases hops with rfl | rfl | rfl | rfl | rfl | rfl | rfl | rfl | rfl | rfl | rfl | rfl
  · have HC := Lib.hid (l7Plain_3 _ A c k X Y cx cy xs ys _ K0.out.row (K0.out.lt HF.out) K0.out.nil HNB.out HX.out HY.out HXM.out HYM.out (HL.out (by decide)) (by omega))
    rw [show binP 3 xs ys = eachP (fun x y => .and x y .ret) xs ys from rfl]
    generalize run opsR (eachP (fun x y => .and x y .ret) xs ys) k = T at *
    go_enter Tryz.func53, Tryz.ntmps53
    go_wp2_with fail
    refine HC.out.mono ?_
    rintro e z9 ⟨A9, c9, B9, d9, rfl, hn9, hs9, hd9, hl9, hm9, hb9⟩
    have hr9 := (hb9.block _ (lt_of_block K0.out.res)).trans K0.out.res
    clear y0 y1 y2 HC
    have r0 := (cell_of_block hr9 0).1
    have rf0 := (cell_of_block hr9 0).2
    have r1 := (cell_of_block hr9 1).1
    have rf1 := (cell_of_block hr9 1).2
    have r2 := (cell_of_block hr9 2).1
    have rf2 := (cell_of_block hr9 2).2
    have HS9 := Lib.hid hs9
    have HB9 := Lib.hid hb9
    have HR9 := Lib.hid hr9
    have HL9 := Lib.hid hl9
    have HM9 := Lib.hid hm9
    have HN9 := Lib.hid hn9
    clear hs9 hb9 hr9 hl9 hm9 hn9
    go_wp2
    have hs := st3_same HR9.out (.int .i64 T.1.1.ins) (.slice A9 T.1.1.gs.length c9) (.bool T.1.2)
    have k5 := (cell_of_block hs 0).1
    have kf5 := (cell_of_block hs 0).2
    have k6 := (cell_of_block hs 1).1
    have kf6 := (cell_of_block hs 1).2
    have k7 := (cell_of_block hs 2).1
    have kf7 := (cell_of_block hs 2).2
    refine bodyPost_ret (v := .tuple #[.agg #[.int .i64 T.1.1.ins, .slice A9 T.1.1.gs.length c9, .bool T.1.2], .slice B9 T.2.length d9]) (by simp [results, Tryz.results53, go_sem, k5, k6, k7, kf5, kf6, kf7]) rfl ?_
    exact K0.out.outL HF.out HS9.out HB9.out HN9.out hd9 HL9.out HM9.out
  · have HC := Lib.hid (l7Plain_4 _ A c k X Y cx cy xs ys _ K0.out.row (K0.out.lt HF.out) K0.out.nil HNB.out HX.out HY.out HXM.out HYM.out (HL.out (by decide)) (by omega))
    rw [show binP 4 xs ys = eachP orP xs ys from rfl]
    generalize run opsR (eachP orP xs ys) k = T at *
    go_enter Tryz.func53, Tryz.ntmps53
    go_wp2_with fail
    refine HC.out.mono ?_
    rintro e z9 ⟨A9, c9, B9, d9, rfl, hn9, hs9, hd9, hl9, hm9, hb9⟩
    have hr9 := (hb9.block _ (lt_of_block K0.out.res)).trans K0.out.res
    clear y0 y1 y2 HC
    have r0 := (cell_of_block hr9 0).1
    have rf0 := (cell_of_block hr9 0).2
    have r1 := (cell_of_block hr9 1).1
    have rf1 := (cell_of_block hr9 1).2
    have r2 := (cell_of_block hr9 2).1
    have rf2 := (cell_of_block hr9 2).2
    have HS9 := Lib.hid hs9
    have HB9 := Lib.hid hb9
    have HR9 := Lib.hid hr9
    have HL9 := Lib.hid hl9
    have HM9 := Lib.hid hm9
    have HN9 := Lib.hid hn9
    clear hs9 hb9 hr9 hl9 hm9 hn9
    go_wp2
    have hs := st3_same HR9.out (.int .i64 T.1.1.ins) (.slice A9 T.1.1.gs.length c9) (.bool T.1.2)
    have k5 := (cell_of_block hs 0).1
    have kf5 := (cell_of_block hs 0).2
    have k6 := (cell_of_block hs 1).1
    have kf6 := (cell_of_block hs 1).2
    have k7 := (cell_of_block hs 2).1
    have kf7 := (cell_of_block hs 2).2
    refine bodyPost_ret (v := .tuple #[.agg #[.int .i64 T.1.1.ins, .slice A9 T.1.1.gs.length c9, .bool T.1.2], .slice B9 T.2.length d9]) (by simp [results, Tryz.results53, go_sem, k5, k6, k7, kf5, kf6, kf7]) rfl ?_
    exact K0.out.outL HF.out HS9.out HB9.out HN9.out hd9 HL9.out HM9.out
  · have HC := Lib.hid (l7Plain_5 _ A c k X Y cx cy xs ys _ K0.out.row (K0.out.lt HF.out) K0.out.nil HNB.out HX.out HY.out HXM.out HYM.out (HL.out (by decide)) (by omega))
    rw [show binP 5 xs ys = eachP (fun x y => .xor x y .ret) xs ys from rfl]
    generalize run opsR (eachP (fun x y => .xor x y .ret) xs ys) k = T at *
    go_enter Tryz.func53, Tryz.ntmps53
    go_wp2_with fail
    refine HC.out.mono ?_
    rintro e z9 ⟨A9, c9, B9, d9, rfl, hn9, hs9, hd9, hl9, hm9, hb9⟩
    have hr9 := (hb9.block _ (lt_of_block K0.out.res)).trans K0.out.res
    clear y0 y1 y2 HC
    have r0 := (cell_of_block hr9 0).1
    have rf0 := (cell_of_block hr9 0).2
    have r1 := (cell_of_block hr9 1).1
    have rf1 := (cell_of_block hr9 1).2
    have r2 := (cell_of_block hr9 2).1
    have rf2 := (cell_of_block hr9 2).2
    have HS9 := Lib.hid hs9
    have HB9 := Lib.hid hb9
    have HR9 := Lib.hid hr9
    have HL9 := Lib.hid hl9
    have HM9 := Lib.hid hm9
    have HN9 := Lib.hid hn9
    clear hs9 hb9 hr9 hl9 hm9 hn9
    go_wp2
    have hs := st3_same HR9.out (.int .i64 T.1.1.ins) (.slice A9 T.1.1.gs.length c9) (.bool T.1.2)
    have k5 := (cell_of_block hs 0).1
    have kf5 := (cell_of_block hs 0).2
    have k6 := (cell_of_block hs 1).1
    have kf6 := (cell_of_block hs 1).2
    have k7 := (cell_of_block hs 2).1
    have kf7 := (cell_of_block hs 2).2
    refine bodyPost_ret (v := .tuple #[.agg #[.int .i64 T.1.1.ins, .slice A9 T.1.1.gs.length c9, .bool T.1.2], .slice B9 T.2.length d9]) (by simp [results, Tryz.results53, go_sem, k5, k6, k7, kf5, kf6, kf7]) rfl ?_
    exact K0.out.outL HF.out HS9.out HB9.out HN9.out hd9 HL9.out HM9.out
  · have HC := Lib.hid (l7Add_any _ A c k (-1) X Y cx cy xs ys _ K0.out.row (K0.out.lt HF.out) K0.out.nil HNB.out bok_rb.off HX.out HY.out HXM.out HYM.out (HL.out (by decide)) (by omega))
    rw [show binP 6 xs ys = sumP xs ys (-1) from rfl]
    generalize run opsR (sumP xs ys (-1)) k = T at *
    go_enter Tryz.func53, Tryz.ntmps53
    go_wp2_with fail
    refine HC.out.mono ?_
    rintro e z9 ⟨A9, c9, B9, d9, rfl, hn9, hs9, hd9, hl9, hm9, hb9⟩
    have hr9 := (hb9.block _ (lt_of_block K0.out.res)).trans K0.out.res
    clear y0 y1 y2 HC
    have r0 := (cell_of_block hr9 0).1
    have rf0 := (cell_of_block hr9 0).2
    have r1 := (cell_of_block hr9 1).1
    have rf1 := (cell_of_block hr9 1).2
    have r2 := (cell_of_block hr9 2).1
    have rf2 := (cell_of_block hr9 2).2
    have HS9 := Lib.hid hs9
    have HB9 := Lib.hid hb9
    have HR9 := Lib.hid hr9
    have HL9 := Lib.hid hl9
    have HM9 := Lib.hid hm9
    have HN9 := Lib.hid hn9
    clear hs9 hb9 hr9 hl9 hm9 hn9
    go_wp2
    have hs := st3_same HR9.out (.int .i64 T.1.1.ins) (.slice A9 T.1.1.gs.length c9) (.bool T.1.2)
    have k5 := (cell_of_block hs 0).1
    have kf5 := (cell_of_block hs 0).2
    have k6 := (cell_of_block hs 1).1
    have kf6 := (cell_of_block hs 1).2
    have k7 := (cell_of_block hs 2).1
    have kf7 := (cell_of_block hs 2).2
    refine bodyPost_ret (v := .tuple #[.agg #[.int .i64 T.1.1.ins, .slice A9 T.1.1.gs.length c9, .bool T.1.2], .slice B9 T.2.length d9]) (by simp [results, Tryz.results53, go_sem, k5, k6, k7, kf5, kf6, kf7]) rfl ?_
    exact K0.out.outL HF.out HS9.out HB9.out HN9.out hd9 HL9.out HM9.out
  · obtain ⟨ns, hns⟩ : ∃ ns, ns = ys.map Neg.neg := ⟨_, rfl⟩
    have HNR : Hid (∀ m ∈ ns, RB m) := Lib.hid fun m hm => by
      rw [hns] at hm
      obtain ⟨x, hx, rfl⟩ := List.mem_map.1 hm
      exact (HYM.out x hx).neg
    have HNSL : Hid (xs.length = ns.length) := Lib.hid (by rw [hns, List.length_map]; exact HL.out (by decide))
    have HTU := Lib.hid (fun (x9 : World) (h9 : Lay.int.Rd x9 Y ys) => l7Turn_any Y cy ys x9 h9 HYM.out (by omega))
    rw [← hns] at HTU
    rw [show binP 7 xs ys = sumP xs (ys.map Neg.neg) 1 from rfl, ← hns]
    have HADD := Lib.hid (fun (Y9 : Option Addr) (cy9 : Nat) (x9 : World) (h1 : Lay.gate.Sl x9 F A k.1.gs) (h2 : ∀ b, F b → b < x9.heap.size) (h4 : Lay.int.Rd x9 X xs) (h5 : Lay.int.Rd x9 Y9 ns) => l7Add_any F A c k 1 X Y9 cx cy9 xs ns x9 h1 h2 HNIL.out HNB.out bok_rb.one h4 h5 HXM.out HNR.out HNSL.out (by omega))
    generalize hT : run opsR (sumP xs ns 1) k = T at *
    clear hT hns
    have HUN := Lib.hid (show UnI F w ((w.alloc (.cells #[.int .i64 k.1.ins, .slice A k.1.gs.length c, .bool k.2] 95)).alloc (.cells #[.int .i64 0, .slice none 0 0, .bool false] 95)) k A c T.1 false ((w.alloc (.cells #[.int .i64 k.1.ins, .slice A k.1.gs.length c, .bool k.2] 95)).alloc (.cells #[.int .i64 0, .slice none 0 0, .bool false] 95)) from ⟨K0.out.bel, K0.out.var, fun _ => K0.out.res, fun h => (by cases h), HG.out.below K0.out.bel HF.out, Nat.le_refl _⟩)
    have HXS := Lib.hid (show w.heap.size + 1 < ((w.alloc (.cells #[.int .i64 k.1.ins, .slice A k.1.gs.length c, .bool k.2] 95)).alloc (.cells #[.int .i64 0, .slice none 0 0, .bool false] 95)).heap.size by simp)
    have HFX := Lib.hid (show ∀ b, F b → b < ((w.alloc (.cells #[.int .i64 k.1.ins, .slice A k.1.gs.length c, .bool k.2] 95)).alloc (.cells #[.int .i64 0, .slice none 0 0, .bool false] 95)).heap.size from fun b hb => by have := HF.out b hb; simp; omega)
    have HNG : Hid (¬ F (w.heap.size + 1)) := Lib.hid fun h9 => by have := HF.out _ h9; omega
    clear y0 y1 y2 K0 HX HY
    go_enter Tryz.func53, Tryz.ntmps53
    go_wp2
    generalize hX0 : (w.alloc (.cells #[.int .i64 k.1.ins, .slice A k.1.gs.length c, .bool k.2] 95)).alloc (.cells #[.int .i64 0, .slice none 0 0, .bool false] 95) = X0 at *
    clear hX0
    have HBX : Hid (∀ x b, UnI F w X0 k A c T.1 b x → Lay.int.Rd x X xs ∧ Lay.int.Rd x Y ys) := Lib.hid fun x b hx => HXB.out x hx.1
    refine wp_region_rel4 [[], [], [], [(2, 29)], [(0, 27), (1, 28), (3, 30)], [(4, 31)], [(4, 31)], [(5, 32)], [(6, 33)]]
      (fun x9 y9 => Below x9.heap.size x9 y9)
      [(7, fun x9 y9 => x9.grownBy y9 (some (w.heap.size + 1)))]
      (fun f9 x9 => UnI F w X0 k A c T.1 (f9 7) x9)
      [fun vs9 _ => vs9 0 = (.agg #[.int .i64 k.1.ins, .slice A k.1.gs.length c, .bool k.2]),
        fun vs9 _ => vs9 1 = (.slice X xs.length cx),
        fun vs9 _ => vs9 2 = (.slice Y ys.length cy),
        fun vs9 y9 => (fun v z => URow X0 ns v z) (vs9 3) y9,
        fun vs9 y9 => (fun v z => UTup F X0 T v z ∧ ∀ m ∈ T.2, RB m) (vs9 4) y9,
        fun vs9 y9 => (fun v z => UNet F X0 T.1 v z) (vs9 5) y9,
        fun vs9 y9 => (fun v z => URow X0 T.2 v z ∧ ∀ m ∈ T.2, RB m) (vs9 6) y9,
        fun _ _ => True,
        fun vs9 y9 => (fun v z => URow X0 T.2 v z ∧ ∀ m ∈ T.2, RB m) (vs9 8) y9]
      [(0, 27), (1, 28), (2, 29), (3, 30), (4, 31), (5, 32), (6, 33), (8, 9)] (by kernel_rfl) (by kernel_rfl) (by kernel_rfl) (by kernel_rfl)
      (fun _ => Below.refl _ _) ⟨fun _ => World.grownBy.refl _ _, trivial⟩
      ⟨⟨.inr (fun _ _ _ h _ => h), ⟨.inr (.inr (fun _ _ _ h _ => h)), trivial⟩⟩,
        ⟨.inr (fun _ _ _ h _ => h), ⟨.inr (.inr (fun _ _ _ h _ => h)), trivial⟩⟩,
        ⟨.inr (fun _ _ _ h _ => h), ⟨.inr (.inr (fun _ _ _ h _ => h)), trivial⟩⟩,
        ⟨.inr (fun vs9 x9 y9 h9 hR9 => (show ∀ v9 y8 y7, (fun v z => URow X0 ns v z) v9 y8 → (fun x9 y9 => Below x9.heap.size x9 y9) y8 y7 → (fun v z => URow X0 ns v z) v9 y7 from fun _ _ _ h9 hR => h9.up hR) (vs9 3) x9 y9 h9 hR9), ⟨.inr (.inr (fun vs9 x9 y9 h9 hR9 => (show ∀ v9 y8 y7, (fun v z => URow X0 ns v z) v9 y8 → (fun x9 y9 => x9.grownBy y9 (some (w.heap.size + 1))) y8 y7 → (fun v z => URow X0 ns v z) v9 y7 from fun _ _ _ h9 hR => h9.st hR HXS.out) (vs9 3) x9 y9 h9 hR9)), trivial⟩⟩,
        ⟨.inr (fun vs9 x9 y9 h9 hR9 => (show ∀ v9 y8 y7, (fun v z => UTup F X0 T v z ∧ ∀ m ∈ T.2, RB m) v9 y8 → (fun x9 y9 => Below x9.heap.size x9 y9) y8 y7 → (fun v z => UTup F X0 T v z ∧ ∀ m ∈ T.2, RB m) v9 y7 from fun _ _ _ h9 hR => ⟨h9.1.up HFX.out hR, h9.2⟩) (vs9 4) x9 y9 h9 hR9), ⟨.inr (.inr (fun vs9 x9 y9 h9 hR9 => (show ∀ v9 y8 y7, (fun v z => UTup F X0 T v z ∧ ∀ m ∈ T.2, RB m) v9 y8 → (fun x9 y9 => x9.grownBy y9 (some (w.heap.size + 1))) y8 y7 → (fun v z => UTup F X0 T v z ∧ ∀ m ∈ T.2, RB m) v9 y7 from fun _ _ _ h9 hR => ⟨h9.1.st HFX.out hR HXS.out HNG.out, h9.2⟩) (vs9 4) x9 y9 h9 hR9)), trivial⟩⟩,
        ⟨.inr (fun vs9 x9 y9 h9 hR9 => (show ∀ v9 y8 y7, (fun v z => UNet F X0 T.1 v z) v9 y8 → (fun x9 y9 => Below x9.heap.size x9 y9) y8 y7 → (fun v z => UNet F X0 T.1 v z) v9 y7 from fun _ _ _ h9 hR => h9.up HFX.out hR) (vs9 5) x9 y9 h9 hR9), ⟨.inr (.inr (fun vs9 x9 y9 h9 hR9 => (show ∀ v9 y8 y7, (fun v z => UNet F X0 T.1 v z) v9 y8 → (fun x9 y9 => x9.grownBy y9 (some (w.heap.size + 1))) y8 y7 → (fun v z => UNet F X0 T.1 v z) v9 y7 from fun _ _ _ h9 hR => h9.st HFX.out hR HXS.out HNG.out) (vs9 5) x9 y9 h9 hR9)), trivial⟩⟩,
        ⟨.inr (fun vs9 x9 y9 h9 hR9 => (show ∀ v9 y8 y7, (fun v z => URow X0 T.2 v z ∧ ∀ m ∈ T.2, RB m) v9 y8 → (fun x9 y9 => Below x9.heap.size x9 y9) y8 y7 → (fun v z => URow X0 T.2 v z ∧ ∀ m ∈ T.2, RB m) v9 y7 from fun _ _ _ h9 hR => ⟨h9.1.up hR, h9.2⟩) (vs9 6) x9 y9 h9 hR9), ⟨.inr (.inr (fun vs9 x9 y9 h9 hR9 => (show ∀ v9 y8 y7, (fun v z => URow X0 T.2 v z ∧ ∀ m ∈ T.2, RB m) v9 y8 → (fun x9 y9 => x9.grownBy y9 (some (w.heap.size + 1))) y8 y7 → (fun v z => URow X0 T.2 v z ∧ ∀ m ∈ T.2, RB m) v9 y7 from fun _ _ _ h9 hR => ⟨h9.1.st hR HXS.out, h9.2⟩) (vs9 6) x9 y9 h9 hR9)), trivial⟩⟩,
        ⟨.inr (fun _ _ _ h _ => h), ⟨.inr (.inl rfl), trivial⟩⟩,
        ⟨.inr (fun vs9 x9 y9 h9 hR9 => (show ∀ v9 y8 y7, (fun v z => URow X0 T.2 v z ∧ ∀ m ∈ T.2, RB m) v9 y8 → (fun x9 y9 => Below x9.heap.size x9 y9) y8 y7 → (fun v z => URow X0 T.2 v z ∧ ∀ m ∈ T.2, RB m) v9 y7 from fun _ _ _ h9 hR => ⟨h9.1.up hR, h9.2⟩) (vs9 8) x9 y9 h9 hR9), ⟨.inr (.inr (fun vs9 x9 y9 h9 hR9 => (show ∀ v9 y8 y7, (fun v z => URow X0 T.2 v z ∧ ∀ m ∈ T.2, RB m) v9 y8 → (fun x9 y9 => x9.grownBy y9 (some (w.heap.size + 1))) y8 y7 → (fun v z => URow X0 T.2 v z ∧ ∀ m ∈ T.2, RB m) v9 y7 from fun _ _ _ h9 hR => ⟨h9.1.st hR HXS.out, h9.2⟩) (vs9 8) x9 y9 h9 hR9)), trivial⟩⟩, trivial⟩ ⟨fun vs vs' x h _ hv => (by dsimp only at hv ⊢; first | (rw [← h]; exact hv) | exact hv),
        fun vs vs' x h _ hv => (by dsimp only at hv ⊢; first | (rw [← h]; exact hv) | exact hv),
        fun vs vs' x h _ hv => (by dsimp only at hv ⊢; first | (rw [← h]; exact hv) | exact hv),
        fun vs vs' x h _ hv => (by dsimp only at hv ⊢; first | (rw [← h]; exact hv) | exact hv),
        fun vs vs' x h _ hv => (by dsimp only at hv ⊢; first | (rw [← h]; exact hv) | exact hv),
        fun vs vs' x h _ hv => (by dsimp only at hv ⊢; first | (rw [← h]; exact hv) | exact hv),
        fun vs vs' x h _ hv => (by dsimp only at hv ⊢; first | (rw [← h]; exact hv) | exact hv),
        fun _ _ _ _ _ _ => trivial,
        fun vs vs' x h _ hv => (by dsimp only at hv ⊢; first | (rw [← h]; exact hv) | exact hv), trivial⟩ (HUN.out.up HF.out (below_drewN (Below.refl _ _) 1)) ⟨?_, ?_, ?_, ?_, ?_, ?_, ?_, ?_, ?_, trivial⟩ ?_
    · intro vals xw f hf1 hf2 hf3 hI hF
      clear hf2 hf3
      dsimp only [owes4, bare]
      simp only [putsD, Act.put, List.setIfInBounds_toArray, List.set_cons_zero, List.set_cons_succ]
      have hv9 := hI.2.1
      have y0 := (cell_of_block hv9 0).1
      have y1 := (cell_of_block hv9 1).1
      have y2 := (cell_of_block hv9 2).1
      go_wp2
      exact ⟨rfl, rfl, ⟨fun h9 => absurd h9 (Nat.ne_of_beq_eq_false rfl), fun _ => Below.refl _ _⟩, hI⟩
    · intro vals xw f hf1 hf2 hf3 hI hF
      clear hf2 hf3
      dsimp only [owes4, bare]
      simp only [putsD, Act.put, List.setIfInBounds_toArray, List.set_cons_zero, List.set_cons_succ]
      go_wp2
      exact ⟨rfl, rfl, ⟨fun h9 => absurd h9 (Nat.ne_of_beq_eq_false rfl), fun _ => Below.refl _ _⟩, hI⟩
    · intro vals xw f hf1 hf2 hf3 hI hF
      clear hf2 hf3
      dsimp only [owes4, bare]
      simp only [putsD, Act.put, List.setIfInBounds_toArray, List.set_cons_zero, List.set_cons_succ]
      go_wp2
      exact ⟨rfl, rfl, ⟨fun h9 => absurd h9 (Nat.ne_of_beq_eq_false rfl), fun _ => Below.refl _ _⟩, hI⟩
    · intro vals xw f hf1 hf2 hf3 hI hF
      clear hf2 hf3
      simp only [saysD, List.getD_cons_zero, List.getD_cons_succ, and_true] at hF
      have e1 := hF
      dsimp only [owes4, bare]
      simp only [putsD, Act.put, List.setIfInBounds_toArray, List.set_cons_zero, List.set_cons_succ]
      simp only [e1]
      have HI := Lib.hid hI
      have hb0 := (HBX.out xw _ hI).2
      have HB0 := Lib.hid hb0
      have hsz9 := hI.2.2.2.2.2
      clear hI hb0
      go_wp2_with fail
      refine (HTU.out xw HB0.out).mono ?_
      rintro e wx ⟨B9, d9, rfl, h2, h3, h4⟩
      have H3 := Lib.hid h3
      have H4 := Lib.hid h4
      clear h3 h4
      go_wp2
      exact ⟨rfl, ⟨B9, d9, rfl, h2, H3.out.mono fun b hb => .inr ⟨Nat.le_trans hsz9 hb.1, hb.2.1⟩⟩, ⟨fun h9 => absurd h9 (Nat.ne_of_beq_eq_false rfl), fun _ => H4.out⟩, HI.out.up HF.out H4.out⟩
    · intro vals xw f hf1 hf2 hf3 hI hF
      clear hf2 hf3
      simp only [saysD, List.getD_cons_zero, List.getD_cons_succ, and_true] at hF
      obtain ⟨e1, e2, ⟨B2, d2, e3, h4, h5⟩⟩ := hF
      dsimp only [owes4, bare]
      simp only [putsD, Act.put, List.setIfInBounds_toArray, List.set_cons_zero, List.set_cons_succ]
      simp only [e1, e2, e3]
      have HI := Lib.hid hI
      have hsz9 := hI.2.2.2.2.2
      have HC := Lib.hid (HADD.out B2 d2 xw hI.2.2.2.2.1 (fun b hb => Nat.lt_of_lt_of_le (HFX.out b hb) hsz9) (HBX.out xw _ hI).1 (h5.mono fun b hb => hb.elim (fun h => h.elim) (fun h => h.2)))
      clear hI h5
      go_wp2_with fail
      refine HC.out.mono ?_
      rintro e wx ⟨A9, c9, B9, d9, rfl, h6, h7, h8, h9, h10, h11⟩
      have H7 := Lib.hid h7
      have H9 := Lib.hid h9
      have H10 := Lib.hid h10
      have H11 := Lib.hid h11
      clear h7 h9 h10 h11 HC
      go_wp2
      exact ⟨rfl, ⟨⟨A9, c9, B9, d9, rfl, h6, H7.out.mono fun b hb => hb.imp id fun z => ⟨Nat.le_trans hsz9 z.1, z.2⟩, h8, H9.out.mono fun b hb => .inr ⟨Nat.le_trans hsz9 hb.1, hb.2⟩, Nat.le_trans hsz9 H11.out.size⟩, H10.out⟩, ⟨fun h9 => absurd h9 (Nat.ne_of_beq_eq_false rfl), fun _ => H11.out⟩, HI.out.up HF.out H11.out⟩
    · intro vals xw f hf1 hf2 hf3 hI hF
      clear hf2 hf3
      simp only [saysD, List.getD_cons_zero, List.getD_cons_succ, and_true] at hF
      obtain ⟨⟨A9, c9, B9, d9, e1, h2, h3, h4, h5, h6⟩, -⟩ := hF
      dsimp only [owes4, bare]
      simp only [putsD, Act.put, List.setIfInBounds_toArray, List.set_cons_zero, List.set_cons_succ]
      simp only [e1]
      go_wp2
      exact ⟨rfl, ⟨A9, c9, rfl, h2, h3, h6⟩, ⟨fun h9 => absurd h9 (Nat.ne_of_beq_eq_false rfl), fun _ => Below.refl _ _⟩, hI⟩
    · intro vals xw f hf1 hf2 hf3 hI hF
      clear hf2 hf3
      simp only [saysD, List.getD_cons_zero, List.getD_cons_succ, and_true] at hF
      obtain ⟨⟨A9, c9, B9, d9, e1, h2, h3, h4, h5, h6⟩, h7⟩ := hF
      dsimp only [owes4, bare]
      simp only [putsD, Act.put, List.setIfInBounds_toArray, List.set_cons_zero, List.set_cons_succ]
      simp only [e1]
      go_wp2
      exact ⟨rfl, ⟨⟨B9, d9, rfl, h4, h5⟩, h7⟩, ⟨fun h9 => absurd h9 (Nat.ne_of_beq_eq_false rfl), fun _ => Below.refl _ _⟩, hI⟩
    · intro vals xw f hf1 hf2 hf3 hI hF
      clear hf2 hf3
      simp only [saysD, List.getD_cons_zero, List.getD_cons_succ, and_true] at hF
      obtain ⟨A9, c9, e1, h2, h3, h4⟩ := hF
      dsimp only [owes4, bare]
      simp only [putsD, Act.put, List.setIfInBounds_toArray, List.set_cons_zero, List.set_cons_succ]
      simp only [e1]
      rw [hf1] at hI
      have HI := Lib.hid hI
      have hr9 := hI.2.2.1 rfl
      have r0 := (cell_of_block hr9 0).1
      have r1 := (cell_of_block hr9 1).1
      have r2 := (cell_of_block hr9 2).1
      have rf0 := (cell_of_block hr9 0).2
      have rf1 := (cell_of_block hr9 1).2
      have rf2 := (cell_of_block hr9 2).2
      have H3 := Lib.hid h3
      clear hI hr9 h3 h4
      go_wp2
      have hst := HI.out.st (A2 := A9) (c2 := c9) HF.out HXS.out H3.out h2
      exact ⟨rfl, trivial, ⟨fun _ => hst.2, fun h9 => absurd rfl h9⟩, show UnI F w X0 k A c T.1 (did f 7 7) _ from (by rw [did_same]; exact hst.1)⟩
    · intro vals xw f hf1 hf2 hf3 hI hF
      clear hf2 hf3
      simp only [saysD, List.getD_cons_zero, List.getD_cons_succ, and_true] at hF
      obtain ⟨⟨B9, d9, e1, h2, h3⟩, h7⟩ := hF
      dsimp only [owes4, bare]
      simp only [putsD, Act.put, List.setIfInBounds_toArray, List.set_cons_zero, List.set_cons_succ]
      simp only [e1]
      go_wp2
      exact ⟨rfl, ⟨⟨B9, d9, rfl, h2, h3⟩, h7⟩, ⟨fun h9 => absurd h9 (Nat.ne_of_beq_eq_false rfl), fun _ => Below.refl _ _⟩, hI⟩
    · intro vals xw f hall hI hF
      rw [show List.range _ = [0, 1, 2, 3, 4, 5, 6, 7, 8] from rfl] at hF
      simp only [says, List.getD_cons_zero, List.getD_cons_succ, and_true] at hF
      have i9 : UnI F w X0 k A c T.1 (f 7) xw := hI
      rw [hall 7 (by decide)] at i9
      obtain ⟨i1, i2, _, i4, i5, i6⟩ := i9
      obtain ⟨A8, c8, g1, g2, g3⟩ := i4 rfl
      have hrow9 : URow X0 T.2 (vals 8) xw ∧ ∀ m ∈ T.2, RB m := by obtain ⟨_, _, _, _, _, _, _, _, h9⟩ := hF; exact h9
      have HRB9 := Lib.hid hrow9.2
      obtain ⟨B8, d8, e8, hd8, hs8⟩ := hrow9.1
      clear hrow9
      simp only [putsD, Act.put, List.setIfInBounds_toArray, List.set_cons_zero, List.set_cons_succ]
      simp only [e8]
      have k5 := (cell_of_block g1 0).1
      have k6 := (cell_of_block g1 1).1
      have k7 := (cell_of_block g1 2).1
      have kf5 := (cell_of_block g1 0).2
      have kf6 := (cell_of_block g1 1).2
      have kf7 := (cell_of_block g1 2).2
      have I1 := Lib.hid i1
      have G3 := Lib.hid g3
      have HS8 := Lib.hid hs8
      clear hI hF i1 i2 i4 i5 g1 g3 hs8 e8
      go_wp2
      refine bodyPost_ret (v := .tuple #[.agg #[.int .i64 T.1.1.ins, .slice A8 T.1.1.gs.length c8, .bool T.1.2], .slice B8 (T.2).length d8]) (by simp [results, Tryz.results53, go_sem, k5, k6, k7, kf5, kf6, kf7]) rfl ?_
      exact ⟨A8, c8, B8, d8, rfl, g2, G3.out.mono fun b hb => hb.imp id fun h9 => ⟨by have := HXS.out; omega, h9.2⟩, hd8, HS8.out.mono fun b hb => hb.elim (fun h => h.elim) fun h9 => ⟨by have := HXS.out; omega, h9.2⟩, HRB9.out, I1.out⟩
  · have HC := Lib.hid (l7Mul_any _ A c k X Y cx cy xs ys _ K0.out.row (K0.out.lt HF.out) K0.out.nil HNB.out HX.out HY.out HXM.out HYM.out (HL.out (by decide)) (by omega))
    rw [show binP 8 xs ys = mulP xs ys 0 (List.replicate xs.length (-1)) from rfl]
    generalize run opsR (mulP xs ys 0 (List.replicate xs.length (-1))) k = T at *
    go_enter Tryz.func53, Tryz.ntmps53
    go_wp2_with fail
    refine HC.out.mono ?_
    rintro e z9 ⟨A9, c9, B9, d9, rfl, hn9, hs9, hd9, hl9, hm9, hb9⟩
    have hr9 := (hb9.block _ (lt_of_block K0.out.res)).trans K0.out.res
    clear y0 y1 y2 HC
    have r0 := (cell_of_block hr9 0).1
    have rf0 := (cell_of_block hr9 0).2
    have r1 := (cell_of_block hr9 1).1
    have rf1 := (cell_of_block hr9 1).2
    have r2 := (cell_of_block hr9 2).1
    have rf2 := (cell_of_block hr9 2).2
    have HS9 := Lib.hid hs9
    have HB9 := Lib.hid hb9
    have HR9 := Lib.hid hr9
    have HL9 := Lib.hid hl9
    have HM9 := Lib.hid hm9
    have HN9 := Lib.hid hn9
    clear hs9 hb9 hr9 hl9 hm9 hn9
    go_wp2
    have hs := st3_same HR9.out (.int .i64 T.1.1.ins) (.slice A9 T.1.1.gs.length c9) (.bool T.1.2)
    have k5 := (cell_of_block hs 0).1
    have kf5 := (cell_of_block hs 0).2
    have k6 := (cell_of_block hs 1).1
    have kf6 := (cell_of_block hs 1).2
    have k7 := (cell_of_block hs 2).1
    have kf7 := (cell_of_block hs 2).2
    refine bodyPost_ret (v := .tuple #[.agg #[.int .i64 T.1.1.ins, .slice A9 T.1.1.gs.length c9, .bool T.1.2], .slice B9 T.2.length d9]) (by simp [results, Tryz.results53, go_sem, k5, k6, k7, kf5, kf6, kf7]) rfl ?_
    exact K0.out.outL HF.out HS9.out HB9.out HN9.out hd9 HL9.out HM9.out
  · have HC := Lib.hid (l7Div_any _ A c k X Y cx cy xs ys _ K0.out.row (K0.out.lt HF.out) K0.out.nil HNB.out HX.out HY.out HXM.out HYM.out (HL.out (by decide)) (by omega))
    rw [show run opsR (binP 9 xs ys) k = ((run opsR (divP xs (ys ++ [-1]) xs.length (List.replicate xs.length (-1)) (List.replicate xs.length (-1))) k).1, (run opsR (divP xs (ys ++ [-1]) xs.length (List.replicate xs.length (-1)) (List.replicate xs.length (-1))) k).2.1) from by rw [show binP 9 xs ys = (divP xs (ys ++ [-1]) xs.length (List.replicate xs.length (-1)) (List.replicate xs.length (-1))).bind fun z => .ret z.1 from rfl, run_bind]; rfl]
    generalize run opsR (divP xs (ys ++ [-1]) xs.length (List.replicate xs.length (-1)) (List.replicate xs.length (-1))) k = T at *
    go_enter Tryz.func53, Tryz.ntmps53
    go_wp2_with fail
    refine HC.out.mono ?_
    rintro e z9 ⟨A9, c9, B8, d8, B7, d7, rfl, hn9, hs9, hd8, hd7, hl8, hl7, hm8, hm7, hb9⟩
    have hr9 := (hb9.block _ (lt_of_block K0.out.res)).trans K0.out.res
    clear y0 y1 y2 HC
    have hlt9 : w.heap.size + 1 < z9.heap.size := lt_of_block hr9
    have r0 := (cell_of_block hr9 0).1
    have rf0 := (cell_of_block hr9 0).2
    have r1 := (cell_of_block hr9 1).1
    have rf1 := (cell_of_block hr9 1).2
    have r2 := (cell_of_block hr9 2).1
    have rf2 := (cell_of_block hr9 2).2
    have HS9 := Lib.hid hs9
    have HB9 := Lib.hid hb9
    have HR9 := Lib.hid hr9
    have HL9 := Lib.hid hl8
    have HM9 := Lib.hid hm8
    have HN9 := Lib.hid hn9
    clear hs9 hb9 hr9 hl8 hm8 hl7 hm7 hn9
    go_wp2
    have hs0 := st3_same HR9.out (.int .i64 T.1.1.ins) (.slice A9 T.1.1.gs.length c9) (.bool T.1.2)
    have hal9 : Below (st3 z9 (w.heap.size + 1) (.int .i64 T.1.1.ins) (.slice A9 T.1.1.gs.length c9) (.bool T.1.2)).heap.size (st3 z9 (w.heap.size + 1) (.int .i64 T.1.1.ins) (.slice A9 T.1.1.gs.length c9) (.bool T.1.2)) ((st3 z9 (w.heap.size + 1) (.int .i64 T.1.1.ins) (.slice A9 T.1.1.gs.length c9) (.bool T.1.2)).alloc (.cells #[.int .i64 T.1.1.ins, .slice A9 T.1.1.gs.length c9, .bool T.1.2] 95)) := (Below.refl _ _).alloc (Nat.le_refl _) _
    have hs := (hal9.block _ (lt_of_block hs0)).trans hs0
    have k5 := (cell_of_block hs 0).1
    have kf5 := (cell_of_block hs 0).2
    have k6 := (cell_of_block hs 1).1
    have kf6 := (cell_of_block hs 1).2
    have k7 := (cell_of_block hs 2).1
    have kf7 := (cell_of_block hs 2).2
    refine bodyPost_ret (v := .tuple #[.agg #[.int .i64 T.1.1.ins, .slice A9 T.1.1.gs.length c9, .bool T.1.2], .slice B8 T.2.1.length d8]) (by simp [results, Tryz.results53, go_sem, k5, k6, k7, kf5, kf6, kf7]) rfl ?_
    exact (K0.out.outL HF.out HS9.out HB9.out HN9.out hd8 HL9.out HM9.out).up HF.out hal9
  · have HC := Lib.hid (l7Div_any _ A c k X Y cx cy xs ys _ K0.out.row (K0.out.lt HF.out) K0.out.nil HNB.out HX.out HY.out HXM.out HYM.out (HL.out (by decide)) (by omega))
    rw [show run opsR (binP 10 xs ys) k = ((run opsR (divP xs (ys ++ [-1]) xs.length (List.replicate xs.length (-1)) (List.replicate xs.length (-1))) k).1, (run opsR (divP xs (ys ++ [-1]) xs.length (List.replicate xs.length (-1)) (List.replicate xs.length (-1))) k).2.2) from by rw [show binP 10 xs ys = (divP xs (ys ++ [-1]) xs.length (List.replicate xs.length (-1)) (List.replicate xs.length (-1))).bind fun z => .ret z.2 from rfl, run_bind]; rfl]
    generalize run opsR (divP xs (ys ++ [-1]) xs.length (List.replicate xs.length (-1)) (List.replicate xs.length (-1))) k = T at *
    go_enter Tryz.func53, Tryz.ntmps53
    go_wp2_with fail
    refine HC.out.mono ?_
    rintro e z9 ⟨A9, c9, B8, d8, B7, d7, rfl, hn9, hs9, hd8, hd7, hl8, hl7, hm8, hm7, hb9⟩
    have hr9 := (hb9.block _ (lt_of_block K0.out.res)).trans K0.out.res
    clear y0 y1 y2 HC
    have hlt9 : w.heap.size + 1 < z9.heap.size := lt_of_block hr9
    have r0 := (cell_of_block hr9 0).1
    have rf0 := (cell_of_block hr9 0).2
    have r1 := (cell_of_block hr9 1).1
    have rf1 := (cell_of_block hr9 1).2
    have r2 := (cell_of_block hr9 2).1
    have rf2 := (cell_of_block hr9 2).2
    have HS9 := Lib.hid hs9
    have HB9 := Lib.hid hb9
    have HR9 := Lib.hid hr9
    have HL9 := Lib.hid hl7
    have HM9 := Lib.hid hm7
    have HN9 := Lib.hid hn9
    clear hs9 hb9 hr9 hl8 hm8 hl7 hm7 hn9
    go_wp2
    have hs0 := st3_same HR9.out (.int .i64 T.1.1.ins) (.slice A9 T.1.1.gs.length c9) (.bool T.1.2)
    have hal9 : Below (st3 z9 (w.heap.size + 1) (.int .i64 T.1.1.ins) (.slice A9 T.1.1.gs.length c9) (.bool T.1.2)).heap.size (st3 z9 (w.heap.size + 1) (.int .i64 T.1.1.ins) (.slice A9 T.1.1.gs.length c9) (.bool T.1.2)) ((st3 z9 (w.heap.size + 1) (.int .i64 T.1.1.ins) (.slice A9 T.1.1.gs.length c9) (.bool T.1.2)).alloc (.cells #[.int .i64 T.1.1.ins, .slice A9 T.1.1.gs.length c9, .bool T.1.2] 95)) := (Below.refl _ _).alloc (Nat.le_refl _) _
    have hs := (hal9.block _ (lt_of_block hs0)).trans hs0
    have k5 := (cell_of_block hs 0).1
    have kf5 := (cell_of_block hs 0).2
    have k6 := (cell_of_block hs 1).1
    have kf6 := (cell_of_block hs 1).2
    have k7 := (cell_of_block hs 2).1
    have kf7 := (cell_of_block hs 2).2
    refine bodyPost_ret (v := .tuple #[.agg #[.int .i64 T.1.1.ins, .slice A9 T.1.1.gs.length c9, .bool T.1.2], .slice B7 T.2.2.length d7]) (by simp [results, Tryz.results53, go_sem, k5, k6, k7, kf5, kf6, kf7]) rfl ?_
    exact (K0.out.outL HF.out HS9.out HB9.out HN9.out hd7 HL9.out HM9.out).up HF.out hal9
  · have HC := Lib.hid (l7Shift_11 _ A c k X Y cx cy xs ys _ K0.out.row (K0.out.lt HF.out) K0.out.nil HNB.out HX.out HY.out HXM.out HYM.out (by omega) (by omega))
    rw [show binP 11 xs ys = shiftP true (-1) ys 0 xs from rfl]
    generalize run opsR (shiftP true (-1) ys 0 xs) k = T at *
    go_enter Tryz.func53, Tryz.ntmps53
    go_wp2_with fail
    refine HC.out.mono ?_
    rintro e z9 ⟨A9, c9, B9, d9, rfl, hn9, hs9, hd9, hl9, hm9, hb9⟩
    have hr9 := (hb9.block _ (lt_of_block K0.out.res)).trans K0.out.res
    clear y0 y1 y2 HC
    have r0 := (cell_of_block hr9 0).1
    have rf0 := (cell_of_block hr9 0).2
    have r1 := (cell_of_block hr9 1).1
    have rf1 := (cell_of_block hr9 1).2
    have r2 := (cell_of_block hr9 2).1
    have rf2 := (cell_of_block hr9 2).2
    have HS9 := Lib.hid hs9
    have HB9 := Lib.hid hb9
    have HR9 := Lib.hid hr9
    have HL9 := Lib.hid hl9
    have HM9 := Lib.hid hm9
    have HN9 := Lib.hid hn9
    clear hs9 hb9 hr9 hl9 hm9 hn9
    go_wp2
    have hs := st3_same HR9.out (.int .i64 T.1.1.ins) (.slice A9 T.1.1.gs.length c9) (.bool T.1.2)
    have k5 := (cell_of_block hs 0).1
    have kf5 := (cell_of_block hs 0).2
    have k6 := (cell_of_block hs 1).1
    have kf6 := (cell_of_block hs 1).2
    have k7 := (cell_of_block hs 2).1
    have kf7 := (cell_of_block hs 2).2
    refine bodyPost_ret (v := .tuple #[.agg #[.int .i64 T.1.1.ins, .slice A9 T.1.1.gs.length c9, .bool T.1.2], .slice B9 T.2.length d9]) (by simp [results, Tryz.results53, go_sem, k5, k6, k7, kf5, kf6, kf7]) rfl ?_
    exact K0.out.outL HF.out HS9.out HB9.out HN9.out hd9 HL9.out HM9.out
  · have HC := Lib.hid (l7Shift_12 _ A c k X Y cx cy xs ys _ K0.out.row (K0.out.lt HF.out) K0.out.nil HNB.out HX.out HY.out HXM.out HYM.out (by omega) (by omega))
    rw [show binP 12 xs ys = shiftP false (-1) ys 0 xs from rfl]
    generalize run opsR (shiftP false (-1) ys 0 xs) k = T at *
    go_enter Tryz.func53, Tryz.ntmps53
    go_wp2_with fail
    refine HC.out.mono ?_
    rintro e z9 ⟨A9, c9, B9, d9, rfl, hn9, hs9, hd9, hl9, hm9, hb9⟩
    have hr9 := (hb9.block _ (lt_of_block K0.out.res)).trans K0.out.res
    clear y0 y1 y2 HC
    have r0 := (cell_of_block hr9 0).1
    have rf0 := (cell_of_block hr9 0).2
    have r1 := (cell_of_block hr9 1).1
    have rf1 := (cell_of_block hr9 1).2
    have r2 := (cell_of_block hr9 2).1
    have rf2 := (cell_of_block hr9 2).2
    have HS9 := Lib.hid hs9
    have HB9 := Lib.hid hb9
    have HR9 := Lib.hid hr9
    have HL9 := Lib.hid hl9
    have HM9 := Lib.hid hm9
    have HN9 := Lib.hid hn9
    clear hs9 hb9 hr9 hl9 hm9 hn9
    go_wp2
    have hs := st3_same HR9.out (.int .i64 T.1.1.ins) (.slice A9 T.1.1.gs.length c9) (.bool T.1.2)
    have k5 := (cell_of_block hs 0).1
    have kf5 := (cell_of_block hs 0).2
    have k6 := (cell_of_block hs 1).1
    have kf6 := (cell_of_block hs 1).2
    have k7 := (cell_of_block hs 2).1
    have kf7 := (cell_of_block hs 2).2
    refine bodyPost_ret (v := .tuple #[.agg #[.int .i64 T.1.1.ins, .slice A9 T.1.1.gs.length c9, .bool T.1.2], .slice B9 T.2.length d9]) (by simp [results, Tryz.results53, go_sem, k5, k6, k7, kf5, kf6, kf7]) rfl ?_
    exact K0.out.outL HF.out HS9.out HB9.out HN9.out hd9 HL9.out HM9.out
  · have HC := Lib.hid (l7Shift_13 _ A c k X Y cx cy xs ys (xs.getD (xs.length - 1) 0) (by rw [List.getD_eq_getElem?_getD, List.getElem?_eq_getElem (by omega : xs.length - 1 < xs.length)]; rfl) _ K0.out.row (K0.out.lt HF.out) K0.out.nil HNB.out HX.out HY.out HXM.out HYM.out (by omega) (by omega))
    rw [show binP 13 xs ys = shiftP false (xs.getD (xs.length - 1) 0) ys 0 xs from rfl]
    generalize run opsR (shiftP false (xs.getD (xs.length - 1) 0) ys 0 xs) k = T at *
    go_enter Tryz.func53, Tryz.ntmps53
    go_wp2_with fail
    refine HC.out.mono ?_
    rintro e z9 ⟨A9, c9, B9, d9, rfl, hn9, hs9, hd9, hl9, hm9, hb9⟩
    have hr9 := (hb9.block _ (lt_of_block K0.out.res)).trans K0.out.res
    clear y0 y1 y2 HC
    have r0 := (cell_of_block hr9 0).1
    have rf0 := (cell_of_block hr9 0).2
    have r1 := (cell_of_block hr9 1).1
    have rf1 := (cell_of_block hr9 1).2
    have r2 := (cell_of_block hr9 2).1
    have rf2 := (cell_of_block hr9 2).2
    have HS9 := Lib.hid hs9
    have HB9 := Lib.hid hb9
    have HR9 := Lib.hid hr9
    have HL9 := Lib.hid hl9
    have HM9 := Lib.hid hm9
    have HN9 := Lib.hid hn9
    clear hs9 hb9 hr9 hl9 hm9 hn9
    go_wp2
    have hs := st3_same HR9.out (.int .i64 T.1.1.ins) (.slice A9 T.1.1.gs.length c9) (.bool T.1.2)
    have k5 := (cell_of_block hs 0).1
    have kf5 := (cell_of_block hs 0).2
    have k6 := (cell_of_block hs 1).1
    have kf6 := (cell_of_block hs 1).2
    have k7 := (cell_of_block hs 2).1
    have kf7 := (cell_of_block hs 2).2
    refine bodyPost_ret (v := .tuple #[.agg #[.int .i64 T.1.1.ins, .slice A9 T.1.1.gs.length c9, .bool T.1.2], .slice B9 T.2.length d9]) (by simp [results, Tryz.results53, go_sem, k5, k6, k7, kf5, kf6, kf7]) rfl ?_
    exact K0.out.outL HF.out HS9.out HB9.out HN9.out hd9 HL9.out HM9.out
  · rw [show run opsR (binP 14 xs ys) k = (k, ys ++ xs) from rfl]
    obtain ⟨zs, hzs⟩ : ∃ zs, zs = ys ++ xs := ⟨_, rfl⟩
    rw [← hzs]
    have HZ := Lib.hid hzs
    have HZM : Hid (∀ m ∈ zs, RB m) := Lib.hid fun m hm => by rw [hzs] at hm; exact (List.mem_append.1 hm).elim (HYM.out m) (HXM.out m)
    clear hzs
    have HUN := Lib.hid (show CatI F w ((w.alloc (.cells #[.int .i64 k.1.ins, .slice A k.1.gs.length c, .bool k.2] 95)).alloc (.cells #[.int .i64 0, .slice none 0 0, .bool false] 95)) k A c false ((w.alloc (.cells #[.int .i64 k.1.ins, .slice A k.1.gs.length c, .bool k.2] 95)).alloc (.cells #[.int .i64 0, .slice none 0 0, .bool false] 95)) from ⟨K0.out.bel, K0.out.var, fun _ => K0.out.res, fun h => (by cases h), HG.out.below K0.out.bel HF.out, Nat.le_refl _⟩)
    have HXS := Lib.hid (show w.heap.size + 1 < ((w.alloc (.cells #[.int .i64 k.1.ins, .slice A k.1.gs.length c, .bool k.2] 95)).alloc (.cells #[.int .i64 0, .slice none 0 0, .bool false] 95)).heap.size by simp)
    have HXN := Lib.hid (rd_nil HX.out)
    have HYN := Lib.hid (rd_nil HY.out)
    clear y0 y1 y2 K0 HX HY HL
    go_enter Tryz.func53, Tryz.ntmps53
    go_wp2
    generalize hX0 : (w.alloc (.cells #[.int .i64 k.1.ins, .slice A k.1.gs.length c, .bool k.2] 95)).alloc (.cells #[.int .i64 0, .slice none 0 0, .bool false] 95) = X0 at *
    clear hX0
    refine wp_region_rel5 [[], [], [], [(1, 80), (2, 81)], [], [(3, 82), (4, 83)], [(0, 79)], [(5, 84)]]
      (fun x9 y9 => Below x9.heap.size x9 y9)
      [(3, fun x9 y9 => Below X0.heap.size x9 y9), (5, fun x9 y9 => Below X0.heap.size x9 y9), (6, fun x9 y9 => x9.grownBy y9 (some (w.heap.size + 1)))]
      (fun f9 x9 => CatI F w X0 k A c (f9 6) x9)
      [fun vs9 _ => vs9 0 = (.agg #[.int .i64 k.1.ins, .slice A k.1.gs.length c, .bool k.2]),
        fun vs9 y9 => (fun v z => CatL X0 v z) (vs9 1) y9,
        fun vs9 _ => vs9 2 = (.slice Y ys.length cy),
        fun vs9 y9 => (fun v z => CatR X0 ys v z) (vs9 3) y9,
        fun vs9 _ => vs9 4 = (.slice X xs.length cx),
        fun vs9 y9 => (fun v z => CatR X0 zs v z) (vs9 5) y9,
        fun _ _ => True,
        fun vs9 y9 => (fun v z => CatR X0 zs v z) (vs9 7) y9]
      [none, some 3, none, some 5, none, none, none, none] [(0, 79), (1, 80), (2, 81), (3, 82), (4, 83), (5, 84), (7, 9)] (by kernel_rfl) (by kernel_rfl) (by kernel_rfl) (by kernel_rfl)
      (fun _ => Below.refl _ _) ⟨fun _ => Below.refl _ _, fun _ => Below.refl _ _, fun _ => World.grownBy.refl _ _, trivial⟩ (by kernel_rfl)
      ⟨⟨.inr (fun _ _ _ h _ => h), ⟨.inr (.inr (fun _ _ _ h _ => h)), .inr (.inr (fun _ _ _ h _ => h)), .inr (.inr (fun _ _ _ h _ => h)), trivial⟩⟩,
        ⟨.inr (fun vs9 x9 y9 h9 hR9 => (show ∀ v9 y8 y7, (fun v z => CatL X0 v z) v9 y8 → (fun x9 y9 => Below x9.heap.size x9 y9) y8 y7 → (fun v z => CatL X0 v z) v9 y7 from fun _ _ _ h9 hR => h9.up hR) (vs9 1) x9 y9 h9 hR9), ⟨.inl (by kernel_rfl), .inl (by kernel_rfl), .inr (.inr (fun vs9 x9 y9 h9 hR9 => (show ∀ v9 y8 y7, (fun v z => CatL X0 v z) v9 y8 → (fun x9 y9 => x9.grownBy y9 (some (w.heap.size + 1))) y8 y7 → (fun v z => CatL X0 v z) v9 y7 from fun _ _ _ h9 hR => h9.st hR HXS.out) (vs9 1) x9 y9 h9 hR9)), trivial⟩⟩,
        ⟨.inr (fun _ _ _ h _ => h), ⟨.inr (.inr (fun _ _ _ h _ => h)), .inr (.inr (fun _ _ _ h _ => h)), .inr (.inr (fun _ _ _ h _ => h)), trivial⟩⟩,
        ⟨.inr (fun vs9 x9 y9 h9 hR9 => (show ∀ v9 y8 y7, (fun v z => CatR X0 ys v z) v9 y8 → (fun x9 y9 => Below x9.heap.size x9 y9) y8 y7 → (fun v z => CatR X0 ys v z) v9 y7 from fun _ _ _ h9 hR => h9.up hR) (vs9 3) x9 y9 h9 hR9), ⟨.inr (.inl rfl), .inl (by kernel_rfl), .inr (.inr (fun vs9 x9 y9 h9 hR9 => (show ∀ v9 y8 y7, (fun v z => CatR X0 ys v z) v9 y8 → (fun x9 y9 => x9.grownBy y9 (some (w.heap.size + 1))) y8 y7 → (fun v z => CatR X0 ys v z) v9 y7 from fun _ _ _ h9 hR => h9.st hR HXS.out) (vs9 3) x9 y9 h9 hR9)), trivial⟩⟩,
        ⟨.inr (fun _ _ _ h _ => h), ⟨.inr (.inr (fun _ _ _ h _ => h)), .inr (.inr (fun _ _ _ h _ => h)), .inr (.inr (fun _ _ _ h _ => h)), trivial⟩⟩,
        ⟨.inr (fun vs9 x9 y9 h9 hR9 => (show ∀ v9 y8 y7, (fun v z => CatR X0 zs v z) v9 y8 → (fun x9 y9 => Below x9.heap.size x9 y9) y8 y7 → (fun v z => CatR X0 zs v z) v9 y7 from fun _ _ _ h9 hR => h9.up hR) (vs9 5) x9 y9 h9 hR9), ⟨.inl (by kernel_rfl), .inr (.inl rfl), .inr (.inr (fun vs9 x9 y9 h9 hR9 => (show ∀ v9 y8 y7, (fun v z => CatR X0 zs v z) v9 y8 → (fun x9 y9 => x9.grownBy y9 (some (w.heap.size + 1))) y8 y7 → (fun v z => CatR X0 zs v z) v9 y7 from fun _ _ _ h9 hR => h9.st hR HXS.out) (vs9 5) x9 y9 h9 hR9)), trivial⟩⟩,
        ⟨.inr (fun _ _ _ h _ => h), ⟨.inr (.inr (fun _ _ _ h _ => h)), .inr (.inr (fun _ _ _ h _ => h)), .inr (.inl rfl), trivial⟩⟩,
        ⟨.inr (fun vs9 x9 y9 h9 hR9 => (show ∀ v9 y8 y7, (fun v z => CatR X0 zs v z) v9 y8 → (fun x9 y9 => Below x9.heap.size x9 y9) y8 y7 → (fun v z => CatR X0 zs v z) v9 y7 from fun _ _ _ h9 hR => h9.up hR) (vs9 7) x9 y9 h9 hR9), ⟨.inl (by kernel_rfl), .inl (by kernel_rfl), .inr (.inr (fun vs9 x9 y9 h9 hR9 => (show ∀ v9 y8 y7, (fun v z => CatR X0 zs v z) v9 y8 → (fun x9 y9 => x9.grownBy y9 (some (w.heap.size + 1))) y8 y7 → (fun v z => CatR X0 zs v z) v9 y7 from fun _ _ _ h9 hR => h9.st hR HXS.out) (vs9 7) x9 y9 h9 hR9)), trivial⟩⟩, trivial⟩ ⟨fun vs vs' x h _ hv => (by dsimp only at hv ⊢; first | (rw [← h]; exact hv) | exact hv),
        fun vs vs' x h _ hv => (by dsimp only at hv ⊢; first | (rw [← h]; exact hv) | exact hv),
        fun vs vs' x h _ hv => (by dsimp only at hv ⊢; first | (rw [← h]; exact hv) | exact hv),
        fun vs vs' x h _ hv => (by dsimp only at hv ⊢; first | (rw [← h]; exact hv) | exact hv),
        fun vs vs' x h _ hv => (by dsimp only at hv ⊢; first | (rw [← h]; exact hv) | exact hv),
        fun vs vs' x h _ hv => (by dsimp only at hv ⊢; first | (rw [← h]; exact hv) | exact hv),
        fun _ _ _ _ _ _ => trivial,
        fun vs vs' x h _ hv => (by dsimp only at hv ⊢; first | (rw [← h]; exact hv) | exact hv), trivial⟩ (HUN.out.up HF.out HXS.out (below_drewN (Below.refl _ _) 1)) ⟨?_, ?_, ?_, ?_, ?_, ?_, ?_, ?_, trivial⟩ ?_
    · intro vals xw f hf1 hf2 hf3 hI hF
      clear hf2 hf3
      dsimp only [owes4, bare]
      simp only [putsD, Act.put, List.setIfInBounds_toArray, List.set_cons_zero, List.set_cons_succ]
      have hv9 := hI.2.1
      have y0 := (cell_of_block hv9 0).1
      have y1 := (cell_of_block hv9 1).1
      have y2 := (cell_of_block hv9 2).1
      go_wp2
      exact ⟨rfl, rfl, ⟨fun h9 => absurd h9 (Nat.ne_of_beq_eq_false rfl), fun _ => ⟨fun h9 => absurd h9 (Nat.ne_of_beq_eq_false rfl), fun _ => ⟨fun h9 => absurd h9 (Nat.ne_of_beq_eq_false rfl), fun _ => Below.refl _ _⟩⟩⟩, hI⟩
    · intro vals xw f hf1 hf2 hf3 hI hF
      clear hf2 hf3
      dsimp only [owes4, bare]
      simp only [putsD, Act.put, List.setIfInBounds_toArray, List.set_cons_zero, List.set_cons_succ]
      have HI := Lib.hid hI
      have hsz9 := hI.2.2.2.2.2
      clear hI
      go_wp2
      exact ⟨rfl, ⟨_, rfl, own_mono (own_lit0I xw) hsz9⟩, ⟨fun h9 => absurd h9 (Nat.ne_of_beq_eq_false rfl), fun _ => ⟨fun h9 => absurd h9 (Nat.ne_of_beq_eq_false rfl), fun _ => ⟨fun h9 => absurd h9 (Nat.ne_of_beq_eq_false rfl), fun _ => (Below.refl _ _).alloc (Nat.le_refl _) _⟩⟩⟩, HI.out.up HF.out HXS.out ((Below.refl _ _).alloc hsz9 _)⟩
    · intro vals xw f hf1 hf2 hf3 hI hF
      clear hf2 hf3
      dsimp only [owes4, bare]
      simp only [putsD, Act.put, List.setIfInBounds_toArray, List.set_cons_zero, List.set_cons_succ]
      go_wp2
      exact ⟨rfl, rfl, ⟨fun h9 => absurd h9 (Nat.ne_of_beq_eq_false rfl), fun _ => ⟨fun h9 => absurd h9 (Nat.ne_of_beq_eq_false rfl), fun _ => ⟨fun h9 => absurd h9 (Nat.ne_of_beq_eq_false rfl), fun _ => Below.refl _ _⟩⟩⟩, hI⟩
    · intro vals xw f hf1 hf2 hf3 hI hF
      clear hf2 hf3
      simp only [saysD, List.getD_cons_zero, List.getD_cons_succ, and_true] at hF
      obtain ⟨⟨A9, e1, ho9⟩, e2⟩ := hF
      dsimp only [owes4, bare]
      simp only [putsD, Act.put, List.setIfInBounds_toArray, List.set_cons_zero, List.set_cons_succ]
      simp only [e1, e2]
      have HI := Lib.hid hI
      have hsz9 := hI.2.2.2.2.2
      have hyr := (HXB.out xw hI.1).2
      clear hI
      at_builtin; refine wpList_append_intsO (zs := ys) (by rfl) (.tmp 80) (.tmp 81) (by rfl) (by rfl) (by rfl) ho9 hyr HYN.out (by simp; omega) hsz9 (by simp) ?_; intro X5 d5 w5 ho5 hb5 hg5
      exact ⟨rfl, ⟨X5, d5, rfl, ho5⟩, ⟨fun _ => hb5, fun h9 => absurd rfl h9⟩, HI.out.up HF.out HXS.out hb5⟩
    · intro vals xw f hf1 hf2 hf3 hI hF
      clear hf2 hf3
      dsimp only [owes4, bare]
      simp only [putsD, Act.put, List.setIfInBounds_toArray, List.set_cons_zero, List.set_cons_succ]
      go_wp2
      exact ⟨rfl, rfl, ⟨fun h9 => absurd h9 (Nat.ne_of_beq_eq_false rfl), fun _ => ⟨fun h9 => absurd h9 (Nat.ne_of_beq_eq_false rfl), fun _ => ⟨fun h9 => absurd h9 (Nat.ne_of_beq_eq_false rfl), fun _ => Below.refl _ _⟩⟩⟩, hI⟩
    · intro vals xw f hf1 hf2 hf3 hI hF
      clear hf2 hf3
      simp only [saysD, List.getD_cons_zero, List.getD_cons_succ, and_true] at hF
      obtain ⟨⟨A9, c9, e1, ho9⟩, e2⟩ := hF
      dsimp only [owes4, bare]
      simp only [putsD, Act.put, List.setIfInBounds_toArray, List.set_cons_zero, List.set_cons_succ]
      simp only [e1, e2]
      have HI := Lib.hid hI
      have hsz9 := hI.2.2.2.2.2
      have hxr := (HXB.out xw hI.1).1
      clear hI
      at_builtin; refine wpList_append_intsO (zs := zs) (by rfl) (.tmp 82) (.tmp 83) (by rfl) (by rfl) (by rfl) ho9 hxr HXN.out (by omega) hsz9 HZ.out ?_; intro X5 d5 w5 ho5 hb5 hg5
      exact ⟨rfl, ⟨X5, d5, rfl, ho5⟩, ⟨fun h9 => absurd h9 (Nat.ne_of_beq_eq_false rfl), fun _ => ⟨fun _ => hb5, fun h9 => absurd rfl h9⟩⟩, HI.out.up HF.out HXS.out hb5⟩
    · intro vals xw f hf1 hf2 hf3 hI hF
      clear hf2 hf3
      simp only [saysD, List.getD_cons_zero, List.getD_cons_succ, and_true] at hF
      have e1 := hF
      dsimp only [owes4, bare]
      simp only [putsD, Act.put, List.setIfInBounds_toArray, List.set_cons_zero, List.set_cons_succ]
      simp only [e1]
      rw [hf1] at hI
      have HI := Lib.hid hI
      have hr9 := hI.2.2.1 rfl
      have r0 := (cell_of_block hr9 0).1
      have r1 := (cell_of_block hr9 1).1
      have r2 := (cell_of_block hr9 2).1
      have rf0 := (cell_of_block hr9 0).2
      have rf1 := (cell_of_block hr9 1).2
      have rf2 := (cell_of_block hr9 2).2
      have HR9 := Lib.hid hr9
      clear hI hr9
      go_wp2
      have hgr : xw.grownBy (st3 xw (w.heap.size + 1) (.int .i64 k.1.ins) (.slice A k.1.gs.length c) (.bool k.2)) (some (w.heap.size + 1)) := only_setCell (only_setCell (only_setCell (World.grownBy.refl _ _) _ _) _ _) _ _
      exact ⟨rfl, trivial, ⟨fun h9 => absurd h9 (Nat.ne_of_beq_eq_false rfl), fun _ => ⟨fun h9 => absurd h9 (Nat.ne_of_beq_eq_false rfl), fun _ => ⟨fun _ => hgr, fun h9 => absurd rfl h9⟩⟩⟩, show CatI F w X0 k A c (did f 6 6) _ from (by rw [did_same]; exact ⟨st3_below HI.out.1 (by omega) _ _ _, (st3_other (by omega)).trans HI.out.2.1, fun h => (by cases h), fun _ => st3_same HR9.out _ _ _, st3_sl HI.out.2.2.2.2.1 (fun b hb e => by have := HF.out b hb; omega) _ _ _, by rw [st3_size]; exact HI.out.2.2.2.2.2⟩)⟩
    · intro vals xw f hf1 hf2 hf3 hI hF
      clear hf2 hf3
      simp only [saysD, List.getD_cons_zero, List.getD_cons_succ, and_true] at hF
      obtain ⟨A9, c9, e1, ho9⟩ := hF
      dsimp only [owes4, bare]
      simp only [putsD, Act.put, List.setIfInBounds_toArray, List.set_cons_zero, List.set_cons_succ]
      simp only [e1]
      go_wp2
      exact ⟨rfl, ⟨A9, c9, rfl, ho9⟩, ⟨fun h9 => absurd h9 (Nat.ne_of_beq_eq_false rfl), fun _ => ⟨fun h9 => absurd h9 (Nat.ne_of_beq_eq_false rfl), fun _ => ⟨fun h9 => absurd h9 (Nat.ne_of_beq_eq_false rfl), fun _ => Below.refl _ _⟩⟩⟩, hI⟩
    · intro vals xw f hall hI hF
      rw [show ((List.range _).filter fun i => (([none, some 3, none, some 5, none, none, none, none] : List (Option Nat)).getD i none).isNone) = [0, 2, 4, 5, 6, 7] from by decide] at hF
      simp only [says, List.getD_cons_zero, List.getD_cons_succ, and_true] at hF
      have i9 : CatI F w X0 k A c (f 6) xw := hI
      rw [hall 6 (by decide)] at i9
      obtain ⟨i1, i2, _, i4, i5, i6⟩ := i9
      have g1 := i4 rfl
      obtain ⟨B8, d8, e8, ho8⟩ : CatR X0 zs (vals 7) xw := by obtain ⟨_, _, _, _, _, h9⟩ := hF; exact h9
      simp only [putsD, Act.put, List.setIfInBounds_toArray, List.set_cons_zero, List.set_cons_succ]
      simp only [e8]
      have k5 := (cell_of_block g1 0).1
      have k6 := (cell_of_block g1 1).1
      have k7 := (cell_of_block g1 2).1
      have kf5 := (cell_of_block g1 0).2
      have kf6 := (cell_of_block g1 1).2
      have kf7 := (cell_of_block g1 2).2
      have I1 := Lib.hid i1
      have I5 := Lib.hid i5
      have HO8 := Lib.hid ho8
      clear hI hF i1 i2 i4 i5 g1 ho8 e8
      go_wp2
      refine bodyPost_ret (v := .tuple #[.agg #[.int .i64 k.1.ins, .slice A k.1.gs.length c, .bool k.2], .slice B8 zs.length d8]) (by simp [results, Tryz.results53, go_sem, k5, k6, k7, kf5, kf6, kf7]) rfl ?_
      obtain ⟨B7, d7, e7, hcap, hsl⟩ := HO8.out.form
      injection e7 with e1 e2 e3
      subst e1 e3
      exact ⟨A, c, B8, d8, rfl, HNIL.out, I5.out.mono fun b hb => .inl hb, hcap, hsl.mono fun b hb => ⟨by have := HXS.out; omega, hb.2⟩, HZM.out, I1.out⟩
end Go.Proofs.YtjghcaghigebjaaGreatDoor

/-! The reference's BitsUn. -/
namespace Go.Proofs.YtjghcaghigebjaaGreatDoor
open Go Go.RowKit

end Go.Proofs.YtjghcaghigebjaaGreatDoor

/-! The reference's BitsBin. -/
namespace Go.Proofs.YtjghcaghigebjaaGreatDoor
open Go Go.RowKit

def opBin (op : Int) : Bool := decide (3 ≤ op) && decide (op ≤ 14)
def lenBin (op : Int) (xs ys : List Int) : Bool := if op = 14 then decide (xs.length + ys.length ≤ 4) else decide (xs.length = ys.length)
/-- What BitsBin answers, the net being right. -/
def bitsBinR (n : N) (op : Int) (xs ys : List Int) : N × List Int := bitsOk n (goodL n xs && goodL n ys && opBin op && lenBin op xs ys) (binP op xs ys)
set_option maxHeartbeats 2000000 in
theorem bin_bd {B : Int → Prop} (hB : BOk B) {op : Int} {xs ys : List Int} (hx : ∀ x ∈ xs, B x) (hy : ∀ y ∈ ys, B y) (h0 : 0 < xs.length) (hl : op ≠ 14 → xs.length = ys.length) (ho : opBin op = true) : (binP op xs ys).bd B fun l => (∀ m ∈ l, B m) ∧ (op ≠ 14 → l.length = xs.length) ∧ l.length ≤ xs.length + ys.length := by
  have hr : ∀ m ∈ List.replicate xs.length (-1 : Int), B m := fun m hm => by rw [List.eq_of_mem_replicate hm]; exact hB.off
  have hn : ∀ m ∈ ys.map Neg.neg, B m := fun m hm => by obtain ⟨z, hz, rfl⟩ := List.mem_map.1 hm; exact hB.neg _ (hy z hz)
  have hw : ∀ m ∈ ys ++ [-1], B m := fun m hm => by
    rcases List.mem_append.1 hm with hm | hm
    · exact hy m hm
    · rw [List.mem_singleton.1 hm]; exact hB.off
  have fin : ∀ l : List Int, (∀ m ∈ l, B m) → l.length = xs.length → (∀ m ∈ l, B m) ∧ (op ≠ 14 → l.length = xs.length) ∧ l.length ≤ xs.length + ys.length := fun l h1 h2 => ⟨h1, fun _ => h2, by omega⟩
  by_cases h14 : op = 14
  · subst h14
    show PG.bd B _ (.ret (ys ++ xs))
    exact ⟨fun m hm => (List.mem_append.1 hm).elim (hy m) (hx m), fun h => absurd rfl h, by rw [List.length_append]; omega⟩
  · have hle := hl h14
    unfold binP
    by_cases o3 : op = 3
    · rw [if_pos o3]
      exact each_bd (f := fun x y => PG.and x y PG.ret) (fun x y Ψ hx hy h => ⟨⟨hx, hy⟩, h⟩) _ _ _ hx hy fun l h1 h2 => fin l h1 (h2 hle)
    rw [if_neg o3]
    by_cases o4 : op = 4
    · rw [if_pos o4]
      exact each_bd (f := orP) (fun x y Ψ hx hy h => or_bd hB hx hy h) _ _ _ hx hy fun l h1 h2 => fin l h1 (h2 hle)
    rw [if_neg o4]
    by_cases o5 : op = 5
    · rw [if_pos o5]
      exact each_bd (f := fun x y => PG.xor x y PG.ret) (fun x y Ψ hx hy h => ⟨⟨hx, hy⟩, h⟩) _ _ _ hx hy fun l h1 h2 => fin l h1 (h2 hle)
    rw [if_neg o5]
    by_cases o6 : op = 6
    · rw [if_pos o6]
      exact sum_bd hB _ _ _ _ hB.off hx hy fun l h1 h2 => fin l h1 (h2 hle)
    rw [if_neg o6]
    by_cases o7 : op = 7
    · rw [if_pos o7]
      exact sum_bd hB _ _ _ _ hB.one hx hn fun l h1 h2 => fin l h1 (h2 (by rw [List.length_map]; exact hle))
    rw [if_neg o7]
    by_cases o8 : op = 8
    · rw [if_pos o8]
      exact mul_bd hB hx _ _ _ _ (by omega) hy hr (by simp) fun l h1 h2 => fin l h1 h2
    rw [if_neg o8]
    by_cases o9 : op = 9
    · rw [if_pos o9]
      exact bd_bind _ _ (div_bd hB hx hw (by rw [List.length_append, hle]; rfl) _ _ _ _ (Nat.le_refl _) hr hr (by simp) (by simp) fun z h1 h2 h3 h4 => fin z.1 h1 h3)
    rw [if_neg o9]
    by_cases o10 : op = 10
    · rw [if_pos o10]
      exact bd_bind _ _ (div_bd hB hx hw (by rw [List.length_append, hle]; rfl) _ _ _ _ (Nat.le_refl _) hr hr (by simp) (by simp) fun z h1 h2 h3 h4 => fin z.2 h2 h4)
    rw [if_neg o10]
    by_cases o11 : op = 11
    · rw [if_pos o11]
      exact shift_bd hB hB.off _ _ _ _ _ hy hx rfl fun l h1 h2 => fin l h1 h2
    rw [if_neg o11]
    by_cases o12 : op = 12
    · rw [if_pos o12]
      exact shift_bd hB hB.off _ _ _ _ _ hy hx rfl fun l h1 h2 => fin l h1 h2
    rw [if_neg o12]
    by_cases o13 : op = 13
    · rw [if_pos o13]
      exact shift_bd hB (getD_inP hx (by omega)) _ _ _ _ _ hy hx rfl fun l h1 h2 => fin l h1 h2
    rw [if_neg o13]
    exfalso
    unfold opBin at ho; simp only [Bool.and_eq_true, decide_eq_true_eq] at ho; omega
set_option maxRecDepth 100000 in
set_option maxHeartbeats 8000000 in
theorem specBitsBin_any (n : N) (op : Int) (xs ys : List Int) (A X Y : Option Addr) (c cx cy : Nat) (w : World) (h : Lay.gate.Rd w A n.gs) (hn : n.gs.length ≤ 1048576) (hA : A = none → n.gs.length = 0) (hi : okInts n)
    (hX : Lay.int.Rd w X xs) (hY : Lay.int.Rd w Y ys) (hxi : i64s xs) (hyi : i64s ys) (hop : okInt op) (hlx : xs.length ≤ 1048576) (hly : ys.length ≤ 1048576) :
    Calls Tryz.prog 17 #[.agg #[.int .i64 n.ins, .slice A n.gs.length c], .int .i64 op, .slice X xs.length cx, .slice Y ys.length cy] w (RetBits (pickN (netOk n) (bitsBinR n op xs ys)) w) := by
  obtain ⟨hW, hB0, hB1, hWS⟩ := two_boxes w (.cells #[.int .i64 n.ins, .slice A n.gs.length c] 29) (.cells #[.int .i64 0, .slice none 0 0] 29)
  have HW := Lib.hid hW
  have HV := Lib.hid hB0
  have HR := Lib.hid hB1
  have HG := Lib.hid (h.up hW)
  have HX := Lib.hid (hX.up hW)
  have HY := Lib.hid (hY.up hW)
  have HI := Lib.hid hi
  have HXI := Lib.hid hxi
  have HYI := Lib.hid hyi
  unfold okInt at hop
  obtain ⟨q0, q1⟩ := hop
  have HWS := Lib.hid hWS
  have z0 := (cell_of_block hB0 0).1
  have z1 := (cell_of_block hB0 1).1
  obtain ⟨out, hout⟩ : ∃ out, out = pickN (netOk n) (bitsBinR n op xs ys) := ⟨_, rfl⟩
  rw [← hout]
  have HOUT := Lib.hid hout
  clear hout h hi hX hY hxi hyi hB0 hB1 hW hWS
  have HCN := Lib.hid (specNetOk_any A c n _ HG.out hn HI.out)
  go_enter Tryz.func17, Tryz.ntmps17
  go_wp2_with fail
  refine HCN.out.mono ?_
  generalize hX0 : (w.alloc (.cells #[.int .i64 n.ins, .slice A n.gs.length c] 29)).alloc (.cells #[.int .i64 0, .slice none 0 0] 29) = X0 at *
  clear hX0
  rintro e u1 ⟨rfl, hb9⟩
  clear HCN
  clear z0 z1
  have HV := Lib.hid ((hb9.block _ (lt_of_block HV.out)).trans HV.out)
  have HR := Lib.hid ((hb9.block _ (lt_of_block HR.out)).trans HR.out)
  have HW := Lib.hid (bthen HW.out hb9)
  have HG := Lib.hid (HG.out.up hb9)
  have HX := Lib.hid (HX.out.up hb9)
  have HY := Lib.hid (HY.out.up hb9)
  clear hb9
  have z0 := (cell_of_block HV.out 0).1
  have z1 := (cell_of_block HV.out 1).1
  rcases hok : netOk n with _ | _
  · have hal : Below u1.heap.size u1 (u1.alloc (.cells #[] 3)) := (Below.refl _ _).alloc (Nat.le_refl _) _
    have hr9 := (hal.block _ (lt_of_block HR.out)).trans HR.out
    have r0 := (cell_of_block hr9 0).1
    have r1 := (cell_of_block hr9 1).1
    have rf0 := (cell_of_block hr9 0).2
    have rf1 := (cell_of_block hr9 1).2
    have hs1 := heap_set_same _ (w.heap.size + 1) 0 (.int .i64 0) _ _ hr9
    have hs2 := heap_set_same _ (w.heap.size + 1) 1 (.slice none 0 0) _ _ hs1
    have HS2 := Lib.hid hs2
    have HAL := Lib.hid hal
    clear hs1 hs2 hr9 hal
    go_wp2
    have k5 := (cell_of_block HS2.out 0).1
    have k6 := (cell_of_block HS2.out 1).1
    have kf5 := (cell_of_block HS2.out 0).2
    have kf6 := (cell_of_block HS2.out 1).2
    refine bodyPost_ret (v := .tuple #[.agg #[.int .i64 0, .slice none 0 0], .slice (some ⟨u1.heap.size, 0, none⟩) 0 0]) (by simp [results, Tryz.results17, go_sem, k5, k6, kf5, kf6]) rfl ?_
    rw [show out = (⟨0, []⟩, []) from by rw [HOUT.out, hok]; rfl]
    exact ⟨none, some ⟨u1.heap.size, 0, none⟩, 0, 0, rfl, Nat.zero_le _, Nat.zero_le _, .nil _ _ _ _, .nil _ _ _ _, below_set (below_set (bthen HW.out HAL.out) (by show w.heap.size ≤ w.heap.size + 1; omega) _) (by show w.heap.size ≤ w.heap.size + 1; omega) _, apart_nil rfl⟩
  have HOUT : Hid (out = bitsBinR n op xs ys) := Lib.hid (by rw [HOUT.out, hok]; rfl)
  have hnb : NB n := by have := (netOk_iff n).1 hok; exact ⟨this.1, this.2.1, this.2.2.1⟩
  obtain ⟨n0, n1, n2⟩ := hnb
  clear hok
  have HC := Lib.hid (l7Right_any A X c cx n xs u1 HX.out HXI.out hlx hn n0 (by omega))
  go_wp2_with fail
  refine HC.out.mono ?_
  rintro e u2 ⟨rfl, hb9⟩
  clear HC z0 z1
  have HV := Lib.hid ((hb9.block _ (lt_of_block HV.out)).trans HV.out)
  have HR := Lib.hid ((hb9.block _ (lt_of_block HR.out)).trans HR.out)
  have HW := Lib.hid (bthen HW.out hb9)
  have HG := Lib.hid (HG.out.up hb9)
  have HX := Lib.hid (HX.out.up hb9)
  have HY := Lib.hid (HY.out.up hb9)
  clear hb9
  have z0 := (cell_of_block HV.out 0).1
  have z1 := (cell_of_block HV.out 1).1
  rcases hg : goodL n xs with _ | _
  · have hal : Below u2.heap.size u2 (u2.alloc (.cells #[] 3)) := (Below.refl _ _).alloc (Nat.le_refl _) _
    have hr9 := (hal.block _ (lt_of_block HR.out)).trans HR.out
    have r0 := (cell_of_block hr9 0).1
    have r1 := (cell_of_block hr9 1).1
    have rf0 := (cell_of_block hr9 0).2
    have rf1 := (cell_of_block hr9 1).2
    have hs1 := heap_set_same _ (w.heap.size + 1) 0 (.int .i64 0) _ _ hr9
    have hs2 := heap_set_same _ (w.heap.size + 1) 1 (.slice none 0 0) _ _ hs1
    have HS2 := Lib.hid hs2
    have HAL := Lib.hid hal
    clear hs1 hs2 hr9 hal
    go_wp2
    have k5 := (cell_of_block HS2.out 0).1
    have k6 := (cell_of_block HS2.out 1).1
    have kf5 := (cell_of_block HS2.out 0).2
    have kf6 := (cell_of_block HS2.out 1).2
    refine bodyPost_ret (v := .tuple #[.agg #[.int .i64 0, .slice none 0 0], .slice (some ⟨u2.heap.size, 0, none⟩) 0 0]) (by simp [results, Tryz.results17, go_sem, k5, k6, kf5, kf6]) rfl ?_
    rw [show out = (⟨0, []⟩, []) from by rw [HOUT.out]; unfold bitsBinR; rw [hg]; rfl]
    exact ⟨none, some ⟨u2.heap.size, 0, none⟩, 0, 0, rfl, Nat.zero_le _, Nat.zero_le _, .nil _ _ _ _, .nil _ _ _ _, below_set (below_set (bthen HW.out HAL.out) (by show w.heap.size ≤ w.heap.size + 1; omega) _) (by show w.heap.size ≤ w.heap.size + 1; omega) _, apart_nil rfl⟩
  have HGX := Lib.hid hg
  clear hg
  have HC := Lib.hid (l7Right_any A Y c cy n ys u2 HY.out HYI.out hly hn n0 (by omega))
  go_wp2_with fail
  refine HC.out.mono ?_
  rintro e u3 ⟨rfl, hb9⟩
  clear HC z0 z1
  have HV := Lib.hid ((hb9.block _ (lt_of_block HV.out)).trans HV.out)
  have HR := Lib.hid ((hb9.block _ (lt_of_block HR.out)).trans HR.out)
  have HW := Lib.hid (bthen HW.out hb9)
  have HG := Lib.hid (HG.out.up hb9)
  have HX := Lib.hid (HX.out.up hb9)
  have HY := Lib.hid (HY.out.up hb9)
  clear hb9
  have z0 := (cell_of_block HV.out 0).1
  have z1 := (cell_of_block HV.out 1).1
  rcases hg : goodL n ys with _ | _
  · have hal : Below u3.heap.size u3 (u3.alloc (.cells #[] 3)) := (Below.refl _ _).alloc (Nat.le_refl _) _
    have hr9 := (hal.block _ (lt_of_block HR.out)).trans HR.out
    have r0 := (cell_of_block hr9 0).1
    have r1 := (cell_of_block hr9 1).1
    have rf0 := (cell_of_block hr9 0).2
    have rf1 := (cell_of_block hr9 1).2
    have hs1 := heap_set_same _ (w.heap.size + 1) 0 (.int .i64 0) _ _ hr9
    have hs2 := heap_set_same _ (w.heap.size + 1) 1 (.slice none 0 0) _ _ hs1
    have HS2 := Lib.hid hs2
    have HAL := Lib.hid hal
    clear hs1 hs2 hr9 hal
    go_wp2
    have k5 := (cell_of_block HS2.out 0).1
    have k6 := (cell_of_block HS2.out 1).1
    have kf5 := (cell_of_block HS2.out 0).2
    have kf6 := (cell_of_block HS2.out 1).2
    refine bodyPost_ret (v := .tuple #[.agg #[.int .i64 0, .slice none 0 0], .slice (some ⟨u3.heap.size, 0, none⟩) 0 0]) (by simp [results, Tryz.results17, go_sem, k5, k6, kf5, kf6]) rfl ?_
    rw [show out = (⟨0, []⟩, []) from by rw [HOUT.out]; unfold bitsBinR; rw [hg, HGX.out]; rfl]
    exact ⟨none, some ⟨u3.heap.size, 0, none⟩, 0, 0, rfl, Nat.zero_le _, Nat.zero_le _, .nil _ _ _ _, .nil _ _ _ _, below_set (below_set (bthen HW.out HAL.out) (by show w.heap.size ≤ w.heap.size + 1; omega) _) (by show w.heap.size ≤ w.heap.size + 1; omega) _, apart_nil rfl⟩
  have HGY := Lib.hid hg
  clear hg
  by_cases hlo9 : op < 3
  · have hal : Below u3.heap.size u3 (u3.alloc (.cells #[] 3)) := (Below.refl _ _).alloc (Nat.le_refl _) _
    have hr9 := (hal.block _ (lt_of_block HR.out)).trans HR.out
    have r0 := (cell_of_block hr9 0).1
    have r1 := (cell_of_block hr9 1).1
    have rf0 := (cell_of_block hr9 0).2
    have rf1 := (cell_of_block hr9 1).2
    have hs1 := heap_set_same _ (w.heap.size + 1) 0 (.int .i64 0) _ _ hr9
    have hs2 := heap_set_same _ (w.heap.size + 1) 1 (.slice none 0 0) _ _ hs1
    have HS2 := Lib.hid hs2
    have HAL := Lib.hid hal
    clear hs1 hs2 hr9 hal
    go_wp2
    have k5 := (cell_of_block HS2.out 0).1
    have k6 := (cell_of_block HS2.out 1).1
    have kf5 := (cell_of_block HS2.out 0).2
    have kf6 := (cell_of_block HS2.out 1).2
    refine bodyPost_ret (v := .tuple #[.agg #[.int .i64 0, .slice none 0 0], .slice (some ⟨u3.heap.size, 0, none⟩) 0 0]) (by simp [results, Tryz.results17, go_sem, k5, k6, kf5, kf6]) rfl ?_
    rw [show out = (⟨0, []⟩, []) from by rw [HOUT.out]; unfold bitsBinR bitsOk opBin; rw [HGX.out, HGY.out, decide_eq_false (by omega : ¬ 3 ≤ op)]; rfl]
    exact ⟨none, some ⟨u3.heap.size, 0, none⟩, 0, 0, rfl, Nat.zero_le _, Nat.zero_le _, .nil _ _ _ _, .nil _ _ _ _, below_set (below_set (bthen HW.out HAL.out) (by show w.heap.size ≤ w.heap.size + 1; omega) _) (by show w.heap.size ≤ w.heap.size + 1; omega) _, apart_nil rfl⟩
  by_cases hhi9 : 14 < op
  · have hal : Below u3.heap.size u3 (u3.alloc (.cells #[] 3)) := (Below.refl _ _).alloc (Nat.le_refl _) _
    have hr9 := (hal.block _ (lt_of_block HR.out)).trans HR.out
    have r0 := (cell_of_block hr9 0).1
    have r1 := (cell_of_block hr9 1).1
    have rf0 := (cell_of_block hr9 0).2
    have rf1 := (cell_of_block hr9 1).2
    have hs1 := heap_set_same _ (w.heap.size + 1) 0 (.int .i64 0) _ _ hr9
    have hs2 := heap_set_same _ (w.heap.size + 1) 1 (.slice none 0 0) _ _ hs1
    have HS2 := Lib.hid hs2
    have HAL := Lib.hid hal
    clear hs1 hs2 hr9 hal
    go_wp2
    have k5 := (cell_of_block HS2.out 0).1
    have k6 := (cell_of_block HS2.out 1).1
    have kf5 := (cell_of_block HS2.out 0).2
    have kf6 := (cell_of_block HS2.out 1).2
    refine bodyPost_ret (v := .tuple #[.agg #[.int .i64 0, .slice none 0 0], .slice (some ⟨u3.heap.size, 0, none⟩) 0 0]) (by simp [results, Tryz.results17, go_sem, k5, k6, kf5, kf6]) rfl ?_
    rw [show out = (⟨0, []⟩, []) from by rw [HOUT.out]; unfold bitsBinR bitsOk opBin; rw [HGX.out, HGY.out, decide_eq_false (by omega : ¬ op ≤ 14)]; simp]
    exact ⟨none, some ⟨u3.heap.size, 0, none⟩, 0, 0, rfl, Nat.zero_le _, Nat.zero_le _, .nil _ _ _ _, .nil _ _ _ _, below_set (below_set (bthen HW.out HAL.out) (by show w.heap.size ≤ w.heap.size + 1; omega) _) (by show w.heap.size ≤ w.heap.size + 1; omega) _, apart_nil rfl⟩
  have HOB : Hid (opBin op = true) := Lib.hid (by unfold opBin; simp; omega)
  obtain ⟨l1, l2, m1⟩ := goodL_iff.1 HGX.out
  obtain ⟨l3, l4, m2⟩ := goodL_iff.1 HGY.out
  have hxr : ∀ x ∈ xs, RB x := fun x hx => (mark_mb ⟨n0, n1, n2⟩ (m1 x hx)).rb
  have hyr : ∀ y ∈ ys, RB y := fun y hy => (mark_mb ⟨n0, n1, n2⟩ (m2 y hy)).rb
  have HXR := Lib.hid hxr
  have HYR := Lib.hid hyr
  clear m1 m2 hxr hyr
  by_cases h14 : op = 14
  · have e14 : (op == 14) = true := by simpa using h14
    have e14n : (op != 14) = false := by simpa using h14
    by_cases hle : xs.length + ys.length ≤ 4
    rotate_left
    · have hgt : decide ((4 : Int) < (xs.length : Int) + (ys.length : Int)) = true := by simp; omega
      have hal : Below u3.heap.size u3 (u3.alloc (.cells #[] 3)) := (Below.refl _ _).alloc (Nat.le_refl _) _
      have hr9 := (hal.block _ (lt_of_block HR.out)).trans HR.out
      have r0 := (cell_of_block hr9 0).1
      have r1 := (cell_of_block hr9 1).1
      have rf0 := (cell_of_block hr9 0).2
      have rf1 := (cell_of_block hr9 1).2
      have hs1 := heap_set_same _ (w.heap.size + 1) 0 (.int .i64 0) _ _ hr9
      have hs2 := heap_set_same _ (w.heap.size + 1) 1 (.slice none 0 0) _ _ hs1
      have HS2 := Lib.hid hs2
      have HAL := Lib.hid hal
      clear hs1 hs2 hr9 hal
      go_wp2
      have k5 := (cell_of_block HS2.out 0).1
      have k6 := (cell_of_block HS2.out 1).1
      have kf5 := (cell_of_block HS2.out 0).2
      have kf6 := (cell_of_block HS2.out 1).2
      refine bodyPost_ret (v := .tuple #[.agg #[.int .i64 0, .slice none 0 0], .slice (some ⟨u3.heap.size, 0, none⟩) 0 0]) (by simp [results, Tryz.results17, go_sem, k5, k6, kf5, kf6]) rfl ?_
      rw [show out = (⟨0, []⟩, []) from by rw [HOUT.out]; unfold bitsBinR bitsOk lenBin; rw [HGX.out, HGY.out, HOB.out, if_pos h14, decide_eq_false hle]; rfl]
      exact ⟨none, some ⟨u3.heap.size, 0, none⟩, 0, 0, rfl, Nat.zero_le _, Nat.zero_le _, .nil _ _ _ _, .nil _ _ _ _, below_set (below_set (bthen HW.out HAL.out) (by show w.heap.size ≤ w.heap.size + 1; omega) _) (by show w.heap.size ≤ w.heap.size + 1; omega) _, apart_nil rfl⟩
    have hgt : decide ((4 : Int) < (xs.length : Int) + (ys.length : Int)) = false := by simp; omega
    have HLB : Hid (lenBin op xs ys = true) := Lib.hid (by unfold lenBin; rw [if_pos h14]; simpa using hle)
    have H14 := Lib.hid h14
    clear h14
    have HLN9 : Hid (op ≠ 14 → xs.length = ys.length) := Lib.hid (fun h => absurd H14.out h)
    have hc9 := l7Bin_any (fun b => b < u3.heap.size) A c (n, true) op X Y cx cy xs ys u3 HG.out (fun _ h => h) hA ⟨n0, n1, n2⟩ ⟨by omega, by omega⟩ HX.out HY.out HXR.out HYR.out HLN9.out (by omega) (by omega) (by omega)
    dsimp only at hc9
    have HC := Lib.hid hc9
    have HNN : Hid (NB (run opsR (binP op xs ys) (n, true)).1.1 ∧ (run opsR (binP op xs ys) (n, true)).2.length ≤ 8) := Lib.hid (by
      have h9 := bd_runR _ (n, true) (bin_bd bok_rb HXR.out HYR.out (by omega) HLN9.out HOB.out) ⟨n0, n1, n2⟩
      exact ⟨h9.1, by have := h9.2.2.2; omega⟩)
    have HOUT2 : Hid (out = toldR (run opsR (binP op xs ys) (n, true))) := Lib.hid (by rw [HOUT.out]; unfold bitsBinR bitsOk; rw [HGX.out, HGY.out, HOB.out, HLB.out]; exact (told_out _).symm)
    clear hc9 HOUT
    generalize run opsR (binP op xs ys) (n, true) = T at *
    go_wp2_with fail
    refine HC.out.mono ?_
    rintro e u5 ⟨A5, c5, B5, d5, rfl, h1, h2, h3, h4, h5, hb9⟩
    have H2 := Lib.hid (h2.mono fun b hb => hb.elim (fun h9 => Nat.lt_of_lt_of_le h9 hb9.size) (fun h9 => h9.2))
    have H4 := Lib.hid (h4.mono fun b hb => hb.2)
    clear h2 h4 h5 HC z0 z1
    have HV := Lib.hid ((hb9.block _ (lt_of_block HV.out)).trans HV.out)
    have HR := Lib.hid ((hb9.block _ (lt_of_block HR.out)).trans HR.out)
    have HW := Lib.hid (bthen HW.out hb9)
    clear hb9
    have hbn : B5 = none → T.2.length = 0 := fun e => by
      rcases Nat.eq_zero_or_pos T.2.length with h0 | h0
      · exact h0
      · obtain ⟨ad, e9, _⟩ := H4.out h0; rw [e] at e9; cases e9
    have hln := HNN.out.2
    have hnn := HNN.out.1.2.2
    have HC := Lib.hid (l7Told_any A5 B5 c5 d5 T.1 T.2 u5 H2.out h1 (by omega) H4.out hbn (by omega))
    clear hbn hnn hln
    go_wp2_with fail
    refine HC.out.mono ?_
    rw [show toldR (T.1, T.2) = out from HOUT2.out.symm]
    rintro e u6 ⟨A6, B6, c6, d6, rfl, g1, g2, g3, g4, hb9, hap9⟩
    have G3 := Lib.hid g3
    have G4 := Lib.hid g4
    have HS := Lib.hid HW.out.size
    have HSZ5 := Lib.hid (show w.heap.size + 1 < u5.heap.size from lt_of_block HR.out)
    have HR := Lib.hid ((hb9.block _ (lt_of_block HR.out)).trans HR.out)
    have HW := Lib.hid (bthen HW.out hb9)
    clear hb9 g3 g4 HC
    have r0 := (cell_of_block HR.out 0).1
    have r1 := (cell_of_block HR.out 1).1
    have rf0 := (cell_of_block HR.out 0).2
    have rf1 := (cell_of_block HR.out 1).2
    go_wp2
    have hs1 := heap_set_same u6 (w.heap.size + 1) 0 (.int .i64 out.1.ins) _ _ HR.out
    have hs2 := heap_set_same _ (w.heap.size + 1) 1 (.slice A6 out.1.gs.length c6) _ _ hs1
    have hgr : u6.grownBy ((u6.setCell ⟨w.heap.size + 1, 0, none⟩ (.int .i64 out.1.ins)).setCell ⟨w.heap.size + 1, 1, none⟩ (.slice A6 out.1.gs.length c6)) (some (w.heap.size + 1)) := only_setCell (only_setCell (World.grownBy.refl _ _) _ _) _ _
    have k5 := (cell_of_block hs2 0).1
    have k6 := (cell_of_block hs2 1).1
    have kf5 := (cell_of_block hs2 0).2
    have kf6 := (cell_of_block hs2 1).2
    refine bodyPost_ret (v := .tuple #[.agg #[.int .i64 out.1.ins, .slice A6 out.1.gs.length c6], .slice B6 out.2.length d6]) (by simp [results, Tryz.results17, go_sem, k5, k6, kf5, kf6]) rfl ?_
    exact ⟨A6, B6, c6, d6, rfl, g1, g2, own_mono9 (own_grown9 G3.out hgr HSZ5.out) HS.out, own_mono9 (own_grown9 G4.out hgr HSZ5.out) HS.out, HW.out.grown hgr HW.out.size (fun k hk => by injection hk with hk; omega), hap9⟩
  · have e14 : (op == 14) = false := by simpa using h14
    have e14n : (op != 14) = true := by simpa using h14
    by_cases hle : xs.length = ys.length
    rotate_left
    · have hne : ((xs.length : Int) != (ys.length : Int)) = true := by simpa using (by omega : ¬ (xs.length : Int) = ys.length)
      have hal : Below u3.heap.size u3 (u3.alloc (.cells #[] 3)) := (Below.refl _ _).alloc (Nat.le_refl _) _
      have hr9 := (hal.block _ (lt_of_block HR.out)).trans HR.out
      have r0 := (cell_of_block hr9 0).1
      have r1 := (cell_of_block hr9 1).1
      have rf0 := (cell_of_block hr9 0).2
      have rf1 := (cell_of_block hr9 1).2
      have hs1 := heap_set_same _ (w.heap.size + 1) 0 (.int .i64 0) _ _ hr9
      have hs2 := heap_set_same _ (w.heap.size + 1) 1 (.slice none 0 0) _ _ hs1
      have HS2 := Lib.hid hs2
      have HAL := Lib.hid hal
      clear hs1 hs2 hr9 hal
      go_wp2
      have k5 := (cell_of_block HS2.out 0).1
      have k6 := (cell_of_block HS2.out 1).1
      have kf5 := (cell_of_block HS2.out 0).2
      have kf6 := (cell_of_block HS2.out 1).2
      refine bodyPost_ret (v := .tuple #[.agg #[.int .i64 0, .slice none 0 0], .slice (some ⟨u3.heap.size, 0, none⟩) 0 0]) (by simp [results, Tryz.results17, go_sem, k5, k6, kf5, kf6]) rfl ?_
      rw [show out = (⟨0, []⟩, []) from by rw [HOUT.out]; unfold bitsBinR bitsOk lenBin; rw [HGX.out, HGY.out, HOB.out, if_neg h14, decide_eq_false hle]; rfl]
      exact ⟨none, some ⟨u3.heap.size, 0, none⟩, 0, 0, rfl, Nat.zero_le _, Nat.zero_le _, .nil _ _ _ _, .nil _ _ _ _, below_set (below_set (bthen HW.out HAL.out) (by show w.heap.size ≤ w.heap.size + 1; omega) _) (by show w.heap.size ≤ w.heap.size + 1; omega) _, apart_nil rfl⟩
    have hne : ((xs.length : Int) != (ys.length : Int)) = false := by rw [hle]; simp
    have HLB : Hid (lenBin op xs ys = true) := Lib.hid (by unfold lenBin; rw [if_neg h14]; simpa using hle)
    have HLE := Lib.hid hle
    clear hle h14
    have HLN9 : Hid (op ≠ 14 → xs.length = ys.length) := Lib.hid (fun _ => HLE.out)
    have hc9 := l7Bin_any (fun b => b < u3.heap.size) A c (n, true) op X Y cx cy xs ys u3 HG.out (fun _ h => h) hA ⟨n0, n1, n2⟩ ⟨by omega, by omega⟩ HX.out HY.out HXR.out HYR.out HLN9.out (by omega) (by omega) (by omega)
    dsimp only at hc9
    have HC := Lib.hid hc9
    have HNN : Hid (NB (run opsR (binP op xs ys) (n, true)).1.1 ∧ (run opsR (binP op xs ys) (n, true)).2.length ≤ 8) := Lib.hid (by
      have h9 := bd_runR _ (n, true) (bin_bd bok_rb HXR.out HYR.out (by omega) HLN9.out HOB.out) ⟨n0, n1, n2⟩
      exact ⟨h9.1, by have := h9.2.2.2; omega⟩)
    have HOUT2 : Hid (out = toldR (run opsR (binP op xs ys) (n, true))) := Lib.hid (by rw [HOUT.out]; unfold bitsBinR bitsOk; rw [HGX.out, HGY.out, HOB.out, HLB.out]; exact (told_out _).symm)
    clear hc9 HOUT
    generalize run opsR (binP op xs ys) (n, true) = T at *
    go_wp2_with fail
    refine HC.out.mono ?_
    rintro e u5 ⟨A5, c5, B5, d5, rfl, h1, h2, h3, h4, h5, hb9⟩
    have H2 := Lib.hid (h2.mono fun b hb => hb.elim (fun h9 => Nat.lt_of_lt_of_le h9 hb9.size) (fun h9 => h9.2))
    have H4 := Lib.hid (h4.mono fun b hb => hb.2)
    clear h2 h4 h5 HC z0 z1
    have HV := Lib.hid ((hb9.block _ (lt_of_block HV.out)).trans HV.out)
    have HR := Lib.hid ((hb9.block _ (lt_of_block HR.out)).trans HR.out)
    have HW := Lib.hid (bthen HW.out hb9)
    clear hb9
    have hbn : B5 = none → T.2.length = 0 := fun e => by
      rcases Nat.eq_zero_or_pos T.2.length with h0 | h0
      · exact h0
      · obtain ⟨ad, e9, _⟩ := H4.out h0; rw [e] at e9; cases e9
    have hln := HNN.out.2
    have hnn := HNN.out.1.2.2
    have HC := Lib.hid (l7Told_any A5 B5 c5 d5 T.1 T.2 u5 H2.out h1 (by omega) H4.out hbn (by omega))
    clear hbn hnn hln
    go_wp2_with fail
    refine HC.out.mono ?_
    rw [show toldR (T.1, T.2) = out from HOUT2.out.symm]
    rintro e u6 ⟨A6, B6, c6, d6, rfl, g1, g2, g3, g4, hb9, hap9⟩
    have G3 := Lib.hid g3
    have G4 := Lib.hid g4
    have HS := Lib.hid HW.out.size
    have HSZ5 := Lib.hid (show w.heap.size + 1 < u5.heap.size from lt_of_block HR.out)
    have HR := Lib.hid ((hb9.block _ (lt_of_block HR.out)).trans HR.out)
    have HW := Lib.hid (bthen HW.out hb9)
    clear hb9 g3 g4 HC
    have r0 := (cell_of_block HR.out 0).1
    have r1 := (cell_of_block HR.out 1).1
    have rf0 := (cell_of_block HR.out 0).2
    have rf1 := (cell_of_block HR.out 1).2
    go_wp2
    have hs1 := heap_set_same u6 (w.heap.size + 1) 0 (.int .i64 out.1.ins) _ _ HR.out
    have hs2 := heap_set_same _ (w.heap.size + 1) 1 (.slice A6 out.1.gs.length c6) _ _ hs1
    have hgr : u6.grownBy ((u6.setCell ⟨w.heap.size + 1, 0, none⟩ (.int .i64 out.1.ins)).setCell ⟨w.heap.size + 1, 1, none⟩ (.slice A6 out.1.gs.length c6)) (some (w.heap.size + 1)) := only_setCell (only_setCell (World.grownBy.refl _ _) _ _) _ _
    have k5 := (cell_of_block hs2 0).1
    have k6 := (cell_of_block hs2 1).1
    have kf5 := (cell_of_block hs2 0).2
    have kf6 := (cell_of_block hs2 1).2
    refine bodyPost_ret (v := .tuple #[.agg #[.int .i64 out.1.ins, .slice A6 out.1.gs.length c6], .slice B6 out.2.length d6]) (by simp [results, Tryz.results17, go_sem, k5, k6, kf5, kf6]) rfl ?_
    exact ⟨A6, B6, c6, d6, rfl, g1, g2, own_mono9 (own_grown9 G3.out hgr HSZ5.out) HS.out, own_mono9 (own_grown9 G4.out hgr HSZ5.out) HS.out, HW.out.grown hgr HW.out.size (fun k hk => by injection hk with hk; omega), hap9⟩
end Go.Proofs.YtjghcaghigebjaaGreatDoor
