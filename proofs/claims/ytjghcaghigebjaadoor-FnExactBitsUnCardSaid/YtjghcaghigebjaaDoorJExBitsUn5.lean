/- The program's BitsIf. The program's BitsIf, whole. The reference's gates with room: l7And, l7Xor, l7Or, l7One. append of one integer onto a row of the call's own, and where the row lies then. The reference's l7Ifs. The reference's l7Right, l7Told. The reference's BitsIf. Nets and marks as an answer: two rows in two blocks, marked one behind the other; BitsIf in the laws' one form. -/
import Derived.Test.YtjghcaghigebjaaDoorChecked
import Derived.Test.YtjghcaghigebjaaDoorJExBitsUn0
import Derived.Test.YtjghcaghigebjaaDoorJExBitsUn1
import Derived.Test.YtjghcaghigebjaaDoorJExBitsUn2
import Derived.Test.YtjghcaghigebjaaDoorJExBitsUn3
import Derived.Test.YtjghcaghigebjaaDoorJExBitsUn4
/-! The program's BitsIf. -/
namespace Go.Proofs.YtjghcaghigebjaaDoor
open Go Go.RowKit

theorem Lay.Sl.upP {α : Type} {L : Lay α} {w w' : World} {A : Option Addr} {xs : List α} (h : L.Pl w A xs) (hb : Below w.heap.size w w') : L.Pl w' A xs :=
  (h.keep fun b hp => hb.block b hp.lt).mono fun b ⟨cs, fr, h1⟩ => ⟨cs, fr, (hb.block b (lt_of_block h1)).trans h1⟩
theorem mark_mb {n : N} {m : Int} (hn : NB n) (h : netMark n m = true) : MB m := by
  obtain ⟨h0, h1, h2⟩ := hn
  have : m ≠ 0 ∧ -(1 + n.ins + n.gs.length) ≤ m ∧ m ≤ 1 + n.ins + n.gs.length := by simpa [netMark, sigOf] using h
  unfold MB; omega
theorem goodL_iff {n : N} {a : List Int} : goodL n a = true ↔ 1 ≤ a.length ∧ a.length ≤ 4 ∧ ∀ m ∈ a, netMark n m = true := by
  unfold goodL
  simp only [Bool.and_eq_true, decide_eq_true_eq, List.all_eq_true, and_assoc]
/-- What is so while the lists are read. -/
def TwoI (a0 a1 : Addr) (lo : Nat) (W : World) (q r : Nat) (n : N) (e : Option Nat) (x : World) : Prop := BelB lo W x ∧ Bx a0 a1 lo x q r e ∧ Circ lo x r n n.gs
theorem TwoI.up {a0 a1 : Addr} {lo : Nat} {W : World} {q r : Nat} {n : N} {e : Option Nat} {x x' : World} (h : TwoI a0 a1 lo W q r n e x) (hb : Below x.heap.size x x') : TwoI a0 a1 lo W q r n e x' := ⟨h.1.trans (.of hb h.2.1.size), h.2.1.up hb, h.2.2.up hb⟩
def stE (b : Bool) (e e' : Option Nat) : Option Nat := if b = true then e else e'
def bitsOk (n : N) (ok : Bool) (p : PG (List Int)) : N × List Int := if ok = true then bitsOut (run opsP p ⟨n, none⟩) else (⟨0, []⟩, [])
def bitsIfR (n : N) (c : Int) (xs ys : List Int) : N × List Int := bitsOk n (goodL n xs && goodL n ys && netMark n c && decide (xs.length = ys.length)) (eachP (muxP c) xs ys)
set_option maxRecDepth 100000 in
set_option maxHeartbeats 4000000 in
theorem bitsIf1_any (a0 a1 : Addr) (lo q r ba bb bc : Nat) (n : N) (A B : Option Addr) (ca cb : Nat) (xs ys : List Int) (c0 : Int) (w : World) (h : Bd a0 a1 lo w q r ⟨n, none⟩)
    (ha : w.heap[ba]? = some (.cells #[.slice A xs.length ca] 25 (0, 0))) (hb : w.heap[bb]? = some (.cells #[.slice B ys.length cb] 25 (0, 0))) (hc : w.heap[bc]? = some (.cells #[.int .i64 c0] 3 (0, 0)))
    (hX : Lay.int.Sl w (fun b => b < lo) A xs) (hY : Lay.int.Sl w (fun b => b < lo) B ys) (hxi : i64s xs) (hyi : i64s ys) (hci : -9223372036854775808 ≤ c0 ∧ c0 ≤ 9223372036854775807) (hlxs : xs.length ≤ 1048576) (hlys : ys.length ≤ 1048576) :
    Calls Tryd.prog 47 #[.pointer (some ⟨q, 0, none⟩), .pointer (some ⟨ba, 0, none⟩), .pointer (some ⟨bb, 0, none⟩), .pointer (some ⟨bc, 0, none⟩)] w (RetBC a0 a1 lo w q r (bitsIfR n c0 xs ys)) := by
  have HA := Lib.hid ha
  have HB := Lib.hid hb
  have HCc := Lib.hid hc
  have Hxs := Lib.hid hX
  have Hys := Lib.hid hY
  have HIxs := Lib.hid hxi
  have HIys := Lib.hid hyi
  have HBD := Lib.hid h
  have HNB := Lib.hid h.nb
  have hlo := h.size
  obtain ⟨e1, he1⟩ : ∃ e1, e1 = listE n none xs := ⟨_, rfl⟩
  obtain ⟨e2, he2⟩ : ∃ e2, e2 = listE n e1 ys := ⟨_, rfl⟩
  obtain ⟨e3, he3⟩ : ∃ e3, e3 = failE e2 (!netMark n c0) 0 := ⟨_, rfl⟩
  have HE1 := Lib.hid he1
  have HE2 := Lib.hid he2
  have HE3 := Lib.hid he3
  obtain ⟨hc0, hc1⟩ := hci
  have HOUT : Hid (bitsIfR n c0 xs ys = if e3 = none then bitsOut (chooseS ⟨n, none⟩ c0 xs ys) else (⟨0, []⟩, [])) := Lib.hid (by
    have h3 : e3 = failE none (!goodL n xs || !goodL n ys || !netMark n c0) 0 := by rw [he3, he2, he1]; unfold listE; rw [failE_twice, failE_twice, Bool.or_assoc]
    rw [h3]
    unfold bitsIfR bitsOk chooseS
    cases goodL n xs <;> cases goodL n ys <;> cases netMark n c0 <;> simp [failE]
    by_cases hl : xs.length = ys.length
    · simp [hl]
    · simp [hl, bitsOut])
  have HGOOD : Hid (e3 = none → goodL n xs = true ∧ goodL n ys = true ∧ netMark n c0 = true) := Lib.hid (fun h0 => by
    have h3 : e3 = failE none (!goodL n xs || !goodL n ys || !netMark n c0) 0 := by rw [he3, he2, he1]; unfold listE; rw [failE_twice, failE_twice, Bool.or_assoc]
    rw [h3] at h0
    have := (failE_none h0).2
    revert this
    cases goodL n xs <;> cases goodL n ys <;> cases netMark n c0 <;> simp)
  clear he1 he2 he3 h ha hb hc hX hY hxi hyi
  go_enter Tryd.func47, Tryd.ntmps47
  go_wp2
  refine wp_region_rel4 [[], [], [(0, 8), (1, 9)], [], [], [(3, 11), (4, 12)], [(2, 10)], [(5, 13)]]
    (fun x9 y9 => Below x9.heap.size x9 y9)
    [(2, fun x9 y9 => BelB lo x9 y9), (5, fun x9 y9 => BelB lo x9 y9)]
    (fun f9 x9 => TwoI a0 a1 lo w q r n (stE (f9 5) e2 (stE (f9 2) e1 none)) x9)
    [fun vs9 _ => vs9 0 = (.pointer (some ⟨q, 0, none⟩)),
    fun vs9 _ => vs9 1 = (.slice A xs.length ca),
    fun vs9 y9 => (fun v z => ∃ A9 c9, v = .slice A9 xs.length c9 ∧ xs.length ≤ c9 ∧ Lay.int.Pl z A9 xs) (vs9 2) y9,
    fun vs9 _ => vs9 3 = (.pointer (some ⟨q, 0, none⟩)),
    fun vs9 _ => vs9 4 = (.slice B ys.length cb),
    fun vs9 y9 => (fun v z => ∃ A9 c9, v = .slice A9 ys.length c9 ∧ ys.length ≤ c9 ∧ Lay.int.Pl z A9 ys) (vs9 5) y9,
    fun vs9 _ => vs9 6 = vs9 2,
    fun vs9 _ => vs9 7 = vs9 5]
    [(0, 8), (1, 9), (2, 10), (3, 11), (4, 12), (5, 13), (6, 6), (7, 7)] (by kernel_rfl) (by kernel_rfl) (by kernel_rfl) (by kernel_rfl)
    (fun _ => Below.refl _ _) ⟨fun _ => BelB.refl _ _, fun _ => BelB.refl _ _, trivial⟩
    ⟨⟨.inr (fun _ _ _ h _ => h), ⟨.inr (.inr (fun _ _ _ h _ => h)), .inr (.inr (fun _ _ _ h _ => h)), trivial⟩⟩,
    ⟨.inr (fun _ _ _ h _ => h), ⟨.inr (.inr (fun _ _ _ h _ => h)), .inr (.inr (fun _ _ _ h _ => h)), trivial⟩⟩,
    ⟨.inr (fun vs9 x9 y9 h9 hR9 => (show ∀ v9 y8 y7, (fun v z => ∃ A9 c9, v = .slice A9 xs.length c9 ∧ xs.length ≤ c9 ∧ Lay.int.Pl z A9 xs) v9 y8 → (fun x9 y9 => Below x9.heap.size x9 y9) y8 y7 → (fun v z => ∃ A9 c9, v = .slice A9 xs.length c9 ∧ xs.length ≤ c9 ∧ Lay.int.Pl z A9 xs) v9 y7 from fun _ _ _ ⟨A9, c9, h1, h2, h3⟩ hR => ⟨A9, c9, h1, h2, h3.upP hR⟩) (vs9 2) x9 y9 h9 hR9), ⟨.inr (.inl rfl), .inr (.inr (fun vs9 x9 y9 h9 hR9 => (show ∀ v9 y8 y7, (fun v z => ∃ A9 c9, v = .slice A9 xs.length c9 ∧ xs.length ≤ c9 ∧ Lay.int.Pl z A9 xs) v9 y8 → (fun x9 y9 => BelB lo x9 y9) y8 y7 → (fun v z => ∃ A9 c9, v = .slice A9 xs.length c9 ∧ xs.length ≤ c9 ∧ Lay.int.Pl z A9 xs) v9 y7 from fun _ _ _ ⟨A9, c9, h1, h2, h3⟩ hR => ⟨A9, c9, h1, h2, h3.upB hR⟩) (vs9 2) x9 y9 h9 hR9)), trivial⟩⟩,
    ⟨.inr (fun _ _ _ h _ => h), ⟨.inr (.inr (fun _ _ _ h _ => h)), .inr (.inr (fun _ _ _ h _ => h)), trivial⟩⟩,
    ⟨.inr (fun _ _ _ h _ => h), ⟨.inr (.inr (fun _ _ _ h _ => h)), .inr (.inr (fun _ _ _ h _ => h)), trivial⟩⟩,
    ⟨.inr (fun vs9 x9 y9 h9 hR9 => (show ∀ v9 y8 y7, (fun v z => ∃ A9 c9, v = .slice A9 ys.length c9 ∧ ys.length ≤ c9 ∧ Lay.int.Pl z A9 ys) v9 y8 → (fun x9 y9 => Below x9.heap.size x9 y9) y8 y7 → (fun v z => ∃ A9 c9, v = .slice A9 ys.length c9 ∧ ys.length ≤ c9 ∧ Lay.int.Pl z A9 ys) v9 y7 from fun _ _ _ ⟨A9, c9, h1, h2, h3⟩ hR => ⟨A9, c9, h1, h2, h3.upP hR⟩) (vs9 5) x9 y9 h9 hR9), ⟨.inl (by kernel_rfl), .inr (.inl rfl), trivial⟩⟩,
    ⟨.inr (fun _ _ _ h _ => h), ⟨.inr (.inr (fun _ _ _ h _ => h)), .inr (.inr (fun _ _ _ h _ => h)), trivial⟩⟩,
    ⟨.inr (fun _ _ _ h _ => h), ⟨.inr (.inr (fun _ _ _ h _ => h)), .inr (.inr (fun _ _ _ h _ => h)), trivial⟩⟩, trivial⟩ ⟨fun vs vs' x h _ hv => (by dsimp only at hv ⊢; first | (rw [← h]; exact hv) | exact hv),
    fun vs vs' x h _ hv => (by dsimp only at hv ⊢; first | (rw [← h]; exact hv) | exact hv),
    fun vs vs' x h _ hv => (by dsimp only at hv ⊢; first | (rw [← h]; exact hv) | exact hv),
    fun vs vs' x h _ hv => (by dsimp only at hv ⊢; first | (rw [← h]; exact hv) | exact hv),
    fun vs vs' x h _ hv => (by dsimp only at hv ⊢; first | (rw [← h]; exact hv) | exact hv),
    fun vs vs' x h _ hv => (by dsimp only at hv ⊢; first | (rw [← h]; exact hv) | exact hv),
    fun vs vs' x h hd hv => (by have h2 := hd 2 (by decide); show vs' 6 = vs' 2; exact h.symm.trans (Eq.trans hv h2)),
    fun vs vs' x h hd hv => (by have h2 := hd 5 (by decide); show vs' 7 = vs' 5; exact h.symm.trans (Eq.trans hv h2)), trivial⟩ (⟨BelB.of (below_drewN (Below.refl _ _) 1) hlo, HBD.out.toBx.up (below_drewN (Below.refl _ _) 1), (HBD.out.circ rfl).up (below_drewN (Below.refl _ _) 1)⟩) ⟨?_, ?_, ?_, ?_, ?_, ?_, ?_, ?_, trivial⟩ ?_
  · intro vals xw f hf1 hf2 hf3 hI hF
    clear hf2 hf3
    dsimp only [owes4, bare]
    simp only [putsD, Act.put, List.setIfInBounds_toArray, List.set_cons_zero, List.set_cons_succ]
    go_wp2
    exact ⟨rfl, rfl, ⟨fun h9 => absurd h9 (Nat.ne_of_beq_eq_false rfl), fun _ => ⟨fun h9 => absurd h9 (Nat.ne_of_beq_eq_false rfl), fun _ => Below.refl _ _⟩⟩, hI⟩
  · intro vals xw f hf1 hf2 hf3 hI hF
    clear hf2 hf3
    dsimp only [owes4, bare]
    simp only [putsD, Act.put, List.setIfInBounds_toArray, List.set_cons_zero, List.set_cons_succ]
    have c9 := (cell_of_block (kd_of hI.1 HA.out (by decide) (by decide) (by decide)) 0).1
    go_wp2
    exact ⟨rfl, rfl, ⟨fun h9 => absurd h9 (Nat.ne_of_beq_eq_false rfl), fun _ => ⟨fun h9 => absurd h9 (Nat.ne_of_beq_eq_false rfl), fun _ => Below.refl _ _⟩⟩, hI⟩
  · intro vals xw f hf1 hf2 hf3 hI hF
    have k5 : f 5 = false := hf3 5 (by kernel_rfl)
    clear hf2 hf3
    simp only [saysD, List.getD_cons_zero, List.getD_cons_succ, and_true] at hF
    obtain ⟨e8, e9⟩ := hF
    dsimp only [owes4, bare]
    simp only [putsD, Act.put, List.setIfInBounds_toArray, List.set_cons_zero, List.set_cons_succ]
    simp only [e8, e9]
    have hI := hI
    rw [hf1, k5] at hI
    have HX9 := Lib.hid (Hxs.out.below hI.1.bel (fun _ h => h))
    have I1 := Lib.hid hI.1
    have HC9 := Lib.hid (list_any a0 a1 lo q r n none A ca xs xw hI.2.1 hI.2.2 HNB.out HX9.out HIxs.out hlxs)
    clear hI HX9
    go_wp2_with fail
    refine HC9.out.mono ?_
    rintro e wx ⟨A9, c9, rfl, h1, h2, h3, h4, h5⟩
    have H2 := Lib.hid h2
    have H3 := Lib.hid h3
    have H4 := Lib.hid h4
    have H5 := Lib.hid h5
    clear h2 h3 h4 h5 HC9
    go_wp2
    exact ⟨rfl, ⟨A9, c9, rfl, h1, H2.out⟩, ⟨fun _ => H3.out, fun h9 => absurd rfl h9⟩, show TwoI a0 a1 lo w q r n (stE (did f 2 5) e2 (stE (did f 2 2) e1 none)) wx from (by rw [did_same, did_ne (by decide), k5]; exact ⟨I1.out.trans H3.out, by rw [HE1.out]; exact H4.out, H5.out⟩)⟩
  · intro vals xw f hf1 hf2 hf3 hI hF
    clear hf2 hf3
    dsimp only [owes4, bare]
    simp only [putsD, Act.put, List.setIfInBounds_toArray, List.set_cons_zero, List.set_cons_succ]
    go_wp2
    exact ⟨rfl, rfl, ⟨fun h9 => absurd h9 (Nat.ne_of_beq_eq_false rfl), fun _ => ⟨fun h9 => absurd h9 (Nat.ne_of_beq_eq_false rfl), fun _ => Below.refl _ _⟩⟩, hI⟩
  · intro vals xw f hf1 hf2 hf3 hI hF
    clear hf2 hf3
    dsimp only [owes4, bare]
    simp only [putsD, Act.put, List.setIfInBounds_toArray, List.set_cons_zero, List.set_cons_succ]
    have c9 := (cell_of_block (kd_of hI.1 HB.out (by decide) (by decide) (by decide)) 0).1
    go_wp2
    exact ⟨rfl, rfl, ⟨fun h9 => absurd h9 (Nat.ne_of_beq_eq_false rfl), fun _ => ⟨fun h9 => absurd h9 (Nat.ne_of_beq_eq_false rfl), fun _ => Below.refl _ _⟩⟩, hI⟩
  · intro vals xw f hf1 hf2 hf3 hI hF
    have k2 : f 2 = true := hf2 2 (by kernel_rfl)
    clear hf2 hf3
    simp only [saysD, List.getD_cons_zero, List.getD_cons_succ, and_true] at hF
    obtain ⟨e11, e12⟩ := hF
    dsimp only [owes4, bare]
    simp only [putsD, Act.put, List.setIfInBounds_toArray, List.set_cons_zero, List.set_cons_succ]
    simp only [e11, e12]
    have hI := hI
    rw [hf1, k2] at hI
    have HX9 := Lib.hid (Hys.out.below hI.1.bel (fun _ h => h))
    have I1 := Lib.hid hI.1
    have HC9 := Lib.hid (list_any a0 a1 lo q r n e1 B cb ys xw hI.2.1 hI.2.2 HNB.out HX9.out HIys.out hlys)
    clear hI HX9
    go_wp2_with fail
    refine HC9.out.mono ?_
    rintro e wx ⟨A9, c9, rfl, h1, h2, h3, h4, h5⟩
    have H2 := Lib.hid h2
    have H3 := Lib.hid h3
    have H4 := Lib.hid h4
    have H5 := Lib.hid h5
    clear h2 h3 h4 h5 HC9
    go_wp2
    exact ⟨rfl, ⟨A9, c9, rfl, h1, H2.out⟩, ⟨fun h9 => absurd h9 (Nat.ne_of_beq_eq_false rfl), fun _ => ⟨fun _ => H3.out, fun h9 => absurd rfl h9⟩⟩, show TwoI a0 a1 lo w q r n (stE (did f 5 5) e2 (stE (did f 5 2) e1 none)) wx from (by rw [did_same]; exact ⟨I1.out.trans H3.out, by rw [HE2.out]; exact H4.out, H5.out⟩)⟩
  · intro vals xw f hf1 hf2 hf3 hI hF
    clear hf2 hf3
    simp only [saysD, List.getD_cons_zero, List.getD_cons_succ, and_true] at hF
    obtain ⟨B8, d8, e10, _⟩ := hF
    dsimp only [owes4, bare]
    simp only [putsD, Act.put, List.setIfInBounds_toArray, List.set_cons_zero, List.set_cons_succ]
    simp only [e10]
    go_wp2
    exact ⟨rfl, e10.symm, ⟨fun h9 => absurd h9 (Nat.ne_of_beq_eq_false rfl), fun _ => ⟨fun h9 => absurd h9 (Nat.ne_of_beq_eq_false rfl), fun _ => Below.refl _ _⟩⟩, hI⟩
  · intro vals xw f hf1 hf2 hf3 hI hF
    clear hf2 hf3
    simp only [saysD, List.getD_cons_zero, List.getD_cons_succ, and_true] at hF
    obtain ⟨B8, d8, e13, _⟩ := hF
    dsimp only [owes4, bare]
    simp only [putsD, Act.put, List.setIfInBounds_toArray, List.set_cons_zero, List.set_cons_succ]
    simp only [e13]
    go_wp2
    exact ⟨rfl, e13.symm, ⟨fun h9 => absurd h9 (Nat.ne_of_beq_eq_false rfl), fun _ => ⟨fun h9 => absurd h9 (Nat.ne_of_beq_eq_false rfl), fun _ => Below.refl _ _⟩⟩, hI⟩
  · intro vals xw f hall hI hF
    rw [show List.range _ = [0, 1, 2, 3, 4, 5, 6, 7] from rfl] at hF
    simp only [says, List.getD_cons_zero, List.getD_cons_succ, and_true] at hF
    have i9 : TwoI a0 a1 lo w q r n (stE (f 5) e2 (stE (f 2) e1 none)) xw := hI
    rw [hall 5 (by decide)] at i9
    obtain ⟨_, _, ⟨A7, c7, e7, hc7, hp7⟩, _, _, ⟨B7, d7, e8, hd7, hq7⟩, e5, e6⟩ := hF
    rw [e7] at e5
    rw [e8] at e6
    simp only [putsD, Act.put, List.setIfInBounds_toArray, List.set_cons_zero, List.set_cons_succ]
    simp only [e5, e6]
    have I1 := Lib.hid i9.1
    have I2 := Lib.hid (show Bx a0 a1 lo xw q r e2 from i9.2.1)
    have I3 := Lib.hid i9.2.2
    have HP7 := Lib.hid hp7
    have HQ7 := Lib.hid hq7
    clear i9 hI e5 e6 e7 e8 hp7 hq7
    obtain ⟨mk, hmk⟩ : ∃ mk, netMark n c0 = mk := ⟨_, rfl⟩
    rw [hmk] at HE3
    have HMK := Lib.hid hmk
    clear hmk
    have HW2 := Lib.hid I1.out
    have HBK : Hid (∀ x, BelB lo xw x → Lay.int.Pl x A7 xs ∧ Lay.int.Pl x B7 ys) := Lib.hid fun x hx => ⟨HP7.out.upB hx, HQ7.out.upB hx⟩
    clear HP7 HQ7
    obtain ⟨wz, hwz⟩ : ∃ wz, wz = xw := ⟨_, rfl⟩
    rw [← hwz] at HBK
    have HWZ := Lib.hid hwz
    clear hwz
    go_wp2
    refine wp_region_rel4 [[], [], [(1, 15)], [(2, 16)], [(3, 17)], [], [(4, 18), (5, 19)], [(6, 20)], [], [(0, 14), (7, 21), (8, 22)]]
      (fun x9 y9 => Below x9.heap.size x9 y9)
      [(9, fun x9 y9 => BelB lo x9 y9)]
      (fun f9 x9 => TwoI a0 a1 lo w q r n (stE (f9 9) e3 e2) x9 ∧ BelB lo wz x9)
      [fun vs9 _ => vs9 0 = (.pointer (some ⟨q, 0, none⟩)),
    fun vs9 _ => vs9 1 = (.pointer (some ⟨q, 0, none⟩)),
    fun vs9 _ => vs9 2 = (.pointer (some ⟨q, 0, none⟩)),
    fun vs9 _ => vs9 3 = (.pointer (some ⟨q, 0, none⟩)),
    fun vs9 _ => vs9 4 = (.pointer (some ⟨r, 0, none⟩)),
    fun vs9 _ => vs9 5 = (.int .i64 c0),
    fun vs9 _ => vs9 6 = (.bool mk),
    fun vs9 _ => vs9 7 = (.bool (!mk)),
    fun vs9 _ => vs9 8 = (sentV a0),
    fun _ _ => True]
      [(0, 14), (1, 15), (2, 16), (3, 17), (4, 18), (5, 19), (6, 20), (7, 21), (8, 22), (9, 23)] (by kernel_rfl) (by kernel_rfl) (by kernel_rfl) (by kernel_rfl)
      (fun _ => Below.refl _ _) ⟨fun _ => BelB.refl _ _, trivial⟩
      ⟨⟨.inr (fun _ _ _ h _ => h), ⟨.inr (.inr (fun _ _ _ h _ => h)), trivial⟩⟩,
    ⟨.inr (fun _ _ _ h _ => h), ⟨.inr (.inr (fun _ _ _ h _ => h)), trivial⟩⟩,
    ⟨.inr (fun _ _ _ h _ => h), ⟨.inr (.inr (fun _ _ _ h _ => h)), trivial⟩⟩,
    ⟨.inr (fun _ _ _ h _ => h), ⟨.inr (.inr (fun _ _ _ h _ => h)), trivial⟩⟩,
    ⟨.inr (fun _ _ _ h _ => h), ⟨.inr (.inr (fun _ _ _ h _ => h)), trivial⟩⟩,
    ⟨.inr (fun _ _ _ h _ => h), ⟨.inr (.inr (fun _ _ _ h _ => h)), trivial⟩⟩,
    ⟨.inr (fun _ _ _ h _ => h), ⟨.inr (.inr (fun _ _ _ h _ => h)), trivial⟩⟩,
    ⟨.inr (fun _ _ _ h _ => h), ⟨.inr (.inr (fun _ _ _ h _ => h)), trivial⟩⟩,
    ⟨.inr (fun _ _ _ h _ => h), ⟨.inr (.inr (fun _ _ _ h _ => h)), trivial⟩⟩,
    ⟨.inr (fun _ _ _ h _ => h), ⟨.inr (.inl rfl), trivial⟩⟩, trivial⟩ ⟨fun vs vs' x h _ hv => (by dsimp only at hv ⊢; first | (rw [← h]; exact hv) | exact hv),
    fun vs vs' x h _ hv => (by dsimp only at hv ⊢; first | (rw [← h]; exact hv) | exact hv),
    fun vs vs' x h _ hv => (by dsimp only at hv ⊢; first | (rw [← h]; exact hv) | exact hv),
    fun vs vs' x h _ hv => (by dsimp only at hv ⊢; first | (rw [← h]; exact hv) | exact hv),
    fun vs vs' x h _ hv => (by dsimp only at hv ⊢; first | (rw [← h]; exact hv) | exact hv),
    fun vs vs' x h _ hv => (by dsimp only at hv ⊢; first | (rw [← h]; exact hv) | exact hv),
    fun vs vs' x h _ hv => (by dsimp only at hv ⊢; first | (rw [← h]; exact hv) | exact hv),
    fun vs vs' x h _ hv => (by dsimp only at hv ⊢; first | (rw [← h]; exact hv) | exact hv),
    fun vs vs' x h _ hv => (by dsimp only at hv ⊢; first | (rw [← h]; exact hv) | exact hv),
    fun _ _ _ _ _ _ => trivial, trivial⟩ (⟨(show TwoI a0 a1 lo w q r n e2 xw from ⟨I1.out, I2.out, I3.out⟩).up (below_drewN (Below.refl _ _) 1), by rw [HWZ.out]; exact BelB.of (below_drewN (Below.refl _ _) 1) I2.out.size⟩) ⟨?_, ?_, ?_, ?_, ?_, ?_, ?_, ?_, ?_, ?_, trivial⟩ ?_
    · intro vals xw f hf1 hf2 hf3 hI hF
      clear hf2 hf3
      dsimp only [owes4, bare]
      simp only [putsD, Act.put, List.setIfInBounds_toArray, List.set_cons_zero, List.set_cons_succ]
      go_wp2
      exact ⟨rfl, rfl, ⟨fun h9 => absurd h9 (Nat.ne_of_beq_eq_false rfl), fun _ => Below.refl _ _⟩, hI⟩
    · intro vals xw f hf1 hf2 hf3 hI hF
      clear hf2 hf3
      dsimp only [owes4, bare]
      simp only [putsD, Act.put, List.setIfInBounds_toArray, List.set_cons_zero, List.set_cons_succ]
      go_wp2
      exact ⟨rfl, rfl, ⟨fun h9 => absurd h9 (Nat.ne_of_beq_eq_false rfl), fun _ => Below.refl _ _⟩, hI⟩
    · intro vals xw f hf1 hf2 hf3 hI hF
      clear hf2 hf3
      simp only [saysD, List.getD_cons_zero, List.getD_cons_succ, and_true] at hF
      have e15 := hF
      dsimp only [owes4, bare]
      simp only [putsD, Act.put, List.setIfInBounds_toArray, List.set_cons_zero, List.set_cons_succ]
      simp only [e15]
      go_wp2
      exact ⟨rfl, rfl, ⟨fun h9 => absurd h9 (Nat.ne_of_beq_eq_false rfl), fun _ => Below.refl _ _⟩, hI⟩
    · intro vals xw f hf1 hf2 hf3 hI hF
      clear hf2 hf3
      simp only [saysD, List.getD_cons_zero, List.getD_cons_succ, and_true] at hF
      have e16 := hF
      dsimp only [owes4, bare]
      simp only [putsD, Act.put, List.setIfInBounds_toArray, List.set_cons_zero, List.set_cons_succ]
      simp only [e16]
      go_wp2
      exact ⟨rfl, rfl, ⟨fun h9 => absurd h9 (Nat.ne_of_beq_eq_false rfl), fun _ => Below.refl _ _⟩, hI⟩
    · intro vals xw f hf1 hf2 hf3 hI hF
      clear hf2 hf3
      simp only [saysD, List.getD_cons_zero, List.getD_cons_succ, and_true] at hF
      have e17 := hF
      dsimp only [owes4, bare]
      simp only [putsD, Act.put, List.setIfInBounds_toArray, List.set_cons_zero, List.set_cons_succ]
      simp only [e17]
      have c8 := (cell_of_block hI.1.2.1.box 0).1
      go_wp2
      exact ⟨rfl, rfl, ⟨fun h9 => absurd h9 (Nat.ne_of_beq_eq_false rfl), fun _ => Below.refl _ _⟩, hI⟩
    · intro vals xw f hf1 hf2 hf3 hI hF
      clear hf2 hf3
      dsimp only [owes4, bare]
      simp only [putsD, Act.put, List.setIfInBounds_toArray, List.set_cons_zero, List.set_cons_succ]
      have c9 := (cell_of_block (kd_of hI.1.1 HCc.out (by decide) (by decide) (by decide)) 0).1
      go_wp2
      exact ⟨rfl, rfl, ⟨fun h9 => absurd h9 (Nat.ne_of_beq_eq_false rfl), fun _ => Below.refl _ _⟩, hI⟩
    · intro vals xw f hf1 hf2 hf3 hI hF
      clear hf2 hf3
      simp only [saysD, List.getD_cons_zero, List.getD_cons_succ, and_true] at hF
      obtain ⟨e18, e19⟩ := hF
      dsimp only [owes4, bare]
      simp only [putsD, Act.put, List.setIfInBounds_toArray, List.set_cons_zero, List.set_cons_succ]
      simp only [e18, e19]
      have HI := Lib.hid hI
      clear hI
      go_wp2_with fail
      refine (has_any lo r n n.gs c0 xw HI.out.1.2.2 HNB.out.2.2 HNB.out.1 HNB.out.2.1 hc0 hc1).mono ?_
      rintro e wx ⟨rfl, hb9⟩
      rw [HMK.out]
      have HB9 := Lib.hid hb9
      clear hb9
      go_wp2
      exact ⟨rfl, rfl, ⟨fun h9 => absurd h9 (Nat.ne_of_beq_eq_false rfl), fun _ => HB9.out⟩, HI.out.1.up HB9.out, HI.out.2.trans (.of HB9.out HI.out.1.2.1.size)⟩
    · intro vals xw f hf1 hf2 hf3 hI hF
      clear hf2 hf3
      simp only [saysD, List.getD_cons_zero, List.getD_cons_succ, and_true] at hF
      have e20 := hF
      dsimp only [owes4, bare]
      simp only [putsD, Act.put, List.setIfInBounds_toArray, List.set_cons_zero, List.set_cons_succ]
      simp only [e20]
      go_wp2
      exact ⟨rfl, rfl, ⟨fun h9 => absurd h9 (Nat.ne_of_beq_eq_false rfl), fun _ => Below.refl _ _⟩, hI⟩
    · intro vals xw f hf1 hf2 hf3 hI hF
      clear hf2 hf3
      dsimp only [owes4, bare]
      simp only [putsD, Act.put, List.setIfInBounds_toArray, List.set_cons_zero, List.set_cons_succ]
      have c8 : xw.cell? ⟨0, 0, none⟩ = some (sentV a0) := hI.1.2.1.g.c0
      go_wp2
      exact ⟨rfl, rfl, ⟨fun h9 => absurd h9 (Nat.ne_of_beq_eq_false rfl), fun _ => Below.refl _ _⟩, hI⟩
    · intro vals xw f hf1 hf2 hf3 hI hF
      clear hf2 hf3
      simp only [saysD, List.getD_cons_zero, List.getD_cons_succ, and_true] at hF
      obtain ⟨e14, e21, e22⟩ := hF
      dsimp only [owes4, bare]
      simp only [putsD, Act.put, List.setIfInBounds_toArray, List.set_cons_zero, List.set_cons_succ]
      simp only [e14, e21, e22]
      obtain ⟨⟨i1, i2, i3⟩, i4⟩ := hI
      have J4 := Lib.hid i4
      clear i4
      rw [hf1] at i2
      have J1 := Lib.hid i1
      have J3 := Lib.hid i3
      have HF9 := Lib.hid (fail_any a0 a1 lo q r e2 (!mk) 0 xw i2)
      rw [show errV a0 a1 (some 0) = sentV a0 from rfl] at HF9
      clear i1 i2 i3
      go_wp2_with fail
      refine HF9.out.mono ?_
      rintro e wx ⟨rfl, hb9, hx9, hk9⟩
      have HB9 := Lib.hid hb9
      have HX9 := Lib.hid hx9
      have HK9 := Lib.hid hk9
      clear hb9 hx9 hk9 HF9
      go_wp2
      exact ⟨rfl, trivial, ⟨fun _ => HB9.out, fun h9 => absurd rfl h9⟩, show TwoI a0 a1 lo w q r n (stE (did f 9 9) e3 e2) wx from (by rw [did_same]; exact ⟨J1.out.trans HB9.out, by rw [HE3.out]; exact HX9.out, J3.out.keep HK9.out⟩), J4.out.trans HB9.out⟩
    · intro vals xw f hall hI hF
      rw [show List.range _ = [0, 1, 2, 3, 4, 5, 6, 7, 8, 9] from rfl] at hF
      simp only [says, List.getD_cons_zero, List.getD_cons_succ, and_true] at hF
      have i9 : TwoI a0 a1 lo w q r n (stE (f 9) e3 e2) xw := hI.1
      have J4 := Lib.hid hI.2
      rw [hall 9 (by decide)] at i9
      have J1 := Lib.hid i9.1
      have J2 := Lib.hid (show Bx a0 a1 lo xw q r e3 from i9.2.1)
      have J3 := Lib.hid i9.2.2
      have y1 := (cell_of_block J2.out.box 1).1
      have HC8 := Lib.hid ((cell_of_block (kd_of J1.out HCc.out (by decide) (by decide) (by decide)) 0).1)
      clear i9 hI hF
      simp only [putsD, Act.put, List.setIfInBounds_toArray, List.set_cons_zero, List.set_cons_succ]
      have HP8 := Lib.hid (HBK.out xw J4.out)
      clear I1 I2 I3 HW2 HBK
      rcases e3 with _ | e3
      · simp only [errV] at y1
        obtain ⟨g1, g2, g3⟩ := HGOOD.out rfl
        obtain ⟨l1, l2, m1⟩ := goodL_iff.1 g1
        obtain ⟨l3, l4, m2⟩ := goodL_iff.1 g2
        have y3 := HC8.out
        have HCH := Lib.hid (choose_any a0 a1 lo q r ⟨n, none⟩ c0 A7 B7 c7 d7 xs ys xw ⟨J2.out, HNB.out, fun _ => J3.out⟩ HP8.out.1 HP8.out.2 (fun _ => ⟨mark_mb HNB.out g3, fun x hx => mark_mb HNB.out (m1 x hx), fun y hy => mark_mb HNB.out (m2 y hy)⟩) (by omega) (by omega))
        have HLN : Hid ((chooseS ⟨n, none⟩ c0 xs ys).2.length ≤ 1000) := Lib.hid (by
          unfold chooseS
          by_cases hl : xs.length = ys.length
          · rw [if_pos (by simp [failE, hl]), eachP_len xs ys _ hl]; omega
          · rw [if_neg (by simp [failE, hl])]; exact Nat.zero_le _)
        clear g1 g2 g3 m1 m2
        go_wp2_with fail
        refine HCH.out.mono ?_
        rintro e w9 ⟨A9, c9, rfl, h1, h2, h3, h4, h5⟩
        have H2 := Lib.hid h2
        have H4 := Lib.hid h4
        have H5 := Lib.hid h5
        clear h2 h3 h4 h5 HCH
        go_wp2
        go_ret
        exact ⟨chooseS ⟨n, none⟩ c0 xs ys, A9, c9, rfl, HLN.out, H2.out, J1.out.trans H4.out, H5.out, by rw [HOUT.out]; exact (if_pos trivial).symm⟩
      · obtain ⟨a, ha⟩ : ∃ a, errV a0 a1 (some e3) = sentV a := by rcases e3 with _ | e3 <;> exact ⟨_, rfl⟩
        simp only [ha] at y1
        clear ha
        go_wp2
        go_ret
        exact ⟨(⟨n, some e3⟩, []), none, 0, rfl, Nat.zero_le _, .nil _ _ _ _, J1.out, ⟨J2.out, HNB.out, fun h => by cases h⟩, by rw [HOUT.out, if_neg (by simp)]; rfl⟩
end Go.Proofs.YtjghcaghigebjaaDoor

/-! The program's BitsIf, whole. -/
namespace Go.Proofs.YtjghcaghigebjaaDoor
open Go Go.RowKit

theorem five_boxes (w : World) (o0 o1 o2 o3 o4 : Obj) : Below w.heap.size w (((((w.alloc o0).alloc o1).alloc o2).alloc o3).alloc o4) ∧ (((((w.alloc o0).alloc o1).alloc o2).alloc o3).alloc o4).heap[w.heap.size]? = some o0 ∧ (((((w.alloc o0).alloc o1).alloc o2).alloc o3).alloc o4).heap[w.heap.size + 1]? = some o1 ∧
    (((((w.alloc o0).alloc o1).alloc o2).alloc o3).alloc o4).heap[w.heap.size + 1 + 1]? = some o2 ∧ (((((w.alloc o0).alloc o1).alloc o2).alloc o3).alloc o4).heap[w.heap.size + 1 + 1 + 1]? = some o3 ∧ (((((w.alloc o0).alloc o1).alloc o2).alloc o3).alloc o4).heap[w.heap.size + 1 + 1 + 1 + 1]? = some o4 ∧ (((((w.alloc o0).alloc o1).alloc o2).alloc o3).alloc o4).heap.size = w.heap.size + 1 + 1 + 1 + 1 + 1 := by
  have h0 := heap_alloc_new w o0
  have h1 := heap_alloc_new (w.alloc o0) o1
  have h2 := heap_alloc_new ((w.alloc o0).alloc o1) o2
  have h3 := heap_alloc_new (((w.alloc o0).alloc o1).alloc o2) o3
  have h4 := heap_alloc_new ((((w.alloc o0).alloc o1).alloc o2).alloc o3) o4
  have b1 : Below w.heap.size w (w.alloc o0) := (Below.refl _ _).alloc (Nat.le_refl _) _
  have old : ∀ (u : World) (o : Obj) (k : Nat) (x : Obj), u.heap[k]? = some x → (u.alloc o).heap[k]? = some x := fun u o k x hx => (((Below.refl _ _).alloc (Nat.le_refl u.heap.size) o : Below u.heap.size u (u.alloc o)).block k (Array.getElem?_eq_some_iff.1 hx).1).trans hx
  refine ⟨(((b1.alloc (by simp) _).alloc (by simp; omega) _).alloc (by simp; omega) _).alloc (by simp; omega) _, old _ _ _ _ (old _ _ _ _ (old _ _ _ _ (old _ _ _ _ h0))), old _ _ _ _ (old _ _ _ _ (old _ _ _ _ (by simpa using h1))), old _ _ _ _ (old _ _ _ _ (by simpa using h2)), old _ _ _ _ (by simpa using h3), by simpa using h4, by simp⟩
set_option maxRecDepth 100000 in
set_option maxHeartbeats 4000000 in
theorem implBitsIf_any (a0 a1 : Addr) (l0 : Nat) (n : N) (c0 : Int) (xs ys : List Int) (A X Y : Option Addr) (c cx cy : Nat) (w : World) (hg : Glb a0 a1 l0 w) (hl0 : l0 ≤ w.heap.size) (h : Lay.gate.Rd w A n.gs) (hn : n.gs.length ≤ 1048576) (hA : A = none → n.gs.length = 0) (hi : okInts n)
    (hX : Lay.int.Rd w X xs) (hY : Lay.int.Rd w Y ys) (hxi : i64s xs) (hyi : i64s ys) (hci : -9223372036854775808 ≤ c0 ∧ c0 ≤ 9223372036854775807) (hlx : xs.length ≤ 1048576) (hly : ys.length ≤ 1048576) :
    Calls Tryd.prog 14 #[.agg #[.int .i64 n.ins, .slice A n.gs.length c], .int .i64 c0, .slice X xs.length cx, .slice Y ys.length cy] w (RetBits (pickN (netOk n) (bitsIfR n c0 xs ys)) w) := by
  obtain ⟨hW, hB0, hB1, hB2, hB3, hB4, hWS⟩ := five_boxes w (.cells #[.int .i64 n.ins, .slice A n.gs.length c] 29) (.cells #[.int .i64 c0] 3) (.cells #[.slice X xs.length cx] 25) (.cells #[.slice Y ys.length cy] 25) (.cells #[.int .i64 0, .slice none 0 0] 29)
  have HW := Lib.hid hW
  have HB0 := Lib.hid hB0
  have HB1 := Lib.hid hB1
  have HB2 := Lib.hid hB2
  have HB3 := Lib.hid hB3
  have HB4 := Lib.hid hB4
  have HWS := Lib.hid hWS
  have z0 := (cell_of_block hB0 0).1
  have z1 := (cell_of_block hB0 1).1
  have HCL := Lib.hid (built_if a0 a1 l0 (w.heap.size + 1 + 1) (w.heap.size + 1 + 1 + 1) (w.heap.size + 1) A c n _ (bitsIfR n c0 xs ys)
    (fun z => z.heap[w.heap.size + 1 + 1]? = some (.cells #[.slice X xs.length cx] 25 (0, 0)) ∧ z.heap[w.heap.size + 1 + 1 + 1]? = some (.cells #[.slice Y ys.length cy] 25 (0, 0)) ∧ z.heap[w.heap.size + 1]? = some (.cells #[.int .i64 c0] 3 (0, 0)) ∧ Lay.int.Sl z (fun b => b < w.heap.size) X xs ∧ Lay.int.Sl z (fun b => b < w.heap.size) Y ys)
    (hg.below (hW.mono hl0)) (Nat.le_trans hl0 hW.size) (fun x hx => ⟨(hx.block _ (by rw [hWS]; omega)).trans hB2, (hx.block _ (by rw [hWS]; omega)).trans hB3, (hx.block _ (by rw [hWS]; omega)).trans hB1, (hX.below (bthen hW hx) (fun _ h => h)), hY.below (bthen hW hx) (fun _ h => h)⟩)
    (h.up hW) hn hA hi (fun lo q r z hz _ hk hlo => bitsIf1_any a0 a1 lo q r _ _ _ n X Y cx cy xs ys c0 z hz hk.1 hk.2.1 hk.2.2.1 (hk.2.2.2.1.mono fun b hb => by rw [hWS] at hlo; omega) (hk.2.2.2.2.mono fun b hb => by rw [hWS] at hlo; omega) hxi hyi hci hlx hly))
  clear hg h hA hi hX hY hxi hyi hlx hly hB0 hB1 hB2 hB3 hB4 hW hWS
  generalize hout : pickN (netOk n) (bitsIfR n c0 xs ys) = out at *
  have HOUT := Lib.hid hout
  clear hout
  go_enter Tryd.func14, Tryd.ntmps14
  go_wp2_with fail
  refine HCL.out.mono ?_
  generalize ((((w.alloc (.cells #[.int .i64 n.ins, .slice A n.gs.length c] 29)).alloc (.cells #[.int .i64 c0] 3)).alloc (.cells #[.slice X xs.length cx] 25)).alloc (.cells #[.slice Y ys.length cy] 25)).alloc (.cells #[.int .i64 0, .slice none 0 0] 29) = W at *
  rintro e w1 ⟨A1, B1, c1, d1, rfl, h1, h2, h3, h4, h5, h6⟩
  have hb4 := (h5.block _ (lt_of_block HB4.out)).trans HB4.out
  have HX4 := Lib.hid hb4
  have j6 := (cell_of_block hb4 0).1
  have j7 := (cell_of_block hb4 1).1
  have f6 := (cell_of_block hb4 0).2
  have f7 := (cell_of_block hb4 1).2
  have H3 := Lib.hid h3
  have H4 := Lib.hid h4
  have H5 := Lib.hid h5
  clear hb4 h3 h4 h5 HCL
  go_wp2
  have hs1 := heap_set_same w1 (w.heap.size + 1 + 1 + 1 + 1) 0 (.int .i64 out.1.ins) _ _ HX4.out
  have hs2 := heap_set_same _ (w.heap.size + 1 + 1 + 1 + 1) 1 (.slice A1 out.1.gs.length c1) _ _ hs1
  have hs3 : w1.grownBy ((w1.setCell ⟨w.heap.size + 1 + 1 + 1 + 1, 0, none⟩ (.int .i64 out.1.ins)).setCell ⟨w.heap.size + 1 + 1 + 1 + 1, 1, none⟩ (.slice A1 out.1.gs.length c1)) (some (w.heap.size + 1 + 1 + 1 + 1)) := only_setCell (only_setCell (World.grownBy.refl _ _) _ _) _ _
  have k5 := (cell_of_block hs2 0).1
  have k6 := (cell_of_block hs2 1).1
  have kf5 := (cell_of_block hs2 0).2
  have kf6 := (cell_of_block hs2 1).2
  refine bodyPost_ret (v := .tuple #[.agg #[.int .i64 out.1.ins, .slice A1 out.1.gs.length c1], .slice B1 out.2.length d1]) (by simp [results, Tryd.results14, go_sem, k5, k6, kf5, kf6]) rfl ?_
  have hlt : w.heap.size + 1 + 1 + 1 + 1 < W.heap.size := by rw [HWS.out]; omega
  exact ⟨A1, B1, c1, d1, rfl, h1, h2, own_mono9 (own_grown9 H3.out hs3 hlt) HW.out.size, own_mono9 (own_grown9 H4.out hs3 hlt) HW.out.size, (bthen HW.out H5.out).grown hs3 (bthen HW.out H5.out).size (fun k hk => by injection hk with hk; omega), h6⟩
end Go.Proofs.YtjghcaghigebjaaDoor

/-! The reference's gates with room: l7And, l7Xor, l7Or, l7One. -/
namespace Go.Proofs.YtjghcaghigebjaaDoor
open Go Go.RowKit

theorem Lay.Sl.set_ne {α : Type} {L : Lay α} {w : World} {F : Nat → Prop} {A : Option Addr} {xs : List α} (h : L.Sl w F A xs) (p : Addr) (u : Value) (hne : ∀ b, F b → b ≠ p.block) : L.Sl (w.setCell p u) F A xs := h.keep fun b hb => heap_setCell_other _ _ _ _ (hne b hb)
/-- A net with room or without it, and a number; what it shares memory with is told by F. -/
def RetK (F : Nat → Prop) (w : World) (res : (N × Bool) × Int) (e : Ending) (w' : World) : Prop :=
  ∃ A c, e = .returned (.tuple #[.agg #[.int .i64 res.1.1.ins, .slice A res.1.1.gs.length c, .bool res.1.2], .int .i64 res.2]) ∧ (A = none → res.1.1.gs.length = 0) ∧ Lay.gate.Sl w' (fun b => F b ∨ (w.heap.size ≤ b ∧ b < w'.heap.size)) A res.1.1.gs ∧ Below w.heap.size w w'
/-- The three cells of a net with room, written. -/
abbrev st3 (w : World) (h : Nat) (u0 u1 u2 : Value) : World := ((w.setCell ⟨h, 0, none⟩ u0).setCell ⟨h, 1, none⟩ u1).setCell ⟨h, 2, none⟩ u2
theorem st3_same {w : World} {h : Nat} {v0 v1 v2 : Value} {t : TypeId} (hb : w.heap[h]? = some (.cells #[v0, v1, v2] t (0, 0))) (u0 u1 u2 : Value) : (st3 w h u0 u1 u2).heap[h]? = some (.cells #[u0, u1, u2] t (0, 0)) :=
  heap_set_same _ h 2 u2 _ _ (heap_set_same _ h 1 u1 _ _ (heap_set_same w h 0 u0 _ _ hb))
theorem st3_other {w : World} {h b : Nat} {u0 u1 u2 : Value} (hb : b ≠ h) : (st3 w h u0 u1 u2).heap[b]? = w.heap[b]? :=
  (heap_setCell_other _ _ _ _ hb).trans ((heap_setCell_other _ _ _ _ hb).trans (heap_setCell_other _ _ _ _ hb))
theorem st3_below {B : Nat} {a w : World} {h : Nat} (hb : Below B a w) (hh : B ≤ h) (u0 u1 u2 : Value) : Below B a (st3 w h u0 u1 u2) := below_set (below_set (below_set hb hh _) hh _) hh _
theorem st3_sl {α : Type} {L : Lay α} {w : World} {h : Nat} {F : Nat → Prop} {A : Option Addr} {xs : List α} (hs : L.Sl w F A xs) (hne : ∀ b, F b → b ≠ h) (u0 u1 u2 : Value) : L.Sl (st3 w h u0 u1 u2) F A xs := hs.keep fun b hb => st3_other (hne b hb)
theorem st3_size {w : World} {h : Nat} {u0 u1 u2 : Value} : (st3 w h u0 u1 u2).heap.size = w.heap.size := by simp [st3, World.setCell]
set_option maxHeartbeats 2000000 in
theorem l7And_any (F : Nat → Prop) (A : Option Addr) (c : Nat) (k : N × Bool) (a b : Int) (w : World) (h : Lay.gate.Sl w F A k.1.gs) (hF : ∀ b, F b → b < w.heap.size) (hA : A = none → k.1.gs.length = 0) (hnb : NB k.1) (ha : RB a) (hb : RB b) :
    Calls Tryd.prog 112 #[.agg #[.int .i64 k.1.ins, .slice A k.1.gs.length c, .bool k.2], .int .i64 a, .int .i64 b] w (RetK F w (opsR.and k a b)) := by
  show Calls _ _ _ _ (RetK F w (stepR k (and1 k.1 a b)))
  obtain ⟨n, ok⟩ := k
  dsimp only at h hA hnb ⊢
  obtain ⟨n0, n1, n2⟩ := hnb
  obtain ⟨a0, a1⟩ := ha
  obtain ⟨b0, b1⟩ := hb
  obtain ⟨hW, hB0, hB1, hWS⟩ := two_boxes w (.cells #[.int .i64 n.ins, .slice A n.gs.length c, .bool ok] 68) (.cells #[.int .i64 0, .slice none 0 0, .bool false] 68)
  have HB0 := Lib.hid hB0
  have HB1 := Lib.hid hB1
  have HW := Lib.hid hW
  have HWS := Lib.hid hWS
  have H := Lib.hid h
  have HF := Lib.hid hF
  have z0 := (cell_of_block hB0 0).1
  have z1 := (cell_of_block hB0 1).1
  have z2 := (cell_of_block hB0 2).1
  have HCL := Lib.hid (l6And_any F A c n a b _ (h.below hW hF) (fun b hb => Nat.lt_of_lt_of_le (hF b hb) hW.size) (by omega) hA n0 (by omega) (by omega) (by omega))
  clear h hF hB0 hB1 hWS hW
  cases ok
  · have y0 := (cell_of_block HB1.out 0).1
    have y1 := (cell_of_block HB1.out 1).1
    have y2 := (cell_of_block HB1.out 2).1
    have f0 := (cell_of_block HB1.out 0).2
    have f1 := (cell_of_block HB1.out 1).2
    have f2 := (cell_of_block HB1.out 2).2
    clear HCL
    go_enter Tryd.func112, Tryd.ntmps112
    go_wp2
    refine bodyPost_ret (v := .tuple #[.agg #[.int .i64 n.ins, .slice A n.gs.length c, .bool false], .int .i64 1]) (by simp [results, Tryd.results112, go_sem]) rfl ?_
    rw [show stepR (n, false) (and1 n a b) = ((n, false), 1) from if_pos rfl]
    exact ⟨A, c, rfl, hA, (H.out.below (two_boxes w _ _).1 HF.out).mono fun _ => .inl, (two_boxes w _ _).1⟩
  · go_enter Tryd.func112, Tryd.ntmps112
    go_wp2_with fail
    refine HCL.out.mono ?_
    generalize (w.alloc (.cells #[.int .i64 n.ins, .slice A n.gs.length c, .bool true] 68)).alloc (.cells #[.int .i64 0, .slice none 0 0, .bool false] 68) = W at *
    rw [show stepR (n, true) (and1 n a b) = (((and1 n a b).1, decide ((and1 n a b).2 ≠ 0)), (and1 n a b).2) from if_neg (by simp)]
    generalize and1 n a b = m at *
    rintro e w1 ⟨A1, c1, rfl, hA1, hs1, hb1⟩
    have HS1 := Lib.hid hs1
    have HX1 := Lib.hid ((hb1.block _ (lt_of_block HB1.out)).trans HB1.out)
    have HW1 := Lib.hid hb1
    clear hs1 hb1 HCL z0 z1 z2
    have hal : Below w1.heap.size w1 (w1.alloc (.cells #[.int .i64 m.1.ins, .slice A1 m.1.gs.length c1] 29)) := (Below.refl _ _).alloc (Nat.le_refl _) _
    have hx2 := (hal.block _ (lt_of_block HX1.out)).trans HX1.out
    have y0 := (cell_of_block hx2 0).1
    have y1 := (cell_of_block hx2 1).1
    have y2 := (cell_of_block hx2 2).1
    have f0 := (cell_of_block hx2 0).2
    have f1 := (cell_of_block hx2 1).2
    have f2 := (cell_of_block hx2 2).2
    have HX2 := Lib.hid hx2
    have HAL := Lib.hid hal
    clear hx2 hal
    go_wp2
    generalize hW2 : w1.alloc (.cells #[.int .i64 m.1.ins, .slice A1 m.1.gs.length c1] 29) = W2 at *
    have hs := st3_same HX2.out (.int .i64 m.1.ins) (.slice A1 m.1.gs.length c1) (.bool (m.2 != 0))
    have k5 := (cell_of_block hs 0).1
    have k6 := (cell_of_block hs 1).1
    have k7 := (cell_of_block hs 2).1
    have kf5 := (cell_of_block hs 0).2
    have kf6 := (cell_of_block hs 1).2
    have kf7 := (cell_of_block hs 2).2
    refine bodyPost_ret (v := .tuple #[.agg #[.int .i64 m.1.ins, .slice A1 m.1.gs.length c1, .bool (m.2 != 0)], .int .i64 m.2]) (by simp [results, Tryd.results112, go_sem, k5, k6, k7, kf5, kf6, kf7]) rfl ?_
    have hd : (m.2 != 0) = decide (m.2 ≠ 0) := by by_cases h : m.2 = 0 <;> simp [h]
    rw [hd]
    have hsz := HAL.out.size
    have hsz1 := HW1.out.size
    refine ⟨A1, c1, rfl, hA1, (st3_sl (h := w.heap.size + 1) (HS1.out.below HAL.out (fun b hb => ?_)) (fun b hb => ?_) _ _ _).mono (fun b hb => ?_), st3_below (bthen (bthen HW.out HW1.out) HAL.out) (by omega) _ _ _⟩
    · rcases hb with hb | hb
      · have := HF.out b hb; have := HW.out.size; omega
      · exact hb.2
    · rcases hb with hb | hb
      · have := HF.out b hb; omega
      · have := HWS.out; omega
    · rcases hb with hb | hb
      · exact .inl hb
      · exact .inr ⟨by have := HWS.out; omega, by rw [st3_size]; omega⟩
set_option maxHeartbeats 2000000 in
theorem l7Xor_any (F : Nat → Prop) (A : Option Addr) (c : Nat) (k : N × Bool) (a b : Int) (w : World) (h : Lay.gate.Sl w F A k.1.gs) (hF : ∀ b, F b → b < w.heap.size) (hA : A = none → k.1.gs.length = 0) (hnb : NB k.1) (ha : RB a) (hb : RB b) :
    Calls Tryd.prog 119 #[.agg #[.int .i64 k.1.ins, .slice A k.1.gs.length c, .bool k.2], .int .i64 a, .int .i64 b] w (RetK F w (opsR.xor k a b)) := by
  show Calls _ _ _ _ (RetK F w (stepR k (xor1 k.1 a b)))
  obtain ⟨n, ok⟩ := k
  dsimp only at h hA hnb ⊢
  obtain ⟨n0, n1, n2⟩ := hnb
  obtain ⟨a0, a1⟩ := ha
  obtain ⟨b0, b1⟩ := hb
  obtain ⟨hW, hB0, hB1, hWS⟩ := two_boxes w (.cells #[.int .i64 n.ins, .slice A n.gs.length c, .bool ok] 68) (.cells #[.int .i64 0, .slice none 0 0, .bool false] 68)
  have HB0 := Lib.hid hB0
  have HB1 := Lib.hid hB1
  have HW := Lib.hid hW
  have HWS := Lib.hid hWS
  have H := Lib.hid h
  have HF := Lib.hid hF
  have z0 := (cell_of_block hB0 0).1
  have z1 := (cell_of_block hB0 1).1
  have z2 := (cell_of_block hB0 2).1
  have HCL := Lib.hid (l6Xor_any F A c n a b _ (h.below hW hF) (fun b hb => Nat.lt_of_lt_of_le (hF b hb) hW.size) (by omega) hA n0 (by omega) (by omega) (by omega))
  clear h hF hB0 hB1 hWS hW
  cases ok
  · have y0 := (cell_of_block HB1.out 0).1
    have y1 := (cell_of_block HB1.out 1).1
    have y2 := (cell_of_block HB1.out 2).1
    have f0 := (cell_of_block HB1.out 0).2
    have f1 := (cell_of_block HB1.out 1).2
    have f2 := (cell_of_block HB1.out 2).2
    clear HCL
    go_enter Tryd.func119, Tryd.ntmps119
    go_wp2
    refine bodyPost_ret (v := .tuple #[.agg #[.int .i64 n.ins, .slice A n.gs.length c, .bool false], .int .i64 1]) (by simp [results, Tryd.results119, go_sem]) rfl ?_
    rw [show stepR (n, false) (xor1 n a b) = ((n, false), 1) from if_pos rfl]
    exact ⟨A, c, rfl, hA, (H.out.below (two_boxes w _ _).1 HF.out).mono fun _ => .inl, (two_boxes w _ _).1⟩
  · go_enter Tryd.func119, Tryd.ntmps119
    go_wp2_with fail
    refine HCL.out.mono ?_
    generalize (w.alloc (.cells #[.int .i64 n.ins, .slice A n.gs.length c, .bool true] 68)).alloc (.cells #[.int .i64 0, .slice none 0 0, .bool false] 68) = W at *
    rw [show stepR (n, true) (xor1 n a b) = (((xor1 n a b).1, decide ((xor1 n a b).2 ≠ 0)), (xor1 n a b).2) from if_neg (by simp)]
    generalize xor1 n a b = m at *
    rintro e w1 ⟨A1, c1, rfl, hA1, hs1, hb1⟩
    have HS1 := Lib.hid hs1
    have HX1 := Lib.hid ((hb1.block _ (lt_of_block HB1.out)).trans HB1.out)
    have HW1 := Lib.hid hb1
    clear hs1 hb1 HCL z0 z1 z2
    have hal : Below w1.heap.size w1 (w1.alloc (.cells #[.int .i64 m.1.ins, .slice A1 m.1.gs.length c1] 29)) := (Below.refl _ _).alloc (Nat.le_refl _) _
    have hx2 := (hal.block _ (lt_of_block HX1.out)).trans HX1.out
    have y0 := (cell_of_block hx2 0).1
    have y1 := (cell_of_block hx2 1).1
    have y2 := (cell_of_block hx2 2).1
    have f0 := (cell_of_block hx2 0).2
    have f1 := (cell_of_block hx2 1).2
    have f2 := (cell_of_block hx2 2).2
    have HX2 := Lib.hid hx2
    have HAL := Lib.hid hal
    clear hx2 hal
    go_wp2
    generalize hW2 : w1.alloc (.cells #[.int .i64 m.1.ins, .slice A1 m.1.gs.length c1] 29) = W2 at *
    have hs := st3_same HX2.out (.int .i64 m.1.ins) (.slice A1 m.1.gs.length c1) (.bool (m.2 != 0))
    have k5 := (cell_of_block hs 0).1
    have k6 := (cell_of_block hs 1).1
    have k7 := (cell_of_block hs 2).1
    have kf5 := (cell_of_block hs 0).2
    have kf6 := (cell_of_block hs 1).2
    have kf7 := (cell_of_block hs 2).2
    refine bodyPost_ret (v := .tuple #[.agg #[.int .i64 m.1.ins, .slice A1 m.1.gs.length c1, .bool (m.2 != 0)], .int .i64 m.2]) (by simp [results, Tryd.results119, go_sem, k5, k6, k7, kf5, kf6, kf7]) rfl ?_
    have hd : (m.2 != 0) = decide (m.2 ≠ 0) := by by_cases h : m.2 = 0 <;> simp [h]
    rw [hd]
    have hsz := HAL.out.size
    have hsz1 := HW1.out.size
    refine ⟨A1, c1, rfl, hA1, (st3_sl (h := w.heap.size + 1) (HS1.out.below HAL.out (fun b hb => ?_)) (fun b hb => ?_) _ _ _).mono (fun b hb => ?_), st3_below (bthen (bthen HW.out HW1.out) HAL.out) (by omega) _ _ _⟩
    · rcases hb with hb | hb
      · have := HF.out b hb; have := HW.out.size; omega
      · exact hb.2
    · rcases hb with hb | hb
      · have := HF.out b hb; omega
      · have := HWS.out; omega
    · rcases hb with hb | hb
      · exact .inl hb
      · exact .inr ⟨by have := HWS.out; omega, by rw [st3_size]; omega⟩
/-- The variable of a net with room, the result's cells, ahead of the rest. -/
structure KS (F : Nat → Prop) (w x : World) (k : N × Bool) (A : Option Addr) (c : Nat) : Prop where
  bel : Below w.heap.size w x
  var : x.heap[w.heap.size]? = some (.cells #[.int .i64 k.1.ins, .slice A k.1.gs.length c, .bool k.2] 68 (0, 0))
  res : x.heap[w.heap.size + 1]? = some (.cells #[.int .i64 0, .slice none 0 0, .bool false] 68 (0, 0))
  row : Lay.gate.Sl x (fun b => F b ∨ (w.heap.size + 2 ≤ b ∧ b < x.heap.size)) A k.1.gs
  nil : A = none → k.1.gs.length = 0
theorem KS.lt {F : Nat → Prop} {w x : World} {k : N × Bool} {A : Option Addr} {c : Nat} (h : KS F w x k A c) (hF : ∀ b, F b → b < w.heap.size) : ∀ b, (fun b => F b ∨ (w.heap.size + 2 ≤ b ∧ b < x.heap.size)) b → b < x.heap.size := fun b hb => by
  rcases hb with hb | hb
  · have := hF b hb; have := h.bel.size; omega
  · exact hb.2
theorem KS.up {F : Nat → Prop} {w x x' : World} {k : N × Bool} {A : Option Addr} {c : Nat} (h : KS F w x k A c) (hF : ∀ b, F b → b < w.heap.size) (hb : Below x.heap.size x x') : KS F w x' k A c :=
  ⟨bthen h.bel hb, (hb.block _ (lt_of_block h.var)).trans h.var, (hb.block _ (lt_of_block h.res)).trans h.res, (h.row.below hb (h.lt hF)).mono fun b hb' => hb'.imp id fun h9 => ⟨h9.1, Nat.lt_of_lt_of_le h9.2 hb.size⟩, h.nil⟩
theorem KS.step {F : Nat → Prop} {w x x' : World} {k k' : N × Bool} {A A' : Option Addr} {c c' : Nat} (h : KS F w x k A c) (hF : ∀ b, F b → b < w.heap.size) (hs : Lay.gate.Sl x' (fun b => (fun b => F b ∨ (w.heap.size + 2 ≤ b ∧ b < x.heap.size)) b ∨ (x.heap.size ≤ b ∧ b < x'.heap.size)) A' k'.1.gs) (hb : Below x.heap.size x x') (hn : A' = none → k'.1.gs.length = 0) :
    KS F w (st3 x' w.heap.size (.int .i64 k'.1.ins) (.slice A' k'.1.gs.length c') (.bool k'.2)) k' A' c' := by
  have hv := (hb.block _ (lt_of_block h.var)).trans h.var
  have hr := (hb.block _ (lt_of_block h.res)).trans h.res
  have hx := lt_of_block h.res
  have hsz := hb.size
  refine ⟨st3_below (bthen h.bel hb) (Nat.le_refl _) _ _ _, st3_same hv _ _ _, (st3_other (by omega)).trans hr, (st3_sl (h := w.heap.size) hs (fun b hb' => ?_) _ _ _).mono (fun b hb' => ?_), hn⟩
  · rcases hb' with (hb' | hb') | hb'
    · have := hF b hb'; omega
    · omega
    · omega
  · rw [st3_size]
    rcases hb' with (hb' | hb') | hb'
    · exact .inl hb'
    · exact .inr ⟨hb'.1, by omega⟩
    · exact .inr ⟨by omega, hb'.2⟩
theorem KS.two {F : Nat → Prop} {w : World} {k : N × Bool} {A : Option Addr} {c : Nat} (h : Lay.gate.Sl w F A k.1.gs) (hF : ∀ b, F b → b < w.heap.size) (hA : A = none → k.1.gs.length = 0) : KS F w ((w.alloc (.cells #[.int .i64 k.1.ins, .slice A k.1.gs.length c, .bool k.2] 68)).alloc (.cells #[.int .i64 0, .slice none 0 0, .bool false] 68)) k A c := by
  obtain ⟨hW, h0, h1, _⟩ := two_boxes w (.cells #[.int .i64 k.1.ins, .slice A k.1.gs.length c, .bool k.2] 68) (.cells #[.int .i64 0, .slice none 0 0, .bool false] 68)
  exact ⟨hW, h0, h1, (h.below hW hF).mono fun _ => .inl, hA⟩
theorem KS.done {F : Nat → Prop} {w x : World} {k : N × Bool} {A : Option Addr} {c : Nat} {m : Int} (h : KS F w x k A c) (hF : ∀ b, F b → b < w.heap.size) : RetK F w (k, m) (.returned (.tuple #[.agg #[.int .i64 k.1.ins, .slice A k.1.gs.length c, .bool k.2], .int .i64 m])) (st3 x (w.heap.size + 1) (.int .i64 k.1.ins) (.slice A k.1.gs.length c) (.bool k.2)) := by
  refine ⟨A, c, rfl, h.nil, (st3_sl (h := w.heap.size + 1) h.row (fun b hb => ?_) _ _ _).mono (fun b hb => ?_), st3_below h.bel (by omega) _ _ _⟩
  · rcases hb with hb | hb
    · have := hF b hb; omega
    · omega
  · rw [st3_size]
    exact hb.imp id fun h9 => ⟨by omega, h9.2⟩
theorem KS.out {F : Nat → Prop} {w x x' : World} {k k' : N × Bool} {A A' : Option Addr} {c c' : Nat} {m : Int} (h : KS F w x k A c) (hF : ∀ b, F b → b < w.heap.size) (hs : Lay.gate.Sl x' (fun b => (fun b => F b ∨ (w.heap.size + 2 ≤ b ∧ b < x.heap.size)) b ∨ (x.heap.size ≤ b ∧ b < x'.heap.size)) A' k'.1.gs) (hb : Below x.heap.size x x') (hn : A' = none → k'.1.gs.length = 0) :
    RetK F w (k', m) (.returned (.tuple #[.agg #[.int .i64 k'.1.ins, .slice A' k'.1.gs.length c', .bool k'.2], .int .i64 m])) (st3 x' (w.heap.size + 1) (.int .i64 k'.1.ins) (.slice A' k'.1.gs.length c') (.bool k'.2)) := by
  have hx := lt_of_block h.res
  refine ⟨A', c', rfl, hn, (st3_sl (h := w.heap.size + 1) hs (fun b hb' => ?_) _ _ _).mono (fun b hb' => ?_), st3_below (bthen h.bel hb) (by omega) _ _ _⟩
  · rcases hb' with (hb' | hb') | hb'
    · have := hF b hb'; omega
    · omega
    · omega
  · rw [st3_size]
    have hsz := hb.size
    rcases hb' with (hb' | hb') | hb'
    · exact .inl hb'
    · exact .inr ⟨by omega, by omega⟩
    · exact .inr ⟨by omega, hb'.2⟩
set_option maxHeartbeats 2000000 in
theorem l7Or_any (F : Nat → Prop) (A : Option Addr) (c : Nat) (k : N × Bool) (a b : Int) (w : World) (h : Lay.gate.Sl w F A k.1.gs) (hF : ∀ b, F b → b < w.heap.size) (hA : A = none → k.1.gs.length = 0) (hnb : NB k.1) (ha : RB a) (hb : RB b) :
    Calls Tryd.prog 113 #[.agg #[.int .i64 k.1.ins, .slice A k.1.gs.length c, .bool k.2], .int .i64 a, .int .i64 b] w (RetK F w (run opsR (orP a b) k)) := by
  have K0 := KS.two (c := c) h hF hA
  have HF := Lib.hid hF
  have HNB := Lib.hid hnb
  clear h hA
  have Ra := Lib.hid ha
  obtain ⟨a0, a1⟩ := ha
  have Rb := Lib.hid hb
  obtain ⟨b0, b1⟩ := hb
  show Calls _ _ _ _ (RetK F w ((opsR.and k (-a) (-b)).1, -(opsR.and k (-a) (-b)).2))
  have HM := Lib.hid (stepR_nb (r := and1 k.1 (-a) (-b)) (k := k) hnb (and1_nb hnb Ra.out.neg Rb.out.neg)).2
  rw [show stepR k (and1 k.1 (-a) (-b)) = opsR.and k (-a) (-b) from rfl] at HM
  have y0 := (cell_of_block K0.var 0).1
  have y1 := (cell_of_block K0.var 1).1
  have y2 := (cell_of_block K0.var 2).1
  have HC := Lib.hid (l7And_any _ A c k (-a) (-b) _ K0.row (K0.lt HF.out) K0.nil hnb Ra.out.neg Rb.out.neg)
  generalize hm : opsR.and k (-a) (-b) = m at *
  have Hm := Lib.hid hm
  clear hm
  have K0 := Lib.hid K0
  go_enter Tryd.func113, Tryd.ntmps113
  go_wp2_with fail
  refine HC.out.mono ?_
  generalize hX0 : (w.alloc (.cells #[.int .i64 k.1.ins, .slice A k.1.gs.length c, .bool k.2] 68)).alloc (.cells #[.int .i64 0, .slice none 0 0, .bool false] 68) = X0 at *
  clear hX0
  rintro e z1 ⟨A1, c1, rfl, hn9, hs9, hb9⟩
  have hv9 := (hb9.block _ (lt_of_block K0.out.var)).trans K0.out.var
  clear y0 y1 y2
  have y0 := (cell_of_block hv9 0).1
  have y1 := (cell_of_block hv9 1).1
  have y2 := (cell_of_block hv9 2).1
  have f0 := (cell_of_block hv9 0).2
  have f1 := (cell_of_block hv9 1).2
  have f2 := (cell_of_block hv9 2).2
  have K9 := K0.out.step (c' := c1) HF.out hs9 hb9 hn9
  dsimp only [st3] at K9
  have K1 := Lib.hid K9
  clear K9 HC hs9 hb9 hn9 hv9 K0
  obtain ⟨hm0, hm1⟩ := HM.out
  have q0 := (cell_of_block K1.out.var 0).1
  have q1 := (cell_of_block K1.out.var 1).1
  have q2 := (cell_of_block K1.out.var 2).1
  have r0 := (cell_of_block K1.out.res 0).1
  have r1 := (cell_of_block K1.out.res 1).1
  have r2 := (cell_of_block K1.out.res 2).1
  have rf0 := (cell_of_block K1.out.res 0).2
  have rf1 := (cell_of_block K1.out.res 1).2
  have rf2 := (cell_of_block K1.out.res 2).2
  go_wp2
  generalize hX9 : ((z1.setCell ⟨w.heap.size, 0, none⟩ (.int .i64 m.1.1.ins)).setCell ⟨w.heap.size, 1, none⟩ (.slice A1 m.1.1.gs.length c1)).setCell ⟨w.heap.size, 2, none⟩ (.bool m.1.2) = X9 at *
  clear hX9
  have hs := st3_same K1.out.res (.int .i64 m.1.1.ins) (.slice A1 m.1.1.gs.length c1) (.bool m.1.2)
  have k5 := (cell_of_block hs 0).1
  have kf5 := (cell_of_block hs 0).2
  have k6 := (cell_of_block hs 1).1
  have kf6 := (cell_of_block hs 1).2
  have k7 := (cell_of_block hs 2).1
  have kf7 := (cell_of_block hs 2).2
  refine bodyPost_ret (v := .tuple #[.agg #[.int .i64 m.1.1.ins, .slice A1 m.1.1.gs.length c1, .bool m.1.2], .int .i64 (-m.2)]) (by simp [results, Tryd.results113, go_sem, k5, k6, k7, kf5, kf6, kf7]) rfl ?_
  exact K1.out.done HF.out
set_option maxHeartbeats 2000000 in
theorem l7One_any (F : Nat → Prop) (A : Option Addr) (c : Nat) (k : N × Bool) (a b d : Int) (w : World) (h : Lay.gate.Sl w F A k.1.gs) (hF : ∀ b, F b → b < w.heap.size) (hA : A = none → k.1.gs.length = 0) (hnb : NB k.1) (ha : RB a) (hb : RB b) (hd : RB d) :
    Calls Tryd.prog 79 #[.agg #[.int .i64 k.1.ins, .slice A k.1.gs.length c, .bool k.2], .int .i64 a, .int .i64 b, .int .i64 d] w (RetK F w (run opsR (muxP a b d) k)) := by
  have K0 := KS.two (c := c) h hF hA
  have HF := Lib.hid hF
  have HNB := Lib.hid hnb
  clear h hA
  have Ra := Lib.hid ha
  obtain ⟨a0, a1⟩ := ha
  have Rb := Lib.hid hb
  obtain ⟨b0, b1⟩ := hb
  have Rd := Lib.hid hd
  obtain ⟨d0, d1⟩ := hd
  show Calls _ _ _ _ (RetK F w (run opsR (orP (opsR.and k a b).2 (opsR.and (opsR.and k a b).1 (-a) d).2) (opsR.and (opsR.and k a b).1 (-a) d).1))
  have HM1 : Hid (NB (opsR.and k a b).1.1 ∧ RB (opsR.and k a b).2) := Lib.hid (stepR_nb (r := and1 k.1 a b) (k := k) hnb (and1_nb hnb Ra.out Rb.out))
  have HM2 : Hid (NB (opsR.and (opsR.and k a b).1 (-a) d).1.1 ∧ RB (opsR.and (opsR.and k a b).1 (-a) d).2) := Lib.hid (stepR_nb (r := and1 (opsR.and k a b).1.1 (-a) d) (k := (opsR.and k a b).1) HM1.out.1 (and1_nb HM1.out.1 Ra.out.neg Rd.out))
  have y0 := (cell_of_block K0.var 0).1
  have y1 := (cell_of_block K0.var 1).1
  have y2 := (cell_of_block K0.var 2).1
  have HC := Lib.hid (l7And_any _ A c k (a) (b) _ K0.row (K0.lt HF.out) K0.nil hnb Ra.out Rb.out)
  generalize hm : opsR.and k a b = m at *
  have Hm := Lib.hid hm
  clear hm
  have K0 := Lib.hid K0
  go_enter Tryd.func79, Tryd.ntmps79
  go_wp2_with fail
  refine HC.out.mono ?_
  generalize hX0 : (w.alloc (.cells #[.int .i64 k.1.ins, .slice A k.1.gs.length c, .bool k.2] 68)).alloc (.cells #[.int .i64 0, .slice none 0 0, .bool false] 68) = X0 at *
  clear hX0
  rintro e z1 ⟨A1, c1, rfl, hn9, hs9, hb9⟩
  have hv9 := (hb9.block _ (lt_of_block K0.out.var)).trans K0.out.var
  clear y0 y1 y2
  have y0 := (cell_of_block hv9 0).1
  have y1 := (cell_of_block hv9 1).1
  have y2 := (cell_of_block hv9 2).1
  have f0 := (cell_of_block hv9 0).2
  have f1 := (cell_of_block hv9 1).2
  have f2 := (cell_of_block hv9 2).2
  have K9 := K0.out.step (c' := c1) HF.out hs9 hb9 hn9
  dsimp only [st3] at K9
  have K1 := Lib.hid K9
  clear K9 HC hs9 hb9 hn9 hv9 K0
  have y0 := (cell_of_block K1.out.var 0).1
  have y1 := (cell_of_block K1.out.var 1).1
  have y2 := (cell_of_block K1.out.var 2).1
  have HC := Lib.hid (l7And_any _ A1 c1 m.1 (-a) (d) _ K1.out.row (K1.out.lt HF.out) K1.out.nil HM1.out.1 Ra.out.neg Rd.out)
  generalize hp : opsR.and m.1 (-a) d = p at *
  have Hp := Lib.hid hp
  clear hp
  go_wp2_with fail
  refine HC.out.mono ?_
  generalize hX1 : ((z1.setCell ⟨w.heap.size, 0, none⟩ (.int .i64 m.1.1.ins)).setCell ⟨w.heap.size, 1, none⟩ (.slice A1 m.1.1.gs.length c1)).setCell ⟨w.heap.size, 2, none⟩ (.bool m.1.2) = X1 at *
  clear hX1
  rintro e z2 ⟨A2, c2, rfl, hn9, hs9, hb9⟩
  have hv9 := (hb9.block _ (lt_of_block K1.out.var)).trans K1.out.var
  clear y0 y1 y2 f0 f1 f2
  have y0 := (cell_of_block hv9 0).1
  have y1 := (cell_of_block hv9 1).1
  have y2 := (cell_of_block hv9 2).1
  have f0 := (cell_of_block hv9 0).2
  have f1 := (cell_of_block hv9 1).2
  have f2 := (cell_of_block hv9 2).2
  have K9 := K1.out.step (c' := c2) HF.out hs9 hb9 hn9
  dsimp only [st3] at K9
  have K2 := Lib.hid K9
  clear K9 HC hs9 hb9 hn9 hv9 K1
  have y0 := (cell_of_block K2.out.var 0).1
  have y1 := (cell_of_block K2.out.var 1).1
  have y2 := (cell_of_block K2.out.var 2).1
  have HC := Lib.hid (l7Or_any _ A2 c2 p.1 (m.2) (p.2) _ K2.out.row (K2.out.lt HF.out) K2.out.nil HM2.out.1 HM1.out.2 HM2.out.2)
  generalize hq : run opsR (orP m.2 p.2) p.1 = q at *
  have Hq := Lib.hid hq
  clear hq
  go_wp2_with fail
  refine HC.out.mono ?_
  generalize hX2 : ((z2.setCell ⟨w.heap.size, 0, none⟩ (.int .i64 p.1.1.ins)).setCell ⟨w.heap.size, 1, none⟩ (.slice A2 p.1.1.gs.length c2)).setCell ⟨w.heap.size, 2, none⟩ (.bool p.1.2) = X2 at *
  clear hX2
  rintro e z9 ⟨A9, c9, rfl, hn9, hs9, hb9⟩
  have hr9 := (hb9.block _ (lt_of_block K2.out.res)).trans K2.out.res
  clear y0 y1 y2 f0 f1 f2
  have r0 := (cell_of_block hr9 0).1
  have r1 := (cell_of_block hr9 1).1
  have r2 := (cell_of_block hr9 2).1
  have rf0 := (cell_of_block hr9 0).2
  have rf1 := (cell_of_block hr9 1).2
  have rf2 := (cell_of_block hr9 2).2
  have HS9 := Lib.hid hs9
  have HB9 := Lib.hid hb9
  have HR9 := Lib.hid hr9
  clear hs9 hb9 hr9 HC
  go_wp2
  have hs := st3_same HR9.out (.int .i64 q.1.1.ins) (.slice A9 q.1.1.gs.length c9) (.bool q.1.2)
  have k5 := (cell_of_block hs 0).1
  have kf5 := (cell_of_block hs 0).2
  have k6 := (cell_of_block hs 1).1
  have kf6 := (cell_of_block hs 1).2
  have k7 := (cell_of_block hs 2).1
  have kf7 := (cell_of_block hs 2).2
  refine bodyPost_ret (v := .tuple #[.agg #[.int .i64 q.1.1.ins, .slice A9 q.1.1.gs.length c9, .bool q.1.2], .int .i64 q.2]) (by simp [results, Tryd.results79, go_sem, k5, k6, k7, kf5, kf6, kf7]) rfl ?_
  exact K2.out.out HF.out HS9.out HB9.out hn9
end Go.Proofs.YtjghcaghigebjaaDoor

/-! append of one integer onto a row of the call's own, and where the row lies then. -/
namespace Go.Proofs.YtjghcaghigebjaaDoor
open Go Go.RowKit

theorem wpList_append_int8 {Q : Exit → Act → World → Prop} {ops : Array Oper} {rest : List Oper} {o : Oper} {a : Act} {W : World} {lo : Nat} {A : Option Addr} {c : Nat} {xs ys : List Int} {x : Int} {e' : TypeId} (hgd : o.guard = none) (s y : Operand)
    (ho : o.op = .call { callee := .builtin .append, args := #[s, y], argTypes := #[25, 25] }) (hs : a.eval s = .slice A xs.length c) (hy : a.eval y = .slice (some ⟨W.heap.size, 0, none⟩) 1 1)
    (hown : OwnI W lo (.slice A xs.length c) xs) (hn : xs.length ≤ 2000000) (hlo : lo ≤ W.heap.size) (hys : ys = xs ++ [x])
    (h : ∀ A' c' w', OwnI w' lo (.slice A' ys.length c') ys → W.grownBy w' (Value.slice A xs.length c).ownBlock →
      ((Value.slice A' ys.length c').ownBlock = (Value.slice A xs.length c).ownBlock ∨ ∃ g, (Value.slice A' ys.length c').ownBlock = some g ∧ W.heap.size ≤ g) → wpList Tryd.prog ops Q rest (a.put o.dst (.slice A' ys.length c')) w') :
    wpList Tryd.prog ops Q (o :: rest) a (W.alloc (.cells #[.int .i64 x] e')) := by
  obtain ⟨i0, hi0, hz0, hz1, hz2⟩ := info_parts int_info
  have hal : Below W.heap.size W (W.alloc (.cells #[.int .i64 x] e')) := (Below.refl _ _).alloc (Nat.le_refl _) _
  have hl : ys.length = xs.length + 1 := by rw [hys]; simp
  have hm : ys.map (Value.int .i64) = xs.map (Value.int .i64) ++ [.int .i64 x] := by rw [hys]; simp
  refine wpList_plain hgd fun _ hK => ?_
  obtain ⟨v', w', hrun, ho', hg', _, hbk⟩ := run_append_own_at (P := Tryd.prog) (W.alloc (.cells #[.int .i64 x] e')) lo 25 o.type 3 i0 _ 1 8 Tryd.underlying25 hi0 hz0 hz1 hz2 (by rfl) (by omega)
    (.slice A xs.length c) xs.length (xs.map (Value.int .i64)) (hown.up hal) ⟨W.heap.size, 0, none⟩ 1 1 [.int .i64 x] (by rfl) (fun j u hu => by
      have := World.news_of_block (heap_alloc_new W (.cells #[.int .i64 x] e')) j u hu
      exact this) (by simp; rfl) (by unfold maxLen; omega) (by omega) (Nat.le_trans hlo hal.size)
  rw [← hl, ← hm] at ho'
  obtain ⟨A', c', rfl, _, _⟩ := OwnI.form (xs := ys) ho'
  unfold Oper.wp execOp
  simp only [ho, resolve, invoke, builtin, Sem.run_bind, Sem.run_pure, Result.andThen_ok, List.map_toArray, List.map_cons, List.map_nil, hs, hy, hrun]
  refine hK _ _ (h A' c' w' ho' (grown_then hal hg') ?_)
  rcases hbk with e | e
  · exact .inl e
  · exact .inr ⟨_, e, hal.size⟩
end Go.Proofs.YtjghcaghigebjaaDoor

/-! The reference's l7Ifs. -/
namespace Go.Proofs.YtjghcaghigebjaaDoor
open Go Go.RowKit

abbrev G2 (F : Nat → Prop) (w x : World) (S : Nat → Prop) (b : Nat) : Prop := F b ∨ (w.heap.size + 2 ≤ b ∧ b < x.heap.size ∧ ¬ S b)
/-- The variable of a net with room, the result's cells; the net's row lies in no block of S. -/
structure KS2 (F : Nat → Prop) (w x : World) (k : N × Bool) (A : Option Addr) (c : Nat) (S : Nat → Prop) : Prop where
  bel : Below w.heap.size w x
  var : x.heap[w.heap.size]? = some (.cells #[.int .i64 k.1.ins, .slice A k.1.gs.length c, .bool k.2] 68 (0, 0))
  res : x.heap[w.heap.size + 1]? = some (.cells #[.int .i64 0, .slice none 0 0, .bool false] 68 (0, 0))
  row : Lay.gate.Sl x (G2 F w x S) A k.1.gs
  nil : A = none → k.1.gs.length = 0
theorem KS2.lt {F : Nat → Prop} {w x : World} {S : Nat → Prop} (h : Below w.heap.size w x) (hF : ∀ b, F b → b < w.heap.size) : ∀ b, G2 F w x S b → b < x.heap.size := fun b hb => by
  rcases hb with hb | hb
  · have := hF b hb; have := h.size; omega
  · exact hb.2.1
theorem G2.up {α : Type} {L : Lay α} {F : Nat → Prop} {w x x' : World} {S : Nat → Prop} {A : Option Addr} {xs : List α} (h : L.Sl x (G2 F w x S) A xs) (hw : Below w.heap.size w x) (hF : ∀ b, F b → b < w.heap.size) (hb : Below x.heap.size x x') : L.Sl x' (G2 F w x' S) A xs :=
  (h.below hb (KS2.lt hw hF)).mono fun b hb' => hb'.imp id fun h9 => ⟨h9.1, Nat.lt_of_lt_of_le h9.2.1 hb.size, h9.2.2⟩
theorem G2.up2 {α : Type} {L : Lay α} {F : Nat → Prop} {w x x' : World} {S : Nat → Prop} {A : Option Addr} {xs : List α} (h : L.Sl x (G2 F w x S) A xs) (hF : ∀ b, F b → b < x.heap.size) (hb : Below x.heap.size x x') : L.Sl x' (G2 F w x' S) A xs :=
  (h.below hb (fun b hb' => hb'.elim (hF b) (fun h9 => h9.2.1))).mono fun b hb' => hb'.imp id fun h9 => ⟨h9.1, Nat.lt_of_lt_of_le h9.2.1 hb.size, h9.2.2⟩
theorem KS2.up {F : Nat → Prop} {w x x' : World} {k : N × Bool} {A : Option Addr} {c : Nat} {S : Nat → Prop} (h : KS2 F w x k A c S) (hF : ∀ b, F b → b < w.heap.size) (hb : Below x.heap.size x x') : KS2 F w x' k A c S :=
  ⟨bthen h.bel hb, (hb.block _ (lt_of_block h.var)).trans h.var, (hb.block _ (lt_of_block h.res)).trans h.res, G2.up h.row h.bel hF hb, h.nil⟩
/-- A write into the variable. -/
theorem KS2.set {F : Nat → Prop} {w x : World} {k k' : N × Bool} {A A' : Option Addr} {c c' : Nat} {S : Nat → Prop} (h : KS2 F w x k A c S) (hF : ∀ b, F b → b < w.heap.size) (hs : Lay.gate.Sl x (G2 F w x S) A' k'.1.gs) (hn : A' = none → k'.1.gs.length = 0) :
    KS2 F w (st3 x w.heap.size (.int .i64 k'.1.ins) (.slice A' k'.1.gs.length c') (.bool k'.2)) k' A' c' S := by
  refine ⟨st3_below h.bel (Nat.le_refl _) _ _ _, st3_same h.var _ _ _, (st3_other (by omega)).trans h.res, (st3_sl (h := w.heap.size) hs (fun b hb' => ?_) _ _ _).mono (fun b hb' => ?_), hn⟩
  · rcases hb' with hb' | hb'
    · have := hF b hb'; omega
    · omega
  · rw [G2, st3_size]; exact hb'
/-- A longer row of the call's own, which may lie elsewhere. -/
theorem KS2.grown {F : Nat → Prop} {w x x' : World} {k : N × Bool} {A : Option Addr} {c : Nat} {v v' : Value} (h : KS2 F w x k A c (fun b => v.ownBlock = some b)) (hF : ∀ b, F b → b < w.heap.size) (hg : x.grownBy x' v.ownBlock) (hv : ∀ g, v.ownBlock = some g → w.heap.size + 2 ≤ g) (hbk : v'.ownBlock = v.ownBlock ∨ ∃ g, v'.ownBlock = some g ∧ x.heap.size ≤ g) :
    KS2 F w x' k A c (fun b => v'.ownBlock = some b) := by
  have hne : ∀ b, b < w.heap.size + 2 → some b ≠ v.ownBlock := fun b hb e => by have := hv b e.symm; omega
  have h1 := lt_of_block h.var
  have h2 := lt_of_block h.res
  have hk : ∀ b, G2 F w x (fun b => v.ownBlock = some b) b → x'.heap[b]? = x.heap[b]? := fun b hb => by
    rcases hb with hb | hb
    · have := hF b hb; exact hg.block b (by omega) (hne b (by omega))
    · exact hg.block b hb.2.1 fun e => hb.2.2 e.symm
  refine ⟨h.bel.grown hg h.bel.size fun g e => by have := hv g e; omega, (hg.block _ h1 (hne _ (by omega))).trans h.var, (hg.block _ h2 (hne _ (by omega))).trans h.res, (h.row.keep hk).mono fun b hb => hb.imp id fun h9 => ⟨h9.1, Nat.lt_of_lt_of_le h9.2.1 hg.size, fun e => ?_⟩, h.nil⟩
  rcases hbk with hbk | ⟨g, hbk, hle⟩
  · rw [hbk] at e; exact h9.2.2 e
  · rw [hbk] at e; injection e with e; omega
/-- A net with room and a list. -/
def RetKL (F : Nat → Prop) (w : World) (res : (N × Bool) × List Int) (e : Ending) (w' : World) : Prop :=
  ∃ A c B d, e = .returned (.tuple #[.agg #[.int .i64 res.1.1.ins, .slice A res.1.1.gs.length c, .bool res.1.2], .slice B res.2.length d]) ∧ (A = none → res.1.1.gs.length = 0) ∧ Lay.gate.Sl w' (fun b => F b ∨ (w.heap.size ≤ b ∧ b < w'.heap.size)) A res.1.1.gs ∧ res.2.length ≤ d ∧ Lay.int.Sl w' (fun b => w.heap.size ≤ b ∧ b < w'.heap.size) B res.2 ∧ (∀ m ∈ res.2, RB m) ∧ Below w.heap.size w w'
theorem mux_rb {c x y : Int} {k : N × Bool} (h : NB k.1) (hc : RB c) (hx : RB x) (hy : RB y) : NB (run opsR (muxP c x y) k).1.1 ∧ RB (run opsR (muxP c x y) k).2 := by
  have h1 : NB (opsR.and k c x).1.1 ∧ RB (opsR.and k c x).2 := stepR_nb h (and1_nb h hc hx)
  have h2 : NB (opsR.and (opsR.and k c x).1 (-c) y).1.1 ∧ RB (opsR.and (opsR.and k c x).1 (-c) y).2 := stepR_nb h1.1 (and1_nb h1.1 hc.neg hy)
  have h3 : NB (opsR.and (opsR.and (opsR.and k c x).1 (-c) y).1 (-(opsR.and k c x).2) (-(opsR.and (opsR.and k c x).1 (-c) y).2)).1.1 ∧ RB (opsR.and (opsR.and (opsR.and k c x).1 (-c) y).1 (-(opsR.and k c x).2) (-(opsR.and (opsR.and k c x).1 (-c) y).2)).2 := stepR_nb h2.1 (and1_nb h2.1 h1.2.neg h2.2.neg)
  exact ⟨h3.1, h3.2.neg⟩
set_option maxRecDepth 100000 in
set_option maxHeartbeats 4000000 in
theorem l7Ifs_any (F : Nat → Prop) (A : Option Addr) (c : Nat) (k : N × Bool) (c0 : Int) (X Y : Option Addr) (cx cy : Nat) (xs ys : List Int) (w : World) (h : Lay.gate.Sl w F A k.1.gs) (hF : ∀ b, F b → b < w.heap.size) (hA : A = none → k.1.gs.length = 0) (hnb : NB k.1) (hc : RB c0) (hX : Lay.int.Rd w X xs) (hY : Lay.int.Rd w Y ys) (hxm : ∀ x ∈ xs, RB x) (hym : ∀ y ∈ ys, RB y) (hl : xs.length = ys.length) (hn : xs.length ≤ 1000) :
    Calls Tryd.prog 44 #[.agg #[.int .i64 k.1.ins, .slice A k.1.gs.length c, .bool k.2], .int .i64 c0, .slice X xs.length cx, .slice Y ys.length cy] w (RetKL F w (run opsR (eachP (muxP c0) xs ys) k)) := by
  obtain ⟨T, hT⟩ : ∃ T, T = run opsR (eachP (muxP c0) xs ys) k := ⟨_, rfl⟩
  rw [← hT]
  have HT := Lib.hid hT
  have K0 := KS.two (c := c) h hF hA
  have HRW := Lib.hid (h.below K0.bel hF)
  have HNIL := Lib.hid hA
  have HF := Lib.hid hF
  have HNB := Lib.hid hnb
  have HX := Lib.hid hX
  have HY := Lib.hid hY
  have HXM := Lib.hid hxm
  have HYM := Lib.hid hym
  have HL := Lib.hid hl
  have HC0 := Lib.hid hc
  have K0 := Lib.hid K0
  have hX0s : ((w.alloc (.cells #[.int .i64 k.1.ins, .slice A k.1.gs.length c, .bool k.2] 68)).alloc (.cells #[.int .i64 0, .slice none 0 0, .bool false] 68)).heap.size = w.heap.size + 2 := by simp
  clear h hA hnb hX hY hxm hym hc hT
  rw [← hl]
  clear hl
  go_enter Tryd.func44, Tryd.ntmps44
  go_wp2
  generalize hX0 : (w.alloc (.cells #[.int .i64 k.1.ins, .slice A k.1.gs.length c, .bool k.2] 68)).alloc (.cells #[.int .i64 0, .slice none 0 0, .bool false] 68) = X0 at *
  clear hX0
  have hal : Below X0.heap.size X0 (X0.alloc (.cells #[] 3)) := (Below.refl _ _).alloc (Nat.le_refl _) _
  have hown0 : OwnI (X0.alloc (.cells #[] 3)) (w.heap.size + 2) (.slice (some ⟨w.heap.size + 1 + 1, 0, none⟩) 0 0) [] := own_lit0 hX0s
  have K1 := Lib.hid (K0.out.up HF.out hal)
  have HO0 := Lib.hid hown0
  have HRW := Lib.hid (HRW.out.below hal (fun b hb => by have := HF.out b hb; omega))
  clear hal hown0 K0
  go_loopw [10, 11] (fun out i wr => ∃ (j : Nat) (k1 : N × Bool) (l : List Int) (A1 B : Option Addr) (c1 d : Nat), j ≤ xs.length ∧ i = .int .i64 j ∧ out = .slice B l.length d ∧ l.length = j ∧ OwnI wr (w.heap.size + 2) (.slice B l.length d) l ∧ (∀ m ∈ l, RB m) ∧ KS2 F w wr k1 A1 c1 (fun b => (Value.slice B l.length d).ownBlock = some b) ∧ NB k1.1 ∧ Hid ((let z := run opsR (eachP (muxP c0) (xs.drop j) (ys.drop j)) k1; (z.1, l ++ z.2)) = T)) (fun _ i _ => xs.length - (intOf i).toNat)
  case atStart => exact ⟨0, k, [], A, some ⟨w.heap.size + 1 + 1, 0, none⟩, c, 0, Nat.zero_le _, rfl, rfl, rfl, HO0.out, (fun _ h => by cases h), ⟨K1.out.bel, K1.out.var, K1.out.res, HRW.out.mono fun _ => .inl, HNIL.out⟩, HNB.out, Lib.hid (by rw [HT.out]; rfl)⟩
  case round =>
    obtain ⟨j, k1, l, A1, B, c1, d, hj, rfl, rfl, hlj, hown, hlm, hks, hnb1, hst⟩ := hrel
    have HOWN := Lib.hid hown
    have HLM := Lib.hid hlm
    have HKS := Lib.hid hks
    have HLJ := Lib.hid hlj
    have HNB1 := Lib.hid hnb1
    clear hown hlm hks hlj hnb1
    by_cases hlt : j < xs.length
    · have hlt2 : (j : Int) < xs.length := by omega
      have hlty : j < ys.length := by rw [← HL.out]; exact hlt
      obtain ⟨x, hx⟩ : ∃ x, xs[j]? = some x := ⟨_, List.getElem?_eq_getElem hlt⟩
      obtain ⟨y, hy⟩ : ∃ y, ys[j]? = some y := ⟨_, List.getElem?_eq_getElem hlty⟩
      have hxg : xs[j] = x := (List.getElem?_eq_some_iff.1 hx).2
      have hyg : ys[j] = y := (List.getElem?_eq_some_iff.1 hy).2
      have hxM : RB x := HXM.out x (List.mem_of_getElem? hx)
      have hyM : RB y := HYM.out y (List.mem_of_getElem? hy)
      obtain ⟨adx, rfl, -, -⟩ := HX.out.at_int hlt
      obtain ⟨ady, rfl, -, -⟩ := HY.out.at_int hlty
      obtain ⟨m, hm⟩ : ∃ m, m = run opsR ((muxP c0) x y) k1 := ⟨_, rfl⟩
      have HST := Lib.hid ((run_each (o := opsR) (f := (muxP c0)) xs ys j x y hx hy k1 l).symm.trans hst.out)
      have HM := Lib.hid hm
      have HMB : Hid (NB m.1.1 ∧ RB m.2) := Lib.hid (by rw [hm]; exact mux_rb HNB1.out HC0.out hxM hyM)
      have HRX : Hid (∀ z, Below w.heap.size w z → z.cell? (adx.add j) = some (.int .i64 x)) := Lib.hid fun z hz => by
        obtain ⟨ad, e, _, hc⟩ := (HX.out.up hz).at_int hlt
        injection e with e; subst e; rw [← hxg]; exact hc
      have HRY : Hid (∀ z, Below w.heap.size w z → z.cell? (ady.add j) = some (.int .i64 y)) := Lib.hid fun z hz => by
        obtain ⟨ad, e, _, hc⟩ := (HY.out.up hz).at_int hlty
        injection e with e; subst e; rw [← hyg]; exact hc
      obtain ⟨l2, hl2⟩ : ∃ l2, l2 = l ++ [m.2] := ⟨_, rfl⟩
      have HL2 := Lib.hid hl2
      have hll : l.length ≤ 1000 := by have := HLJ.out; omega
      have HXYM := Lib.hid (And.intro hxM hyM)
      clear hm hx hy hxg hyg hst hl2 hxM hyM hlty
      go_wp2
      refine wp_region_rel4 [[], [], [], [], [(2, 23), (3, 24)], [(4, 25)], [], [], [(6, 27), (7, 28)], [(8, 29)], [(0, 21), (1, 22), (5, 26), (9, 30)], [(10, 31)], [(11, 20)], [(11, 20)], [(12, 32)], [(13, 33)]]
        (fun x9 y9 => Below x9.heap.size x9 y9)
        [(14, fun x9 y9 => x9.grownBy y9 (some w.heap.size))]
        (fun f9 x9 => (f9 14 = false → KS2 F w x9 k1 A1 c1 (fun b => (Value.slice B l.length d).ownBlock = some b)) ∧ (f9 14 = true → ∃ A2 c2, KS2 F w x9 m.1 A2 c2 (fun b => (Value.slice B l.length d).ownBlock = some b)) ∧ OwnI x9 (w.heap.size + 2) (.slice B l.length d) l ∧ Below w.heap.size w x9)
        [fun vs9 _ => vs9 0 = (.agg #[.int .i64 k1.1.ins, .slice A1 k1.1.gs.length c1, .bool k1.2]),
    fun vs9 _ => vs9 1 = (.int .i64 c0),
    fun vs9 _ => vs9 2 = (.slice (some adx) xs.length cx),
    fun vs9 _ => vs9 3 = (.int .i64 (j : Int)),
    fun vs9 _ => vs9 4 = (.pointer (some (adx.add j))),
    fun vs9 _ => vs9 5 = (.int .i64 x),
    fun vs9 _ => vs9 6 = (.slice (some ady) xs.length cy),
    fun vs9 _ => vs9 7 = (.int .i64 (j : Int)),
    fun vs9 _ => vs9 8 = (.pointer (some (ady.add j))),
    fun vs9 _ => vs9 9 = (.int .i64 y),
    fun vs9 y9 => (fun v z => ∃ A2 c2, v = .tuple #[.agg #[.int .i64 m.1.1.ins, .slice A2 m.1.1.gs.length c2, .bool m.1.2], .int .i64 m.2] ∧ (A2 = none → m.1.1.gs.length = 0) ∧ Lay.gate.Sl z (G2 F w z (fun b => (Value.slice B l.length d).ownBlock = some b)) A2 m.1.1.gs ∧ w.heap.size ≤ z.heap.size) (vs9 10) y9,
    fun vs9 y9 => (fun v z => ∃ A2 c2, v = .tuple #[.agg #[.int .i64 m.1.1.ins, .slice A2 m.1.1.gs.length c2, .bool m.1.2], .int .i64 m.2] ∧ (A2 = none → m.1.1.gs.length = 0) ∧ Lay.gate.Sl z (G2 F w z (fun b => (Value.slice B l.length d).ownBlock = some b)) A2 m.1.1.gs ∧ w.heap.size ≤ z.heap.size) (vs9 11) y9,
    fun vs9 y9 => (fun v z => ∃ A2 c2, v = .agg #[.int .i64 m.1.1.ins, .slice A2 m.1.1.gs.length c2, .bool m.1.2] ∧ (A2 = none → m.1.1.gs.length = 0) ∧ Lay.gate.Sl z (G2 F w z (fun b => (Value.slice B l.length d).ownBlock = some b)) A2 m.1.1.gs ∧ w.heap.size ≤ z.heap.size) (vs9 12) y9,
    fun vs9 _ => vs9 13 = (.int .i64 m.2),
    fun _ _ => True,
    fun vs9 _ => vs9 15 = (.int .i64 m.2)]
        [(0, 21), (1, 22), (2, 23), (3, 24), (4, 25), (5, 26), (6, 27), (7, 28), (8, 29), (9, 30), (10, 31), (11, 20), (12, 32), (13, 33), (15, 12)] (by kernel_rfl) (by kernel_rfl) (by kernel_rfl) (by kernel_rfl)
        (fun _ => Below.refl _ _) ⟨fun _ => World.grownBy.refl _ _, trivial⟩
        ⟨⟨.inr (fun _ _ _ h _ => h), ⟨.inr (.inr (fun _ _ _ h _ => h)), trivial⟩⟩,
    ⟨.inr (fun _ _ _ h _ => h), ⟨.inr (.inr (fun _ _ _ h _ => h)), trivial⟩⟩,
    ⟨.inr (fun _ _ _ h _ => h), ⟨.inr (.inr (fun _ _ _ h _ => h)), trivial⟩⟩,
    ⟨.inr (fun _ _ _ h _ => h), ⟨.inr (.inr (fun _ _ _ h _ => h)), trivial⟩⟩,
    ⟨.inr (fun _ _ _ h _ => h), ⟨.inr (.inr (fun _ _ _ h _ => h)), trivial⟩⟩,
    ⟨.inr (fun _ _ _ h _ => h), ⟨.inr (.inr (fun _ _ _ h _ => h)), trivial⟩⟩,
    ⟨.inr (fun _ _ _ h _ => h), ⟨.inr (.inr (fun _ _ _ h _ => h)), trivial⟩⟩,
    ⟨.inr (fun _ _ _ h _ => h), ⟨.inr (.inr (fun _ _ _ h _ => h)), trivial⟩⟩,
    ⟨.inr (fun _ _ _ h _ => h), ⟨.inr (.inr (fun _ _ _ h _ => h)), trivial⟩⟩,
    ⟨.inr (fun _ _ _ h _ => h), ⟨.inr (.inr (fun _ _ _ h _ => h)), trivial⟩⟩,
    ⟨.inr (fun vs9 x9 y9 h9 hR9 => (show ∀ v9 y8 y7, (fun v z => ∃ A2 c2, v = .tuple #[.agg #[.int .i64 m.1.1.ins, .slice A2 m.1.1.gs.length c2, .bool m.1.2], .int .i64 m.2] ∧ (A2 = none → m.1.1.gs.length = 0) ∧ Lay.gate.Sl z (G2 F w z (fun b => (Value.slice B l.length d).ownBlock = some b)) A2 m.1.1.gs ∧ w.heap.size ≤ z.heap.size) v9 y8 → (fun x9 y9 => Below x9.heap.size x9 y9) y8 y7 → (fun v z => ∃ A2 c2, v = .tuple #[.agg #[.int .i64 m.1.1.ins, .slice A2 m.1.1.gs.length c2, .bool m.1.2], .int .i64 m.2] ∧ (A2 = none → m.1.1.gs.length = 0) ∧ Lay.gate.Sl z (G2 F w z (fun b => (Value.slice B l.length d).ownBlock = some b)) A2 m.1.1.gs ∧ w.heap.size ≤ z.heap.size) v9 y7 from fun _ _ _ ⟨A2, c2, h1, h2, h3, h4⟩ hR => ⟨A2, c2, h1, h2, G2.up2 h3 (fun b hb => Nat.lt_of_lt_of_le (HF.out b hb) h4) hR, Nat.le_trans h4 hR.size⟩) (vs9 10) x9 y9 h9 hR9), ⟨.inr (.inr (fun vs9 x9 y9 h9 hR9 => (show ∀ v9 y8 y7, (fun v z => ∃ A2 c2, v = .tuple #[.agg #[.int .i64 m.1.1.ins, .slice A2 m.1.1.gs.length c2, .bool m.1.2], .int .i64 m.2] ∧ (A2 = none → m.1.1.gs.length = 0) ∧ Lay.gate.Sl z (G2 F w z (fun b => (Value.slice B l.length d).ownBlock = some b)) A2 m.1.1.gs ∧ w.heap.size ≤ z.heap.size) v9 y8 → (fun x9 y9 => x9.grownBy y9 (some w.heap.size)) y8 y7 → (fun v z => ∃ A2 c2, v = .tuple #[.agg #[.int .i64 m.1.1.ins, .slice A2 m.1.1.gs.length c2, .bool m.1.2], .int .i64 m.2] ∧ (A2 = none → m.1.1.gs.length = 0) ∧ Lay.gate.Sl z (G2 F w z (fun b => (Value.slice B l.length d).ownBlock = some b)) A2 m.1.1.gs ∧ w.heap.size ≤ z.heap.size) v9 y7 from fun _ _ _ ⟨A2, c2, h1, h2, h3, h4⟩ hR => ⟨A2, c2, h1, h2, (h3.keep fun b hb => hR.block b (hb.elim (fun h9 => Nat.lt_of_lt_of_le (HF.out b h9) h4) (fun h9 => h9.2.1)) (fun e => by injection e with e; exact hb.elim (fun h9 => by have := HF.out b h9; omega) (fun h9 => by omega))).mono fun b hb => hb.imp id fun h9 => ⟨h9.1, Nat.lt_of_lt_of_le h9.2.1 hR.size, h9.2.2⟩, Nat.le_trans h4 hR.size⟩) (vs9 10) x9 y9 h9 hR9)), trivial⟩⟩,
    ⟨.inr (fun vs9 x9 y9 h9 hR9 => (show ∀ v9 y8 y7, (fun v z => ∃ A2 c2, v = .tuple #[.agg #[.int .i64 m.1.1.ins, .slice A2 m.1.1.gs.length c2, .bool m.1.2], .int .i64 m.2] ∧ (A2 = none → m.1.1.gs.length = 0) ∧ Lay.gate.Sl z (G2 F w z (fun b => (Value.slice B l.length d).ownBlock = some b)) A2 m.1.1.gs ∧ w.heap.size ≤ z.heap.size) v9 y8 → (fun x9 y9 => Below x9.heap.size x9 y9) y8 y7 → (fun v z => ∃ A2 c2, v = .tuple #[.agg #[.int .i64 m.1.1.ins, .slice A2 m.1.1.gs.length c2, .bool m.1.2], .int .i64 m.2] ∧ (A2 = none → m.1.1.gs.length = 0) ∧ Lay.gate.Sl z (G2 F w z (fun b => (Value.slice B l.length d).ownBlock = some b)) A2 m.1.1.gs ∧ w.heap.size ≤ z.heap.size) v9 y7 from fun _ _ _ ⟨A2, c2, h1, h2, h3, h4⟩ hR => ⟨A2, c2, h1, h2, G2.up2 h3 (fun b hb => Nat.lt_of_lt_of_le (HF.out b hb) h4) hR, Nat.le_trans h4 hR.size⟩) (vs9 11) x9 y9 h9 hR9), ⟨.inr (.inr (fun vs9 x9 y9 h9 hR9 => (show ∀ v9 y8 y7, (fun v z => ∃ A2 c2, v = .tuple #[.agg #[.int .i64 m.1.1.ins, .slice A2 m.1.1.gs.length c2, .bool m.1.2], .int .i64 m.2] ∧ (A2 = none → m.1.1.gs.length = 0) ∧ Lay.gate.Sl z (G2 F w z (fun b => (Value.slice B l.length d).ownBlock = some b)) A2 m.1.1.gs ∧ w.heap.size ≤ z.heap.size) v9 y8 → (fun x9 y9 => x9.grownBy y9 (some w.heap.size)) y8 y7 → (fun v z => ∃ A2 c2, v = .tuple #[.agg #[.int .i64 m.1.1.ins, .slice A2 m.1.1.gs.length c2, .bool m.1.2], .int .i64 m.2] ∧ (A2 = none → m.1.1.gs.length = 0) ∧ Lay.gate.Sl z (G2 F w z (fun b => (Value.slice B l.length d).ownBlock = some b)) A2 m.1.1.gs ∧ w.heap.size ≤ z.heap.size) v9 y7 from fun _ _ _ ⟨A2, c2, h1, h2, h3, h4⟩ hR => ⟨A2, c2, h1, h2, (h3.keep fun b hb => hR.block b (hb.elim (fun h9 => Nat.lt_of_lt_of_le (HF.out b h9) h4) (fun h9 => h9.2.1)) (fun e => by injection e with e; exact hb.elim (fun h9 => by have := HF.out b h9; omega) (fun h9 => by omega))).mono fun b hb => hb.imp id fun h9 => ⟨h9.1, Nat.lt_of_lt_of_le h9.2.1 hR.size, h9.2.2⟩, Nat.le_trans h4 hR.size⟩) (vs9 11) x9 y9 h9 hR9)), trivial⟩⟩,
    ⟨.inr (fun vs9 x9 y9 h9 hR9 => (show ∀ v9 y8 y7, (fun v z => ∃ A2 c2, v = .agg #[.int .i64 m.1.1.ins, .slice A2 m.1.1.gs.length c2, .bool m.1.2] ∧ (A2 = none → m.1.1.gs.length = 0) ∧ Lay.gate.Sl z (G2 F w z (fun b => (Value.slice B l.length d).ownBlock = some b)) A2 m.1.1.gs ∧ w.heap.size ≤ z.heap.size) v9 y8 → (fun x9 y9 => Below x9.heap.size x9 y9) y8 y7 → (fun v z => ∃ A2 c2, v = .agg #[.int .i64 m.1.1.ins, .slice A2 m.1.1.gs.length c2, .bool m.1.2] ∧ (A2 = none → m.1.1.gs.length = 0) ∧ Lay.gate.Sl z (G2 F w z (fun b => (Value.slice B l.length d).ownBlock = some b)) A2 m.1.1.gs ∧ w.heap.size ≤ z.heap.size) v9 y7 from fun _ _ _ ⟨A2, c2, h1, h2, h3, h4⟩ hR => ⟨A2, c2, h1, h2, G2.up2 h3 (fun b hb => Nat.lt_of_lt_of_le (HF.out b hb) h4) hR, Nat.le_trans h4 hR.size⟩) (vs9 12) x9 y9 h9 hR9), ⟨.inr (.inr (fun vs9 x9 y9 h9 hR9 => (show ∀ v9 y8 y7, (fun v z => ∃ A2 c2, v = .agg #[.int .i64 m.1.1.ins, .slice A2 m.1.1.gs.length c2, .bool m.1.2] ∧ (A2 = none → m.1.1.gs.length = 0) ∧ Lay.gate.Sl z (G2 F w z (fun b => (Value.slice B l.length d).ownBlock = some b)) A2 m.1.1.gs ∧ w.heap.size ≤ z.heap.size) v9 y8 → (fun x9 y9 => x9.grownBy y9 (some w.heap.size)) y8 y7 → (fun v z => ∃ A2 c2, v = .agg #[.int .i64 m.1.1.ins, .slice A2 m.1.1.gs.length c2, .bool m.1.2] ∧ (A2 = none → m.1.1.gs.length = 0) ∧ Lay.gate.Sl z (G2 F w z (fun b => (Value.slice B l.length d).ownBlock = some b)) A2 m.1.1.gs ∧ w.heap.size ≤ z.heap.size) v9 y7 from fun _ _ _ ⟨A2, c2, h1, h2, h3, h4⟩ hR => ⟨A2, c2, h1, h2, (h3.keep fun b hb => hR.block b (hb.elim (fun h9 => Nat.lt_of_lt_of_le (HF.out b h9) h4) (fun h9 => h9.2.1)) (fun e => by injection e with e; exact hb.elim (fun h9 => by have := HF.out b h9; omega) (fun h9 => by omega))).mono fun b hb => hb.imp id fun h9 => ⟨h9.1, Nat.lt_of_lt_of_le h9.2.1 hR.size, h9.2.2⟩, Nat.le_trans h4 hR.size⟩) (vs9 12) x9 y9 h9 hR9)), trivial⟩⟩,
    ⟨.inr (fun _ _ _ h _ => h), ⟨.inr (.inr (fun _ _ _ h _ => h)), trivial⟩⟩,
    ⟨.inr (fun _ _ _ h _ => h), ⟨.inr (.inl rfl), trivial⟩⟩,
    ⟨.inr (fun _ _ _ h _ => h), ⟨.inr (.inr (fun _ _ _ h _ => h)), trivial⟩⟩, trivial⟩ ⟨fun vs vs' x h _ hv => (by dsimp only at hv ⊢; first | (rw [← h]; exact hv) | exact hv),
    fun vs vs' x h _ hv => (by dsimp only at hv ⊢; first | (rw [← h]; exact hv) | exact hv),
    fun vs vs' x h _ hv => (by dsimp only at hv ⊢; first | (rw [← h]; exact hv) | exact hv),
    fun vs vs' x h _ hv => (by dsimp only at hv ⊢; first | (rw [← h]; exact hv) | exact hv),
    fun vs vs' x h _ hv => (by dsimp only at hv ⊢; first | (rw [← h]; exact hv) | exact hv),
    fun vs vs' x h _ hv => (by dsimp only at hv ⊢; first | (rw [← h]; exact hv) | exact hv),
    fun vs vs' x h _ hv => (by dsimp only at hv ⊢; first | (rw [← h]; exact hv) | exact hv),
    fun vs vs' x h _ hv => (by dsimp only at hv ⊢; first | (rw [← h]; exact hv) | exact hv),
    fun vs vs' x h _ hv => (by dsimp only at hv ⊢; first | (rw [← h]; exact hv) | exact hv),
    fun vs vs' x h _ hv => (by dsimp only at hv ⊢; first | (rw [← h]; exact hv) | exact hv),
    fun vs vs' x h _ hv => (by dsimp only at hv ⊢; first | (rw [← h]; exact hv) | exact hv),
    fun vs vs' x h _ hv => (by dsimp only at hv ⊢; first | (rw [← h]; exact hv) | exact hv),
    fun vs vs' x h _ hv => (by dsimp only at hv ⊢; first | (rw [← h]; exact hv) | exact hv),
    fun vs vs' x h _ hv => (by dsimp only at hv ⊢; first | (rw [← h]; exact hv) | exact hv),
    fun _ _ _ _ _ _ => trivial,
    fun vs vs' x h _ hv => (by dsimp only at hv ⊢; first | (rw [← h]; exact hv) | exact hv), trivial⟩ (⟨fun _ => HKS.out.up HF.out (below_drewN (Below.refl _ _) 1), (fun h => by cases h), HOWN.out.up (below_drewN (Below.refl _ _) 1), bthen HKS.out.bel (below_drewN (Below.refl _ _) 1)⟩) ⟨?_, ?_, ?_, ?_, ?_, ?_, ?_, ?_, ?_, ?_, ?_, ?_, ?_, ?_, ?_, ?_, trivial⟩ ?_
      · intro vals xw f hf1 hf2 hf3 hI hF
        have k14 : f 14 = false := hf3 14 (by kernel_rfl)
        clear hf2 hf3
        dsimp only [owes4, bare]
        simp only [putsD, Act.put, List.setIfInBounds_toArray, List.set_cons_zero, List.set_cons_succ]
        have hv9 := (hI.1 k14).var
        have y0 := (cell_of_block hv9 0).1
        have y1 := (cell_of_block hv9 1).1
        have y2 := (cell_of_block hv9 2).1
        go_wp2
        exact ⟨rfl, rfl, ⟨fun h9 => absurd h9 (Nat.ne_of_beq_eq_false rfl), fun _ => Below.refl _ _⟩, hI⟩
      · intro vals xw f hf1 hf2 hf3 hI hF
        clear hf2 hf3
        dsimp only [owes4, bare]
        simp only [putsD, Act.put, List.setIfInBounds_toArray, List.set_cons_zero, List.set_cons_succ]
        go_wp2
        exact ⟨rfl, rfl, ⟨fun h9 => absurd h9 (Nat.ne_of_beq_eq_false rfl), fun _ => Below.refl _ _⟩, hI⟩
      · intro vals xw f hf1 hf2 hf3 hI hF
        clear hf2 hf3
        dsimp only [owes4, bare]
        simp only [putsD, Act.put, List.setIfInBounds_toArray, List.set_cons_zero, List.set_cons_succ]
        go_wp2
        exact ⟨rfl, rfl, ⟨fun h9 => absurd h9 (Nat.ne_of_beq_eq_false rfl), fun _ => Below.refl _ _⟩, hI⟩
      · intro vals xw f hf1 hf2 hf3 hI hF
        clear hf2 hf3
        dsimp only [owes4, bare]
        simp only [putsD, Act.put, List.setIfInBounds_toArray, List.set_cons_zero, List.set_cons_succ]
        go_wp2
        exact ⟨rfl, rfl, ⟨fun h9 => absurd h9 (Nat.ne_of_beq_eq_false rfl), fun _ => Below.refl _ _⟩, hI⟩
      · intro vals xw f hf1 hf2 hf3 hI hF
        clear hf2 hf3
        simp only [saysD, List.getD_cons_zero, List.getD_cons_succ, and_true] at hF
        obtain ⟨e23, e24⟩ := hF
        dsimp only [owes4, bare]
        simp only [putsD, Act.put, List.setIfInBounds_toArray, List.set_cons_zero, List.set_cons_succ]
        simp only [e23, e24]
        go_wp2
        exact ⟨rfl, rfl, ⟨fun h9 => absurd h9 (Nat.ne_of_beq_eq_false rfl), fun _ => Below.refl _ _⟩, hI⟩
      · intro vals xw f hf1 hf2 hf3 hI hF
        clear hf2 hf3
        simp only [saysD, List.getD_cons_zero, List.getD_cons_succ, and_true] at hF
        have e25 := hF
        dsimp only [owes4, bare]
        simp only [putsD, Act.put, List.setIfInBounds_toArray, List.set_cons_zero, List.set_cons_succ]
        simp only [e25]
        have c9 := HRX.out _ hI.2.2.2
        go_wp2
        exact ⟨rfl, rfl, ⟨fun h9 => absurd h9 (Nat.ne_of_beq_eq_false rfl), fun _ => Below.refl _ _⟩, hI⟩
      · intro vals xw f hf1 hf2 hf3 hI hF
        clear hf2 hf3
        dsimp only [owes4, bare]
        simp only [putsD, Act.put, List.setIfInBounds_toArray, List.set_cons_zero, List.set_cons_succ]
        go_wp2
        exact ⟨rfl, rfl, ⟨fun h9 => absurd h9 (Nat.ne_of_beq_eq_false rfl), fun _ => Below.refl _ _⟩, hI⟩
      · intro vals xw f hf1 hf2 hf3 hI hF
        clear hf2 hf3
        dsimp only [owes4, bare]
        simp only [putsD, Act.put, List.setIfInBounds_toArray, List.set_cons_zero, List.set_cons_succ]
        go_wp2
        exact ⟨rfl, rfl, ⟨fun h9 => absurd h9 (Nat.ne_of_beq_eq_false rfl), fun _ => Below.refl _ _⟩, hI⟩
      · intro vals xw f hf1 hf2 hf3 hI hF
        clear hf2 hf3
        simp only [saysD, List.getD_cons_zero, List.getD_cons_succ, and_true] at hF
        obtain ⟨e27, e28⟩ := hF
        dsimp only [owes4, bare]
        simp only [putsD, Act.put, List.setIfInBounds_toArray, List.set_cons_zero, List.set_cons_succ]
        simp only [e27, e28]
        go_wp2
        exact ⟨rfl, rfl, ⟨fun h9 => absurd h9 (Nat.ne_of_beq_eq_false rfl), fun _ => Below.refl _ _⟩, hI⟩
      · intro vals xw f hf1 hf2 hf3 hI hF
        clear hf2 hf3
        simp only [saysD, List.getD_cons_zero, List.getD_cons_succ, and_true] at hF
        have e29 := hF
        dsimp only [owes4, bare]
        simp only [putsD, Act.put, List.setIfInBounds_toArray, List.set_cons_zero, List.set_cons_succ]
        simp only [e29]
        have c9 := HRY.out _ hI.2.2.2
        go_wp2
        exact ⟨rfl, rfl, ⟨fun h9 => absurd h9 (Nat.ne_of_beq_eq_false rfl), fun _ => Below.refl _ _⟩, hI⟩
      · intro vals xw f hf1 hf2 hf3 hI hF
        have k14 : f 14 = false := hf3 14 (by kernel_rfl)
        clear hf2 hf3
        simp only [saysD, List.getD_cons_zero, List.getD_cons_succ, and_true] at hF
        obtain ⟨e21, e22, e26, e30⟩ := hF
        dsimp only [owes4, bare]
        simp only [putsD, Act.put, List.setIfInBounds_toArray, List.set_cons_zero, List.set_cons_succ]
        simp only [e21, e22, e26, e30]
        have HI := Lib.hid hI
        have HK := Lib.hid (hI.1 k14)
        have hsz9 := hI.2.2.2.size
        clear hI
        have HC := Lib.hid (l7One_any (G2 F w xw (fun b => (Value.slice B l.length d).ownBlock = some b)) A1 c1 k1 c0 x y xw HK.out.row (KS2.lt HK.out.bel HF.out) HK.out.nil HNB1.out HC0.out HXYM.out.1 HXYM.out.2)
        rw [← HM.out] at HC
        go_wp2_with fail
        refine HC.out.mono ?_
        rintro e wx ⟨A2, c2, rfl, h2, h3, h4⟩
        have H3 := Lib.hid h3
        have H4 := Lib.hid h4
        clear h3 h4 HC
        go_wp2
        refine ⟨rfl, ⟨A2, c2, rfl, h2, H3.out.mono ?_, Nat.le_trans hsz9 H4.out.size⟩, ⟨fun h9 => absurd h9 (Nat.ne_of_beq_eq_false rfl), fun _ => H4.out⟩, (fun h => (HI.out.1 h).up HF.out H4.out), (fun h => absurd (k14.symm.trans h) (by simp)), HI.out.2.2.1.up H4.out, bthen HI.out.2.2.2 H4.out⟩
        intro b hb
        rcases hb with (h9 | h9) | h9
        · exact .inl h9
        · exact .inr ⟨h9.1, Nat.lt_of_lt_of_le h9.2.1 H4.out.size, h9.2.2⟩
        · refine .inr ⟨by have := HK.out.bel.size; have := lt_of_block HK.out.res; omega, h9.2, fun e => ?_⟩
          have := (HI.out.2.2.1.lt b e).2; omega
      · intro vals xw f hf1 hf2 hf3 hI hF
        clear hf2 hf3
        simp only [saysD, List.getD_cons_zero, List.getD_cons_succ, and_true] at hF
        obtain ⟨A2, c2, e31, h2, h3, h4⟩ := hF
        dsimp only [owes4, bare]
        simp only [putsD, Act.put, List.setIfInBounds_toArray, List.set_cons_zero, List.set_cons_succ]
        simp only [e31]
        go_wp2
        exact ⟨rfl, ⟨A2, c2, rfl, h2, h3, h4⟩, ⟨fun h9 => absurd h9 (Nat.ne_of_beq_eq_false rfl), fun _ => Below.refl _ _⟩, hI⟩
      · intro vals xw f hf1 hf2 hf3 hI hF
        clear hf2 hf3
        simp only [saysD, List.getD_cons_zero, List.getD_cons_succ, and_true] at hF
        obtain ⟨A2, c2, e20, h2, h3, h4⟩ := hF
        dsimp only [owes4, bare]
        simp only [putsD, Act.put, List.setIfInBounds_toArray, List.set_cons_zero, List.set_cons_succ]
        simp only [e20]
        go_wp2
        exact ⟨rfl, ⟨A2, c2, rfl, h2, h3, h4⟩, ⟨fun h9 => absurd h9 (Nat.ne_of_beq_eq_false rfl), fun _ => Below.refl _ _⟩, hI⟩
      · intro vals xw f hf1 hf2 hf3 hI hF
        clear hf2 hf3
        simp only [saysD, List.getD_cons_zero, List.getD_cons_succ, and_true] at hF
        obtain ⟨A2, c2, e20, h2, h3, h4⟩ := hF
        dsimp only [owes4, bare]
        simp only [putsD, Act.put, List.setIfInBounds_toArray, List.set_cons_zero, List.set_cons_succ]
        simp only [e20]
        go_wp2
        exact ⟨rfl, rfl, ⟨fun h9 => absurd h9 (Nat.ne_of_beq_eq_false rfl), fun _ => Below.refl _ _⟩, hI⟩
      · intro vals xw f hf1 hf2 hf3 hI hF
        clear hf2 hf3
        simp only [saysD, List.getD_cons_zero, List.getD_cons_succ, and_true] at hF
        obtain ⟨A2, c2, e32, h2, h3, h4⟩ := hF
        dsimp only [owes4, bare]
        simp only [putsD, Act.put, List.setIfInBounds_toArray, List.set_cons_zero, List.set_cons_succ]
        simp only [e32]
        have HI := Lib.hid hI
        have HK := Lib.hid (hI.1 hf1)
        have hv9 := HK.out.var
        have y0 := (cell_of_block hv9 0).1
        have y1 := (cell_of_block hv9 1).1
        have y2 := (cell_of_block hv9 2).1
        have g0 := (cell_of_block hv9 0).2
        have g1 := (cell_of_block hv9 1).2
        have g2 := (cell_of_block hv9 2).2
        have H3 := Lib.hid h3
        clear hI hv9 h3 h4
        go_wp2
        have hset := HK.out.set (c' := c2) HF.out H3.out h2
        have hgr : xw.grownBy (st3 xw w.heap.size (.int .i64 m.1.1.ins) (.slice A2 m.1.1.gs.length c2) (.bool m.1.2)) (some w.heap.size) := only_setCell (only_setCell (only_setCell (World.grownBy.refl _ _) _ _) _ _) _ _
        exact ⟨rfl, trivial, ⟨fun _ => hgr, fun h9 => absurd rfl h9⟩, fun h => absurd ((did_same f 14).symm.trans h) (by simp), fun _ => ⟨A2, c2, hset⟩, own_of_heap HI.out.2.2.1 fun g hg => hgr.block g (HI.out.2.2.1.lt g hg).2 (fun e => by injection e with e; have := (HI.out.2.2.1.lt g hg).1; omega), st3_below HI.out.2.2.2 (Nat.le_refl _) _ _ _⟩
      · intro vals xw f hf1 hf2 hf3 hI hF
        clear hf2 hf3
        simp only [saysD, List.getD_cons_zero, List.getD_cons_succ, and_true] at hF
        have e33 := hF
        dsimp only [owes4, bare]
        simp only [putsD, Act.put, List.setIfInBounds_toArray, List.set_cons_zero, List.set_cons_succ]
        simp only [e33]
        go_wp2
        exact ⟨rfl, rfl, ⟨fun h9 => absurd h9 (Nat.ne_of_beq_eq_false rfl), fun _ => Below.refl _ _⟩, hI⟩
      · intro vals xw f hall hI hF
        rw [show List.range _ = [0, 1, 2, 3, 4, 5, 6, 7, 8, 9, 10, 11, 12, 13, 14, 15] from rfl] at hF
        simp only [says, List.getD_cons_zero, List.getD_cons_succ, and_true] at hF
        obtain ⟨A2, c2, hk2⟩ := hI.2.1 (hall 14 (by decide))
        have e12 : vals 15 = .int .i64 m.2 := by obtain ⟨_, _, _, _, _, _, _, _, _, _, _, _, _, _, _, e9⟩ := hF; exact e9
        have HK2 := Lib.hid hk2
        have hown9 := hI.2.2.1
        have hsz9 : w.heap.size + 2 ≤ xw.heap.size := by have := lt_of_block hk2.res; omega
        have HI := Lib.hid hI
        clear hF hk2 hI
        simp only [putsD, Act.put, List.setIfInBounds_toArray, List.set_cons_zero, List.set_cons_succ]
        simp only [e12]
        go_wp2_with (at_builtin; refine wpList_append_int8 (ys := l2) (by rfl) (.tmp 34) (.tmp 36) (by rfl) (by rfl) (by rfl) hown9 (by omega) hsz9 HL2.out ?_; intro B2 d2 w2 hown2 hg2 hbk2)
        have hk3 := HK2.out.grown (v' := .slice B2 l2.length d2) HF.out hg2 (fun g hg => (HI.out.2.2.1.lt g hg).1) hbk2
        go_roundw
        case rel => exact ⟨j + 1, m.1, l2, A2, B2, c2, d2, by omega, by go_num, rfl, by rw [HL2.out, List.length_append, HLJ.out]; rfl, hown2, fun z hz => by
                  rw [HL2.out] at hz
                  rcases List.mem_append.1 hz with hz | hz
                  · exact HLM.out z hz
                  · rw [List.mem_singleton.1 hz]; exact HMB.out.2, hk3, HMB.out.1, Lib.hid (by rw [HL2.out, HM.out]; exact HST.out)⟩
        case measure => simp [intOf]; omega
    · have hje : j = xs.length := by omega
      subst hje
      have hlt2 : ¬ ((xs.length : Nat) : Int) < xs.length := by omega
      have hv9 := HKS.out.var
      have y0 := (cell_of_block hv9 0).1
      have y1 := (cell_of_block hv9 1).1
      have y2 := (cell_of_block hv9 2).1
      have hr9 := HKS.out.res
      have r0 := (cell_of_block hr9 0).1
      have r1 := (cell_of_block hr9 1).1
      have r2 := (cell_of_block hr9 2).1
      have rf0 := (cell_of_block hr9 0).2
      have rf1 := (cell_of_block hr9 1).2
      have rf2 := (cell_of_block hr9 2).2
      clear hv9 hr9
      go_wp2
      have hs := st3_same HKS.out.res (.int .i64 k1.1.ins) (.slice A1 k1.1.gs.length c1) (.bool k1.2)
      have k5 := (cell_of_block hs 0).1
      have k6 := (cell_of_block hs 1).1
      have k7 := (cell_of_block hs 2).1
      have kf5 := (cell_of_block hs 0).2
      have kf6 := (cell_of_block hs 1).2
      have kf7 := (cell_of_block hs 2).2
      refine bodyPost_ret (v := .tuple #[.agg #[.int .i64 k1.1.ins, .slice A1 k1.1.gs.length c1, .bool k1.2], .slice B l.length d]) (by simp [results, Tryd.results44, go_sem, k5, k6, k7, kf5, kf6, kf7]) rfl ?_
      have hd1 : xs.drop xs.length = [] := List.drop_length
      have hd2 : ys.drop xs.length = [] := by rw [HL.out]; exact List.drop_length
      have hst2 := hst.out
      rw [hd1, hd2] at hst2
      have hT2 : T = (k1, l) := by rw [← hst2]; show (k1, l ++ []) = _; rw [List.append_nil]
      rw [hT2]
      obtain ⟨B', d', e9, hcap, hsl⟩ := HOWN.out.form
      injection e9 with e1 e2 e3
      subst e1 e3
      refine ⟨A1, c1, B, d, rfl, HKS.out.nil, (st3_sl (h := w.heap.size + 1) HKS.out.row (fun b hb => ?_) _ _ _).mono (fun b hb => ?_), hcap, (st3_sl (h := w.heap.size + 1) hsl (fun b hb => by omega) _ _ _).mono (fun b hb => by rw [st3_size]; omega), HLM.out, st3_below HKS.out.bel (by omega) _ _ _⟩
      · rcases hb with hb | hb
        · have := HF.out b hb; omega
        · omega
      · rw [st3_size]
        exact hb.imp id fun h9 => ⟨by omega, h9.2.1⟩
end Go.Proofs.YtjghcaghigebjaaDoor

/-! The reference's l7Right, l7Told. -/
namespace Go.Proofs.YtjghcaghigebjaaDoor
open Go Go.RowKit

set_option maxRecDepth 100000 in
set_option maxHeartbeats 2000000 in
theorem l7Right_any (A X : Option Addr) (c cx : Nat) (n : N) (xs : List Int) (w : World) (hX : Lay.int.Rd w X xs) (hxi : i64s xs) (hlx : xs.length ≤ 1048576) (hn : n.gs.length ≤ 1048576) (h0 : 0 ≤ n.ins) (h1 : n.ins ≤ 1000000) :
    Calls Tryd.prog 41 #[.agg #[.int .i64 n.ins, .slice A n.gs.length c], .slice X xs.length cx] w (RetB w (goodL n xs)) := by
  have hal : Below w.heap.size w (w.alloc (.cells #[.int .i64 n.ins, .slice A n.gs.length c] 29)) := (Below.refl _ _).alloc (Nat.le_refl _) _
  have HB0 := Lib.hid (heap_alloc_new w (.cells #[.int .i64 n.ins, .slice A n.gs.length c] 29))
  have HAL := Lib.hid hal
  have HX := Lib.hid hX
  have HXI := Lib.hid hxi
  clear hal hX hxi
  go_enter Tryd.func41, Tryd.ntmps41
  go_wp2
  generalize hX0 : w.alloc (.cells #[.int .i64 n.ins, .slice A n.gs.length c] 29) = X0 at *
  clear hX0
  go_loopw [5] (fun i wr => ∃ (j : Nat), j ≤ xs.length ∧ i = .int .i64 j ∧ Below w.heap.size w wr ∧ wr.heap[w.heap.size]? = some (.cells #[.int .i64 n.ins, .slice A n.gs.length c] 29 (0, 0)) ∧ ∀ m ∈ xs.take j, netMark n m = true) (fun i _ => xs.length - (intOf i).toNat)
  case atStart => exact ⟨0, Nat.zero_le _, rfl, HAL.out, HB0.out, (fun m hm => by simp at hm)⟩
  case round =>
    obtain ⟨j, hj, rfl, hb, hb0, hall⟩ := hrel
    have HB := Lib.hid hb
    have HB1 := Lib.hid hb0
    have HALL := Lib.hid hall
    clear hb hb0 hall
    by_cases hlt : j < xs.length
    · have hlt2 : (j : Int) < xs.length := by omega
      obtain ⟨x, hx⟩ : ∃ x, xs[j]? = some x := ⟨_, List.getElem?_eq_getElem hlt⟩
      have hxg : xs[j] = x := (List.getElem?_eq_some_iff.1 hx).2
      have HMEM := Lib.hid (List.mem_of_getElem? hx)
      obtain ⟨x0, x1⟩ := HXI.out x HMEM.out
      obtain ⟨adx, rfl, -, -⟩ := HX.out.at_int hlt
      have HRX : Hid (∀ z, Below w.heap.size w z → z.cell? (adx.add j) = some (.int .i64 x)) := Lib.hid fun z hz => by
        obtain ⟨ad, e, _, hc⟩ := (HX.out.up hz).at_int hlt
        injection e with e; subst e; rw [← hxg]; exact hc
      have HTK : Hid (xs.take (j + 1) = xs.take j ++ [x]) := Lib.hid (by rw [← hxg]; simp)
      obtain ⟨mk, hmk⟩ : ∃ mk, netMark n x = mk := ⟨_, rfl⟩
      have HMK := Lib.hid hmk
      clear hx hxg hmk
      go_wp2
      refine wp_region_rel4 [[], [], [], [(1, 13), (2, 14)], [(3, 15)], [(0, 12), (4, 16)], [(5, 17)]]
        (fun x9 y9 => Below x9.heap.size x9 y9)
        []
        (fun _ x9 => Below w.heap.size w x9 ∧ x9.heap[w.heap.size]? = some (.cells #[.int .i64 n.ins, .slice A n.gs.length c] 29 (0, 0)))
        [fun vs9 _ => vs9 0 = (.agg #[.int .i64 n.ins, .slice A n.gs.length c]),
    fun vs9 _ => vs9 1 = (.slice (some adx) xs.length cx),
    fun vs9 _ => vs9 2 = (.int .i64 (j : Int)),
    fun vs9 _ => vs9 3 = (.pointer (some (adx.add j))),
    fun vs9 _ => vs9 4 = (.int .i64 x),
    fun vs9 _ => vs9 5 = (.bool mk),
    fun vs9 _ => vs9 6 = (.bool (!mk))]
        [(0, 12), (1, 13), (2, 14), (3, 15), (4, 16), (5, 17), (6, 18)] (by kernel_rfl) (by kernel_rfl) (by kernel_rfl) (by kernel_rfl)
        (fun _ => Below.refl _ _) trivial
        ⟨⟨.inr (fun _ _ _ h _ => h), trivial⟩,
    ⟨.inr (fun _ _ _ h _ => h), trivial⟩,
    ⟨.inr (fun _ _ _ h _ => h), trivial⟩,
    ⟨.inr (fun _ _ _ h _ => h), trivial⟩,
    ⟨.inr (fun _ _ _ h _ => h), trivial⟩,
    ⟨.inr (fun _ _ _ h _ => h), trivial⟩,
    ⟨.inr (fun _ _ _ h _ => h), trivial⟩, trivial⟩ ⟨fun vs vs' x h _ hv => (by dsimp only at hv ⊢; first | (rw [← h]; exact hv) | exact hv),
    fun vs vs' x h _ hv => (by dsimp only at hv ⊢; first | (rw [← h]; exact hv) | exact hv),
    fun vs vs' x h _ hv => (by dsimp only at hv ⊢; first | (rw [← h]; exact hv) | exact hv),
    fun vs vs' x h _ hv => (by dsimp only at hv ⊢; first | (rw [← h]; exact hv) | exact hv),
    fun vs vs' x h _ hv => (by dsimp only at hv ⊢; first | (rw [← h]; exact hv) | exact hv),
    fun vs vs' x h _ hv => (by dsimp only at hv ⊢; first | (rw [← h]; exact hv) | exact hv),
    fun vs vs' x h _ hv => (by dsimp only at hv ⊢; first | (rw [← h]; exact hv) | exact hv), trivial⟩ (⟨bthen HB.out (below_drewN (Below.refl _ _) 1), HB1.out⟩) ⟨?_, ?_, ?_, ?_, ?_, ?_, ?_, trivial⟩ ?_
      · intro vals xw f hf1 hf2 hf3 hI hF
        clear hf2 hf3
        dsimp only [owes4, bare]
        simp only [putsD, Act.put, List.setIfInBounds_toArray, List.set_cons_zero, List.set_cons_succ]
        have y0 := (cell_of_block hI.2 0).1
        have y1 := (cell_of_block hI.2 1).1
        go_wp2
        exact ⟨rfl, rfl, Below.refl _ _, hI⟩
      · intro vals xw f hf1 hf2 hf3 hI hF
        clear hf2 hf3
        dsimp only [owes4, bare]
        simp only [putsD, Act.put, List.setIfInBounds_toArray, List.set_cons_zero, List.set_cons_succ]
        go_wp2
        exact ⟨rfl, rfl, Below.refl _ _, hI⟩
      · intro vals xw f hf1 hf2 hf3 hI hF
        clear hf2 hf3
        dsimp only [owes4, bare]
        simp only [putsD, Act.put, List.setIfInBounds_toArray, List.set_cons_zero, List.set_cons_succ]
        go_wp2
        exact ⟨rfl, rfl, Below.refl _ _, hI⟩
      · intro vals xw f hf1 hf2 hf3 hI hF
        clear hf2 hf3
        simp only [saysD, List.getD_cons_zero, List.getD_cons_succ, and_true] at hF
        obtain ⟨e13, e14⟩ := hF
        dsimp only [owes4, bare]
        simp only [putsD, Act.put, List.setIfInBounds_toArray, List.set_cons_zero, List.set_cons_succ]
        simp only [e13, e14]
        go_wp2
        exact ⟨rfl, rfl, Below.refl _ _, hI⟩
      · intro vals xw f hf1 hf2 hf3 hI hF
        clear hf2 hf3
        simp only [saysD, List.getD_cons_zero, List.getD_cons_succ, and_true] at hF
        have e15 := hF
        dsimp only [owes4, bare]
        simp only [putsD, Act.put, List.setIfInBounds_toArray, List.set_cons_zero, List.set_cons_succ]
        simp only [e15]
        have c9 := HRX.out _ hI.1
        go_wp2
        exact ⟨rfl, rfl, Below.refl _ _, hI⟩
      · intro vals xw f hf1 hf2 hf3 hI hF
        clear hf2 hf3
        simp only [saysD, List.getD_cons_zero, List.getD_cons_succ, and_true] at hF
        obtain ⟨e12, e16⟩ := hF
        dsimp only [owes4, bare]
        simp only [putsD, Act.put, List.setIfInBounds_toArray, List.set_cons_zero, List.set_cons_succ]
        simp only [e12, e16]
        have HI := Lib.hid hI
        clear hI
        go_wp2_with fail
        refine (l6Mark_any A c n x xw hn h0 h1 x0 x1).mono ?_
        rintro e wx ⟨rfl, hb9⟩
        rw [HMK.out]
        have HB9 := Lib.hid hb9
        clear hb9
        go_wp2
        exact ⟨rfl, rfl, HB9.out, bthen HI.out.1 HB9.out, (HB9.out.block _ (lt_of_block HI.out.2)).trans HI.out.2⟩
      · intro vals xw f hf1 hf2 hf3 hI hF
        clear hf2 hf3
        simp only [saysD, List.getD_cons_zero, List.getD_cons_succ, and_true] at hF
        have e17 := hF
        dsimp only [owes4, bare]
        simp only [putsD, Act.put, List.setIfInBounds_toArray, List.set_cons_zero, List.set_cons_succ]
        simp only [e17]
        go_wp2
        exact ⟨rfl, rfl, Below.refl _ _, hI⟩
      · intro vals xw f hall hI hF
        rw [show List.range _ = [0, 1, 2, 3, 4, 5, 6] from rfl] at hF
        simp only [says, List.getD_cons_zero, List.getD_cons_succ, and_true] at hF
        obtain ⟨i1, i2⟩ := hI
        obtain ⟨_, _, _, _, _, _, e18⟩ := hF
        have I1 := Lib.hid i1
        have I2 := Lib.hid i2
        clear i1 i2
        simp only [putsD, Act.put, List.setIfInBounds_toArray, List.set_cons_zero, List.set_cons_succ]
        simp only [e18]
        clear e18
        cases mk
        · go_wp2
          go_ret
          refine ⟨ret_bool ?_, I1.out⟩
          rw [eq_comm]
          unfold goodL
          have : xs.all (netMark n) = false := by rw [List.all_eq_false]; exact ⟨x, HMEM.out, by rw [HMK.out]; simp⟩
          rw [this, Bool.and_false]
        · go_wp2
          go_roundw
          case rel => exact ⟨j + 1, by omega, by go_num, I1.out, I2.out, fun m hm => by
            rw [HTK.out] at hm
            rcases List.mem_append.1 hm with hm | hm
            · exact HALL.out m hm
            · rw [List.mem_singleton.1 hm]; exact HMK.out⟩
          case measure => simp [intOf]; omega
    · have hje : j = xs.length := by omega
      subst hje
      have hlt2 : ¬ ((xs.length : Nat) : Int) < xs.length := by omega
      have HAL2 : Hid (xs.all (netMark n) = true) := Lib.hid (List.all_eq_true.2 fun m hm => HALL.out m (by rw [List.take_length]; exact hm))
      by_cases g1 : (1 : Int) ≤ xs.length
      · by_cases g2 : (xs.length : Int) ≤ 4
        · go_wp2
          go_ret
          exact ⟨ret_bool (by unfold goodL; rw [HAL2.out, decide_eq_true (by omega : 1 ≤ xs.length), decide_eq_true (by omega : xs.length ≤ 4)]; rfl), HB.out⟩
        · go_wp2
          go_ret
          exact ⟨ret_bool (by unfold goodL; rw [decide_eq_false (by omega : ¬ xs.length ≤ 4)]; simp), HB.out⟩
      · go_wp2
        go_ret
        exact ⟨ret_bool (by unfold goodL; rw [decide_eq_false (by omega : ¬ 1 ≤ xs.length)]; simp), HB.out⟩
def toldR (z : (N × Bool) × List Int) : N × List Int := if z.1.2 = true then (z.1.1, z.2) else (⟨0, []⟩, [])
set_option maxRecDepth 100000 in
set_option maxHeartbeats 2000000 in
theorem l7Told_any (A X : Option Addr) (c cx : Nat) (k : N × Bool) (xs : List Int) (w : World) (h : Lay.gate.Rd w A k.1.gs) (hA : A = none → k.1.gs.length = 0) (hn : k.1.gs.length ≤ 1048576) (hX : Lay.int.Rd w X xs) (hXn : X = none → xs.length = 0) (hlx : xs.length ≤ 1048576) :
    Calls Tryd.prog 43 #[.agg #[.int .i64 k.1.ins, .slice A k.1.gs.length c, .bool k.2], .slice X xs.length cx] w (RetBits (toldR (k, xs)) w) := by
  obtain ⟨n, ok⟩ := k
  dsimp only at h hA hn ⊢
  obtain ⟨hW, hB0, hB1, hWS⟩ := two_boxes w (.cells #[.int .i64 n.ins, .slice A n.gs.length c, .bool ok] 68) (.cells #[.int .i64 0, .slice none 0 0] 29)
  have z0 := (cell_of_block hB0 0).1
  have z1 := (cell_of_block hB0 1).1
  have z2 := (cell_of_block hB0 2).1
  have HW := Lib.hid hW
  have HB1 := Lib.hid hB1
  have HWS := Lib.hid hWS
  have HX := Lib.hid hX
  have HFR := Lib.hid (l6Fresh_any A c n _ (h.up hW) hn hA)
  clear hW hB0 hB1 hX h hWS
  cases ok
  · go_enter Tryd.func43, Tryd.ntmps43
    go_wp2
    refine bodyPost_ret (v := .tuple #[.agg #[.int .i64 0, .slice none 0 0], .slice (some ⟨w.heap.size + 1 + 1, 0, none⟩) 0 0]) (by simp [results, Tryd.results43, go_sem]) rfl ?_
    rw [show toldR ((n, false), xs) = (⟨0, []⟩, []) from if_neg (by simp)]
    refine ⟨none, some ⟨w.heap.size + 1 + 1, 0, none⟩, 0, 0, rfl, Nat.zero_le _, Nat.zero_le _, .nil _ _ _ _, .nil _ _ _ _, ?_, apart_nil rfl⟩
    first
      | exact HW.out.alloc (by simp; omega) _
      | exact below_set (below_set (HW.out.alloc (by simp; omega) _) (by show w.heap.size ≤ w.heap.size + 1; omega) _) (by show w.heap.size ≤ w.heap.size + 1; omega) _
  · go_enter Tryd.func43, Tryd.ntmps43
    go_wp2_with fail
    refine HFR.out.mono ?_
    generalize hX0 : (w.alloc (.cells #[.int .i64 n.ins, .slice A n.gs.length c, .bool true] 68)).alloc (.cells #[.int .i64 0, .slice none 0 0] 29) = X0 at *
    clear hX0
    rintro e w1 ⟨A1, c1, rfl, ho1, hb1⟩
    have HO1 := Lib.hid ho1
    have HB2 := Lib.hid hb1
    have HX1 := Lib.hid ((hb1.block _ (lt_of_block HB1.out)).trans HB1.out)
    clear ho1 hb1 HFR z0 z1 z2
    have hal : Below w1.heap.size w1 (w1.alloc (.cells #[] 3)) := (Below.refl _ _).alloc (Nat.le_refl _) _
    have HAL := Lib.hid hal
    obtain ⟨i0, hi0, hz0, hz1, hz2⟩ := info_parts int_info
    have hsrc := src_ints (HX.out.up (bthen (bthen HW.out HB2.out) hal))
    have HSZ := Lib.hid (bthen HW.out HB2.out).size
    clear hal
    go_wp2_with (at_builtin; refine wpList_append_src _ (by rfl) (.tmp 14) (.tmp 15) _ (by rfl) w1.heap.size 3 i0 _ 1 8 Tryd.underlying25 hi0 hz0 hz1 hz2 (by rfl) (by omega) (.slice (some ⟨w1.heap.size, 0, none⟩) 0 0) 0 [] (by rfl) (own_lit0 rfl) X xs.length cx (xs.map (Value.int .i64)) (by rfl) hsrc (ints_one _) xs.length (by omega) (by unfold maxLen; omega) (by omega) (by simp) hXn ?_; intro X2 d2 w3 ho3 hbel3 hg3; have hv9 := (hbel3.block _ (lt_of_block HX1.out)).trans ((HAL.out.block _ (lt_of_block HX1.out)).trans HX1.out); have y0 := (cell_of_block hv9 0).1; have y1 := (cell_of_block hv9 1).1; have f0 := (cell_of_block hv9 0).2; have f1 := (cell_of_block hv9 1).2; have HV9 := Lib.hid hv9; have HO3 := Lib.hid ho3; have HB3 := Lib.hid hbel3; clear hv9 ho3 hbel3 hg3 hsrc)
    have hs1 := heap_set_same w3 (w.heap.size + 1) 0 (.int .i64 n.ins) _ _ HV9.out
    have hs2 := heap_set_same _ (w.heap.size + 1) 1 (.slice A1 n.gs.length c1) _ _ hs1
    have hgr : w3.grownBy ((w3.setCell ⟨w.heap.size + 1, 0, none⟩ (.int .i64 n.ins)).setCell ⟨w.heap.size + 1, 1, none⟩ (.slice A1 n.gs.length c1)) (some (w.heap.size + 1)) := only_setCell (only_setCell (World.grownBy.refl _ _) _ _) _ _
    have k5 := (cell_of_block hs2 0).1
    have k6 := (cell_of_block hs2 1).1
    have kf5 := (cell_of_block hs2 0).2
    have kf6 := (cell_of_block hs2 1).2
    refine bodyPost_ret (v := .tuple #[.agg #[.int .i64 n.ins, .slice A1 n.gs.length c1], .slice X2 xs.length d2]) (by simp [results, Tryd.results43, go_sem, k5, k6, kf5, kf6]) rfl ?_
    rw [show toldR ((n, true), xs) = (n, xs) from if_pos rfl]
    have hoi : OwnI w3 w1.heap.size (.slice X2 xs.length d2) xs := HO3.out
    have hlt : w.heap.size + 1 < X0.heap.size := by rw [HWS.out]; omega
    have hge : X0.heap.size ≤ w1.heap.size := HB2.out.size
    have hb13 : Below w1.heap.size w1 w3 := HAL.out.trans HB3.out
    exact ⟨A1, X2, c1, d2, rfl, HO1.out.sl.1, hoi.cap, own_mono9 (own_grown9 (HO1.out.own.own_up hb13) hgr hlt) HW.out.size, own_mono9 (own_grown9 hoi.own hgr (by omega)) HSZ.out, ((bthen (bthen HW.out HB2.out) hb13).grown hgr (bthen (bthen HW.out HB2.out) hb13).size (fun k hk => by injection hk with hk; omega)), apart_of HO1.out.own hoi.own (fun b h1 h2 => by have := h1.2.1; have := h2.1; omega)⟩
end Go.Proofs.YtjghcaghigebjaaDoor

/-! The reference's BitsIf. -/
namespace Go.Proofs.YtjghcaghigebjaaDoor
open Go Go.RowKit

theorem told_out {n : N} (p : PG (List Int)) : toldR (run opsR p (n, true)) = bitsOut (run opsP p ⟨n, none⟩) := by
  rcases run_sim p ⟨n, none⟩ (n, true) (.inl ⟨rfl, rfl⟩) with ⟨h1, h2, h3, _⟩ | ⟨h1, h2⟩
  · unfold toldR bitsOut
    rw [h2, if_pos rfl, if_pos h1, h3]
  · unfold toldR bitsOut
    rw [if_neg (by rw [h2]; simp), if_neg h1]
theorem run_each_nb {f : Int → Int → PG Int} (hf : ∀ (x y : Int) (k : N × Bool), NB k.1 → RB x → RB y → NB (run opsR (f x y) k).1.1 ∧ RB (run opsR (f x y) k).2) : ∀ (xs ys : List Int) (k : N × Bool), NB k.1 → (∀ x ∈ xs, RB x) → (∀ y ∈ ys, RB y) → NB (run opsR (eachP f xs ys) k).1.1
  | [], [], k, h, _, _ => h
  | x :: xs, y :: ys, k, h, hx, hy => by
    simp only [eachP, run_bind, run]
    exact run_each_nb hf xs ys _ (hf x y k h (hx _ (.head _)) (hy _ (.head _))).1 (fun z hz => hx z (.tail _ hz)) (fun z hz => hy z (.tail _ hz))
  | [], _ :: _, k, h, _, _ => h
  | _ :: _, [], k, h, _, _ => h
set_option maxRecDepth 100000 in
set_option maxHeartbeats 4000000 in
theorem specBitsIf_any (n : N) (c0 : Int) (xs ys : List Int) (A X Y : Option Addr) (c cx cy : Nat) (w : World) (h : Lay.gate.Rd w A n.gs) (hn : n.gs.length ≤ 1048576) (hA : A = none → n.gs.length = 0) (hi : okInts n)
    (hX : Lay.int.Rd w X xs) (hY : Lay.int.Rd w Y ys) (hxi : i64s xs) (hyi : i64s ys) (hci : -9223372036854775808 ≤ c0 ∧ c0 ≤ 9223372036854775807) (hlx : xs.length ≤ 1048576) (hly : ys.length ≤ 1048576) :
    Calls Tryd.prog 11 #[.agg #[.int .i64 n.ins, .slice A n.gs.length c], .int .i64 c0, .slice X xs.length cx, .slice Y ys.length cy] w (RetBits (pickN (netOk n) (bitsIfR n c0 xs ys)) w) := by
  obtain ⟨hW, hB0, hB1, hWS⟩ := two_boxes w (.cells #[.int .i64 n.ins, .slice A n.gs.length c] 29) (.cells #[.int .i64 0, .slice none 0 0] 29)
  have HW := Lib.hid hW
  have HV := Lib.hid hB0
  have HR := Lib.hid hB1
  have HG := Lib.hid (h.up hW)
  have HX := Lib.hid (hX.up hW)
  have HY := Lib.hid (hY.up hW)
  have HI := Lib.hid hi
  have HXI := Lib.hid hxi
  have HYI := Lib.hid hyi
  obtain ⟨q0, q1⟩ := hci
  have HWS := Lib.hid hWS
  have z0 := (cell_of_block hB0 0).1
  have z1 := (cell_of_block hB0 1).1
  obtain ⟨out, hout⟩ : ∃ out, out = pickN (netOk n) (bitsIfR n c0 xs ys) := ⟨_, rfl⟩
  rw [← hout]
  have HOUT := Lib.hid hout
  clear hout h hi hX hY hxi hyi hB0 hB1 hW hWS
  have HCN := Lib.hid (specNetOk_any A c n _ HG.out hn HI.out)
  go_enter Tryd.func11, Tryd.ntmps11
  go_wp2_with fail
  refine HCN.out.mono ?_
  generalize hX0 : (w.alloc (.cells #[.int .i64 n.ins, .slice A n.gs.length c] 29)).alloc (.cells #[.int .i64 0, .slice none 0 0] 29) = X0 at *
  clear hX0
  rintro e u1 ⟨rfl, hb9⟩
  clear HCN
  clear z0 z1
  have HV := Lib.hid ((hb9.block _ (lt_of_block HV.out)).trans HV.out)
  have HR := Lib.hid ((hb9.block _ (lt_of_block HR.out)).trans HR.out)
  have HW := Lib.hid (bthen HW.out hb9)
  have HG := Lib.hid (HG.out.up hb9)
  have HX := Lib.hid (HX.out.up hb9)
  have HY := Lib.hid (HY.out.up hb9)
  clear hb9
  have z0 := (cell_of_block HV.out 0).1
  have z1 := (cell_of_block HV.out 1).1
  rcases hok : netOk n with _ | _
  · have hal : Below u1.heap.size u1 (u1.alloc (.cells #[] 3)) := (Below.refl _ _).alloc (Nat.le_refl _) _
    have hr9 := (hal.block _ (lt_of_block HR.out)).trans HR.out
    have r0 := (cell_of_block hr9 0).1
    have r1 := (cell_of_block hr9 1).1
    have rf0 := (cell_of_block hr9 0).2
    have rf1 := (cell_of_block hr9 1).2
    have hs1 := heap_set_same _ (w.heap.size + 1) 0 (.int .i64 0) _ _ hr9
    have hs2 := heap_set_same _ (w.heap.size + 1) 1 (.slice none 0 0) _ _ hs1
    have HS2 := Lib.hid hs2
    have HAL := Lib.hid hal
    clear hs1 hs2 hr9 hal
    go_wp2
    have k5 := (cell_of_block HS2.out 0).1
    have k6 := (cell_of_block HS2.out 1).1
    have kf5 := (cell_of_block HS2.out 0).2
    have kf6 := (cell_of_block HS2.out 1).2
    refine bodyPost_ret (v := .tuple #[.agg #[.int .i64 0, .slice none 0 0], .slice (some ⟨u1.heap.size, 0, none⟩) 0 0]) (by simp [results, Tryd.results11, go_sem, k5, k6, kf5, kf6]) rfl ?_
    rw [show out = (⟨0, []⟩, []) from by rw [HOUT.out, hok]; rfl]
    exact ⟨none, some ⟨u1.heap.size, 0, none⟩, 0, 0, rfl, Nat.zero_le _, Nat.zero_le _, .nil _ _ _ _, .nil _ _ _ _, below_set (below_set (bthen HW.out HAL.out) (by show w.heap.size ≤ w.heap.size + 1; omega) _) (by show w.heap.size ≤ w.heap.size + 1; omega) _, apart_nil rfl⟩
  have HOK := Lib.hid hok
  have HOUT : Hid (out = bitsIfR n c0 xs ys) := Lib.hid (by rw [HOUT.out, hok]; rfl)
  have hnb : NB n := by have := (netOk_iff n).1 hok; exact ⟨this.1, this.2.1, this.2.2.1⟩
  obtain ⟨n0, n1, n2⟩ := hnb
  clear hok
  have HC := Lib.hid (l7Right_any A X c cx n xs u1 HX.out HXI.out hlx hn n0 (by omega))
  go_wp2_with fail
  refine HC.out.mono ?_
  rintro e u2 ⟨rfl, hb9⟩
  clear HC z0 z1
  have HV := Lib.hid ((hb9.block _ (lt_of_block HV.out)).trans HV.out)
  have HR := Lib.hid ((hb9.block _ (lt_of_block HR.out)).trans HR.out)
  have HW := Lib.hid (bthen HW.out hb9)
  have HG := Lib.hid (HG.out.up hb9)
  have HX := Lib.hid (HX.out.up hb9)
  have HY := Lib.hid (HY.out.up hb9)
  clear hb9
  have z0 := (cell_of_block HV.out 0).1
  have z1 := (cell_of_block HV.out 1).1
  rcases hg : goodL n xs with _ | _
  · have hal : Below u2.heap.size u2 (u2.alloc (.cells #[] 3)) := (Below.refl _ _).alloc (Nat.le_refl _) _
    have hr9 := (hal.block _ (lt_of_block HR.out)).trans HR.out
    have r0 := (cell_of_block hr9 0).1
    have r1 := (cell_of_block hr9 1).1
    have rf0 := (cell_of_block hr9 0).2
    have rf1 := (cell_of_block hr9 1).2
    have hs1 := heap_set_same _ (w.heap.size + 1) 0 (.int .i64 0) _ _ hr9
    have hs2 := heap_set_same _ (w.heap.size + 1) 1 (.slice none 0 0) _ _ hs1
    have HS2 := Lib.hid hs2
    have HAL := Lib.hid hal
    clear hs1 hs2 hr9 hal
    go_wp2
    have k5 := (cell_of_block HS2.out 0).1
    have k6 := (cell_of_block HS2.out 1).1
    have kf5 := (cell_of_block HS2.out 0).2
    have kf6 := (cell_of_block HS2.out 1).2
    refine bodyPost_ret (v := .tuple #[.agg #[.int .i64 0, .slice none 0 0], .slice (some ⟨u2.heap.size, 0, none⟩) 0 0]) (by simp [results, Tryd.results11, go_sem, k5, k6, kf5, kf6]) rfl ?_
    rw [show out = (⟨0, []⟩, []) from by rw [HOUT.out]; unfold bitsIfR; rw [hg]; rfl]
    exact ⟨none, some ⟨u2.heap.size, 0, none⟩, 0, 0, rfl, Nat.zero_le _, Nat.zero_le _, .nil _ _ _ _, .nil _ _ _ _, below_set (below_set (bthen HW.out HAL.out) (by show w.heap.size ≤ w.heap.size + 1; omega) _) (by show w.heap.size ≤ w.heap.size + 1; omega) _, apart_nil rfl⟩
  have HGX := Lib.hid hg
  clear hg
  have HC := Lib.hid (l7Right_any A Y c cy n ys u2 HY.out HYI.out hly hn n0 (by omega))
  go_wp2_with fail
  refine HC.out.mono ?_
  rintro e u3 ⟨rfl, hb9⟩
  clear HC z0 z1
  have HV := Lib.hid ((hb9.block _ (lt_of_block HV.out)).trans HV.out)
  have HR := Lib.hid ((hb9.block _ (lt_of_block HR.out)).trans HR.out)
  have HW := Lib.hid (bthen HW.out hb9)
  have HG := Lib.hid (HG.out.up hb9)
  have HX := Lib.hid (HX.out.up hb9)
  have HY := Lib.hid (HY.out.up hb9)
  clear hb9
  have z0 := (cell_of_block HV.out 0).1
  have z1 := (cell_of_block HV.out 1).1
  rcases hg : goodL n ys with _ | _
  · have hal : Below u3.heap.size u3 (u3.alloc (.cells #[] 3)) := (Below.refl _ _).alloc (Nat.le_refl _) _
    have hr9 := (hal.block _ (lt_of_block HR.out)).trans HR.out
    have r0 := (cell_of_block hr9 0).1
    have r1 := (cell_of_block hr9 1).1
    have rf0 := (cell_of_block hr9 0).2
    have rf1 := (cell_of_block hr9 1).2
    have hs1 := heap_set_same _ (w.heap.size + 1) 0 (.int .i64 0) _ _ hr9
    have hs2 := heap_set_same _ (w.heap.size + 1) 1 (.slice none 0 0) _ _ hs1
    have HS2 := Lib.hid hs2
    have HAL := Lib.hid hal
    clear hs1 hs2 hr9 hal
    go_wp2
    have k5 := (cell_of_block HS2.out 0).1
    have k6 := (cell_of_block HS2.out 1).1
    have kf5 := (cell_of_block HS2.out 0).2
    have kf6 := (cell_of_block HS2.out 1).2
    refine bodyPost_ret (v := .tuple #[.agg #[.int .i64 0, .slice none 0 0], .slice (some ⟨u3.heap.size, 0, none⟩) 0 0]) (by simp [results, Tryd.results11, go_sem, k5, k6, kf5, kf6]) rfl ?_
    rw [show out = (⟨0, []⟩, []) from by rw [HOUT.out]; unfold bitsIfR; rw [hg, HGX.out]; rfl]
    exact ⟨none, some ⟨u3.heap.size, 0, none⟩, 0, 0, rfl, Nat.zero_le _, Nat.zero_le _, .nil _ _ _ _, .nil _ _ _ _, below_set (below_set (bthen HW.out HAL.out) (by show w.heap.size ≤ w.heap.size + 1; omega) _) (by show w.heap.size ≤ w.heap.size + 1; omega) _, apart_nil rfl⟩
  have HGY := Lib.hid hg
  clear hg
  by_cases hle : xs.length = ys.length
  rotate_left
  · have hne : ((xs.length : Int) != (ys.length : Int)) = true := by simpa using (by omega : ¬ (xs.length : Int) = ys.length)
    have hal : Below u3.heap.size u3 (u3.alloc (.cells #[] 3)) := (Below.refl _ _).alloc (Nat.le_refl _) _
    have hr9 := (hal.block _ (lt_of_block HR.out)).trans HR.out
    have r0 := (cell_of_block hr9 0).1
    have r1 := (cell_of_block hr9 1).1
    have rf0 := (cell_of_block hr9 0).2
    have rf1 := (cell_of_block hr9 1).2
    have hs1 := heap_set_same _ (w.heap.size + 1) 0 (.int .i64 0) _ _ hr9
    have hs2 := heap_set_same _ (w.heap.size + 1) 1 (.slice none 0 0) _ _ hs1
    have HS2 := Lib.hid hs2
    have HAL := Lib.hid hal
    clear hs1 hs2 hr9 hal
    go_wp2
    have k5 := (cell_of_block HS2.out 0).1
    have k6 := (cell_of_block HS2.out 1).1
    have kf5 := (cell_of_block HS2.out 0).2
    have kf6 := (cell_of_block HS2.out 1).2
    refine bodyPost_ret (v := .tuple #[.agg #[.int .i64 0, .slice none 0 0], .slice (some ⟨u3.heap.size, 0, none⟩) 0 0]) (by simp [results, Tryd.results11, go_sem, k5, k6, kf5, kf6]) rfl ?_
    rw [show out = (⟨0, []⟩, []) from by rw [HOUT.out]; unfold bitsIfR bitsOk; rw [HGX.out, HGY.out, decide_eq_false hle]; simp]
    exact ⟨none, some ⟨u3.heap.size, 0, none⟩, 0, 0, rfl, Nat.zero_le _, Nat.zero_le _, .nil _ _ _ _, .nil _ _ _ _, below_set (below_set (bthen HW.out HAL.out) (by show w.heap.size ≤ w.heap.size + 1; omega) _) (by show w.heap.size ≤ w.heap.size + 1; omega) _, apart_nil rfl⟩
  have hne : ((xs.length : Int) != (ys.length : Int)) = false := by rw [hle]; simp
  have HLE := Lib.hid hle
  clear hle
  have HC := Lib.hid (l6Mark_any A c n c0 u3 hn n0 (by omega) q0 q1)
  go_wp2_with fail
  refine HC.out.mono ?_
  rintro e u4 ⟨rfl, hb9⟩
  clear HC z0 z1
  have HV := Lib.hid ((hb9.block _ (lt_of_block HV.out)).trans HV.out)
  have HR := Lib.hid ((hb9.block _ (lt_of_block HR.out)).trans HR.out)
  have HW := Lib.hid (bthen HW.out hb9)
  have HG := Lib.hid (HG.out.up hb9)
  have HX := Lib.hid (HX.out.up hb9)
  have HY := Lib.hid (HY.out.up hb9)
  clear hb9
  have z0 := (cell_of_block HV.out 0).1
  have z1 := (cell_of_block HV.out 1).1
  rcases hg : netMark n c0 with _ | _
  · have hal : Below u4.heap.size u4 (u4.alloc (.cells #[] 3)) := (Below.refl _ _).alloc (Nat.le_refl _) _
    have hr9 := (hal.block _ (lt_of_block HR.out)).trans HR.out
    have r0 := (cell_of_block hr9 0).1
    have r1 := (cell_of_block hr9 1).1
    have rf0 := (cell_of_block hr9 0).2
    have rf1 := (cell_of_block hr9 1).2
    have hs1 := heap_set_same _ (w.heap.size + 1) 0 (.int .i64 0) _ _ hr9
    have hs2 := heap_set_same _ (w.heap.size + 1) 1 (.slice none 0 0) _ _ hs1
    have HS2 := Lib.hid hs2
    have HAL := Lib.hid hal
    clear hs1 hs2 hr9 hal
    go_wp2
    have k5 := (cell_of_block HS2.out 0).1
    have k6 := (cell_of_block HS2.out 1).1
    have kf5 := (cell_of_block HS2.out 0).2
    have kf6 := (cell_of_block HS2.out 1).2
    refine bodyPost_ret (v := .tuple #[.agg #[.int .i64 0, .slice none 0 0], .slice (some ⟨u4.heap.size, 0, none⟩) 0 0]) (by simp [results, Tryd.results11, go_sem, k5, k6, kf5, kf6]) rfl ?_
    rw [show out = (⟨0, []⟩, []) from by rw [HOUT.out]; unfold bitsIfR bitsOk; rw [hg, HGX.out, HGY.out]; rfl]
    exact ⟨none, some ⟨u4.heap.size, 0, none⟩, 0, 0, rfl, Nat.zero_le _, Nat.zero_le _, .nil _ _ _ _, .nil _ _ _ _, below_set (below_set (bthen HW.out HAL.out) (by show w.heap.size ≤ w.heap.size + 1; omega) _) (by show w.heap.size ≤ w.heap.size + 1; omega) _, apart_nil rfl⟩
  have HGC := Lib.hid hg
  clear hg
  obtain ⟨l1, l2, m1⟩ := goodL_iff.1 HGX.out
  obtain ⟨l3, l4, m2⟩ := goodL_iff.1 HGY.out
  have hc9 := (l7Ifs_any (fun b => b < u4.heap.size) A c (n, true) c0 X Y cx cy xs ys u4 HG.out (fun _ h => h) hA ⟨n0, n1, n2⟩ (mark_mb ⟨n0, n1, n2⟩ HGC.out).rb HX.out HY.out (fun x hx => (mark_mb ⟨n0, n1, n2⟩ (m1 x hx)).rb) (fun y hy => (mark_mb ⟨n0, n1, n2⟩ (m2 y hy)).rb) HLE.out (by omega))
  dsimp only at hc9
  have HC := Lib.hid hc9
  clear hc9
  have HTT := Lib.hid (told_out (n := n) (eachP (muxP c0) xs ys))
  have HLN := Lib.hid (eachP_len (o := opsR) (f := muxP c0) xs ys (n, true) HLE.out)
  have HNN : Hid (NB (run opsR (eachP (muxP c0) xs ys) (n, true)).1.1) := Lib.hid (run_each_nb (f := muxP c0) (fun x y k hk hx hy => mux_rb hk (mark_mb ⟨n0, n1, n2⟩ HGC.out).rb hx hy) xs ys (n, true) ⟨n0, n1, n2⟩ (fun x hx => (mark_mb ⟨n0, n1, n2⟩ (m1 x hx)).rb) (fun y hy => (mark_mb ⟨n0, n1, n2⟩ (m2 y hy)).rb))
  clear m1 m2
  generalize run opsR (eachP (muxP c0) xs ys) (n, true) = T at *
  go_wp2_with fail
  refine HC.out.mono ?_
  rintro e u5 ⟨A5, c5, B5, d5, rfl, h1, h2, h3, h4, h5, hb9⟩
  have H2 := Lib.hid (h2.mono fun b hb => hb.elim (fun h9 => Nat.lt_of_lt_of_le h9 hb9.size) (fun h9 => h9.2))
  have H4 := Lib.hid (h4.mono fun b hb => hb.2)
  clear h2 h4 h5 HC z0 z1
  have HV := Lib.hid ((hb9.block _ (lt_of_block HV.out)).trans HV.out)
  have HR := Lib.hid ((hb9.block _ (lt_of_block HR.out)).trans HR.out)
  have HW := Lib.hid (bthen HW.out hb9)
  clear hb9
  have hbn : B5 = none → T.2.length = 0 := fun e => by
    rcases Nat.eq_zero_or_pos T.2.length with h0 | h0
    · exact h0
    · obtain ⟨ad, e9, _⟩ := H4.out h0; rw [e] at e9; cases e9
  have hln := HLN.out
  have hnn := HNN.out.2.2
  have HC := Lib.hid (l7Told_any A5 B5 c5 d5 T.1 T.2 u5 H2.out h1 (by omega) H4.out hbn (by omega))
  clear hbn hnn hln
  go_wp2_with fail
  refine HC.out.mono ?_
  rw [show toldR (T.1, T.2) = out by rw [HOUT.out]; unfold bitsIfR bitsOk; rw [HGX.out, HGY.out, HGC.out, decide_eq_true HLE.out]; exact HTT.out]
  rintro e u6 ⟨A6, B6, c6, d6, rfl, g1, g2, g3, g4, hb9, hap9⟩
  have G3 := Lib.hid g3
  have G4 := Lib.hid g4
  have HS := Lib.hid HW.out.size
  have HSZ5 := Lib.hid (show w.heap.size + 1 < u5.heap.size from lt_of_block HR.out)
  have HR := Lib.hid ((hb9.block _ (lt_of_block HR.out)).trans HR.out)
  have HW := Lib.hid (bthen HW.out hb9)
  clear hb9 g3 g4 HC
  have r0 := (cell_of_block HR.out 0).1
  have r1 := (cell_of_block HR.out 1).1
  have rf0 := (cell_of_block HR.out 0).2
  have rf1 := (cell_of_block HR.out 1).2
  go_wp2
  have hs1 := heap_set_same u6 (w.heap.size + 1) 0 (.int .i64 out.1.ins) _ _ HR.out
  have hs2 := heap_set_same _ (w.heap.size + 1) 1 (.slice A6 out.1.gs.length c6) _ _ hs1
  have hgr : u6.grownBy ((u6.setCell ⟨w.heap.size + 1, 0, none⟩ (.int .i64 out.1.ins)).setCell ⟨w.heap.size + 1, 1, none⟩ (.slice A6 out.1.gs.length c6)) (some (w.heap.size + 1)) := only_setCell (only_setCell (World.grownBy.refl _ _) _ _) _ _
  have k5 := (cell_of_block hs2 0).1
  have k6 := (cell_of_block hs2 1).1
  have kf5 := (cell_of_block hs2 0).2
  have kf6 := (cell_of_block hs2 1).2
  refine bodyPost_ret (v := .tuple #[.agg #[.int .i64 out.1.ins, .slice A6 out.1.gs.length c6], .slice B6 out.2.length d6]) (by simp [results, Tryd.results11, go_sem, k5, k6, kf5, kf6]) rfl ?_
  exact ⟨A6, B6, c6, d6, rfl, g1, g2, own_mono9 (own_grown9 G3.out hgr HSZ5.out) HS.out, own_mono9 (own_grown9 G4.out hgr HSZ5.out) HS.out, HW.out.grown hgr HW.out.size (fun k hk => by injection hk with hk; omega), hap9⟩
end Go.Proofs.YtjghcaghigebjaaDoor

/-! Nets and marks as an answer: two rows in two blocks, marked one behind the other; BitsIf in the laws' one form. -/
namespace Go.Proofs.YtjghcaghigebjaaDoor
open Go Go.RowKit Go.ChangeShapes Go.WideShapes Go.ChangeAt Go.Deep

/-- The block of a row that is not empty. -/
def AtB (A : Option Addr) (n : Nat) (b : Nat) : Prop := 0 < n ∧ ∃ ad, A = some ad ∧ ad.block = b
theorem sl_at {α : Type} {L : Lay α} {w : World} {F : Nat → Prop} {A : Option Addr} {xs : List α} (hfl : ∀ (F G : Nat → Prop) x vs, L.R w F x vs → L.R w G x vs) (h : L.Sl w F A xs) : L.Sl w (AtB A xs.length) A xs := fun hn => by
  obtain ⟨ad, e, _, hc⟩ := h hn
  exact ⟨ad, e, ⟨hn, ad, e, rfl⟩, fun k x hx => by obtain ⟨vs, hr, hv⟩ := hc k x hx; exact ⟨vs, hfl _ _ _ _ hr, hv⟩⟩
theorem at_in {α : Type} {L : Lay α} {w : World} {F : Nat → Prop} {A : Option Addr} {xs : List α} (h : L.Sl w F A xs) {b : Nat} (hb : AtB A xs.length b) : F b := by
  obtain ⟨hn, ad, e, hb⟩ := hb
  obtain ⟨ad', e', hf, _⟩ := h hn
  rw [e] at e'
  injection e' with e'
  subst e'
  rw [← hb]; exact hf
theorem sl_cp {α : Type} {L : Lay α} {w : World} {lo hi n : Nat} {A : Option Addr} {xs : List α} (hfl : ∀ (F G : Nat → Prop) x vs, L.R w F x vs → L.R w G x vs) (h : L.Sl w (AtB A n) A xs) (hF : ∀ b, AtB A n b → Cp lo hi w b) : L.Sl w (Cp lo hi w) A xs := h.mono hF
/-- A row beside the one that is marked stays. -/
theorem sl_beside {β : Type} {M : Lay β} {w w' : World} {lo hi n : Nat} {A B : Option Addr} {ys : List β} (hfl : ∀ (w w' : World) (F G : Nat → Prop) x vs, M.R w F x vs → M.R w' G x vs) (h : M.Sl w (Cp lo hi w) B ys) (hd : Dab (AtB A n) w w') (ap : 0 < n → 0 < ys.length → ∀ a b, A = some a → B = some b → a.block ≠ b.block) : M.Sl w' (Cp lo hi w') B ys := fun hn => by
  obtain ⟨b, e, hf, hc⟩ := h hn
  refine ⟨b, e, hf.dab hd, fun k x hx => ?_⟩
  obtain ⟨vs, hr, hv⟩ := hc k x hx
  refine ⟨vs, hfl _ _ _ _ _ _ hr, fun j u hu => ?_⟩
  refine (World.cell?_of_block (w := w) ?_).trans (hv j u hu)
  rw [block_of_add]
  refine hd.block _ hf.lt ?_
  rintro ⟨h0, a, ea, eb⟩
  exact ap h0 hn a b ea e eb
theorem flat_int (w w' : World) (F G : Nat → Prop) (x : Int) (vs : List Value) (h : Lay.int.R w F x vs) : Lay.int.R w' G x vs := h
theorem flat_gate (w w' : World) (F F' : Nat → Prop) (x : G) (vs : List Value) (h : Lay.gate.R w F x vs) : Lay.gate.R w' F' x vs := h
/-- The marks of a row, and where they are. -/
def MkA {α : Type} (L : Lay α) (A : Option Addr) (n lo hi : Nat) (k1 : Int) (ys : List α) (w : World) (e : Ending) (w' : World) : Prop := e = .returned (.int .i64 k1) ∧ Dab (AtB A n) w w' ∧ Dab (Rng lo hi) w w' ∧ L.Sl w' (Cp lo hi w') A ys
theorem markIntsA_u (xs : List Int) (A : Option Addr) (c lo hi : Nat) (k0 : Int) (w : World) (h : Lay.int.Sl w (Cp lo hi w) A xs) (hs : xs.length ≤ 1048576) (h0 : 0 ≤ k0) (h1 : k0 ≤ 500000000) :
    Calls Tryd.prog 18 #[.slice A xs.length c, .int .i64 k0] w (MkA Lay.int A xs.length lo hi (k0 + xs.length) (upI xs.length k0) w) :=
  (markIntS_sl A c xs k0 _ w (sl_at (flat_int w w) h) (fun b hb => (at_in h hb).2.2.2) hs h0 (by omega)).mono fun _ _ ⟨h2, h', h3⟩ => ⟨h2, h', h'.mono fun b hb => ⟨(at_in h hb).1, (at_in h hb).2.1⟩, h3.mono fun b hb => (at_in h hb).dab h'⟩
theorem markNetA_u (x : N) (A : Option Addr) (c lo hi : Nat) (k0 : Int) (w : World) (h : Lay.gate.Sl w (Cp lo hi w) A x.gs) (hs : x.gs.length ≤ 1048576) (h0 : 0 ≤ k0) (h1 : k0 ≤ 500000000) :
    Calls Tryd.prog 17 #[.agg #[.int .i64 x.ins, .slice A x.gs.length c], .int .i64 k0] w (MkA Lay.gate A x.gs.length lo hi (k0 + (3 * x.gs.length : Nat)) (marked x.gs.length k0) w) := by
  have hw : Below w.heap.size w (w.alloc (.cells #[.int .i64 x.ins, .slice A x.gs.length c] 29)) := (Below.refl _ _).alloc (Nat.le_refl _) _
  have H := Lib.hid (h.cp_up hw)
  have HW := Lib.hid hw
  have HS := Lib.hid hs
  clear h hs hw
  go_enter Tryd.func17, Tryd.ntmps17
  go_wp2_with fail
  refine (markGateS_sl A c x.gs k0 _ _ (sl_at (flat_gate _ _) H.out) (fun b hb => (at_in H.out hb).2.2.2) HS.out h0 (by omega)).mono ?_
  rintro e w' ⟨rfl, hd, hs⟩
  go_wp2
  go_ret
  refine ⟨?_, Dab.then HW.out hd, Dab.then HW.out (hd.mono fun b hb => ⟨(at_in H.out hb).1, (at_in H.out hb).2.1⟩), hs.mono fun b hb => (at_in H.out hb).dab hd⟩
  show Ending.returned (.int .i64 (k0 + 3 * (x.gs.length : Int))) = _
  exact ret_int (by omega)

theorem pickN_len {n : N} {o : N × List Int} (h : netOk n = true → o.1.gs.length ≤ 1048576 ∧ o.2.length ≤ 1048576) : (pickN (netOk n) o).1.gs.length ≤ 1048576 ∧ (pickN (netOk n) o).2.length ≤ 1048576 := by
  cases hk : netOk n
  · exact ⟨Nat.zero_le _, Nat.zero_le _⟩
  · exact h hk
theorem bitsIf_len {n : N} {c : Int} {xs ys : List Int} : (pickN (netOk n) (bitsIfR n c xs ys)).1.gs.length ≤ 1048576 ∧ (pickN (netOk n) (bitsIfR n c xs ys)).2.length ≤ 1048576 := pickN_len fun hok => by
  unfold bitsIfR bitsOk
  split
  · rename_i hc
    simp only [Bool.and_eq_true, decide_eq_true_eq] at hc
    obtain ⟨⟨⟨gx, gy⟩, gc⟩, hl⟩ := hc
    have hn := (netOk_iff n).1 hok
    have hnb : NB n := ⟨hn.1, hn.2.1, hn.2.2.1⟩
    obtain ⟨l1, l2, m1⟩ := goodL_iff.1 gx
    obtain ⟨l3, l4, m2⟩ := goodL_iff.1 gy
    rw [← told_out]
    unfold toldR
    split
    · dsimp only
      rw [eachP_len (o := opsR) (f := muxP c) xs ys (n, true) hl]
      have := (run_each_nb (f := muxP c) (fun x y k hk hx hy => mux_rb hk (mark_mb hnb gc).rb hx hy) xs ys (n, true) hnb (fun x hx => (mark_mb hnb (m1 x hx)).rb) (fun y hy => (mark_mb hnb (m2 y hy)).rb)).2.2
      exact ⟨by omega, by omega⟩
    · exact ⟨Nat.zero_le _, Nat.zero_le _⟩
  · exact ⟨Nat.zero_le _, Nat.zero_le _⟩
theorem implBitsIf_u (a0 a1 : Addr) (l0 : Nat) (x0 : N) (A : Option Addr) (c : Nat) (x1 : Int) (x2 : List Int) (X : Option Addr) (cx : Nat) (x3 : List Int) (Y : Option Addr) (cy : Nat) (w : World) (h : Lay.gate.Rd w A x0.gs) (_ : x0.gs.length ≤ c) (hX : Lay.int.Rd w X x2) (_ : x2.length ≤ cx) (hY : Lay.int.Rd w Y x3) (_ : x3.length ≤ cy) (s0 : smNet x0) (s1 : okInt x1) (s2 : smInts x2) (s3 : smInts x3) (hg : Glb a0 a1 l0 w) (hl : l0 ≤ w.heap.size) :
    Calls Tryd.prog 14 #[.agg #[.int .i64 x0.ins, .slice A x0.gs.length c], .int .i64 x1, .slice X x2.length cx, .slice Y x3.length cy] w (RetBits (pickN (netOk x0) (bitsIfR x0 x1 x2 x3)) w) :=
  implBitsIf_any a0 a1 l0 x0 x1 x2 x3 A X Y c cx cy w hg hl h s0.1 (sl_nonnil h) s0.2.1 hX hY s2.2 s3.2 s1 s2.1 s3.1
theorem specBitsIf_u (x0 : N) (A : Option Addr) (c : Nat) (x1 : Int) (x2 : List Int) (X : Option Addr) (cx : Nat) (x3 : List Int) (Y : Option Addr) (cy : Nat) (w : World) (h : Lay.gate.Rd w A x0.gs) (_ : x0.gs.length ≤ c) (hX : Lay.int.Rd w X x2) (_ : x2.length ≤ cx) (hY : Lay.int.Rd w Y x3) (_ : x3.length ≤ cy) (s0 : smNet x0) (s1 : okInt x1) (s2 : smInts x2) (s3 : smInts x3) :
    Calls Tryd.prog 11 #[.agg #[.int .i64 x0.ins, .slice A x0.gs.length c], .int .i64 x1, .slice X x2.length cx, .slice Y x3.length cy] w (RetBits (pickN (netOk x0) (bitsIfR x0 x1 x2 x3)) w) :=
  specBitsIf_any x0 x1 x2 x3 A X Y c cx cy w h s0.1 (sl_nonnil h) s0.2.1 hX hY s2.2 s3.2 s1 s2.1 s3.1
end Go.Proofs.YtjghcaghigebjaaDoor
