/- The program's sums; its operations on one list. The program's signals that are off; its operations on one list. The reference's l7Un, BitsUn. The reference's BitsUn. The program's BitsUn. BitsUn in the laws' one form. The two sentinels: what the condition on the package's variables gives; the variables read again; the world that the initialisers leave. -/
import Derived.Test.YtjghcaghigebjaaDoorRows
import Derived.ProofKit
import Derived.LaidMore
import Derived.OpenShut
import Derived.Stop.Joined
import Derived.ChangeSame
import Derived.ChangeVars
import Derived.RowKitTokens
import Derived.LaidLaws
import Derived.Test.YtjghcaghigebjaaDoorJExBitsUn3
import Derived.Test.YtjghcaghigebjaaDoorJExBitsUn5
import Derived.Test.YtjghcaghigebjaaDoorJExBitsUn6
import Derived.Test.YtjghcaghigebjaaDoorJExBitsUn7
/-! The program's sums; its operations on one list. -/
namespace Go.Proofs.YtjghcaghigebjaaDoor
open Go Go.RowKit

/-- What is so while a sum's gates are made. -/
def SumI (a0 a1 : Addr) (lo : Nat) (W : World) (q r : Nat) (s s' : BS) (A : Option Addr) (c : Nat) (l : List Int) (called : Bool) (x : World) : Prop := BelB lo W x ∧ Bd a0 a1 lo x q r (if called = true then s' else s) ∧ OwnSg x W.heap.size (.slice A l.length c) l
theorem SumI.up {a0 a1 : Addr} {lo : Nat} {W : World} {q r : Nat} {s s' : BS} {A : Option Addr} {c : Nat} {l : List Int} {called : Bool} {x x' : World} (h : SumI a0 a1 lo W q r s s' A c l called x) (hb : Below x.heap.size x x') : SumI a0 a1 lo W q r s s' A c l called x' := ⟨h.1.trans (.of hb h.2.1.size), h.2.1.up hb, own_below h.2.2 hb (Nat.le_refl _)⟩
theorem or_mb {x y : Int} {s : BS} (h : NB s.n) (hx : RB x) (hy : RB y) : NB (run opsP (orP x y) s).1.n ∧ MB (run opsP (orP x y) s).2 := by
  have h3 := opsP_and_mb (x := -x) (y := -y) h hx.neg hy.neg
  exact ⟨h3.1, h3.2.neg⟩
set_option maxRecDepth 100000 in
set_option maxHeartbeats 8000000 in
theorem bSum_any (a0 a1 : Addr) (lo q r : Nat) (c0 : Int) (X Y : Option Addr) (cx cy : Nat) (xs ys : List Int) (s : BS) (w : World) (h : Bd a0 a1 lo w q r s) (hc : MB c0) (hX : Lay.int.Pl w X xs) (hY : Lay.int.Pl w Y ys) (hxm : ∀ x ∈ xs, MB x) (hym : ∀ y ∈ ys, MB y) (hl : xs.length = ys.length) (hn : xs.length ≤ 1000) :
    Calls Tryd.prog 100 #[.pointer (some ⟨q, 0, none⟩), .slice X xs.length cx, .slice Y ys.length cy, .int .i64 c0] w (RetL a0 a1 lo w q r (run opsP (sumP xs ys c0) s)) := by
  obtain ⟨T, hT⟩ : ∃ T, T = run opsP (sumP xs ys c0) s := ⟨_, rfl⟩
  rw [← hT]
  have HT := Lib.hid hT
  have HB := Lib.hid h
  have HX := Lib.hid hX
  have HY := Lib.hid hY
  have HXM := Lib.hid hxm
  have HYM := Lib.hid hym
  have HL := Lib.hid hl
  have HC0 := Lib.hid hc
  have hlo := h.size
  clear hT h hX hY hxm hym hc
  rw [← hl]
  clear hl
  go_enter Tryd.func100, Tryd.ntmps100
  go_wp2
  go_loopw [9, 16, 3] (fun out i cv wr => ∃ (k : Nat) (s1 : BS) (l : List Int) (A : Option Addr) (c : Nat) (cc : Int), k ≤ xs.length ∧ i = .int .i64 k ∧ out = .slice A l.length c ∧ cv = .int .i64 cc ∧ MB cc ∧ l.length = k ∧ (∀ m ∈ l, MB m) ∧ SumI a0 a1 lo w q r s1 s1 A c l false wr ∧ Hid ((let z := run opsP (sumP (xs.drop k) (ys.drop k) cc) s1; (z.1, l ++ z.2)) = T)) (fun _ i _ _ => xs.length - (intOf i).toNat)
  case atStart => exact ⟨0, s, [], none, 0, c0, Nat.zero_le _, rfl, rfl, rfl, HC0.out, rfl, (fun _ h => by cases h), ⟨.refl _ _, HB.out, OwnSg.nil _ _⟩, Lib.hid (by rw [HT.out]; rfl)⟩
  case round =>
    obtain ⟨k, s1, l, A, c, cc, hk, rfl, rfl, rfl, hcc, hlk, hlm, hsi, hst⟩ := hrel
    have HCC := Lib.hid hcc
    have HLM := Lib.hid hlm
    have HSI := Lib.hid hsi
    have HLK := Lib.hid hlk
    clear hlm hsi hlk hcc
    by_cases hlt : k < xs.length
    · have hlt2 : (k : Int) < xs.length := by omega
      have hlty : k < ys.length := by rw [← HL.out]; exact hlt
      obtain ⟨x, hx⟩ : ∃ x, xs[k]? = some x := ⟨_, List.getElem?_eq_getElem hlt⟩
      obtain ⟨y, hy⟩ : ∃ y, ys[k]? = some y := ⟨_, List.getElem?_eq_getElem hlty⟩
      have hxg : xs[k] = x := (List.getElem?_eq_some_iff.1 hx).2
      have hyg : ys[k] = y := (List.getElem?_eq_some_iff.1 hy).2
      have HXYM := Lib.hid (And.intro (HXM.out x (List.mem_of_getElem? hx)) (HYM.out y (List.mem_of_getElem? hy)))
      obtain ⟨adx, rfl, -, -⟩ := HX.out.at_int hlt
      obtain ⟨ady, rfl, -, -⟩ := HY.out.at_int hlty
      have HST := Lib.hid ((run_sum (o := opsP) xs ys k x y hx hy s1 cc l).symm.trans hst.out)
      have HRX : Hid (∀ z, BelB lo w z → z.cell? (adx.add k) = some (.int .i64 x)) := Lib.hid fun z hz => by
        obtain ⟨ad, e, _, hc⟩ := (HX.out.upB hz).at_int hlt
        injection e with e; subst e; rw [← hxg]; exact hc
      have HRY : Hid (∀ z, BelB lo w z → z.cell? (ady.add k) = some (.int .i64 y)) := Lib.hid fun z hz => by
        obtain ⟨ad, e, _, hc⟩ := (HY.out.upB hz).at_int hlty
        injection e with e; subst e; rw [← hyg]; exact hc
      have hll : l.length ≤ 1000 := by have := HLK.out; omega
      clear hx hy hxg hyg hst hlty
      obtain ⟨m, h9⟩ : ∃ m, m = opsP.xor s1 x y := ⟨_, rfl⟩
      have HM := Lib.hid h9
      have HMB : Hid (NB m.1.n ∧ MB m.2) := Lib.hid (by rw [h9]; exact opsP_xor_mb HSI.out.2.1.nb HXYM.out.1.rb HXYM.out.2.rb)
      clear h9
      obtain ⟨u, h9⟩ : ∃ u, u = opsP.xor m.1 m.2 cc := ⟨_, rfl⟩
      have HU := Lib.hid h9
      have HUB : Hid (NB u.1.n ∧ MB u.2) := Lib.hid (by rw [h9]; exact opsP_xor_mb HMB.out.1 HMB.out.2.rb HCC.out.rb)
      clear h9
      obtain ⟨p, h9⟩ : ∃ p, p = opsP.and u.1 x y := ⟨_, rfl⟩
      have HP := Lib.hid h9
      have HPB : Hid (NB p.1.n ∧ MB p.2) := Lib.hid (by rw [h9]; exact opsP_and_mb HUB.out.1 HXYM.out.1.rb HXYM.out.2.rb)
      clear h9
      obtain ⟨v, h9⟩ : ∃ v, v = opsP.and p.1 m.2 cc := ⟨_, rfl⟩
      have HV := Lib.hid h9
      have HVB : Hid (NB v.1.n ∧ MB v.2) := Lib.hid (by rw [h9]; exact opsP_and_mb HPB.out.1 HMB.out.2.rb HCC.out.rb)
      clear h9
      obtain ⟨g, h9⟩ : ∃ g, g = run opsP (orP p.2 v.2) v.1 := ⟨_, rfl⟩
      have HG := Lib.hid h9
      have HGB : Hid (NB g.1.n ∧ MB g.2) := Lib.hid (by rw [h9]; exact or_mb HVB.out.1 HPB.out.2.rb HVB.out.2.rb)
      clear h9
      have HST : Hid ((let z := run opsP (sumP (xs.drop (k + 1)) (ys.drop (k + 1)) g.2) g.1; (z.1, (l ++ [u.2]) ++ z.2)) = T) := Lib.hid (by rw [HG.out, HV.out, HP.out, HU.out, HM.out]; exact HST.out)
      obtain ⟨l2, hl2⟩ : ∃ l2, l2 = l ++ [u.2] := ⟨_, rfl⟩
      have HL2 := Lib.hid hl2
      clear hl2
      go_wp2
      have HSZ : Hid (∀ z, BelB lo w z → w.heap.size ≤ z.heap.size) := Lib.hid fun z hz => hz.bel.size
      refine wp_region_rel4 [[], [], [], [(1, 20), (2, 21)], [(3, 22)], [], [], [(5, 24), (6, 25)], [(7, 26)], [(0, 19), (4, 23), (8, 27)], [(9, 28)]]
        (fun x9 y9 => Below x9.heap.size x9 y9)
        [(9, fun x9 y9 => BelB lo x9 y9)]
        (fun f9 x9 => SumI a0 a1 lo w q r s1 m.1 A c l (f9 9) x9)
        [fun vs9 _ => vs9 0 = (.pointer (some ⟨q, 0, none⟩)),
          fun vs9 _ => vs9 1 = (.slice (some adx) xs.length cx),
          fun vs9 _ => vs9 2 = (.int .i64 (k : Int)),
          fun vs9 _ => vs9 3 = (.pointer (some (adx.add k))),
          fun vs9 _ => vs9 4 = (.int .i64 x),
          fun vs9 _ => vs9 5 = (.slice (some ady) xs.length cy),
          fun vs9 _ => vs9 6 = (.int .i64 (k : Int)),
          fun vs9 _ => vs9 7 = (.pointer (some (ady.add k))),
          fun vs9 _ => vs9 8 = (.int .i64 y),
          fun vs9 _ => vs9 9 = (.int .i64 m.2),
          fun vs9 _ => vs9 10 = (.int .i64 m.2)]
        [(0, 19), (1, 20), (2, 21), (3, 22), (4, 23), (5, 24), (6, 25), (7, 26), (8, 27), (9, 28), (10, 11)] (by kernel_rfl) (by kernel_rfl) (by kernel_rfl) (by kernel_rfl)
        (fun _ => Below.refl _ _) ⟨fun _ => BelB.refl _ _, trivial⟩
        ⟨⟨.inr (fun _ _ _ h _ => h), ⟨.inr (.inr (fun _ _ _ h _ => h)), trivial⟩⟩,
          ⟨.inr (fun _ _ _ h _ => h), ⟨.inr (.inr (fun _ _ _ h _ => h)), trivial⟩⟩,
          ⟨.inr (fun _ _ _ h _ => h), ⟨.inr (.inr (fun _ _ _ h _ => h)), trivial⟩⟩,
          ⟨.inr (fun _ _ _ h _ => h), ⟨.inr (.inr (fun _ _ _ h _ => h)), trivial⟩⟩,
          ⟨.inr (fun _ _ _ h _ => h), ⟨.inr (.inr (fun _ _ _ h _ => h)), trivial⟩⟩,
          ⟨.inr (fun _ _ _ h _ => h), ⟨.inr (.inr (fun _ _ _ h _ => h)), trivial⟩⟩,
          ⟨.inr (fun _ _ _ h _ => h), ⟨.inr (.inr (fun _ _ _ h _ => h)), trivial⟩⟩,
          ⟨.inr (fun _ _ _ h _ => h), ⟨.inr (.inr (fun _ _ _ h _ => h)), trivial⟩⟩,
          ⟨.inr (fun _ _ _ h _ => h), ⟨.inr (.inr (fun _ _ _ h _ => h)), trivial⟩⟩,
          ⟨.inr (fun _ _ _ h _ => h), ⟨.inr (.inl rfl), trivial⟩⟩,
          ⟨.inr (fun _ _ _ h _ => h), ⟨.inr (.inr (fun _ _ _ h _ => h)), trivial⟩⟩, trivial⟩ ⟨fun vs vs' x h _ hv => (by dsimp only at hv ⊢; first | (rw [← h]; exact hv) | exact hv),
          fun vs vs' x h _ hv => (by dsimp only at hv ⊢; first | (rw [← h]; exact hv) | exact hv),
          fun vs vs' x h _ hv => (by dsimp only at hv ⊢; first | (rw [← h]; exact hv) | exact hv),
          fun vs vs' x h _ hv => (by dsimp only at hv ⊢; first | (rw [← h]; exact hv) | exact hv),
          fun vs vs' x h _ hv => (by dsimp only at hv ⊢; first | (rw [← h]; exact hv) | exact hv),
          fun vs vs' x h _ hv => (by dsimp only at hv ⊢; first | (rw [← h]; exact hv) | exact hv),
          fun vs vs' x h _ hv => (by dsimp only at hv ⊢; first | (rw [← h]; exact hv) | exact hv),
          fun vs vs' x h _ hv => (by dsimp only at hv ⊢; first | (rw [← h]; exact hv) | exact hv),
          fun vs vs' x h _ hv => (by dsimp only at hv ⊢; first | (rw [← h]; exact hv) | exact hv),
          fun vs vs' x h _ hv => (by dsimp only at hv ⊢; first | (rw [← h]; exact hv) | exact hv),
          fun vs vs' x h _ hv => (by dsimp only at hv ⊢; first | (rw [← h]; exact hv) | exact hv), trivial⟩ ((show SumI a0 a1 lo w q r s1 m.1 A c l false _ from ⟨HSI.out.1.trans (.of (below_drewN (Below.refl _ _) 1) HSI.out.2.1.size), by rw [if_neg (by simp)]; exact HSI.out.2.1.up (below_drewN (Below.refl _ _) 1), own_below HSI.out.2.2 (below_drewN (Below.refl _ _) 1) (Nat.le_refl _)⟩)) ⟨?_, ?_, ?_, ?_, ?_, ?_, ?_, ?_, ?_, ?_, ?_, trivial⟩ ?_
      · intro vals xw f hf1 hf2 hf3 hI hF
        clear hf2 hf3
        dsimp only [owes4, bare]
        simp only [putsD, Act.put, List.setIfInBounds_toArray, List.set_cons_zero, List.set_cons_succ]
        go_wp2
        exact ⟨rfl, rfl, ⟨fun h9 => absurd h9 (Nat.ne_of_beq_eq_false rfl), fun _ => Below.refl _ _⟩, hI⟩
      · intro vals xw f hf1 hf2 hf3 hI hF
        clear hf2 hf3
        dsimp only [owes4, bare]
        simp only [putsD, Act.put, List.setIfInBounds_toArray, List.set_cons_zero, List.set_cons_succ]
        go_wp2
        exact ⟨rfl, rfl, ⟨fun h9 => absurd h9 (Nat.ne_of_beq_eq_false rfl), fun _ => Below.refl _ _⟩, hI⟩
      · intro vals xw f hf1 hf2 hf3 hI hF
        clear hf2 hf3
        dsimp only [owes4, bare]
        simp only [putsD, Act.put, List.setIfInBounds_toArray, List.set_cons_zero, List.set_cons_succ]
        go_wp2
        exact ⟨rfl, rfl, ⟨fun h9 => absurd h9 (Nat.ne_of_beq_eq_false rfl), fun _ => Below.refl _ _⟩, hI⟩
      · intro vals xw f hf1 hf2 hf3 hI hF
        clear hf2 hf3
        simp only [saysD, List.getD_cons_zero, List.getD_cons_succ, and_true] at hF
        obtain ⟨e1, e2⟩ := hF
        dsimp only [owes4, bare]
        simp only [putsD, Act.put, List.setIfInBounds_toArray, List.set_cons_zero, List.set_cons_succ]
        simp only [e1, e2]
        go_wp2
        exact ⟨rfl, rfl, ⟨fun h9 => absurd h9 (Nat.ne_of_beq_eq_false rfl), fun _ => Below.refl _ _⟩, hI⟩
      · intro vals xw f hf1 hf2 hf3 hI hF
        clear hf2 hf3
        simp only [saysD, List.getD_cons_zero, List.getD_cons_succ, and_true] at hF
        have e1 := hF
        dsimp only [owes4, bare]
        simp only [putsD, Act.put, List.setIfInBounds_toArray, List.set_cons_zero, List.set_cons_succ]
        simp only [e1]
        have c9 := HRX.out _ hI.1
        go_wp2
        exact ⟨rfl, rfl, ⟨fun h9 => absurd h9 (Nat.ne_of_beq_eq_false rfl), fun _ => Below.refl _ _⟩, hI⟩
      · intro vals xw f hf1 hf2 hf3 hI hF
        clear hf2 hf3
        dsimp only [owes4, bare]
        simp only [putsD, Act.put, List.setIfInBounds_toArray, List.set_cons_zero, List.set_cons_succ]
        go_wp2
        exact ⟨rfl, rfl, ⟨fun h9 => absurd h9 (Nat.ne_of_beq_eq_false rfl), fun _ => Below.refl _ _⟩, hI⟩
      · intro vals xw f hf1 hf2 hf3 hI hF
        clear hf2 hf3
        dsimp only [owes4, bare]
        simp only [putsD, Act.put, List.setIfInBounds_toArray, List.set_cons_zero, List.set_cons_succ]
        go_wp2
        exact ⟨rfl, rfl, ⟨fun h9 => absurd h9 (Nat.ne_of_beq_eq_false rfl), fun _ => Below.refl _ _⟩, hI⟩
      · intro vals xw f hf1 hf2 hf3 hI hF
        clear hf2 hf3
        simp only [saysD, List.getD_cons_zero, List.getD_cons_succ, and_true] at hF
        obtain ⟨e1, e2⟩ := hF
        dsimp only [owes4, bare]
        simp only [putsD, Act.put, List.setIfInBounds_toArray, List.set_cons_zero, List.set_cons_succ]
        simp only [e1, e2]
        go_wp2
        exact ⟨rfl, rfl, ⟨fun h9 => absurd h9 (Nat.ne_of_beq_eq_false rfl), fun _ => Below.refl _ _⟩, hI⟩
      · intro vals xw f hf1 hf2 hf3 hI hF
        clear hf2 hf3
        simp only [saysD, List.getD_cons_zero, List.getD_cons_succ, and_true] at hF
        have e1 := hF
        dsimp only [owes4, bare]
        simp only [putsD, Act.put, List.setIfInBounds_toArray, List.set_cons_zero, List.set_cons_succ]
        simp only [e1]
        have c9 := HRY.out _ hI.1
        go_wp2
        exact ⟨rfl, rfl, ⟨fun h9 => absurd h9 (Nat.ne_of_beq_eq_false rfl), fun _ => Below.refl _ _⟩, hI⟩
      · intro vals xw f hf1 hf2 hf3 hI hF
        clear hf2 hf3
        simp only [saysD, List.getD_cons_zero, List.getD_cons_succ, and_true] at hF
        obtain ⟨e1, e2, e3⟩ := hF
        dsimp only [owes4, bare]
        simp only [putsD, Act.put, List.setIfInBounds_toArray, List.set_cons_zero, List.set_cons_succ]
        simp only [e1, e2, e3]
        obtain ⟨i1, i2, i3⟩ := hI
        rw [hf1, if_neg (by simp)] at i2
        have I1 := Lib.hid i1
        have I3 := Lib.hid i3
        have HC := Lib.hid (bXor_any a0 a1 lo q r s1 x y xw i2 HXYM.out.1 HXYM.out.2)
        rw [← HM.out] at HC
        clear i1 i2 i3
        go_wp2_with fail
        refine HC.out.mono ?_
        rintro e wx ⟨rfl, hb9, hd9⟩
        have HB9 := Lib.hid hb9
        have HD9 := Lib.hid hd9
        clear hb9 hd9 HC
        go_wp2
        exact ⟨rfl, rfl, ⟨fun _ => HB9.out, fun h9 => absurd rfl h9⟩, I1.out.trans HB9.out, by rw [did_same, if_pos rfl]; exact HD9.out, I3.out.upB HB9.out⟩
      · intro vals xw f hf1 hf2 hf3 hI hF
        clear hf2 hf3
        simp only [saysD, List.getD_cons_zero, List.getD_cons_succ, and_true] at hF
        have e1 := hF
        dsimp only [owes4, bare]
        simp only [putsD, Act.put, List.setIfInBounds_toArray, List.set_cons_zero, List.set_cons_succ]
        simp only [e1]
        go_wp2
        exact ⟨rfl, rfl, ⟨fun h9 => absurd h9 (Nat.ne_of_beq_eq_false rfl), fun _ => Below.refl _ _⟩, hI⟩
      · intro vals xw f hall hI hF
        rw [show List.range _ = [0, 1, 2, 3, 4, 5, 6, 7, 8, 9, 10] from rfl] at hF
        simp only [says, List.getD_cons_zero, List.getD_cons_succ, and_true] at hF
        obtain ⟨i1, i2, i3⟩ := hI
        rw [hall 9 (by decide), if_pos rfl] at i2
        have e9 : vals 10 = .int .i64 m.2 := by obtain ⟨_, _, _, _, _, _, _, _, _, _, e9⟩ := hF; exact e9
        simp only [putsD, Act.put, List.setIfInBounds_toArray, List.set_cons_zero, List.set_cons_succ]
        simp only [e9]
        clear e9 hF
        have I1 := Lib.hid i1
        have I2 := Lib.hid i2
        have I3 := Lib.hid i3
        clear i1 i2 i3
        have HC := Lib.hid (bXor_any a0 a1 lo q r m.1 m.2 cc _ I2.out HMB.out.2 HCC.out)
        rw [← HU.out] at HC
        go_wp2_with fail
        refine HC.out.mono ?_
        rintro e z2 ⟨rfl, hb9, hd9⟩
        have B2 := Lib.hid (I1.out.trans hb9)
        have D2 := Lib.hid hd9
        have O2 := Lib.hid (I3.out.upB hb9)
        clear hb9 hd9 HC
        have hsz2 : w.heap.size ≤ z2.heap.size := HSZ.out _ B2.out
        have hal9 : Below z2.heap.size z2 (z2.alloc (.cells #[.int .i64 u.2] 83)) := (Below.refl _ _).alloc (Nat.le_refl _) _
        have HAL := Lib.hid hal9
        have hsz8 : w.heap.size ≤ (z2.alloc (.cells #[.int .i64 u.2] 83)).heap.size := Nat.le_trans hsz2 hal9.size
        have O2 : Hid (OwnSg (z2.alloc (.cells #[.int .i64 u.2] 83)) w.heap.size (.slice A l.length c) l) := Lib.hid (own_below O2.out hal9 (Nat.le_refl _))
        clear hal9
        go_wp2_with (at_builtin; refine wpList_append_sig2 (ys := l2) (by rfl) (.tmp 29) (.tmp 34) (by rfl) (by rfl) (by rfl) O2.out (heap_alloc_new _ _) (by omega) hsz8 HL2.out ?_; intro A2 c2 w3 hown3 hg3)
        have hal9 := HAL.out
        obtain ⟨hs9, hb8⟩ := O2.out.grown hg3 hsz8 hlo
        have B3 := Lib.hid ((B2.out.trans (.of hal9 D2.out.size)).then hb8 hlo)
        have D3 := Lib.hid ((D2.out.up hal9).upS hs9)
        have O3 := Lib.hid hown3
        clear hal9 hs9 hb8 hown3 hg3 HAL B2 D2 O2 hsz8
        go_wp2
        refine wp_region_rel4 [[], [], [], [(1, 37), (2, 38)], [(3, 39)], [], [], [(5, 41), (6, 42)], [(7, 43)], [(0, 36), (4, 40), (8, 44)], [(9, 45)]]
          (fun x9 y9 => Below x9.heap.size x9 y9)
          [(9, fun x9 y9 => BelB lo x9 y9)]
          (fun f9 x9 => SumI a0 a1 lo w q r u.1 p.1 A2 c2 l2 (f9 9) x9)
          [fun vs9 _ => vs9 0 = (.pointer (some ⟨q, 0, none⟩)),
          fun vs9 _ => vs9 1 = (.slice (some adx) xs.length cx),
          fun vs9 _ => vs9 2 = (.int .i64 (k : Int)),
          fun vs9 _ => vs9 3 = (.pointer (some (adx.add k))),
          fun vs9 _ => vs9 4 = (.int .i64 x),
          fun vs9 _ => vs9 5 = (.slice (some ady) xs.length cy),
          fun vs9 _ => vs9 6 = (.int .i64 (k : Int)),
          fun vs9 _ => vs9 7 = (.pointer (some (ady.add k))),
          fun vs9 _ => vs9 8 = (.int .i64 y),
          fun vs9 _ => vs9 9 = (.int .i64 p.2),
          fun vs9 _ => vs9 10 = (.int .i64 p.2)]
          [(0, 36), (1, 37), (2, 38), (3, 39), (4, 40), (5, 41), (6, 42), (7, 43), (8, 44), (9, 45), (10, 12)] (by kernel_rfl) (by kernel_rfl) (by kernel_rfl) (by kernel_rfl)
          (fun _ => Below.refl _ _) ⟨fun _ => BelB.refl _ _, trivial⟩
          ⟨⟨.inr (fun _ _ _ h _ => h), ⟨.inr (.inr (fun _ _ _ h _ => h)), trivial⟩⟩,
          ⟨.inr (fun _ _ _ h _ => h), ⟨.inr (.inr (fun _ _ _ h _ => h)), trivial⟩⟩,
          ⟨.inr (fun _ _ _ h _ => h), ⟨.inr (.inr (fun _ _ _ h _ => h)), trivial⟩⟩,
          ⟨.inr (fun _ _ _ h _ => h), ⟨.inr (.inr (fun _ _ _ h _ => h)), trivial⟩⟩,
          ⟨.inr (fun _ _ _ h _ => h), ⟨.inr (.inr (fun _ _ _ h _ => h)), trivial⟩⟩,
          ⟨.inr (fun _ _ _ h _ => h), ⟨.inr (.inr (fun _ _ _ h _ => h)), trivial⟩⟩,
          ⟨.inr (fun _ _ _ h _ => h), ⟨.inr (.inr (fun _ _ _ h _ => h)), trivial⟩⟩,
          ⟨.inr (fun _ _ _ h _ => h), ⟨.inr (.inr (fun _ _ _ h _ => h)), trivial⟩⟩,
          ⟨.inr (fun _ _ _ h _ => h), ⟨.inr (.inr (fun _ _ _ h _ => h)), trivial⟩⟩,
          ⟨.inr (fun _ _ _ h _ => h), ⟨.inr (.inl rfl), trivial⟩⟩,
          ⟨.inr (fun _ _ _ h _ => h), ⟨.inr (.inr (fun _ _ _ h _ => h)), trivial⟩⟩, trivial⟩ ⟨fun vs vs' x h _ hv => (by dsimp only at hv ⊢; first | (rw [← h]; exact hv) | exact hv),
          fun vs vs' x h _ hv => (by dsimp only at hv ⊢; first | (rw [← h]; exact hv) | exact hv),
          fun vs vs' x h _ hv => (by dsimp only at hv ⊢; first | (rw [← h]; exact hv) | exact hv),
          fun vs vs' x h _ hv => (by dsimp only at hv ⊢; first | (rw [← h]; exact hv) | exact hv),
          fun vs vs' x h _ hv => (by dsimp only at hv ⊢; first | (rw [← h]; exact hv) | exact hv),
          fun vs vs' x h _ hv => (by dsimp only at hv ⊢; first | (rw [← h]; exact hv) | exact hv),
          fun vs vs' x h _ hv => (by dsimp only at hv ⊢; first | (rw [← h]; exact hv) | exact hv),
          fun vs vs' x h _ hv => (by dsimp only at hv ⊢; first | (rw [← h]; exact hv) | exact hv),
          fun vs vs' x h _ hv => (by dsimp only at hv ⊢; first | (rw [← h]; exact hv) | exact hv),
          fun vs vs' x h _ hv => (by dsimp only at hv ⊢; first | (rw [← h]; exact hv) | exact hv),
          fun vs vs' x h _ hv => (by dsimp only at hv ⊢; first | (rw [← h]; exact hv) | exact hv), trivial⟩ ((show SumI a0 a1 lo w q r u.1 p.1 A2 c2 l2 false _ from ⟨B3.out.trans (.of (below_drewN (Below.refl _ _) 1) D3.out.size), by rw [if_neg (by simp)]; exact D3.out.up (below_drewN (Below.refl _ _) 1), own_below O3.out (below_drewN (Below.refl _ _) 1) (Nat.le_refl _)⟩)) ⟨?_, ?_, ?_, ?_, ?_, ?_, ?_, ?_, ?_, ?_, ?_, trivial⟩ ?_
        · intro vals xw f hf1 hf2 hf3 hI hF
          clear hf2 hf3
          dsimp only [owes4, bare]
          simp only [putsD, Act.put, List.setIfInBounds_toArray, List.set_cons_zero, List.set_cons_succ]
          go_wp2
          exact ⟨rfl, rfl, ⟨fun h9 => absurd h9 (Nat.ne_of_beq_eq_false rfl), fun _ => Below.refl _ _⟩, hI⟩
        · intro vals xw f hf1 hf2 hf3 hI hF
          clear hf2 hf3
          dsimp only [owes4, bare]
          simp only [putsD, Act.put, List.setIfInBounds_toArray, List.set_cons_zero, List.set_cons_succ]
          go_wp2
          exact ⟨rfl, rfl, ⟨fun h9 => absurd h9 (Nat.ne_of_beq_eq_false rfl), fun _ => Below.refl _ _⟩, hI⟩
        · intro vals xw f hf1 hf2 hf3 hI hF
          clear hf2 hf3
          dsimp only [owes4, bare]
          simp only [putsD, Act.put, List.setIfInBounds_toArray, List.set_cons_zero, List.set_cons_succ]
          go_wp2
          exact ⟨rfl, rfl, ⟨fun h9 => absurd h9 (Nat.ne_of_beq_eq_false rfl), fun _ => Below.refl _ _⟩, hI⟩
        · intro vals xw f hf1 hf2 hf3 hI hF
          clear hf2 hf3
          simp only [saysD, List.getD_cons_zero, List.getD_cons_succ, and_true] at hF
          obtain ⟨e1, e2⟩ := hF
          dsimp only [owes4, bare]
          simp only [putsD, Act.put, List.setIfInBounds_toArray, List.set_cons_zero, List.set_cons_succ]
          simp only [e1, e2]
          go_wp2
          exact ⟨rfl, rfl, ⟨fun h9 => absurd h9 (Nat.ne_of_beq_eq_false rfl), fun _ => Below.refl _ _⟩, hI⟩
        · intro vals xw f hf1 hf2 hf3 hI hF
          clear hf2 hf3
          simp only [saysD, List.getD_cons_zero, List.getD_cons_succ, and_true] at hF
          have e1 := hF
          dsimp only [owes4, bare]
          simp only [putsD, Act.put, List.setIfInBounds_toArray, List.set_cons_zero, List.set_cons_succ]
          simp only [e1]
          have c9 := HRX.out _ hI.1
          go_wp2
          exact ⟨rfl, rfl, ⟨fun h9 => absurd h9 (Nat.ne_of_beq_eq_false rfl), fun _ => Below.refl _ _⟩, hI⟩
        · intro vals xw f hf1 hf2 hf3 hI hF
          clear hf2 hf3
          dsimp only [owes4, bare]
          simp only [putsD, Act.put, List.setIfInBounds_toArray, List.set_cons_zero, List.set_cons_succ]
          go_wp2
          exact ⟨rfl, rfl, ⟨fun h9 => absurd h9 (Nat.ne_of_beq_eq_false rfl), fun _ => Below.refl _ _⟩, hI⟩
        · intro vals xw f hf1 hf2 hf3 hI hF
          clear hf2 hf3
          dsimp only [owes4, bare]
          simp only [putsD, Act.put, List.setIfInBounds_toArray, List.set_cons_zero, List.set_cons_succ]
          go_wp2
          exact ⟨rfl, rfl, ⟨fun h9 => absurd h9 (Nat.ne_of_beq_eq_false rfl), fun _ => Below.refl _ _⟩, hI⟩
        · intro vals xw f hf1 hf2 hf3 hI hF
          clear hf2 hf3
          simp only [saysD, List.getD_cons_zero, List.getD_cons_succ, and_true] at hF
          obtain ⟨e1, e2⟩ := hF
          dsimp only [owes4, bare]
          simp only [putsD, Act.put, List.setIfInBounds_toArray, List.set_cons_zero, List.set_cons_succ]
          simp only [e1, e2]
          go_wp2
          exact ⟨rfl, rfl, ⟨fun h9 => absurd h9 (Nat.ne_of_beq_eq_false rfl), fun _ => Below.refl _ _⟩, hI⟩
        · intro vals xw f hf1 hf2 hf3 hI hF
          clear hf2 hf3
          simp only [saysD, List.getD_cons_zero, List.getD_cons_succ, and_true] at hF
          have e1 := hF
          dsimp only [owes4, bare]
          simp only [putsD, Act.put, List.setIfInBounds_toArray, List.set_cons_zero, List.set_cons_succ]
          simp only [e1]
          have c9 := HRY.out _ hI.1
          go_wp2
          exact ⟨rfl, rfl, ⟨fun h9 => absurd h9 (Nat.ne_of_beq_eq_false rfl), fun _ => Below.refl _ _⟩, hI⟩
        · intro vals xw f hf1 hf2 hf3 hI hF
          clear hf2 hf3
          simp only [saysD, List.getD_cons_zero, List.getD_cons_succ, and_true] at hF
          obtain ⟨e1, e2, e3⟩ := hF
          dsimp only [owes4, bare]
          simp only [putsD, Act.put, List.setIfInBounds_toArray, List.set_cons_zero, List.set_cons_succ]
          simp only [e1, e2, e3]
          obtain ⟨i1, i2, i3⟩ := hI
          rw [hf1, if_neg (by simp)] at i2
          have I1 := Lib.hid i1
          have I3 := Lib.hid i3
          have HC := Lib.hid (bAnd_any a0 a1 lo q r u.1 x y xw i2 HXYM.out.1 HXYM.out.2)
          rw [← HP.out] at HC
          clear i1 i2 i3
          go_wp2_with fail
          refine HC.out.mono ?_
          rintro e wx ⟨rfl, hb9, hd9⟩
          have HB9 := Lib.hid hb9
          have HD9 := Lib.hid hd9
          clear hb9 hd9 HC
          go_wp2
          exact ⟨rfl, rfl, ⟨fun _ => HB9.out, fun h9 => absurd rfl h9⟩, I1.out.trans HB9.out, by rw [did_same, if_pos rfl]; exact HD9.out, I3.out.upB HB9.out⟩
        · intro vals xw f hf1 hf2 hf3 hI hF
          clear hf2 hf3
          simp only [saysD, List.getD_cons_zero, List.getD_cons_succ, and_true] at hF
          have e1 := hF
          dsimp only [owes4, bare]
          simp only [putsD, Act.put, List.setIfInBounds_toArray, List.set_cons_zero, List.set_cons_succ]
          simp only [e1]
          go_wp2
          exact ⟨rfl, rfl, ⟨fun h9 => absurd h9 (Nat.ne_of_beq_eq_false rfl), fun _ => Below.refl _ _⟩, hI⟩
        · intro vals xw f hall hI hF
          rw [show List.range _ = [0, 1, 2, 3, 4, 5, 6, 7, 8, 9, 10] from rfl] at hF
          simp only [says, List.getD_cons_zero, List.getD_cons_succ, and_true] at hF
          obtain ⟨i1, i2, i3⟩ := hI
          rw [hall 9 (by decide), if_pos rfl] at i2
          have e9 : vals 10 = .int .i64 p.2 := by obtain ⟨_, _, _, _, _, _, _, _, _, _, e9⟩ := hF; exact e9
          simp only [putsD, Act.put, List.setIfInBounds_toArray, List.set_cons_zero, List.set_cons_succ]
          simp only [e9]
          clear e9 hF
          have I1 := Lib.hid i1
          have I2 := Lib.hid i2
          have I3 := Lib.hid i3
          clear i1 i2 i3
          have HC := Lib.hid (bAnd_any a0 a1 lo q r p.1 m.2 cc _ I2.out HMB.out.2 HCC.out)
          rw [← HV.out] at HC
          go_wp2_with fail
          refine HC.out.mono ?_
          rintro e z4 ⟨rfl, hb9, hd9⟩
          have B4 := Lib.hid (I1.out.trans hb9)
          have D4 := Lib.hid hd9
          have O4 := Lib.hid (I3.out.upB hb9)
          clear hb9 hd9 HC
          have HC := Lib.hid (bOr_any a0 a1 lo q r v.1 p.2 v.2 _ D4.out HPB.out.2 HVB.out.2)
          rw [← HG.out] at HC
          go_wp2_with fail
          refine HC.out.mono ?_
          rintro e z5 ⟨rfl, hb9, hd9⟩
          have B5 := Lib.hid (B4.out.trans hb9)
          have D5 := Lib.hid hd9
          have O5 := Lib.hid (O4.out.upB hb9)
          clear hb9 hd9 HC
          go_wp2
          go_roundw
          case rel => exact ⟨k + 1, g.1, l2, A2, c2, g.2, by omega, by go_num, rfl, rfl, HGB.out.2, by rw [HL2.out, List.length_append, HLK.out]; rfl, fun z hz => by
            rw [HL2.out] at hz
            rcases List.mem_append.1 hz with hz | hz
            · exact HLM.out z hz
            · rw [List.mem_singleton.1 hz]; exact HUB.out.2, ⟨B5.out, D5.out, O5.out⟩, Lib.hid (by rw [HL2.out]; exact HST.out)⟩
          case measure => simp [intOf]; omega
    · have hke : k = xs.length := by omega
      subst hke
      have hlt2 : ¬ ((xs.length : Nat) : Int) < xs.length := by omega
      go_wp2
      go_ret
      have hd1 : xs.drop xs.length = [] := List.drop_length
      have hd2 : ys.drop xs.length = [] := by rw [HL.out]; exact List.drop_length
      have hst2 := hst.out
      rw [hd1, hd2] at hst2
      have hT2 : T = (s1, l) := by rw [← hst2]; show (s1, l ++ []) = _; rw [List.append_nil]
      rw [hT2]
      exact ⟨A, c, rfl, HSI.out.2.2.pl.1, HSI.out.2.2.pl.2, HLM.out, HSI.out.1, HSI.out.2.1⟩
end Go.Proofs.YtjghcaghigebjaaDoor

/-! The program's signals that are off; its operations on one list. -/
namespace Go.Proofs.YtjghcaghigebjaaDoor
open Go Go.RowKit

set_option maxHeartbeats 1000000 in
theorem offs_any (n : Nat) (w : World) (hn : n ≤ 1000) : Calls Tryd.prog 101 #[.int .i64 (n : Int)] w (RetOw (List.replicate n (-1)) w) := by
  have hal : Below w.heap.size w (w.alloc (.cells #[.int .i64 (-1)] 83)) := (Below.refl _ _).alloc (Nat.le_refl _) _
  have HAL := Lib.hid hal
  obtain ⟨rs, hrs⟩ : ∃ rs, rs = List.replicate n (-1 : Int) := ⟨_, rfl⟩
  rw [← hrs]
  have HC := Lib.hid (repeat_any (-1) n w.heap.size 83 _ (heap_alloc_new w (.cells #[.int .i64 (-1)] 83)) hn)
  rw [← hrs] at HC
  clear hal hrs
  go_enter Tryd.func101, Tryd.ntmps101
  go_wp2_with fail
  refine HC.out.mono ?_
  rintro e w1 ⟨A, c, rfl, h1, h2⟩
  have H1 := Lib.hid h1
  have H2 := Lib.hid h2
  clear h1 h2 HC
  go_wp2
  go_ret
  exact ⟨A, c, rfl, own_mono H1.out HAL.out.size, bthen HAL.out H2.out⟩
/-- The operations on one list. -/
def unP (op : Int) (xs : List Int) : PG (List Int) := if op = 1 then .ret (xs.map Neg.neg) else sumP (List.replicate xs.length (-1)) (xs.map Neg.neg) 1
def opUn (op : Int) : Bool := decide (op = 1) || decide (op = 2)
def unS (n : N) (op : Int) (xs : List Int) : BS × List Int := if opUn op = true then run opsP (unP op xs) ⟨n, none⟩ else (⟨n, some 0⟩, [])
set_option maxRecDepth 100000 in
set_option maxHeartbeats 2000000 in
theorem bUn_any (a0 a1 : Addr) (lo q r : Nat) (n : N) (op : Int) (X : Option Addr) (cx : Nat) (xs : List Int) (w : World) (h : Bd a0 a1 lo w q r ⟨n, none⟩) (hX : Lay.int.Pl w X xs) (hxm : ∀ x ∈ xs, MB x) (hn : xs.length ≤ 1000) (hop : okInt op) :
    Calls Tryd.prog 70 #[.pointer (some ⟨q, 0, none⟩), .int .i64 op, .slice X xs.length cx] w (RetL a0 a1 lo w q r (unS n op xs)) := by
  have HBD := Lib.hid h
  have HX := Lib.hid hX
  have HXM := Lib.hid hxm
  have hlo := h.size
  unfold okInt at hop
  obtain ⟨hop0, hop1⟩ := hop
  by_cases h1 : op = 1
  · subst h1
    obtain ⟨ns, hns⟩ : ∃ ns, ns = xs.map Neg.neg := ⟨_, rfl⟩
    rw [show unS n 1 xs = (⟨n, none⟩, xs.map Neg.neg) from rfl, ← hns]
    have HC := Lib.hid (negated_any a0 a1 lo q r X cx xs ⟨n, none⟩ w h hX hxm hn)
    rw [← hns] at HC
    clear h hX hxm hns
    go_enter Tryd.func70, Tryd.ntmps70
    go_wp2_with fail
    refine HC.out.mono ?_
    rintro e w1 ⟨A, c, rfl, h1, h2, h3, h4, h5⟩
    dsimp only at h1 h2 h3 h5
    have H2 := Lib.hid h2
    have H3 := Lib.hid h3
    have H4 := Lib.hid h4
    have H5 := Lib.hid h5
    clear h2 h3 h4 h5 HC
    go_wp2
    go_ret
    exact ⟨A, c, rfl, h1, H2.out, H3.out, H4.out, H5.out⟩
  · by_cases h2 : op = 2
    · subst h2
      obtain ⟨ns, hns⟩ : ∃ ns, ns = xs.map Neg.neg := ⟨_, rfl⟩
      obtain ⟨rs, hrs⟩ : ∃ rs, rs = List.replicate xs.length (-1 : Int) := ⟨_, rfl⟩
      rw [show unS n 2 xs = run opsP (sumP (List.replicate xs.length (-1)) (xs.map Neg.neg) 1) ⟨n, none⟩ from rfl, ← hns, ← hrs]
      have HNS := Lib.hid hns
      have HRL : Hid (rs.length = ns.length ∧ rs.length ≤ 1000 ∧ ∀ x ∈ rs, MB x) := Lib.hid (by rw [hrs, hns]; exact ⟨by simp, by simpa using hn, fun x hx => by rw [List.eq_of_mem_replicate hx]; unfold MB; omega⟩)
      have HC := Lib.hid (offs_any xs.length w hn)
      rw [← hrs] at HC
      generalize hT : run opsP (sumP rs ns 1) ⟨n, none⟩ = T at *
      have HT := Lib.hid hT
      clear h hX hxm hns hrs hT
      go_enter Tryd.func70, Tryd.ntmps70
      go_wp2_with fail
      refine HC.out.mono ?_
      rintro e w1 ⟨A, c, rfl, h1, h2⟩
      have H1 := Lib.hid h1
      have HB1 := Lib.hid h2
      have HC := Lib.hid (negated_any a0 a1 lo q r X cx xs ⟨n, none⟩ w1 (HBD.out.up h2) (HX.out.upP h2) HXM.out hn)
      rw [← HNS.out] at HC
      clear h1 h2
      go_wp2_with fail
      refine HC.out.mono ?_
      rintro e w2 ⟨A2, c2, rfl, hc2, hp2, hm2, hb2, hd2⟩
      dsimp only at hc2 hp2 hm2 hd2
      have HB2 := Lib.hid (BelB.trans (.of HB1.out hlo) hb2)
      have HR := Lib.hid (H1.out.upB hb2)
      have HC := Lib.hid (bSum_any a0 a1 lo q r 1 A A2 c c2 rs ns ⟨n, none⟩ w2 hd2 (by unfold MB; omega) HR.out.pl.2 hp2 HRL.out.2.2 hm2 HRL.out.1 HRL.out.2.1)
      rw [HT.out] at HC
      clear hp2 hm2 hb2 hd2 hc2
      go_wp2_with fail
      refine HC.out.mono ?_
      rintro e w3 ⟨A3, c3, rfl, h1, h2, h3, h4, h5⟩
      have H2 := Lib.hid h2
      have H3 := Lib.hid h3
      have H4 := Lib.hid h4
      have H5 := Lib.hid h5
      clear h2 h3 h4 h5 HC
      go_wp2
      go_ret
      exact ⟨A3, c3, rfl, h1, H2.out, H3.out, HB2.out.trans H4.out, H5.out⟩
    · have e1 : (op == 1) = false := by simpa using h1
      have e2 : (op == 2) = false := by simpa using h2
      rw [show unS n op xs = (⟨n, some 0⟩, []) from if_neg (by unfold opUn; simp [h1, h2])]
      have HC := Lib.hid (fail_any a0 a1 lo q r none true 0 w h.toBx)
      have g0 := h.g.c0
      have hv : errV a0 a1 (some 0) = sentV a0 := rfl
      rw [hv] at HC
      clear h hX hxm h1 h2 hv
      go_enter Tryd.func70, Tryd.ntmps70
      go_wp2_with fail
      refine HC.out.mono ?_
      rintro e w1 ⟨rfl, hb1, hx1, hk1⟩
      have HB1 := Lib.hid hb1
      have HD1 := Lib.hid (Bx.bd HBD.out hx1 hk1 (fun h => by cases h))
      clear hb1 hx1 hk1 HC
      go_wp2
      go_ret
      exact ⟨none, 0, rfl, Nat.zero_le _, .nil _ _ _ _, (fun m hm => by cases hm), HB1.out, HD1.out⟩
end Go.Proofs.YtjghcaghigebjaaDoor

/-! The reference's l7Un, BitsUn. -/
namespace Go.Proofs.YtjghcaghigebjaaDoor
open Go Go.RowKit

/-- In the blocks F, or made behind X0. -/
abbrev GU (F : Nat → Prop) (X0 z : World) (b : Nat) : Prop := F b ∨ (X0.heap.size ≤ b ∧ b < z.heap.size)
theorem Lay.Sl.upU {α : Type} {L : Lay α} {F : Nat → Prop} {X0 x x' : World} {A : Option Addr} {xs : List α} (h : L.Sl x (GU F X0 x) A xs) (hF : ∀ b, F b → b < x.heap.size) (hb : Below x.heap.size x x') : L.Sl x' (GU F X0 x') A xs :=
  (h.below hb (fun b hb' => hb'.elim (hF b) (fun h9 => h9.2))).mono fun b hb' => hb'.imp id fun h9 => ⟨h9.1, Nat.lt_of_lt_of_le h9.2 hb.size⟩
theorem Lay.Sl.stU {α : Type} {L : Lay α} {F : Nat → Prop} {X0 x x' : World} {A : Option Addr} {xs : List α} {g : Nat} (h : L.Sl x (GU F X0 x) A xs) (hF : ∀ b, F b → b < x.heap.size) (hg : x.grownBy x' (some g)) (h1 : g < X0.heap.size) (h2 : ¬ F g) : L.Sl x' (GU F X0 x') A xs :=
  (h.keep fun b hb => hg.block b (hb.elim (hF b) (fun h9 => h9.2)) (fun e => by injection e with e; subst e; exact hb.elim h2 (fun h9 => by omega))).mono fun b hb' => hb'.imp id fun h9 => ⟨h9.1, Nat.lt_of_lt_of_le h9.2 hg.size⟩
def NoB : Nat → Prop := fun _ => False
/-- A row of the call's own. -/
def URow (X0 : World) (l : List Int) (v : Value) (z : World) : Prop := ∃ B d, v = .slice B l.length d ∧ l.length ≤ d ∧ Lay.int.Sl z (GU NoB X0 z) B l
def UTup (F : Nat → Prop) (X0 : World) (T : (N × Bool) × List Int) (v : Value) (z : World) : Prop := ∃ A2 c2 B d, v = .tuple #[.agg #[.int .i64 T.1.1.ins, .slice A2 T.1.1.gs.length c2, .bool T.1.2], .slice B T.2.length d] ∧ (A2 = none → T.1.1.gs.length = 0) ∧ Lay.gate.Sl z (GU F X0 z) A2 T.1.1.gs ∧ T.2.length ≤ d ∧ Lay.int.Sl z (GU NoB X0 z) B T.2 ∧ X0.heap.size ≤ z.heap.size
def UNet (F : Nat → Prop) (X0 : World) (k : N × Bool) (v : Value) (z : World) : Prop := ∃ A2 c2, v = .agg #[.int .i64 k.1.ins, .slice A2 k.1.gs.length c2, .bool k.2] ∧ (A2 = none → k.1.gs.length = 0) ∧ Lay.gate.Sl z (GU F X0 z) A2 k.1.gs ∧ X0.heap.size ≤ z.heap.size
theorem URow.up {X0 x y : World} {l : List Int} {v : Value} (h : URow X0 l v x) (hb : Below x.heap.size x y) : URow X0 l v y := by
  obtain ⟨B, d, h1, h2, h3⟩ := h
  exact ⟨B, d, h1, h2, h3.upU (fun _ h => h.elim) hb⟩
theorem URow.st {X0 x y : World} {l : List Int} {v : Value} {g : Nat} (h : URow X0 l v x) (hg : x.grownBy y (some g)) (h1 : g < X0.heap.size) : URow X0 l v y := by
  obtain ⟨B, d, h2, h3, h4⟩ := h
  exact ⟨B, d, h2, h3, h4.stU (fun _ h => h.elim) hg h1 id⟩
theorem UTup.up {F : Nat → Prop} {X0 x y : World} {T : (N × Bool) × List Int} {v : Value} (hF : ∀ b, F b → b < X0.heap.size) (h : UTup F X0 T v x) (hb : Below x.heap.size x y) : UTup F X0 T v y := by
  obtain ⟨A2, c2, B, d, h1, h2, h3, h4, h5, h6⟩ := h
  exact ⟨A2, c2, B, d, h1, h2, h3.upU (fun b hb => Nat.lt_of_lt_of_le (hF b hb) h6) hb, h4, h5.upU (fun _ h => h.elim) hb, Nat.le_trans h6 hb.size⟩
theorem UTup.st {F : Nat → Prop} {X0 x y : World} {T : (N × Bool) × List Int} {v : Value} {g : Nat} (hF : ∀ b, F b → b < X0.heap.size) (h : UTup F X0 T v x) (hg : x.grownBy y (some g)) (hg1 : g < X0.heap.size) (hg2 : ¬ F g) : UTup F X0 T v y := by
  obtain ⟨A2, c2, B, d, h1, h2, h3, h4, h5, h6⟩ := h
  exact ⟨A2, c2, B, d, h1, h2, h3.stU (fun b hb => Nat.lt_of_lt_of_le (hF b hb) h6) hg hg1 hg2, h4, h5.stU (fun _ h => h.elim) hg hg1 id, Nat.le_trans h6 hg.size⟩
theorem UNet.up {F : Nat → Prop} {X0 x y : World} {k : N × Bool} {v : Value} (hF : ∀ b, F b → b < X0.heap.size) (h : UNet F X0 k v x) (hb : Below x.heap.size x y) : UNet F X0 k v y := by
  obtain ⟨A2, c2, h1, h2, h3, h6⟩ := h
  exact ⟨A2, c2, h1, h2, h3.upU (fun b hb => Nat.lt_of_lt_of_le (hF b hb) h6) hb, Nat.le_trans h6 hb.size⟩
theorem UNet.st {F : Nat → Prop} {X0 x y : World} {k : N × Bool} {v : Value} {g : Nat} (hF : ∀ b, F b → b < X0.heap.size) (h : UNet F X0 k v x) (hg : x.grownBy y (some g)) (hg1 : g < X0.heap.size) (hg2 : ¬ F g) : UNet F X0 k v y := by
  obtain ⟨A2, c2, h1, h2, h3, h6⟩ := h
  exact ⟨A2, c2, h1, h2, h3.stU (fun b hb => Nat.lt_of_lt_of_le (hF b hb) h6) hg hg1 hg2, Nat.le_trans h6 hg.size⟩
/-- What is so while the answer is laid. -/
def UnI (F : Nat → Prop) (w X0 : World) (k : N × Bool) (A : Option Addr) (c : Nat) (k2 : N × Bool) (done : Bool) (x : World) : Prop :=
  Below w.heap.size w x ∧ x.heap[w.heap.size]? = some (.cells #[.int .i64 k.1.ins, .slice A k.1.gs.length c, .bool k.2] 68 (0, 0)) ∧ (done = false → x.heap[w.heap.size + 1]? = some (.cells #[.int .i64 0, .slice none 0 0, .bool false] 68 (0, 0))) ∧ (done = true → ∃ A2 c2, x.heap[w.heap.size + 1]? = some (.cells #[.int .i64 k2.1.ins, .slice A2 k2.1.gs.length c2, .bool k2.2] 68 (0, 0)) ∧ (A2 = none → k2.1.gs.length = 0) ∧ Lay.gate.Sl x (GU F X0 x) A2 k2.1.gs) ∧ Lay.gate.Sl x F A k.1.gs ∧ X0.heap.size ≤ x.heap.size
theorem UnI.up {F : Nat → Prop} {w X0 x y : World} {k : N × Bool} {A : Option Addr} {c : Nat} {k2 : N × Bool} {done : Bool} (hF : ∀ b, F b → b < w.heap.size) (h : UnI F w X0 k A c k2 done x) (hb : Below x.heap.size x y) : UnI F w X0 k A c k2 done y := by
  obtain ⟨h1, h2, h3, h4, h5, h6⟩ := h
  have hF2 : ∀ b, F b → b < x.heap.size := fun b hb' => by have := hF b hb'; have := lt_of_block h2; omega
  refine ⟨bthen h1 hb, (hb.block _ (lt_of_block h2)).trans h2, fun hd => (hb.block _ (lt_of_block (h3 hd))).trans (h3 hd), fun hd => ?_, h5.below hb hF2, Nat.le_trans h6 hb.size⟩
  obtain ⟨A2, c2, g1, g2, g3⟩ := h4 hd
  exact ⟨A2, c2, (hb.block _ (lt_of_block g1)).trans g1, g2, g3.upU hF2 hb⟩
theorem UnI.st {F : Nat → Prop} {w X0 x : World} {k : N × Bool} {A : Option Addr} {c : Nat} {k2 : N × Bool} {A2 : Option Addr} {c2 : Nat} (hF : ∀ b, F b → b < w.heap.size) (hX : w.heap.size + 1 < X0.heap.size) (h : UnI F w X0 k A c k2 false x) (hs : Lay.gate.Sl x (GU F X0 x) A2 k2.1.gs) (hn : A2 = none → k2.1.gs.length = 0) :
    UnI F w X0 k A c k2 true (st3 x (w.heap.size + 1) (.int .i64 k2.1.ins) (.slice A2 k2.1.gs.length c2) (.bool k2.2)) ∧ x.grownBy (st3 x (w.heap.size + 1) (.int .i64 k2.1.ins) (.slice A2 k2.1.gs.length c2) (.bool k2.2)) (some (w.heap.size + 1)) := by
  obtain ⟨h1, h2, h3, h4, h5, h6⟩ := h
  have hgr : x.grownBy (st3 x (w.heap.size + 1) (.int .i64 k2.1.ins) (.slice A2 k2.1.gs.length c2) (.bool k2.2)) (some (w.heap.size + 1)) := only_setCell (only_setCell (only_setCell (World.grownBy.refl _ _) _ _) _ _) _ _
  have hF2 : ∀ b, F b → b < x.heap.size := fun b hb' => by have := hF b hb'; have := lt_of_block h2; omega
  have hng : ¬ F (w.heap.size + 1) := fun h9 => by have := hF _ h9; omega
  exact ⟨⟨st3_below h1 (by omega) _ _ _, (st3_other (by omega)).trans h2, fun h => (by cases h), fun _ => ⟨A2, c2, st3_same (h3 rfl) _ _ _, hn, hs.stU hF2 hgr hX hng⟩, st3_sl h5 (fun b hb e => hng (by rw [e] at hb; exact hb)) _ _ _, by rw [st3_size]; exact h6⟩, hgr⟩
set_option maxRecDepth 100000 in
set_option maxHeartbeats 4000000 in
theorem l7Un_any (F : Nat → Prop) (A : Option Addr) (c : Nat) (k : N × Bool) (op : Int) (X : Option Addr) (cx : Nat) (xs : List Int) (w : World) (h : Lay.gate.Sl w F A k.1.gs) (hF : ∀ b, F b → b < w.heap.size) (hA : A = none → k.1.gs.length = 0) (hnb : NB k.1) (hop : op = 1 ∨ op = 2) (hX : Lay.int.Rd w X xs) (hxm : ∀ x ∈ xs, RB x) (hn : xs.length ≤ 500) :
    Calls Tryd.prog 68 #[.agg #[.int .i64 k.1.ins, .slice A k.1.gs.length c, .bool k.2], .int .i64 op, .slice X xs.length cx] w (RetKL F w (run opsR (unP op xs) k)) := by
  obtain ⟨hW, hB0, hB1, hWS⟩ := two_boxes w (.cells #[.int .i64 k.1.ins, .slice A k.1.gs.length c, .bool k.2] 68) (.cells #[.int .i64 0, .slice none 0 0, .bool false] 68)
  have HF := Lib.hid hF
  have HNB := Lib.hid hnb
  have HXM := Lib.hid hxm
  have HNIL := Lib.hid hA
  have HX := Lib.hid (hX.up hW)
  have HUN := Lib.hid (show ∀ k2, UnI F w ((w.alloc (.cells #[.int .i64 k.1.ins, .slice A k.1.gs.length c, .bool k.2] 68)).alloc (.cells #[.int .i64 0, .slice none 0 0, .bool false] 68)) k A c k2 false ((w.alloc (.cells #[.int .i64 k.1.ins, .slice A k.1.gs.length c, .bool k.2] 68)).alloc (.cells #[.int .i64 0, .slice none 0 0, .bool false] 68)) from fun k2 => ⟨hW, hB0, fun _ => hB1, fun h => (by cases h), h.below hW hF, Nat.le_refl _⟩)
  have HXS := Lib.hid (show w.heap.size + 1 < ((w.alloc (.cells #[.int .i64 k.1.ins, .slice A k.1.gs.length c, .bool k.2] 68)).alloc (.cells #[.int .i64 0, .slice none 0 0, .bool false] 68)).heap.size by rw [hWS]; omega)
  have HFX := Lib.hid (show ∀ b, F b → b < ((w.alloc (.cells #[.int .i64 k.1.ins, .slice A k.1.gs.length c, .bool k.2] 68)).alloc (.cells #[.int .i64 0, .slice none 0 0, .bool false] 68)).heap.size from fun b hb => by have := hF b hb; rw [hWS]; omega)
  have HXB : Hid (∀ x, Below w.heap.size w x → Lay.int.Rd x X xs) := Lib.hid fun x hx => hX.up hx
  clear h hF hA hnb hX hxm hW hB0 hB1 hWS
  have HNG : Hid (¬ F (w.heap.size + 1)) := Lib.hid fun h9 => by have := HF.out _ h9; omega
  have HNR : Hid (∀ m ∈ xs.map Neg.neg, RB m) := Lib.hid fun m hm => by
    obtain ⟨x, hx, rfl⟩ := List.mem_map.1 hm
    exact (HXM.out x hx).neg
  rcases hop with rfl | rfl
  · rw [show run opsR (unP 1 xs) k = (k, xs.map Neg.neg) from rfl]
    have HTU := Lib.hid (fun (x9 : World) (h9 : Lay.int.Rd x9 X xs) => l7Turn_any X cx xs x9 h9 HXM.out hn)
    generalize hns : xs.map Neg.neg = ns at *
    clear hns
    have HUN := Lib.hid (HUN.out k)
    go_enter Tryd.func68, Tryd.ntmps68
    go_wp2
    generalize hX0 : (w.alloc (.cells #[.int .i64 k.1.ins, .slice A k.1.gs.length c, .bool k.2] 68)).alloc (.cells #[.int .i64 0, .slice none 0 0, .bool false] 68) = X0 at *
    clear hX0
    have HBX : Hid (∀ x b, UnI F w X0 k A c k b x → Lay.int.Rd x X xs) := Lib.hid fun x b hx => HXB.out x hx.1
    refine wp_region_rel4 [[], [], [(1, 11)], [(0, 10)], [(2, 12)]]
      (fun x9 y9 => Below x9.heap.size x9 y9)
      [(3, fun x9 y9 => x9.grownBy y9 (some (w.heap.size + 1)))]
      (fun f9 x9 => UnI F w X0 k A c k (f9 3) x9)
      [fun vs9 _ => vs9 0 = (.agg #[.int .i64 k.1.ins, .slice A k.1.gs.length c, .bool k.2]),
        fun vs9 _ => vs9 1 = (.slice X xs.length cx),
        fun vs9 y9 => (fun v z => URow X0 ns v z) (vs9 2) y9,
        fun _ _ => True,
        fun vs9 y9 => (fun v z => URow X0 ns v z) (vs9 4) y9]
      [(0, 10), (1, 11), (2, 12), (4, 7)] (by kernel_rfl) (by kernel_rfl) (by kernel_rfl) (by kernel_rfl)
      (fun _ => Below.refl _ _) ⟨fun _ => World.grownBy.refl _ _, trivial⟩
      ⟨⟨.inr (fun _ _ _ h _ => h), ⟨.inr (.inr (fun _ _ _ h _ => h)), trivial⟩⟩,
        ⟨.inr (fun _ _ _ h _ => h), ⟨.inr (.inr (fun _ _ _ h _ => h)), trivial⟩⟩,
        ⟨.inr (fun vs9 x9 y9 h9 hR9 => (show ∀ v9 y8 y7, (fun v z => URow X0 ns v z) v9 y8 → (fun x9 y9 => Below x9.heap.size x9 y9) y8 y7 → (fun v z => URow X0 ns v z) v9 y7 from fun _ _ _ h9 hR => h9.up hR) (vs9 2) x9 y9 h9 hR9), ⟨.inr (.inr (fun vs9 x9 y9 h9 hR9 => (show ∀ v9 y8 y7, (fun v z => URow X0 ns v z) v9 y8 → (fun x9 y9 => x9.grownBy y9 (some (w.heap.size + 1))) y8 y7 → (fun v z => URow X0 ns v z) v9 y7 from fun _ _ _ h9 hR => h9.st hR HXS.out) (vs9 2) x9 y9 h9 hR9)), trivial⟩⟩,
        ⟨.inr (fun _ _ _ h _ => h), ⟨.inr (.inl rfl), trivial⟩⟩,
        ⟨.inr (fun vs9 x9 y9 h9 hR9 => (show ∀ v9 y8 y7, (fun v z => URow X0 ns v z) v9 y8 → (fun x9 y9 => Below x9.heap.size x9 y9) y8 y7 → (fun v z => URow X0 ns v z) v9 y7 from fun _ _ _ h9 hR => h9.up hR) (vs9 4) x9 y9 h9 hR9), ⟨.inr (.inr (fun vs9 x9 y9 h9 hR9 => (show ∀ v9 y8 y7, (fun v z => URow X0 ns v z) v9 y8 → (fun x9 y9 => x9.grownBy y9 (some (w.heap.size + 1))) y8 y7 → (fun v z => URow X0 ns v z) v9 y7 from fun _ _ _ h9 hR => h9.st hR HXS.out) (vs9 4) x9 y9 h9 hR9)), trivial⟩⟩, trivial⟩ ⟨fun vs vs' x h _ hv => (by dsimp only at hv ⊢; first | (rw [← h]; exact hv) | exact hv),
        fun vs vs' x h _ hv => (by dsimp only at hv ⊢; first | (rw [← h]; exact hv) | exact hv),
        fun vs vs' x h _ hv => (by dsimp only at hv ⊢; first | (rw [← h]; exact hv) | exact hv),
        fun _ _ _ _ _ _ => trivial,
        fun vs vs' x h _ hv => (by dsimp only at hv ⊢; first | (rw [← h]; exact hv) | exact hv), trivial⟩ (HUN.out.up HF.out (below_drewN (Below.refl _ _) 1)) ⟨?_, ?_, ?_, ?_, ?_, trivial⟩ ?_
    · intro vals xw f hf1 hf2 hf3 hI hF
      clear hf2 hf3
      dsimp only [owes4, bare]
      simp only [putsD, Act.put, List.setIfInBounds_toArray, List.set_cons_zero, List.set_cons_succ]
      have hv9 := hI.2.1
      have y0 := (cell_of_block hv9 0).1
      have y1 := (cell_of_block hv9 1).1
      have y2 := (cell_of_block hv9 2).1
      go_wp2
      exact ⟨rfl, rfl, ⟨fun h9 => absurd h9 (Nat.ne_of_beq_eq_false rfl), fun _ => Below.refl _ _⟩, hI⟩
    · intro vals xw f hf1 hf2 hf3 hI hF
      clear hf2 hf3
      dsimp only [owes4, bare]
      simp only [putsD, Act.put, List.setIfInBounds_toArray, List.set_cons_zero, List.set_cons_succ]
      go_wp2
      exact ⟨rfl, rfl, ⟨fun h9 => absurd h9 (Nat.ne_of_beq_eq_false rfl), fun _ => Below.refl _ _⟩, hI⟩
    · intro vals xw f hf1 hf2 hf3 hI hF
      clear hf2 hf3
      simp only [saysD, List.getD_cons_zero, List.getD_cons_succ, and_true] at hF
      have e1 := hF
      dsimp only [owes4, bare]
      simp only [putsD, Act.put, List.setIfInBounds_toArray, List.set_cons_zero, List.set_cons_succ]
      simp only [e1]
      have HI := Lib.hid hI
      have hb0 := HBX.out xw _ hI
      have HB0 := Lib.hid hb0
      have hsz9 := hI.2.2.2.2.2
      clear hI hb0
      go_wp2_with fail
      refine (HTU.out xw HB0.out).mono ?_
      rintro e wx ⟨B9, d9, rfl, h2, h3, h4⟩
      have H3 := Lib.hid h3
      have H4 := Lib.hid h4
      clear h3 h4
      go_wp2
      exact ⟨rfl, ⟨B9, d9, rfl, h2, H3.out.mono fun b hb => .inr ⟨Nat.le_trans hsz9 hb.1, hb.2.1⟩⟩, ⟨fun h9 => absurd h9 (Nat.ne_of_beq_eq_false rfl), fun _ => H4.out⟩, HI.out.up HF.out H4.out⟩
    · intro vals xw f hf1 hf2 hf3 hI hF
      clear hf2 hf3
      simp only [saysD, List.getD_cons_zero, List.getD_cons_succ, and_true] at hF
      have e1 := hF
      dsimp only [owes4, bare]
      simp only [putsD, Act.put, List.setIfInBounds_toArray, List.set_cons_zero, List.set_cons_succ]
      simp only [e1]
      rw [hf1] at hI
      have HI := Lib.hid hI
      have hr9 := hI.2.2.1 rfl
      have r0 := (cell_of_block hr9 0).1
      have r1 := (cell_of_block hr9 1).1
      have r2 := (cell_of_block hr9 2).1
      have rf0 := (cell_of_block hr9 0).2
      have rf1 := (cell_of_block hr9 1).2
      have rf2 := (cell_of_block hr9 2).2
      have H3 := Lib.hid (show Lay.gate.Sl xw (GU F X0 xw) A k.1.gs from hI.2.2.2.2.1.mono fun _ => .inl)
      clear hI hr9
      go_wp2
      have hst := HI.out.st (A2 := A) (c2 := c) HF.out HXS.out H3.out HNIL.out
      exact ⟨rfl, trivial, ⟨fun _ => hst.2, fun h9 => absurd rfl h9⟩, show UnI F w X0 k A c k (did f 3 3) _ from (by rw [did_same]; exact hst.1)⟩
    · intro vals xw f hf1 hf2 hf3 hI hF
      clear hf2 hf3
      simp only [saysD, List.getD_cons_zero, List.getD_cons_succ, and_true] at hF
      obtain ⟨B9, d9, e1, h2, h3⟩ := hF
      dsimp only [owes4, bare]
      simp only [putsD, Act.put, List.setIfInBounds_toArray, List.set_cons_zero, List.set_cons_succ]
      simp only [e1]
      go_wp2
      exact ⟨rfl, ⟨B9, d9, rfl, h2, h3⟩, ⟨fun h9 => absurd h9 (Nat.ne_of_beq_eq_false rfl), fun _ => Below.refl _ _⟩, hI⟩
    · intro vals xw f hall hI hF
      rw [show List.range _ = [0, 1, 2, 3, 4] from rfl] at hF
      simp only [says, List.getD_cons_zero, List.getD_cons_succ, and_true] at hF
      have i9 : UnI F w X0 k A c k (f 3) xw := hI
      rw [hall 3 (by decide)] at i9
      obtain ⟨i1, i2, _, i4, i5, i6⟩ := i9
      obtain ⟨A8, c8, g1, g2, g3⟩ := i4 rfl
      have hrow : URow X0 ns (vals 4) xw := by obtain ⟨_, _, _, _, h9⟩ := hF; exact h9
      obtain ⟨B8, d8, e8, hd8, hs8⟩ := hrow
      simp only [putsD, Act.put, List.setIfInBounds_toArray, List.set_cons_zero, List.set_cons_succ]
      simp only [e8]
      have k5 := (cell_of_block g1 0).1
      have k6 := (cell_of_block g1 1).1
      have k7 := (cell_of_block g1 2).1
      have kf5 := (cell_of_block g1 0).2
      have kf6 := (cell_of_block g1 1).2
      have kf7 := (cell_of_block g1 2).2
      have I1 := Lib.hid i1
      have G3 := Lib.hid g3
      have HS8 := Lib.hid hs8
      clear hI hF i1 i2 i4 i5 g1 g3 hs8 e8
      go_wp2
      refine bodyPost_ret (v := .tuple #[.agg #[.int .i64 k.1.ins, .slice A8 k.1.gs.length c8, .bool k.2], .slice B8 (ns).length d8]) (by simp [results, Tryd.results68, go_sem, k5, k6, k7, kf5, kf6, kf7]) rfl ?_
      exact ⟨A8, c8, B8, d8, rfl, g2, G3.out.mono fun b hb => hb.imp id fun h9 => ⟨by have := HXS.out; omega, h9.2⟩, hd8, HS8.out.mono fun b hb => hb.elim (fun h => h.elim) fun h9 => ⟨by have := HXS.out; omega, h9.2⟩, HNR.out, I1.out⟩
  · have HADD := Lib.hid (fun (A9 : Option Addr) (c9 : Nat) (X9 Y9 : Option Addr) (cx9 cy9 : Nat) (x9 : World) (h1 : Lay.gate.Sl x9 F A9 k.1.gs) (h2 : ∀ b, F b → b < x9.heap.size) (h3 : A9 = none → k.1.gs.length = 0) (h4 : Lay.int.Rd x9 X9 (List.replicate xs.length (-1 : Int))) (h5 : Lay.int.Rd x9 Y9 (xs.map Neg.neg)) => l7Add_any F A9 c9 k 1 X9 Y9 cx9 cy9 (List.replicate xs.length (-1 : Int)) (xs.map Neg.neg) x9 h1 h2 h3 HNB.out (by unfold RB; omega) h4 h5 (fun x hx => by rw [List.eq_of_mem_replicate hx]; unfold RB; omega) HNR.out (by simp) (by simp; omega))
    have HTU := Lib.hid (fun (x9 : World) (h9 : Lay.int.Rd x9 X xs) => l7Turn_any X cx xs x9 h9 HXM.out hn)
    have HFI := Lib.hid (fun (x9 : World) => l7Fill_any (-1) xs.length x9 hn)
    rw [show unP 2 xs = sumP (List.replicate xs.length (-1 : Int)) (xs.map Neg.neg) 1 from rfl]
    generalize hT : run opsR (sumP (List.replicate xs.length (-1 : Int)) (xs.map Neg.neg) 1) k = T at *
    clear hT
    have HRL := Lib.hid (show (List.replicate xs.length (-1 : Int)).length = xs.length by simp)
    have HNL := Lib.hid (show (xs.map Neg.neg).length = xs.length by simp)
    generalize hrs : (List.replicate xs.length (-1 : Int)) = rs at *
    generalize hns : (xs.map Neg.neg) = ns at *
    clear hrs hns
    have HUN := Lib.hid (HUN.out T.1)
    go_enter Tryd.func68, Tryd.ntmps68
    go_wp2
    generalize hX0 : (w.alloc (.cells #[.int .i64 k.1.ins, .slice A k.1.gs.length c, .bool k.2] 68)).alloc (.cells #[.int .i64 0, .slice none 0 0, .bool false] 68) = X0 at *
    clear hX0
    have HBX : Hid (∀ x b, UnI F w X0 k A c T.1 b x → Lay.int.Rd x X xs) := Lib.hid fun x b hx => HXB.out x hx.1
    refine wp_region_rel4 [[], [], [(1, 14)], [(2, 15)], [], [(4, 17)], [(0, 13), (3, 16), (5, 18)], [(6, 19)], [(6, 19)], [(7, 20)], [(8, 21)]]
      (fun x9 y9 => Below x9.heap.size x9 y9)
      [(9, fun x9 y9 => x9.grownBy y9 (some (w.heap.size + 1)))]
      (fun f9 x9 => UnI F w X0 k A c T.1 (f9 9) x9)
      [fun vs9 _ => vs9 0 = (.agg #[.int .i64 k.1.ins, .slice A k.1.gs.length c, .bool k.2]),
        fun vs9 _ => vs9 1 = (.slice X xs.length cx),
        fun vs9 _ => vs9 2 = (.int .i64 (xs.length : Int)),
        fun vs9 y9 => (fun v z => URow X0 rs v z) (vs9 3) y9,
        fun vs9 _ => vs9 4 = (.slice X xs.length cx),
        fun vs9 y9 => (fun v z => URow X0 ns v z) (vs9 5) y9,
        fun vs9 y9 => (fun v z => UTup F X0 T v z ∧ ∀ m ∈ T.2, RB m) (vs9 6) y9,
        fun vs9 y9 => (fun v z => UNet F X0 T.1 v z) (vs9 7) y9,
        fun vs9 y9 => (fun v z => URow X0 T.2 v z ∧ ∀ m ∈ T.2, RB m) (vs9 8) y9,
        fun _ _ => True,
        fun vs9 y9 => (fun v z => URow X0 T.2 v z ∧ ∀ m ∈ T.2, RB m) (vs9 10) y9]
      [(0, 13), (1, 14), (2, 15), (3, 16), (4, 17), (5, 18), (6, 19), (7, 20), (8, 21), (10, 7)] (by kernel_rfl) (by kernel_rfl) (by kernel_rfl) (by kernel_rfl)
      (fun _ => Below.refl _ _) ⟨fun _ => World.grownBy.refl _ _, trivial⟩
      ⟨⟨.inr (fun _ _ _ h _ => h), ⟨.inr (.inr (fun _ _ _ h _ => h)), trivial⟩⟩,
        ⟨.inr (fun _ _ _ h _ => h), ⟨.inr (.inr (fun _ _ _ h _ => h)), trivial⟩⟩,
        ⟨.inr (fun _ _ _ h _ => h), ⟨.inr (.inr (fun _ _ _ h _ => h)), trivial⟩⟩,
        ⟨.inr (fun vs9 x9 y9 h9 hR9 => (show ∀ v9 y8 y7, (fun v z => URow X0 rs v z) v9 y8 → (fun x9 y9 => Below x9.heap.size x9 y9) y8 y7 → (fun v z => URow X0 rs v z) v9 y7 from fun _ _ _ h9 hR => h9.up hR) (vs9 3) x9 y9 h9 hR9), ⟨.inr (.inr (fun vs9 x9 y9 h9 hR9 => (show ∀ v9 y8 y7, (fun v z => URow X0 rs v z) v9 y8 → (fun x9 y9 => x9.grownBy y9 (some (w.heap.size + 1))) y8 y7 → (fun v z => URow X0 rs v z) v9 y7 from fun _ _ _ h9 hR => h9.st hR HXS.out) (vs9 3) x9 y9 h9 hR9)), trivial⟩⟩,
        ⟨.inr (fun _ _ _ h _ => h), ⟨.inr (.inr (fun _ _ _ h _ => h)), trivial⟩⟩,
        ⟨.inr (fun vs9 x9 y9 h9 hR9 => (show ∀ v9 y8 y7, (fun v z => URow X0 ns v z) v9 y8 → (fun x9 y9 => Below x9.heap.size x9 y9) y8 y7 → (fun v z => URow X0 ns v z) v9 y7 from fun _ _ _ h9 hR => h9.up hR) (vs9 5) x9 y9 h9 hR9), ⟨.inr (.inr (fun vs9 x9 y9 h9 hR9 => (show ∀ v9 y8 y7, (fun v z => URow X0 ns v z) v9 y8 → (fun x9 y9 => x9.grownBy y9 (some (w.heap.size + 1))) y8 y7 → (fun v z => URow X0 ns v z) v9 y7 from fun _ _ _ h9 hR => h9.st hR HXS.out) (vs9 5) x9 y9 h9 hR9)), trivial⟩⟩,
        ⟨.inr (fun vs9 x9 y9 h9 hR9 => (show ∀ v9 y8 y7, (fun v z => UTup F X0 T v z ∧ ∀ m ∈ T.2, RB m) v9 y8 → (fun x9 y9 => Below x9.heap.size x9 y9) y8 y7 → (fun v z => UTup F X0 T v z ∧ ∀ m ∈ T.2, RB m) v9 y7 from fun _ _ _ h9 hR => ⟨h9.1.up HFX.out hR, h9.2⟩) (vs9 6) x9 y9 h9 hR9), ⟨.inr (.inr (fun vs9 x9 y9 h9 hR9 => (show ∀ v9 y8 y7, (fun v z => UTup F X0 T v z ∧ ∀ m ∈ T.2, RB m) v9 y8 → (fun x9 y9 => x9.grownBy y9 (some (w.heap.size + 1))) y8 y7 → (fun v z => UTup F X0 T v z ∧ ∀ m ∈ T.2, RB m) v9 y7 from fun _ _ _ h9 hR => ⟨h9.1.st HFX.out hR HXS.out HNG.out, h9.2⟩) (vs9 6) x9 y9 h9 hR9)), trivial⟩⟩,
        ⟨.inr (fun vs9 x9 y9 h9 hR9 => (show ∀ v9 y8 y7, (fun v z => UNet F X0 T.1 v z) v9 y8 → (fun x9 y9 => Below x9.heap.size x9 y9) y8 y7 → (fun v z => UNet F X0 T.1 v z) v9 y7 from fun _ _ _ h9 hR => h9.up HFX.out hR) (vs9 7) x9 y9 h9 hR9), ⟨.inr (.inr (fun vs9 x9 y9 h9 hR9 => (show ∀ v9 y8 y7, (fun v z => UNet F X0 T.1 v z) v9 y8 → (fun x9 y9 => x9.grownBy y9 (some (w.heap.size + 1))) y8 y7 → (fun v z => UNet F X0 T.1 v z) v9 y7 from fun _ _ _ h9 hR => h9.st HFX.out hR HXS.out HNG.out) (vs9 7) x9 y9 h9 hR9)), trivial⟩⟩,
        ⟨.inr (fun vs9 x9 y9 h9 hR9 => (show ∀ v9 y8 y7, (fun v z => URow X0 T.2 v z ∧ ∀ m ∈ T.2, RB m) v9 y8 → (fun x9 y9 => Below x9.heap.size x9 y9) y8 y7 → (fun v z => URow X0 T.2 v z ∧ ∀ m ∈ T.2, RB m) v9 y7 from fun _ _ _ h9 hR => ⟨h9.1.up hR, h9.2⟩) (vs9 8) x9 y9 h9 hR9), ⟨.inr (.inr (fun vs9 x9 y9 h9 hR9 => (show ∀ v9 y8 y7, (fun v z => URow X0 T.2 v z ∧ ∀ m ∈ T.2, RB m) v9 y8 → (fun x9 y9 => x9.grownBy y9 (some (w.heap.size + 1))) y8 y7 → (fun v z => URow X0 T.2 v z ∧ ∀ m ∈ T.2, RB m) v9 y7 from fun _ _ _ h9 hR => ⟨h9.1.st hR HXS.out, h9.2⟩) (vs9 8) x9 y9 h9 hR9)), trivial⟩⟩,
        ⟨.inr (fun _ _ _ h _ => h), ⟨.inr (.inl rfl), trivial⟩⟩,
        ⟨.inr (fun vs9 x9 y9 h9 hR9 => (show ∀ v9 y8 y7, (fun v z => URow X0 T.2 v z ∧ ∀ m ∈ T.2, RB m) v9 y8 → (fun x9 y9 => Below x9.heap.size x9 y9) y8 y7 → (fun v z => URow X0 T.2 v z ∧ ∀ m ∈ T.2, RB m) v9 y7 from fun _ _ _ h9 hR => ⟨h9.1.up hR, h9.2⟩) (vs9 10) x9 y9 h9 hR9), ⟨.inr (.inr (fun vs9 x9 y9 h9 hR9 => (show ∀ v9 y8 y7, (fun v z => URow X0 T.2 v z ∧ ∀ m ∈ T.2, RB m) v9 y8 → (fun x9 y9 => x9.grownBy y9 (some (w.heap.size + 1))) y8 y7 → (fun v z => URow X0 T.2 v z ∧ ∀ m ∈ T.2, RB m) v9 y7 from fun _ _ _ h9 hR => ⟨h9.1.st hR HXS.out, h9.2⟩) (vs9 10) x9 y9 h9 hR9)), trivial⟩⟩, trivial⟩ ⟨fun vs vs' x h _ hv => (by dsimp only at hv ⊢; first | (rw [← h]; exact hv) | exact hv),
        fun vs vs' x h _ hv => (by dsimp only at hv ⊢; first | (rw [← h]; exact hv) | exact hv),
        fun vs vs' x h _ hv => (by dsimp only at hv ⊢; first | (rw [← h]; exact hv) | exact hv),
        fun vs vs' x h _ hv => (by dsimp only at hv ⊢; first | (rw [← h]; exact hv) | exact hv),
        fun vs vs' x h _ hv => (by dsimp only at hv ⊢; first | (rw [← h]; exact hv) | exact hv),
        fun vs vs' x h _ hv => (by dsimp only at hv ⊢; first | (rw [← h]; exact hv) | exact hv),
        fun vs vs' x h _ hv => (by dsimp only at hv ⊢; first | (rw [← h]; exact hv) | exact hv),
        fun vs vs' x h _ hv => (by dsimp only at hv ⊢; first | (rw [← h]; exact hv) | exact hv),
        fun vs vs' x h _ hv => (by dsimp only at hv ⊢; first | (rw [← h]; exact hv) | exact hv),
        fun _ _ _ _ _ _ => trivial,
        fun vs vs' x h _ hv => (by dsimp only at hv ⊢; first | (rw [← h]; exact hv) | exact hv), trivial⟩ (HUN.out.up HF.out (below_drewN (Below.refl _ _) 1)) ⟨?_, ?_, ?_, ?_, ?_, ?_, ?_, ?_, ?_, ?_, ?_, trivial⟩ ?_
    · intro vals xw f hf1 hf2 hf3 hI hF
      clear hf2 hf3
      dsimp only [owes4, bare]
      simp only [putsD, Act.put, List.setIfInBounds_toArray, List.set_cons_zero, List.set_cons_succ]
      have hv9 := hI.2.1
      have y0 := (cell_of_block hv9 0).1
      have y1 := (cell_of_block hv9 1).1
      have y2 := (cell_of_block hv9 2).1
      go_wp2
      exact ⟨rfl, rfl, ⟨fun h9 => absurd h9 (Nat.ne_of_beq_eq_false rfl), fun _ => Below.refl _ _⟩, hI⟩
    · intro vals xw f hf1 hf2 hf3 hI hF
      clear hf2 hf3
      dsimp only [owes4, bare]
      simp only [putsD, Act.put, List.setIfInBounds_toArray, List.set_cons_zero, List.set_cons_succ]
      go_wp2
      exact ⟨rfl, rfl, ⟨fun h9 => absurd h9 (Nat.ne_of_beq_eq_false rfl), fun _ => Below.refl _ _⟩, hI⟩
    · intro vals xw f hf1 hf2 hf3 hI hF
      clear hf2 hf3
      simp only [saysD, List.getD_cons_zero, List.getD_cons_succ, and_true] at hF
      dsimp only [owes4, bare]
      simp only [putsD, Act.put, List.setIfInBounds_toArray, List.set_cons_zero, List.set_cons_succ]
      simp only [hF]
      go_wp2
      exact ⟨rfl, rfl, ⟨fun h9 => absurd h9 (Nat.ne_of_beq_eq_false rfl), fun _ => Below.refl _ _⟩, hI⟩
    · intro vals xw f hf1 hf2 hf3 hI hF
      clear hf2 hf3
      simp only [saysD, List.getD_cons_zero, List.getD_cons_succ, and_true] at hF
      have e1 := hF
      dsimp only [owes4, bare]
      simp only [putsD, Act.put, List.setIfInBounds_toArray, List.set_cons_zero, List.set_cons_succ]
      simp only [e1]
      have HI := Lib.hid hI
      have hb0 := HBX.out xw _ hI
      have HB0 := Lib.hid hb0
      have hsz9 := hI.2.2.2.2.2
      clear hI hb0
      go_wp2_with fail
      refine (HFI.out xw).mono ?_
      rintro e wx ⟨B9, d9, rfl, h2, h3, h4⟩
      have H3 := Lib.hid h3
      have H4 := Lib.hid h4
      clear h3 h4
      go_wp2
      exact ⟨rfl, ⟨B9, d9, rfl, h2, H3.out.mono fun b hb => .inr ⟨Nat.le_trans hsz9 hb.1, hb.2.1⟩⟩, ⟨fun h9 => absurd h9 (Nat.ne_of_beq_eq_false rfl), fun _ => H4.out⟩, HI.out.up HF.out H4.out⟩
    · intro vals xw f hf1 hf2 hf3 hI hF
      clear hf2 hf3
      dsimp only [owes4, bare]
      simp only [putsD, Act.put, List.setIfInBounds_toArray, List.set_cons_zero, List.set_cons_succ]
      go_wp2
      exact ⟨rfl, rfl, ⟨fun h9 => absurd h9 (Nat.ne_of_beq_eq_false rfl), fun _ => Below.refl _ _⟩, hI⟩
    · intro vals xw f hf1 hf2 hf3 hI hF
      clear hf2 hf3
      simp only [saysD, List.getD_cons_zero, List.getD_cons_succ, and_true] at hF
      have e1 := hF
      dsimp only [owes4, bare]
      simp only [putsD, Act.put, List.setIfInBounds_toArray, List.set_cons_zero, List.set_cons_succ]
      simp only [e1]
      have HI := Lib.hid hI
      have hb0 := HBX.out xw _ hI
      have HB0 := Lib.hid hb0
      have hsz9 := hI.2.2.2.2.2
      clear hI hb0
      go_wp2_with fail
      refine (HTU.out xw HB0.out).mono ?_
      rintro e wx ⟨B9, d9, rfl, h2, h3, h4⟩
      have H3 := Lib.hid h3
      have H4 := Lib.hid h4
      clear h3 h4
      go_wp2
      exact ⟨rfl, ⟨B9, d9, rfl, h2, H3.out.mono fun b hb => .inr ⟨Nat.le_trans hsz9 hb.1, hb.2.1⟩⟩, ⟨fun h9 => absurd h9 (Nat.ne_of_beq_eq_false rfl), fun _ => H4.out⟩, HI.out.up HF.out H4.out⟩
    · intro vals xw f hf1 hf2 hf3 hI hF
      clear hf2 hf3
      simp only [saysD, List.getD_cons_zero, List.getD_cons_succ, and_true] at hF
      obtain ⟨e1, ⟨B1, d1, e2, h2, h3⟩, ⟨B2, d2, e3, h4, h5⟩⟩ := hF
      dsimp only [owes4, bare]
      simp only [putsD, Act.put, List.setIfInBounds_toArray, List.set_cons_zero, List.set_cons_succ]
      simp only [e1, e2, e3]
      have HI := Lib.hid hI
      have hsz9 := hI.2.2.2.2.2
      have HC := Lib.hid (HADD.out A c B1 B2 d1 d2 xw hI.2.2.2.2.1 (fun b hb => Nat.lt_of_lt_of_le (HFX.out b hb) hsz9) HNIL.out (h3.mono fun b hb => hb.elim (fun h => h.elim) (fun h => h.2)) (h5.mono fun b hb => hb.elim (fun h => h.elim) (fun h => h.2)))
      clear hI h3 h5
      go_wp2_with fail
      refine HC.out.mono ?_
      rintro e wx ⟨A9, c9, B9, d9, rfl, h6, h7, h8, h9, h10, h11⟩
      have H7 := Lib.hid h7
      have H9 := Lib.hid h9
      have H10 := Lib.hid h10
      have H11 := Lib.hid h11
      clear h7 h9 h10 h11 HC
      go_wp2
      exact ⟨rfl, ⟨⟨A9, c9, B9, d9, rfl, h6, H7.out.mono fun b hb => hb.imp id fun z => ⟨Nat.le_trans hsz9 z.1, z.2⟩, h8, H9.out.mono fun b hb => .inr ⟨Nat.le_trans hsz9 hb.1, hb.2⟩, Nat.le_trans hsz9 H11.out.size⟩, H10.out⟩, ⟨fun h9 => absurd h9 (Nat.ne_of_beq_eq_false rfl), fun _ => H11.out⟩, HI.out.up HF.out H11.out⟩
    · intro vals xw f hf1 hf2 hf3 hI hF
      clear hf2 hf3
      simp only [saysD, List.getD_cons_zero, List.getD_cons_succ, and_true] at hF
      obtain ⟨⟨A9, c9, B9, d9, e1, h2, h3, h4, h5, h6⟩, -⟩ := hF
      dsimp only [owes4, bare]
      simp only [putsD, Act.put, List.setIfInBounds_toArray, List.set_cons_zero, List.set_cons_succ]
      simp only [e1]
      go_wp2
      exact ⟨rfl, ⟨A9, c9, rfl, h2, h3, h6⟩, ⟨fun h9 => absurd h9 (Nat.ne_of_beq_eq_false rfl), fun _ => Below.refl _ _⟩, hI⟩
    · intro vals xw f hf1 hf2 hf3 hI hF
      clear hf2 hf3
      simp only [saysD, List.getD_cons_zero, List.getD_cons_succ, and_true] at hF
      obtain ⟨⟨A9, c9, B9, d9, e1, h2, h3, h4, h5, h6⟩, h7⟩ := hF
      dsimp only [owes4, bare]
      simp only [putsD, Act.put, List.setIfInBounds_toArray, List.set_cons_zero, List.set_cons_succ]
      simp only [e1]
      go_wp2
      exact ⟨rfl, ⟨⟨B9, d9, rfl, h4, h5⟩, h7⟩, ⟨fun h9 => absurd h9 (Nat.ne_of_beq_eq_false rfl), fun _ => Below.refl _ _⟩, hI⟩
    · intro vals xw f hf1 hf2 hf3 hI hF
      clear hf2 hf3
      simp only [saysD, List.getD_cons_zero, List.getD_cons_succ, and_true] at hF
      obtain ⟨A9, c9, e1, h2, h3, h4⟩ := hF
      dsimp only [owes4, bare]
      simp only [putsD, Act.put, List.setIfInBounds_toArray, List.set_cons_zero, List.set_cons_succ]
      simp only [e1]
      rw [hf1] at hI
      have HI := Lib.hid hI
      have hr9 := hI.2.2.1 rfl
      have r0 := (cell_of_block hr9 0).1
      have r1 := (cell_of_block hr9 1).1
      have r2 := (cell_of_block hr9 2).1
      have rf0 := (cell_of_block hr9 0).2
      have rf1 := (cell_of_block hr9 1).2
      have rf2 := (cell_of_block hr9 2).2
      have H3 := Lib.hid h3
      clear hI hr9 h3 h4
      go_wp2
      have hst := HI.out.st (A2 := A9) (c2 := c9) HF.out HXS.out H3.out h2
      exact ⟨rfl, trivial, ⟨fun _ => hst.2, fun h9 => absurd rfl h9⟩, show UnI F w X0 k A c T.1 (did f 9 9) _ from (by rw [did_same]; exact hst.1)⟩
    · intro vals xw f hf1 hf2 hf3 hI hF
      clear hf2 hf3
      simp only [saysD, List.getD_cons_zero, List.getD_cons_succ, and_true] at hF
      obtain ⟨⟨B9, d9, e1, h2, h3⟩, h7⟩ := hF
      dsimp only [owes4, bare]
      simp only [putsD, Act.put, List.setIfInBounds_toArray, List.set_cons_zero, List.set_cons_succ]
      simp only [e1]
      go_wp2
      exact ⟨rfl, ⟨⟨B9, d9, rfl, h2, h3⟩, h7⟩, ⟨fun h9 => absurd h9 (Nat.ne_of_beq_eq_false rfl), fun _ => Below.refl _ _⟩, hI⟩
    · intro vals xw f hall hI hF
      rw [show List.range _ = [0, 1, 2, 3, 4, 5, 6, 7, 8, 9, 10] from rfl] at hF
      simp only [says, List.getD_cons_zero, List.getD_cons_succ, and_true] at hF
      have i9 : UnI F w X0 k A c T.1 (f 9) xw := hI
      rw [hall 9 (by decide)] at i9
      obtain ⟨i1, i2, _, i4, i5, i6⟩ := i9
      obtain ⟨A8, c8, g1, g2, g3⟩ := i4 rfl
      have hrow9 : URow X0 T.2 (vals 10) xw ∧ ∀ m ∈ T.2, RB m := by obtain ⟨_, _, _, _, _, _, _, _, _, _, h9⟩ := hF; exact h9
      have HRB9 := Lib.hid hrow9.2
      obtain ⟨B8, d8, e8, hd8, hs8⟩ := hrow9.1
      clear hrow9
      simp only [putsD, Act.put, List.setIfInBounds_toArray, List.set_cons_zero, List.set_cons_succ]
      simp only [e8]
      have k5 := (cell_of_block g1 0).1
      have k6 := (cell_of_block g1 1).1
      have k7 := (cell_of_block g1 2).1
      have kf5 := (cell_of_block g1 0).2
      have kf6 := (cell_of_block g1 1).2
      have kf7 := (cell_of_block g1 2).2
      have I1 := Lib.hid i1
      have G3 := Lib.hid g3
      have HS8 := Lib.hid hs8
      clear hI hF i1 i2 i4 i5 g1 g3 hs8 e8
      go_wp2
      refine bodyPost_ret (v := .tuple #[.agg #[.int .i64 T.1.1.ins, .slice A8 T.1.1.gs.length c8, .bool T.1.2], .slice B8 (T.2).length d8]) (by simp [results, Tryd.results68, go_sem, k5, k6, k7, kf5, kf6, kf7]) rfl ?_
      exact ⟨A8, c8, B8, d8, rfl, g2, G3.out.mono fun b hb => hb.imp id fun h9 => ⟨by have := HXS.out; omega, h9.2⟩, hd8, HS8.out.mono fun b hb => hb.elim (fun h => h.elim) fun h9 => ⟨by have := HXS.out; omega, h9.2⟩, HRB9.out, I1.out⟩
end Go.Proofs.YtjghcaghigebjaaDoor

/-! The reference's BitsUn. -/
namespace Go.Proofs.YtjghcaghigebjaaDoor
open Go Go.RowKit

def bitsUnR (n : N) (op : Int) (xs : List Int) : N × List Int := bitsOk n (goodL n xs && opUn op) (unP op xs)
theorem sumP_len {σ : Type} {o : Ops σ} : ∀ (xs ys : List Int) (c : Int) (s : σ), xs.length = ys.length → (run o (sumP xs ys c) s).2.length = xs.length
  | [], [], _, _, _ => rfl
  | x :: xs, y :: ys, c, s, h => by
    simp only [sumP, run_bind, run, List.length_cons]
    rw [sumP_len xs ys _ _ (by simpa using h)]
  | [], _ :: _, _, _, h => by simp at h
  | _ :: _, [], _, _, h => by simp at h
theorem sumP_nb : ∀ (xs ys : List Int) (c : Int) (k : N × Bool), NB k.1 → RB c → (∀ x ∈ xs, RB x) → (∀ y ∈ ys, RB y) → NB (run opsR (sumP xs ys c) k).1.1
  | [], [], _, k, h, _, _, _ => h
  | x :: xs, y :: ys, c, k, h, hc, hx, hy => by
    have x0 := hx _ (.head _)
    have y0 := hy _ (.head _)
    have m := opsR_xor_nb (k := k) (x := x) (y := y) h x0 y0
    have u := opsR_xor_nb m.1 m.2 hc
    have p := opsR_and_nb u.1 x0 y0
    have q := opsR_and_nb p.1 m.2 hc
    have g := or_rb q.1 p.2 q.2
    simp only [sumP, run_bind, run]
    exact sumP_nb xs ys _ _ g.1 g.2 (fun z hz => hx z (.tail _ hz)) (fun z hz => hy z (.tail _ hz))
  | [], _ :: _, _, k, h, _, _, _ => h
  | _ :: _, [], _, k, h, _, _, _ => h
theorem unP_len {σ : Type} {o : Ops σ} (op : Int) (xs : List Int) (s : σ) : (run o (unP op xs) s).2.length = xs.length := by
  unfold unP
  split
  · simp [run]
  · rw [sumP_len _ _ _ _ (by simp)]; simp
theorem unP_nb {op : Int} {xs : List Int} {k : N × Bool} (h : NB k.1) (hx : ∀ x ∈ xs, RB x) : NB (run opsR (unP op xs) k).1.1 := by
  unfold unP
  split
  · exact h
  · exact sumP_nb _ _ _ _ h (by unfold RB; omega) (fun x hx => by rw [List.eq_of_mem_replicate hx]; unfold RB; omega) (fun y hy => by obtain ⟨x, hx', rfl⟩ := List.mem_map.1 hy; exact (hx x hx').neg)
set_option maxRecDepth 100000 in
set_option maxHeartbeats 4000000 in
theorem specBitsUn_any (n : N) (op : Int) (xs : List Int) (A X : Option Addr) (c cx : Nat) (w : World) (h : Lay.gate.Rd w A n.gs) (hn : n.gs.length ≤ 1048576) (hA : A = none → n.gs.length = 0) (hi : okInts n)
    (hX : Lay.int.Rd w X xs) (hxi : i64s xs) (hop : okInt op) (hlx : xs.length ≤ 1048576) :
    Calls Tryd.prog 32 #[.agg #[.int .i64 n.ins, .slice A n.gs.length c], .int .i64 op, .slice X xs.length cx] w (RetBits (pickN (netOk n) (bitsUnR n op xs)) w) := by
  obtain ⟨hW, hB0, hB1, hWS⟩ := two_boxes w (.cells #[.int .i64 n.ins, .slice A n.gs.length c] 29) (.cells #[.int .i64 0, .slice none 0 0] 29)
  have HW := Lib.hid hW
  have HV := Lib.hid hB0
  have HR := Lib.hid hB1
  have HG := Lib.hid (h.up hW)
  have HX := Lib.hid (hX.up hW)
  have HI := Lib.hid hi
  have HXI := Lib.hid hxi
  unfold okInt at hop
  obtain ⟨q0, q1⟩ := hop
  have HWS := Lib.hid hWS
  have z0 := (cell_of_block hB0 0).1
  have z1 := (cell_of_block hB0 1).1
  obtain ⟨out, hout⟩ : ∃ out, out = pickN (netOk n) (bitsUnR n op xs) := ⟨_, rfl⟩
  rw [← hout]
  have HOUT := Lib.hid hout
  clear hout h hi hX hxi hB0 hB1 hW hWS
  have HCN := Lib.hid (specNetOk_any A c n _ HG.out hn HI.out)
  go_enter Tryd.func32, Tryd.ntmps32
  go_wp2_with fail
  refine HCN.out.mono ?_
  generalize hX0 : (w.alloc (.cells #[.int .i64 n.ins, .slice A n.gs.length c] 29)).alloc (.cells #[.int .i64 0, .slice none 0 0] 29) = X0 at *
  clear hX0
  rintro e u1 ⟨rfl, hb9⟩
  clear HCN
  clear z0 z1
  have HV := Lib.hid ((hb9.block _ (lt_of_block HV.out)).trans HV.out)
  have HR := Lib.hid ((hb9.block _ (lt_of_block HR.out)).trans HR.out)
  have HW := Lib.hid (bthen HW.out hb9)
  have HG := Lib.hid (HG.out.up hb9)
  have HX := Lib.hid (HX.out.up hb9)
  clear hb9
  have z0 := (cell_of_block HV.out 0).1
  have z1 := (cell_of_block HV.out 1).1
  rcases hok : netOk n with _ | _
  · have hal : Below u1.heap.size u1 (u1.alloc (.cells #[] 3)) := (Below.refl _ _).alloc (Nat.le_refl _) _
    have hr9 := (hal.block _ (lt_of_block HR.out)).trans HR.out
    have r0 := (cell_of_block hr9 0).1
    have r1 := (cell_of_block hr9 1).1
    have rf0 := (cell_of_block hr9 0).2
    have rf1 := (cell_of_block hr9 1).2
    have hs1 := heap_set_same _ (w.heap.size + 1) 0 (.int .i64 0) _ _ hr9
    have hs2 := heap_set_same _ (w.heap.size + 1) 1 (.slice none 0 0) _ _ hs1
    have HS2 := Lib.hid hs2
    have HAL := Lib.hid hal
    clear hs1 hs2 hr9 hal
    go_wp2
    have k5 := (cell_of_block HS2.out 0).1
    have k6 := (cell_of_block HS2.out 1).1
    have kf5 := (cell_of_block HS2.out 0).2
    have kf6 := (cell_of_block HS2.out 1).2
    refine bodyPost_ret (v := .tuple #[.agg #[.int .i64 0, .slice none 0 0], .slice (some ⟨u1.heap.size, 0, none⟩) 0 0]) (by simp [results, Tryd.results32, go_sem, k5, k6, kf5, kf6]) rfl ?_
    rw [show out = (⟨0, []⟩, []) from by rw [HOUT.out, hok]; rfl]
    exact ⟨none, some ⟨u1.heap.size, 0, none⟩, 0, 0, rfl, Nat.zero_le _, Nat.zero_le _, .nil _ _ _ _, .nil _ _ _ _, below_set (below_set (bthen HW.out HAL.out) (by show w.heap.size ≤ w.heap.size + 1; omega) _) (by show w.heap.size ≤ w.heap.size + 1; omega) _, apart_nil rfl⟩
  have HOK := Lib.hid hok
  have HOUT : Hid (out = bitsUnR n op xs) := Lib.hid (by rw [HOUT.out, hok]; rfl)
  have hnb : NB n := by have := (netOk_iff n).1 hok; exact ⟨this.1, this.2.1, this.2.2.1⟩
  obtain ⟨n0, n1, n2⟩ := hnb
  clear hok
  have HC := Lib.hid (l7Right_any A X c cx n xs u1 HX.out HXI.out hlx hn n0 (by omega))
  go_wp2_with fail
  refine HC.out.mono ?_
  rintro e u2 ⟨rfl, hb9⟩
  clear HC z0 z1
  have HV := Lib.hid ((hb9.block _ (lt_of_block HV.out)).trans HV.out)
  have HR := Lib.hid ((hb9.block _ (lt_of_block HR.out)).trans HR.out)
  have HW := Lib.hid (bthen HW.out hb9)
  have HG := Lib.hid (HG.out.up hb9)
  have HX := Lib.hid (HX.out.up hb9)
  clear hb9
  have z0 := (cell_of_block HV.out 0).1
  have z1 := (cell_of_block HV.out 1).1
  rcases hg : goodL n xs with _ | _
  · have hal : Below u2.heap.size u2 (u2.alloc (.cells #[] 3)) := (Below.refl _ _).alloc (Nat.le_refl _) _
    have hr9 := (hal.block _ (lt_of_block HR.out)).trans HR.out
    have r0 := (cell_of_block hr9 0).1
    have r1 := (cell_of_block hr9 1).1
    have rf0 := (cell_of_block hr9 0).2
    have rf1 := (cell_of_block hr9 1).2
    have hs1 := heap_set_same _ (w.heap.size + 1) 0 (.int .i64 0) _ _ hr9
    have hs2 := heap_set_same _ (w.heap.size + 1) 1 (.slice none 0 0) _ _ hs1
    have HS2 := Lib.hid hs2
    have HAL := Lib.hid hal
    clear hs1 hs2 hr9 hal
    go_wp2
    have k5 := (cell_of_block HS2.out 0).1
    have k6 := (cell_of_block HS2.out 1).1
    have kf5 := (cell_of_block HS2.out 0).2
    have kf6 := (cell_of_block HS2.out 1).2
    refine bodyPost_ret (v := .tuple #[.agg #[.int .i64 0, .slice none 0 0], .slice (some ⟨u2.heap.size, 0, none⟩) 0 0]) (by simp [results, Tryd.results32, go_sem, k5, k6, kf5, kf6]) rfl ?_
    rw [show out = (⟨0, []⟩, []) from by rw [HOUT.out]; unfold bitsUnR; rw [hg]; rfl]
    exact ⟨none, some ⟨u2.heap.size, 0, none⟩, 0, 0, rfl, Nat.zero_le _, Nat.zero_le _, .nil _ _ _ _, .nil _ _ _ _, below_set (below_set (bthen HW.out HAL.out) (by show w.heap.size ≤ w.heap.size + 1; omega) _) (by show w.heap.size ≤ w.heap.size + 1; omega) _, apart_nil rfl⟩
  have HGX := Lib.hid hg
  clear hg
  by_cases ho : opUn op = true
  rotate_left
  · have hne : op ≠ 1 ∧ op ≠ 2 := by refine ⟨fun e => ho (by rw [e]; rfl), fun e => ho (by rw [e]; rfl)⟩
    have HO := Lib.hid (show opUn op = false by simpa using ho)
    obtain ⟨ho1, ho2⟩ := hne
    have e1 : (op != 1) = true := by simpa using ho1
    have e2 : (op != 2) = true := by simpa using ho2
    clear ho ho1 ho2
    have hal : Below u2.heap.size u2 (u2.alloc (.cells #[] 3)) := (Below.refl _ _).alloc (Nat.le_refl _) _
    have hr9 := (hal.block _ (lt_of_block HR.out)).trans HR.out
    have r0 := (cell_of_block hr9 0).1
    have r1 := (cell_of_block hr9 1).1
    have rf0 := (cell_of_block hr9 0).2
    have rf1 := (cell_of_block hr9 1).2
    have hs1 := heap_set_same _ (w.heap.size + 1) 0 (.int .i64 0) _ _ hr9
    have hs2 := heap_set_same _ (w.heap.size + 1) 1 (.slice none 0 0) _ _ hs1
    have HS2 := Lib.hid hs2
    have HAL := Lib.hid hal
    clear hs1 hs2 hr9 hal
    go_wp2
    have k5 := (cell_of_block HS2.out 0).1
    have k6 := (cell_of_block HS2.out 1).1
    have kf5 := (cell_of_block HS2.out 0).2
    have kf6 := (cell_of_block HS2.out 1).2
    refine bodyPost_ret (v := .tuple #[.agg #[.int .i64 0, .slice none 0 0], .slice (some ⟨u2.heap.size, 0, none⟩) 0 0]) (by simp [results, Tryd.results32, go_sem, k5, k6, kf5, kf6]) rfl ?_
    rw [show out = (⟨0, []⟩, []) from by rw [HOUT.out]; unfold bitsUnR bitsOk; rw [HO.out]; simp]
    exact ⟨none, some ⟨u2.heap.size, 0, none⟩, 0, 0, rfl, Nat.zero_le _, Nat.zero_le _, .nil _ _ _ _, .nil _ _ _ _, below_set (below_set (bthen HW.out HAL.out) (by show w.heap.size ≤ w.heap.size + 1; omega) _) (by show w.heap.size ≤ w.heap.size + 1; omega) _, apart_nil rfl⟩
  have HOR : Hid (op = 1 ∨ op = 2) := Lib.hid (by unfold opUn at ho; simpa using ho)
  have HO := Lib.hid ho
  clear ho
  obtain ⟨l1, l2, m1⟩ := goodL_iff.1 HGX.out
  have hc9 := (l7Un_any (fun b => b < u2.heap.size) A c (n, true) op X cx xs u2 HG.out (fun _ h => h) hA ⟨n0, n1, n2⟩ HOR.out HX.out (fun x hx => (mark_mb ⟨n0, n1, n2⟩ (m1 x hx)).rb) (by omega))
  dsimp only at hc9
  have HC := Lib.hid hc9
  clear hc9
  have HTT := Lib.hid (told_out (n := n) (unP op xs))
  have HLN := Lib.hid (unP_len (o := opsR) op xs (n, true))
  have HNN : Hid (NB (run opsR (unP op xs) (n, true)).1.1) := Lib.hid (unP_nb ⟨n0, n1, n2⟩ (fun x hx => (mark_mb ⟨n0, n1, n2⟩ (m1 x hx)).rb))
  have HOUT2 : Hid (out = toldR (run opsR (unP op xs) (n, true))) := Lib.hid (by rw [HOUT.out]; unfold bitsUnR bitsOk; rw [HGX.out, HO.out]; exact HTT.out.symm)
  clear m1 HTT HOUT
  generalize run opsR (unP op xs) (n, true) = T at *
  have hor := HOR.out
  rcases hor with rfl | rfl
  · go_wp2_with fail
    refine HC.out.mono ?_
    rintro e u5 ⟨A5, c5, B5, d5, rfl, h1, h2, h3, h4, h5, hb9⟩
    have H2 := Lib.hid (h2.mono fun b hb => hb.elim (fun h9 => Nat.lt_of_lt_of_le h9 hb9.size) (fun h9 => h9.2))
    have H4 := Lib.hid (h4.mono fun b hb => hb.2)
    clear h2 h4 h5 HC z0 z1
    have HV := Lib.hid ((hb9.block _ (lt_of_block HV.out)).trans HV.out)
    have HR := Lib.hid ((hb9.block _ (lt_of_block HR.out)).trans HR.out)
    have HW := Lib.hid (bthen HW.out hb9)
    clear hb9
    have hbn : B5 = none → T.2.length = 0 := fun e => by
      rcases Nat.eq_zero_or_pos T.2.length with h0 | h0
      · exact h0
      · obtain ⟨ad, e9, _⟩ := H4.out h0; rw [e] at e9; cases e9
    have hln := HLN.out
    have hnn := HNN.out.2.2
    have HC := Lib.hid (l7Told_any A5 B5 c5 d5 T.1 T.2 u5 H2.out h1 (by omega) H4.out hbn (by omega))
    clear hbn hnn hln
    go_wp2_with fail
    refine HC.out.mono ?_
    rw [show toldR (T.1, T.2) = out from HOUT2.out.symm]
    rintro e u6 ⟨A6, B6, c6, d6, rfl, g1, g2, g3, g4, hb9, hap9⟩
    have G3 := Lib.hid g3
    have G4 := Lib.hid g4
    have HS := Lib.hid HW.out.size
    have HSZ5 := Lib.hid (show w.heap.size + 1 < u5.heap.size from lt_of_block HR.out)
    have HR := Lib.hid ((hb9.block _ (lt_of_block HR.out)).trans HR.out)
    have HW := Lib.hid (bthen HW.out hb9)
    clear hb9 g3 g4 HC
    have r0 := (cell_of_block HR.out 0).1
    have r1 := (cell_of_block HR.out 1).1
    have rf0 := (cell_of_block HR.out 0).2
    have rf1 := (cell_of_block HR.out 1).2
    go_wp2
    have hs1 := heap_set_same u6 (w.heap.size + 1) 0 (.int .i64 out.1.ins) _ _ HR.out
    have hs2 := heap_set_same _ (w.heap.size + 1) 1 (.slice A6 out.1.gs.length c6) _ _ hs1
    have hgr : u6.grownBy ((u6.setCell ⟨w.heap.size + 1, 0, none⟩ (.int .i64 out.1.ins)).setCell ⟨w.heap.size + 1, 1, none⟩ (.slice A6 out.1.gs.length c6)) (some (w.heap.size + 1)) := only_setCell (only_setCell (World.grownBy.refl _ _) _ _) _ _
    have k5 := (cell_of_block hs2 0).1
    have k6 := (cell_of_block hs2 1).1
    have kf5 := (cell_of_block hs2 0).2
    have kf6 := (cell_of_block hs2 1).2
    refine bodyPost_ret (v := .tuple #[.agg #[.int .i64 out.1.ins, .slice A6 out.1.gs.length c6], .slice B6 out.2.length d6]) (by simp [results, Tryd.results32, go_sem, k5, k6, kf5, kf6]) rfl ?_
    exact ⟨A6, B6, c6, d6, rfl, g1, g2, own_mono9 (own_grown9 G3.out hgr HSZ5.out) HS.out, own_mono9 (own_grown9 G4.out hgr HSZ5.out) HS.out, HW.out.grown hgr HW.out.size (fun k hk => by injection hk with hk; omega), hap9⟩
  · go_wp2_with fail
    refine HC.out.mono ?_
    rintro e u5 ⟨A5, c5, B5, d5, rfl, h1, h2, h3, h4, h5, hb9⟩
    have H2 := Lib.hid (h2.mono fun b hb => hb.elim (fun h9 => Nat.lt_of_lt_of_le h9 hb9.size) (fun h9 => h9.2))
    have H4 := Lib.hid (h4.mono fun b hb => hb.2)
    clear h2 h4 h5 HC z0 z1
    have HV := Lib.hid ((hb9.block _ (lt_of_block HV.out)).trans HV.out)
    have HR := Lib.hid ((hb9.block _ (lt_of_block HR.out)).trans HR.out)
    have HW := Lib.hid (bthen HW.out hb9)
    clear hb9
    have hbn : B5 = none → T.2.length = 0 := fun e => by
      rcases Nat.eq_zero_or_pos T.2.length with h0 | h0
      · exact h0
      · obtain ⟨ad, e9, _⟩ := H4.out h0; rw [e] at e9; cases e9
    have hln := HLN.out
    have hnn := HNN.out.2.2
    have HC := Lib.hid (l7Told_any A5 B5 c5 d5 T.1 T.2 u5 H2.out h1 (by omega) H4.out hbn (by omega))
    clear hbn hnn hln
    go_wp2_with fail
    refine HC.out.mono ?_
    rw [show toldR (T.1, T.2) = out from HOUT2.out.symm]
    rintro e u6 ⟨A6, B6, c6, d6, rfl, g1, g2, g3, g4, hb9, hap9⟩
    have G3 := Lib.hid g3
    have G4 := Lib.hid g4
    have HS := Lib.hid HW.out.size
    have HSZ5 := Lib.hid (show w.heap.size + 1 < u5.heap.size from lt_of_block HR.out)
    have HR := Lib.hid ((hb9.block _ (lt_of_block HR.out)).trans HR.out)
    have HW := Lib.hid (bthen HW.out hb9)
    clear hb9 g3 g4 HC
    have r0 := (cell_of_block HR.out 0).1
    have r1 := (cell_of_block HR.out 1).1
    have rf0 := (cell_of_block HR.out 0).2
    have rf1 := (cell_of_block HR.out 1).2
    go_wp2
    have hs1 := heap_set_same u6 (w.heap.size + 1) 0 (.int .i64 out.1.ins) _ _ HR.out
    have hs2 := heap_set_same _ (w.heap.size + 1) 1 (.slice A6 out.1.gs.length c6) _ _ hs1
    have hgr : u6.grownBy ((u6.setCell ⟨w.heap.size + 1, 0, none⟩ (.int .i64 out.1.ins)).setCell ⟨w.heap.size + 1, 1, none⟩ (.slice A6 out.1.gs.length c6)) (some (w.heap.size + 1)) := only_setCell (only_setCell (World.grownBy.refl _ _) _ _) _ _
    have k5 := (cell_of_block hs2 0).1
    have k6 := (cell_of_block hs2 1).1
    have kf5 := (cell_of_block hs2 0).2
    have kf6 := (cell_of_block hs2 1).2
    refine bodyPost_ret (v := .tuple #[.agg #[.int .i64 out.1.ins, .slice A6 out.1.gs.length c6], .slice B6 out.2.length d6]) (by simp [results, Tryd.results32, go_sem, k5, k6, kf5, kf6]) rfl ?_
    exact ⟨A6, B6, c6, d6, rfl, g1, g2, own_mono9 (own_grown9 G3.out hgr HSZ5.out) HS.out, own_mono9 (own_grown9 G4.out hgr HSZ5.out) HS.out, HW.out.grown hgr HW.out.size (fun k hk => by injection hk with hk; omega), hap9⟩
end Go.Proofs.YtjghcaghigebjaaDoor

/-! The program's BitsUn. -/
namespace Go.Proofs.YtjghcaghigebjaaDoor
open Go Go.RowKit

theorem un_out {n : N} {op : Int} {xs : List Int} {e1 : Option Nat} (h : e1 = listE n none xs) : bitsUnR n op xs = if e1 = none then bitsOut (unS n op xs) else (⟨0, []⟩, []) := by
  rw [h]
  unfold bitsUnR bitsOk listE unS
  cases goodL n xs <;> cases opUn op <;> simp [failE, bitsOut]
set_option maxRecDepth 100000 in
set_option maxHeartbeats 4000000 in
theorem bitsUn1_any (a0 a1 : Addr) (lo q r ba bo : Nat) (n : N) (A : Option Addr) (ca : Nat) (xs : List Int) (op : Int) (w : World) (h : Bd a0 a1 lo w q r ⟨n, none⟩)
    (ha : w.heap[ba]? = some (.cells #[.slice A xs.length ca] 25 (0, 0))) (hc : w.heap[bo]? = some (.cells #[.int .i64 op] 3 (0, 0)))
    (hX : Lay.int.Sl w (fun b => b < lo) A xs) (hxi : i64s xs) (hop : okInt op) (hlxs : xs.length ≤ 1048576) :
    Calls Tryd.prog 69 #[.pointer (some ⟨q, 0, none⟩), .pointer (some ⟨ba, 0, none⟩), .pointer (some ⟨bo, 0, none⟩)] w (RetBC a0 a1 lo w q r (bitsUnR n op xs)) := by
  have HCc := Lib.hid hc
  have HBD := Lib.hid h
  have HNB := Lib.hid h.nb
  have HOP := Lib.hid hop
  have hlo := h.size
  obtain ⟨e1, he1⟩ : ∃ e1, e1 = listE n none xs := ⟨_, rfl⟩
  have HOUT := Lib.hid (un_out (op := op) he1)
  have HGOOD : Hid (e1 = none → goodL n xs = true) := Lib.hid (fun h0 => by
    rw [he1] at h0
    have := (failE_none h0).2
    simpa using this)
  have z0 := (cell_of_block ha 0).1
  have HC := Lib.hid (list_any a0 a1 lo q r n none A ca xs w h.toBx (h.circ rfl) h.nb hX hxi hlxs)
  rw [← he1] at HC
  clear he1 h ha hc hX hxi hop
  go_enter Tryd.func69, Tryd.ntmps69
  go_wp2_with fail
  refine HC.out.mono ?_
  rintro e w1 ⟨A9, c9, rfl, h1, h2, h3, h4, h5⟩
  have H2 := Lib.hid h2
  have H3 := Lib.hid h3
  have H4 := Lib.hid h4
  have H5 := Lib.hid h5
  have y1 := (cell_of_block h4.box 1).1
  clear h2 h3 h4 h5 HC z0
  rcases e1 with _ | e1
  · simp only [errV] at y1
    obtain ⟨l1, l2, m1⟩ := goodL_iff.1 (HGOOD.out rfl)
    have y3 := (cell_of_block (kd_of H3.out HCc.out (by decide) (by decide) (by decide)) 0).1
    have HCH := Lib.hid (bUn_any a0 a1 lo q r n op A9 c9 xs w1 ⟨H4.out, HNB.out, fun _ => H5.out⟩ H2.out (fun x hx => mark_mb HNB.out (m1 x hx)) (by omega) HOP.out)
    have HLN : Hid ((unS n op xs).2.length ≤ 1000) := Lib.hid (by
      unfold unS
      split
      · rw [unP_len]; omega
      · exact Nat.zero_le _)
    generalize hz : unS n op xs = z at *
    clear m1 hz
    go_wp2_with fail
    refine HCH.out.mono ?_
    rintro e w9 ⟨A8, c8, rfl, g1, g2, g3, g4, g5⟩
    have G2 := Lib.hid g2
    have G4 := Lib.hid (H3.out.trans g4)
    have G5 := Lib.hid g5
    clear g2 g3 g4 g5 HCH y1 y3
    go_wp2
    go_ret
    exact ⟨z, A8, c8, rfl, HLN.out, G2.out, G4.out, G5.out, by rw [HOUT.out]; exact (if_pos trivial).symm⟩
  · obtain ⟨a, ha⟩ : ∃ a, errV a0 a1 (some e1) = sentV a := by rcases e1 with _ | e1 <;> exact ⟨_, rfl⟩
    simp only [ha] at y1
    clear ha
    go_wp2
    go_ret
    exact ⟨(⟨n, some e1⟩, []), none, 0, rfl, Nat.zero_le _, .nil _ _ _ _, H3.out, ⟨H4.out, HNB.out, fun h => by cases h⟩, by rw [HOUT.out, if_neg (by simp)]; rfl⟩
set_option maxRecDepth 100000 in
set_option maxHeartbeats 4000000 in
theorem built_un (a0 a1 : Addr) (l0 : Nat) (ba bo : Nat) (A : Option Addr) (c : Nat) (n : N) (w : World) (out : N × List Int) (K : World → Prop) (hg : Glb a0 a1 l0 w) (hl0 : l0 ≤ w.heap.size) (hK : ∀ x, Below w.heap.size w x → K x) (h : Lay.gate.Rd w A n.gs) (hn : n.gs.length ≤ 1048576) (hA : A = none → n.gs.length = 0) (hi : okInts n)
    (hcall : ∀ (lo q r : Nat) (z : World), Bd a0 a1 lo z q r ⟨n, none⟩ → netOk n = true → K z → w.heap.size ≤ lo → Calls Tryd.prog 69 #[.pointer (some ⟨q, 0, none⟩), .pointer (some ⟨ba, 0, none⟩), .pointer (some ⟨bo, 0, none⟩)] z (RetBC a0 a1 lo z q r out)) :
    Calls Tryd.prog 46 #[.agg #[.int .i64 n.ins, .slice A n.gs.length c], .func (.func 69) #[] #[.pointer (some ⟨ba, 0, none⟩), .pointer (some ⟨bo, 0, none⟩)]] w (RetBits (pickN (netOk n) out) w) := by
  obtain ⟨hW, hB0, hB1, hWS⟩ := two_boxes w (.cells #[.int .i64 n.ins, .slice A n.gs.length c] 29) (.cells #[.int .i64 0, .slice none 0 0] 29)
  have HW := Lib.hid hW
  have HB1 := Lib.hid hB1
  have HG := Lib.hid hg
  have HK := Lib.hid hK
  have HCALL := Lib.hid hcall
  have HRN := Lib.hid (readNet_any A c n _ (h.up hW) hn hA hi)
  have HWS := Lib.hid hWS
  clear hg hK hcall h hi hB0 hB1 hWS hW
  go_enter Tryd.func46, Tryd.ntmps46
  go_wp2_with fail
  refine HRN.out.mono ?_
  generalize (w.alloc (.cells #[.int .i64 n.ins, .slice A n.gs.length c] 29)).alloc (.cells #[.int .i64 0, .slice none 0 0] 29) = w2 at *
  rintro e w3 ⟨hb3, hcase⟩
  have HB1 := Lib.hid ((hb3.block _ (lt_of_block HB1.out)).trans HB1.out)
  have HB3 := Lib.hid hb3
  clear hb3 HRN
  rcases hcase with ⟨hok, r, rfl, hC⟩ | ⟨hok, rfl⟩
  rotate_left
  · have k5 := (cell_of_block HB1.out 0).1
    have k6 := (cell_of_block HB1.out 1).1
    have kf5 := (cell_of_block HB1.out 0).2
    have kf6 := (cell_of_block HB1.out 1).2
    have HOK := Lib.hid hok
    clear hok
    go_wp2
    refine bodyPost_ret (v := .tuple #[.agg #[.int .i64 0, .slice none 0 0], .slice none 0 0]) (by simp [results, Tryd.results46, go_sem, k5, k6, kf5, kf6]) rfl ?_
    rw [show pickN (netOk n) out = (⟨0, []⟩, []) by rw [HOK.out]; rfl]
    refine ⟨none, none, 0, 0, rfl, Nat.zero_le _, Nat.zero_le _, .nil _ _ _ _, .nil _ _ _ _, ?_, apart_nil rfl⟩
    repeat (refine below_set ?_ (by show w.heap.size ≤ w.heap.size + 1; omega) _)
    exact bthen HW.out HB3.out
  have HOK := Lib.hid hok
  have hnb : NB n := by have := (netOk_iff n).1 hok; exact ⟨this.1, this.2.1, this.2.2.1⟩
  have HNB := Lib.hid hnb
  have HC := Lib.hid hC
  clear hok hnb hC
  have hal : Below w3.heap.size w3 (w3.alloc (.cells #[.pointer (some ⟨r, 0, none⟩), .nilIface] 82)) := (Below.refl _ _).alloc (Nat.le_refl _) _
  have hlo2 : l0 ≤ w2.heap.size := Nat.le_trans hl0 HW.out.size
  have hbd : Bd a0 a1 w2.heap.size (w3.alloc (.cells #[.pointer (some ⟨r, 0, none⟩), .nilIface] 82)) w3.heap.size r ⟨n, none⟩ :=
    ⟨⟨(HG.out.mono hl0).below (bthen HW.out (HB3.out.trans (hal.mono HB3.out.size))) |>.mono HW.out.size, heap_alloc_new _ _, HB3.out.size⟩, HNB.out, fun _ => HC.out.up hal⟩
  have HAL := Lib.hid hal
  have HC4 := Lib.hid (HCALL.out w2.heap.size w3.heap.size r _ hbd HOK.out (HK.out _ (bthen HW.out (HB3.out.trans (hal.mono HB3.out.size)))) HW.out.size)
  clear hal hbd HCALL HK
  go_wp2_with fail
  refine HC4.out.mono ?_
  rintro e w5 ⟨T, A5, c5, rfl, hl5, hp5, hb5, hd5, hT5⟩
  have HB5 : Hid (Below w2.heap.size w2 w5) := Lib.hid (HB3.out.trans ((HAL.out.mono HB3.out.size).trans hb5.bel))
  have HB1 : Hid (w5.heap[w.heap.size + 1]? = some (.cells #[.int .i64 0, .slice none 0 0] 29 (0, 0))) := Lib.hid (by
    have h9 : w.heap.size + 1 < w2.heap.size := by rw [HWS.out]; omega
    exact (hb5.bel.block _ h9).trans ((HAL.out.block _ (Nat.lt_of_lt_of_le h9 HB3.out.size)).trans HB1.out))
  have HP5 := Lib.hid hp5
  have HD5 := Lib.hid hd5
  have HT5 := Lib.hid hT5
  clear hp5 hd5 hT5 HC4 hb5 HAL HC HNB HB3
  have k5 := (cell_of_block HB1.out 0).1
  have k6 := (cell_of_block HB1.out 1).1
  have kf5 := (cell_of_block HB1.out 0).2
  have kf6 := (cell_of_block HB1.out 1).2
  have c0 := HD5.out.g.c0
  have c1 := HD5.out.g.c1
  have q0 := (cell_of_block HD5.out.box 0).1
  have q1 := (cell_of_block HD5.out.box 1).1
  have HGL := Lib.hid HD5.out.g
  obtain ⟨⟨n5, e5⟩, l5⟩ := T
  dsimp only at q1 hl5
  have hfin : ∀ X : World, Below w2.heap.size w2 X → Below w.heap.size w X := fun X hX => bthen HW.out hX
  have HFIN := Lib.hid hfin
  clear hfin
  rcases e5 with _ | e5
  · simp only [errV] at q1
    have hC5 := HD5.out.circ rfl
    obtain ⟨A6, c6, r0, r1, ho6⟩ := circ_cells hC5
    have HO6 := Lib.hid ho6
    have HN : Hid (∀ (b : Addr) (m : Nat), Calls Tryd.prog 82 #[.nilIface, sentV b] (w5.drewN m) fun e w' => e = .returned (.bool false) ∧ w5.drewN m = w') := Lib.hid fun b m => is_nil b _
    have HS5 := Lib.hid hC5.lt
    clear hC5 ho6
    go_wp2
    go_quiet ((go_at_call 82; with_reducible exact quiet_left (HN.out _ _)))
    go_wp2
    clear HN
    have HLT : Hid (w.heap.size + 1 < w2.heap.size) := Lib.hid (by rw [HWS.out]; omega)
    have HQ : Hid (∀ x : World, w5.grownBy x (some (w.heap.size + 1)) → x.cell? ⟨w3.heap.size, 0, none⟩ = some (.pointer (some ⟨r, 0, none⟩)) ∧ x.cell? ⟨r, 0, none⟩ = some (.int .i64 n5.ins) ∧ x.cell? ⟨r, 1, none⟩ = some (.slice A6 n5.gs.length c6)) := Lib.hid fun x hx => by
      have hq := (hx.block _ (lt_of_block HD5.out.box) (fun e => by injection e with e; have := HD5.out.low; have := HLT.out; omega)).trans HD5.out.box
      have hr := hx.block r HS5.out.2 (fun e => by injection e with e; have := HS5.out.1; have := HLT.out; omega)
      exact ⟨(cell_of_block hq 0).1, (World.cell?_of_block (w := w5) (a := ⟨r, 0, none⟩) hr).trans r0, (World.cell?_of_block (w := w5) (a := ⟨r, 1, none⟩) hr).trans r1⟩
    have HL5 : Hid (∀ x : World, w5.grownBy x (some (w.heap.size + 1)) → Lay.int.Rd x A5 l5) := Lib.hid fun x hx => by
      refine (HP5.out.keep fun b hb => hx.block b hb.lt fun e => ?_).mono fun b hb => Nat.lt_of_lt_of_le hb.lt hx.size
      injection e with e
      subst e
      obtain ⟨cs, fr, h9⟩ := hb
      rw [HB1.out] at h9
      injection h9 with h9
      injection h9 with _ h9 _
      exact absurd h9 (by decide)
    refine wp_region_rel4 [[], [(0, 39)], [(1, 40)], [(2, 41)], [(3, 42)], [(4, 43)], [(5, 44)], [], [(7, 46)], [(6, 45)], [(8, 47)]]
      (fun x9 y9 => Below x9.heap.size x9 y9)
      [(9, fun x9 y9 => x9.grownBy y9 (some (w.heap.size + 1)))]
      (fun f9 x9 => BuiltI w5 (w.heap.size + 1) (.agg #[.int .i64 n5.ins, .slice A6 n5.gs.length c6]) #[.int .i64 n5.ins, .slice A6 n5.gs.length c6] (f9 9) x9)
      [fun vs9 _ => vs9 0 = (.pointer (some ⟨w3.heap.size, 0, none⟩)),
    fun vs9 _ => vs9 1 = (.pointer (some ⟨w3.heap.size, 0, none⟩)),
    fun vs9 _ => vs9 2 = (.pointer (some ⟨w3.heap.size, 0, none⟩)),
    fun vs9 _ => vs9 3 = (.pointer (some ⟨r, 0, none⟩)),
    fun vs9 _ => vs9 4 = (.pointer (some ⟨r, 0, none⟩)),
    fun vs9 _ => vs9 5 = (.pointer (some ⟨r, 0, none⟩)),
    fun vs9 _ => vs9 6 = (.agg #[.int .i64 n5.ins, .slice A6 n5.gs.length c6]),
    fun vs9 _ => vs9 7 = (.slice A5 l5.length c5),
    fun vs9 y9 => (fun v z => ∃ B d, v = .slice B l5.length d ∧ l5.length ≤ d ∧ Lay.int.Sl z (Own w5.heap.size z) B l5) (vs9 8) y9,
    fun _ _ => True,
    fun vs9 _ => vs9 10 = vs9 8]
      [(0, 39), (1, 40), (2, 41), (3, 42), (4, 43), (5, 44), (6, 45), (7, 46), (8, 47), (10, 5)] (by kernel_rfl) (by kernel_rfl) (by kernel_rfl) (by kernel_rfl)
      (fun _ => Below.refl _ _) ⟨fun _ => World.grownBy.refl _ _, trivial⟩
      ⟨⟨.inr (fun _ _ _ h _ => h), ⟨.inr (.inr (fun _ _ _ h _ => h)), trivial⟩⟩,
    ⟨.inr (fun _ _ _ h _ => h), ⟨.inr (.inr (fun _ _ _ h _ => h)), trivial⟩⟩,
    ⟨.inr (fun _ _ _ h _ => h), ⟨.inr (.inr (fun _ _ _ h _ => h)), trivial⟩⟩,
    ⟨.inr (fun _ _ _ h _ => h), ⟨.inr (.inr (fun _ _ _ h _ => h)), trivial⟩⟩,
    ⟨.inr (fun _ _ _ h _ => h), ⟨.inr (.inr (fun _ _ _ h _ => h)), trivial⟩⟩,
    ⟨.inr (fun _ _ _ h _ => h), ⟨.inr (.inr (fun _ _ _ h _ => h)), trivial⟩⟩,
    ⟨.inr (fun _ _ _ h _ => h), ⟨.inr (.inr (fun _ _ _ h _ => h)), trivial⟩⟩,
    ⟨.inr (fun _ _ _ h _ => h), ⟨.inr (.inr (fun _ _ _ h _ => h)), trivial⟩⟩,
    ⟨.inr (fun vs9 x9 y9 h9 hR9 => (show ∀ v9 y8 y7, (fun v z => ∃ B d, v = .slice B l5.length d ∧ l5.length ≤ d ∧ Lay.int.Sl z (Own w5.heap.size z) B l5) v9 y8 → (fun x9 y9 => Below x9.heap.size x9 y9) y8 y7 → (fun v z => ∃ B d, v = .slice B l5.length d ∧ l5.length ≤ d ∧ Lay.int.Sl z (Own w5.heap.size z) B l5) v9 y7 from fun _ _ _ ⟨B, d, h1, h2, h3⟩ hR => ⟨B, d, h1, h2, h3.own_up hR⟩) (vs9 8) x9 y9 h9 hR9), ⟨.inr (.inr (fun vs9 x9 y9 h9 hR9 => (show ∀ v9 y8 y7, (fun v z => ∃ B d, v = .slice B l5.length d ∧ l5.length ≤ d ∧ Lay.int.Sl z (Own w5.heap.size z) B l5) v9 y8 → (fun x9 y9 => x9.grownBy y9 (some (w.heap.size + 1))) y8 y7 → (fun v z => ∃ B d, v = .slice B l5.length d ∧ l5.length ≤ d ∧ Lay.int.Sl z (Own w5.heap.size z) B l5) v9 y7 from fun _ _ _ ⟨B, d, h1, h2, h3⟩ hR => ⟨B, d, h1, h2, own_grown9 h3 hR (Nat.lt_of_lt_of_le HLT.out HB5.out.size)⟩) (vs9 8) x9 y9 h9 hR9)), trivial⟩⟩,
    ⟨.inr (fun _ _ _ h _ => h), ⟨.inr (.inl rfl), trivial⟩⟩,
    ⟨.inr (fun _ _ _ h _ => h), ⟨.inr (.inr (fun _ _ _ h _ => h)), trivial⟩⟩, trivial⟩ ⟨fun vs vs' x h _ hv => (by dsimp only at hv ⊢; first | (rw [← h]; exact hv) | exact hv),
    fun vs vs' x h _ hv => (by dsimp only at hv ⊢; first | (rw [← h]; exact hv) | exact hv),
    fun vs vs' x h _ hv => (by dsimp only at hv ⊢; first | (rw [← h]; exact hv) | exact hv),
    fun vs vs' x h _ hv => (by dsimp only at hv ⊢; first | (rw [← h]; exact hv) | exact hv),
    fun vs vs' x h _ hv => (by dsimp only at hv ⊢; first | (rw [← h]; exact hv) | exact hv),
    fun vs vs' x h _ hv => (by dsimp only at hv ⊢; first | (rw [← h]; exact hv) | exact hv),
    fun vs vs' x h _ hv => (by dsimp only at hv ⊢; first | (rw [← h]; exact hv) | exact hv),
    fun vs vs' x h _ hv => (by dsimp only at hv ⊢; first | (rw [← h]; exact hv) | exact hv),
    fun vs vs' x h _ hv => (by dsimp only at hv ⊢; first | (rw [← h]; exact hv) | exact hv),
    fun _ _ _ _ _ _ => trivial,
    fun vs vs' x h hd hv => (by have h2 := hd 8 (by decide); show vs' 10 = vs' 8; exact h.symm.trans (Eq.trans hv h2)), trivial⟩ (⟨grown_of9 (below_drewN (below_drewN (Below.refl _ _) nq) 1) _, fun _ => HB1.out, fun h => by cases h⟩) ⟨?_, ?_, ?_, ?_, ?_, ?_, ?_, ?_, ?_, ?_, ?_, trivial⟩ ?_
    · intro vals xw f hf1 hf2 hf3 hI hF
      clear hf2 hf3
      dsimp only [owes4, bare]
      simp only [putsD, Act.put, List.setIfInBounds_toArray, List.set_cons_zero, List.set_cons_succ]
      go_wp2
      exact ⟨rfl, rfl, ⟨fun h9 => absurd h9 (Nat.ne_of_beq_eq_false rfl), fun _ => Below.refl _ _⟩, hI⟩
    · intro vals xw f hf1 hf2 hf3 hI hF
      clear hf2 hf3
      simp only [saysD, List.getD_cons_zero, List.getD_cons_succ, and_true] at hF
      have e39 := hF
      dsimp only [owes4, bare]
      simp only [putsD, Act.put, List.setIfInBounds_toArray, List.set_cons_zero, List.set_cons_succ]
      simp only [e39]
      go_wp2
      exact ⟨rfl, rfl, ⟨fun h9 => absurd h9 (Nat.ne_of_beq_eq_false rfl), fun _ => Below.refl _ _⟩, hI⟩
    · intro vals xw f hf1 hf2 hf3 hI hF
      clear hf2 hf3
      simp only [saysD, List.getD_cons_zero, List.getD_cons_succ, and_true] at hF
      have e40 := hF
      dsimp only [owes4, bare]
      simp only [putsD, Act.put, List.setIfInBounds_toArray, List.set_cons_zero, List.set_cons_succ]
      simp only [e40]
      go_wp2
      exact ⟨rfl, rfl, ⟨fun h9 => absurd h9 (Nat.ne_of_beq_eq_false rfl), fun _ => Below.refl _ _⟩, hI⟩
    · intro vals xw f hf1 hf2 hf3 hI hF
      clear hf2 hf3
      simp only [saysD, List.getD_cons_zero, List.getD_cons_succ, and_true] at hF
      have e41 := hF
      have c9 := (HQ.out xw hI.1).1
      dsimp only [owes4, bare]
      simp only [putsD, Act.put, List.setIfInBounds_toArray, List.set_cons_zero, List.set_cons_succ]
      simp only [e41]
      go_wp2
      exact ⟨rfl, rfl, ⟨fun h9 => absurd h9 (Nat.ne_of_beq_eq_false rfl), fun _ => Below.refl _ _⟩, hI⟩
    · intro vals xw f hf1 hf2 hf3 hI hF
      clear hf2 hf3
      simp only [saysD, List.getD_cons_zero, List.getD_cons_succ, and_true] at hF
      have e42 := hF
      dsimp only [owes4, bare]
      simp only [putsD, Act.put, List.setIfInBounds_toArray, List.set_cons_zero, List.set_cons_succ]
      simp only [e42]
      go_wp2
      exact ⟨rfl, rfl, ⟨fun h9 => absurd h9 (Nat.ne_of_beq_eq_false rfl), fun _ => Below.refl _ _⟩, hI⟩
    · intro vals xw f hf1 hf2 hf3 hI hF
      clear hf2 hf3
      simp only [saysD, List.getD_cons_zero, List.getD_cons_succ, and_true] at hF
      have e43 := hF
      dsimp only [owes4, bare]
      simp only [putsD, Act.put, List.setIfInBounds_toArray, List.set_cons_zero, List.set_cons_succ]
      simp only [e43]
      go_wp2
      exact ⟨rfl, rfl, ⟨fun h9 => absurd h9 (Nat.ne_of_beq_eq_false rfl), fun _ => Below.refl _ _⟩, hI⟩
    · intro vals xw f hf1 hf2 hf3 hI hF
      clear hf2 hf3
      simp only [saysD, List.getD_cons_zero, List.getD_cons_succ, and_true] at hF
      have e44 := hF
      have c9 := (HQ.out xw hI.1).2.1
      have c8 := (HQ.out xw hI.1).2.2
      dsimp only [owes4, bare]
      simp only [putsD, Act.put, List.setIfInBounds_toArray, List.set_cons_zero, List.set_cons_succ]
      simp only [e44]
      go_wp2
      exact ⟨rfl, rfl, ⟨fun h9 => absurd h9 (Nat.ne_of_beq_eq_false rfl), fun _ => Below.refl _ _⟩, hI⟩
    · intro vals xw f hf1 hf2 hf3 hI hF
      clear hf2 hf3
      dsimp only [owes4, bare]
      simp only [putsD, Act.put, List.setIfInBounds_toArray, List.set_cons_zero, List.set_cons_succ]
      go_wp2
      exact ⟨rfl, rfl, ⟨fun h9 => absurd h9 (Nat.ne_of_beq_eq_false rfl), fun _ => Below.refl _ _⟩, hI⟩
    · intro vals xw f hf1 hf2 hf3 hI hF
      clear hf2 hf3
      simp only [saysD, List.getD_cons_zero, List.getD_cons_succ, and_true] at hF
      have e46 := hF
      dsimp only [owes4, bare]
      simp only [putsD, Act.put, List.setIfInBounds_toArray, List.set_cons_zero, List.set_cons_succ]
      simp only [e46]
      have HI := Lib.hid hI
      have hsz9 : w5.heap.size ≤ xw.heap.size := hI.1.size
      have HRD := Lib.hid (HL5.out xw hI.1)
      clear hI
      go_wp2_with fail
      refine (numbers_any A5 c5 l5 xw HRD.out (by omega)).mono ?_
      rintro e wx ⟨B, d, rfl, h1, h2, h3⟩
      have H3 := Lib.hid h3
      have H2 := Lib.hid (own_mono9 h2 hsz9)
      clear h2 h3
      go_wp2
      exact ⟨rfl, ⟨B, d, rfl, h1, H2.out⟩, ⟨fun h9 => absurd h9 (Nat.ne_of_beq_eq_false rfl), fun _ => H3.out⟩, HI.out.up H3.out⟩
    · intro vals xw f hf1 hf2 hf3 hI hF
      clear hf2 hf3
      simp only [saysD, List.getD_cons_zero, List.getD_cons_succ, and_true] at hF
      have e45 := hF
      dsimp only [owes4, bare]
      simp only [putsD, Act.put, List.setIfInBounds_toArray, List.set_cons_zero, List.set_cons_succ]
      simp only [e45]
      have hbx := hI.2.1 hf1
      have j6 := (cell_of_block hbx 0).1
      have j7 := (cell_of_block hbx 1).1
      have f6 := (cell_of_block hbx 0).2
      have f7 := (cell_of_block hbx 1).2
      have HG1 := Lib.hid hI.1
      have HBX := Lib.hid hbx
      clear hI hbx
      go_wp2
      have h1 := heap_set_same xw (w.heap.size + 1) 0 (.int .i64 n5.ins) _ _ HBX.out
      have h2 := heap_set_same _ (w.heap.size + 1) 1 (.slice A6 n5.gs.length c6) _ _ h1
      have h3 : xw.grownBy ((xw.setCell ⟨w.heap.size + 1, 0, none⟩ (.int .i64 n5.ins)).setCell ⟨w.heap.size + 1, 1, none⟩ (.slice A6 n5.gs.length c6)) (some (w.heap.size + 1)) := only_setCell (only_setCell (World.grownBy.refl _ _) _ _) _ _
      exact ⟨rfl, trivial, ⟨fun _ => h3, fun h9 => absurd rfl h9⟩, grown_trans9 HG1.out h3, fun h => absurd ((did_same f 9).symm.trans h) (by simp), fun _ => h2⟩
    · intro vals xw f hf1 hf2 hf3 hI hF
      clear hf2 hf3
      simp only [saysD, List.getD_cons_zero, List.getD_cons_succ, and_true] at hF
      obtain ⟨B8, d8, e47, _⟩ := hF
      dsimp only [owes4, bare]
      simp only [putsD, Act.put, List.setIfInBounds_toArray, List.set_cons_zero, List.set_cons_succ]
      simp only [e47]
      go_wp2
      exact ⟨rfl, e47.symm, ⟨fun h9 => absurd h9 (Nat.ne_of_beq_eq_false rfl), fun _ => Below.refl _ _⟩, hI⟩
    · intro vals xw f hall hI hF
      rw [show List.range _ = [0, 1, 2, 3, 4, 5, 6, 7, 8, 9, 10] from rfl] at hF
      simp only [says, List.getD_cons_zero, List.getD_cons_succ, and_true] at hF
      obtain ⟨_, _, _, _, _, _, _, _, ⟨B8, d8, e47, hd8, hs8⟩, e5⟩ := hF
      rw [e47] at e5
      have hbx := hI.2.2 (hall 9 (by decide))
      have k5 := (cell_of_block hbx 0).1
      have k6 := (cell_of_block hbx 1).1
      have kf5 := (cell_of_block hbx 0).2
      have kf6 := (cell_of_block hbx 1).2
      have HG1 := Lib.hid hI.1
      have HS8 := Lib.hid hs8
      have HD8 := Lib.hid hd8
      clear hI hbx hs8 hd8
      simp only [putsD, Act.put, List.setIfInBounds_toArray, List.set_cons_zero, List.set_cons_succ]
      simp only [e5]
      clear e5 e47
      go_wp2
      refine bodyPost_ret (v := .tuple #[.agg #[.int .i64 n5.ins, .slice A6 n5.gs.length c6], .slice B8 l5.length d8]) (by simp [results, Tryd.results46, go_sem, k5, k6, kf5, kf6]) rfl ?_
      rw [show pickN (netOk n) out = out by rw [HOK.out]; rfl, ← HT5.out]
      show RetBits (n5, l5) w _ _
      exact ⟨A6, B8, c6, d8, rfl, HO6.out.sl.1, HD8.out, own_mono9 (own_grown9 HO6.out.own HG1.out HLT.out) HW.out.size, own_mono9 HS8.out (Nat.le_trans HW.out.size HB5.out.size), (HFIN.out _ HB5.out).grown HG1.out (bthen HW.out HB5.out).size (fun k hk => by injection hk with hk; omega), apart_of HO6.out.own HS8.out (fun b h1 h2 => by have := h1.2.1; have := h2.1; omega)⟩
  · obtain ⟨a, ha⟩ : ∃ a, errV a0 a1 (some e5) = sentV a := by rcases e5 with _ | e5 <;> exact ⟨_, rfl⟩
    simp only [ha] at q1
    have hcase : (a = a0 ∧ True) ∨ a = a1 := by
      rcases e5 with _ | e5
      · injection ha with _ ha; injection ha with ha; injection ha with ha; exact .inl ⟨ha.symm, trivial⟩
      · injection ha with _ ha; injection ha with ha; injection ha with ha; exact .inr ha.symm
    clear ha
    have HT6 : Hid (out = (⟨0, []⟩, [])) := Lib.hid (by rw [← HT5.out]; exact if_neg (by simp))
    have HSM : Hid (∀ (b : Addr) (m : Nat), Calls Tryd.prog 82 #[sentV b, sentV b] (w5.drewN m) fun e w' => e = .returned (.bool true) ∧ w5.drewN m = w') := Lib.hid fun b m => is_same b _
    have HOT : Hid (∀ (m : Nat), Calls Tryd.prog 82 #[sentV a0, sentV a1] (w5.drewN m) fun e w' => e = .returned (.bool false) ∧ w5.drewN m = w') := Lib.hid fun m => by
      obtain ⟨ca, ta, h0⟩ := HGL.out.b0
      obtain ⟨cb, tb, h1⟩ := HGL.out.b1
      exact is_other a0 a1 ca cb ta tb _ HGL.out.ne h0 h1
    rcases hcase with ⟨rfl, _⟩ | rfl
    · go_wp2
      go_quiet ((go_at_call 82; first | with_reducible exact quiet_left (HOT.out _) | with_reducible exact quiet_left (HSM.out _ _)))
      clear HSM HOT
      go_wp2
      refine bodyPost_ret (v := .tuple #[.agg #[.int .i64 0, .slice none 0 0], .slice none 0 0]) (by simp [results, Tryd.results46, go_sem, k5, k6, kf5, kf6]) rfl ?_
      rw [show pickN (netOk n) out = out by rw [HOK.out]; rfl, HT6.out]
      refine ⟨none, none, 0, 0, rfl, Nat.zero_le _, Nat.zero_le _, .nil _ _ _ _, .nil _ _ _ _, ?_, apart_nil rfl⟩
      repeat (refine below_set ?_ (by show w.heap.size ≤ w.heap.size + 1; omega) _)
      exact below_drewN (HFIN.out _ HB5.out) _
    · go_wp2
      go_quiet ((go_at_call 82; first | with_reducible exact quiet_left (HSM.out _ _) | with_reducible exact quiet_left (HOT.out _)))
      clear HSM HOT
      go_wp2
      refine bodyPost_ret (v := .tuple #[.agg #[.int .i64 0, .slice none 0 0], .slice none 0 0]) (by simp [results, Tryd.results46, go_sem, k5, k6, kf5, kf6]) rfl ?_
      rw [show pickN (netOk n) out = out by rw [HOK.out]; rfl, HT6.out]
      refine ⟨none, none, 0, 0, rfl, Nat.zero_le _, Nat.zero_le _, .nil _ _ _ _, .nil _ _ _ _, ?_, apart_nil rfl⟩
      repeat (refine below_set ?_ (by show w.heap.size ≤ w.heap.size + 1; omega) _)
      exact below_drewN (HFIN.out _ HB5.out) _

theorem four_boxes (w : World) (o0 o1 o2 o3 : Obj) : Below w.heap.size w ((((w.alloc o0).alloc o1).alloc o2).alloc o3) ∧ ((((w.alloc o0).alloc o1).alloc o2).alloc o3).heap[w.heap.size]? = some o0 ∧ ((((w.alloc o0).alloc o1).alloc o2).alloc o3).heap[w.heap.size + 1]? = some o1 ∧
    ((((w.alloc o0).alloc o1).alloc o2).alloc o3).heap[w.heap.size + 1 + 1]? = some o2 ∧ ((((w.alloc o0).alloc o1).alloc o2).alloc o3).heap[w.heap.size + 1 + 1 + 1]? = some o3 ∧ ((((w.alloc o0).alloc o1).alloc o2).alloc o3).heap.size = w.heap.size + 1 + 1 + 1 + 1 := by
  have h0 := heap_alloc_new w o0
  have h1 := heap_alloc_new (w.alloc o0) o1
  have h2 := heap_alloc_new ((w.alloc o0).alloc o1) o2
  have h3 := heap_alloc_new (((w.alloc o0).alloc o1).alloc o2) o3
  have b1 : Below w.heap.size w (w.alloc o0) := (Below.refl _ _).alloc (Nat.le_refl _) _
  have old : ∀ (u : World) (o : Obj) (k : Nat) (x : Obj), u.heap[k]? = some x → (u.alloc o).heap[k]? = some x := fun u o k x hx => (((Below.refl _ _).alloc (Nat.le_refl u.heap.size) o : Below u.heap.size u (u.alloc o)).block k (Array.getElem?_eq_some_iff.1 hx).1).trans hx
  refine ⟨((b1.alloc (by simp) _).alloc (by simp; omega) _).alloc (by simp; omega) _, old _ _ _ _ (old _ _ _ _ (old _ _ _ _ h0)), old _ _ _ _ (old _ _ _ _ (by simpa using h1)), old _ _ _ _ (by simpa using h2), by simpa using h3, by simp⟩
set_option maxRecDepth 100000 in
set_option maxHeartbeats 4000000 in
theorem implBitsUn_any (a0 a1 : Addr) (l0 : Nat) (n : N) (c0 : Int) (xs : List Int) (A X : Option Addr) (c cx : Nat) (w : World) (hg : Glb a0 a1 l0 w) (hl0 : l0 ≤ w.heap.size) (h : Lay.gate.Rd w A n.gs) (hn : n.gs.length ≤ 1048576) (hA : A = none → n.gs.length = 0) (hi : okInts n)
    (hX : Lay.int.Rd w X xs) (hxi : i64s xs) (hci : okInt c0) (hlx : xs.length ≤ 1048576) :
    Calls Tryd.prog 33 #[.agg #[.int .i64 n.ins, .slice A n.gs.length c], .int .i64 c0, .slice X xs.length cx] w (RetBits (pickN (netOk n) (bitsUnR n c0 xs)) w) := by
  obtain ⟨hW, hB0, hB1, hB2, hB3, hWS⟩ := four_boxes w (.cells #[.int .i64 n.ins, .slice A n.gs.length c] 29) (.cells #[.int .i64 c0] 3) (.cells #[.slice X xs.length cx] 25) (.cells #[.int .i64 0, .slice none 0 0] 29)
  have HW := Lib.hid hW
  have HB0 := Lib.hid hB0
  have HB3 := Lib.hid hB3
  have HWS := Lib.hid hWS
  have z0 := (cell_of_block hB0 0).1
  have z1 := (cell_of_block hB0 1).1
  have HCL := Lib.hid (built_un a0 a1 l0 (w.heap.size + 1 + 1) (w.heap.size + 1) A c n _ (bitsUnR n c0 xs)
    (fun z => z.heap[w.heap.size + 1 + 1]? = some (.cells #[.slice X xs.length cx] 25 (0, 0)) ∧ z.heap[w.heap.size + 1]? = some (.cells #[.int .i64 c0] 3 (0, 0)) ∧ Lay.int.Sl z (fun b => b < w.heap.size) X xs)
    (hg.below (hW.mono hl0)) (Nat.le_trans hl0 hW.size) (fun x hx => ⟨(hx.block _ (by rw [hWS]; omega)).trans hB2, (hx.block _ (by rw [hWS]; omega)).trans hB1, hX.below (bthen hW hx) (fun _ h => h)⟩)
    (h.up hW) hn hA hi (fun lo q r z hz _ hk hlo => bitsUn1_any a0 a1 lo q r _ _ n X cx xs c0 z hz hk.1 hk.2.1 (hk.2.2.mono fun b hb => by rw [hWS] at hlo; omega) hxi hci hlx))
  clear hg h hA hi hX hxi hlx hB0 hB1 hB2 hB3 hW hWS
  generalize hout : pickN (netOk n) (bitsUnR n c0 xs) = out at *
  have HOUT := Lib.hid hout
  clear hout
  go_enter Tryd.func33, Tryd.ntmps33
  go_wp2_with fail
  refine HCL.out.mono ?_
  generalize (((w.alloc (.cells #[.int .i64 n.ins, .slice A n.gs.length c] 29)).alloc (.cells #[.int .i64 c0] 3)).alloc (.cells #[.slice X xs.length cx] 25)).alloc (.cells #[.int .i64 0, .slice none 0 0] 29) = W at *
  rintro e w1 ⟨A1, B1, c1, d1, rfl, h1, h2, h3, h4, h5, h6⟩
  have hb4 := (h5.block _ (lt_of_block HB3.out)).trans HB3.out
  have HX4 := Lib.hid hb4
  have j6 := (cell_of_block hb4 0).1
  have j7 := (cell_of_block hb4 1).1
  have f6 := (cell_of_block hb4 0).2
  have f7 := (cell_of_block hb4 1).2
  have H3 := Lib.hid h3
  have H4 := Lib.hid h4
  have H5 := Lib.hid h5
  clear hb4 h3 h4 h5 HCL
  go_wp2
  have hs1 := heap_set_same w1 (w.heap.size + 1 + 1 + 1) 0 (.int .i64 out.1.ins) _ _ HX4.out
  have hs2 := heap_set_same _ (w.heap.size + 1 + 1 + 1) 1 (.slice A1 out.1.gs.length c1) _ _ hs1
  have hs3 : w1.grownBy ((w1.setCell ⟨w.heap.size + 1 + 1 + 1, 0, none⟩ (.int .i64 out.1.ins)).setCell ⟨w.heap.size + 1 + 1 + 1, 1, none⟩ (.slice A1 out.1.gs.length c1)) (some (w.heap.size + 1 + 1 + 1)) := only_setCell (only_setCell (World.grownBy.refl _ _) _ _) _ _
  have k5 := (cell_of_block hs2 0).1
  have k6 := (cell_of_block hs2 1).1
  have kf5 := (cell_of_block hs2 0).2
  have kf6 := (cell_of_block hs2 1).2
  refine bodyPost_ret (v := .tuple #[.agg #[.int .i64 out.1.ins, .slice A1 out.1.gs.length c1], .slice B1 out.2.length d1]) (by simp [results, Tryd.results33, go_sem, k5, k6, kf5, kf6]) rfl ?_
  have hlt : w.heap.size + 1 + 1 + 1 < W.heap.size := by rw [HWS.out]; omega
  exact ⟨A1, B1, c1, d1, rfl, h1, h2, own_mono9 (own_grown9 H3.out hs3 hlt) HW.out.size, own_mono9 (own_grown9 H4.out hs3 hlt) HW.out.size, (bthen HW.out H5.out).grown hs3 (bthen HW.out H5.out).size (fun k hk => by injection hk with hk; omega), h6⟩
end Go.Proofs.YtjghcaghigebjaaDoor

/-! BitsUn in the laws' one form. -/
namespace Go.Proofs.YtjghcaghigebjaaDoor
open Go Go.RowKit Go.ChangeShapes Go.WideShapes Go.ChangeAt Go.Deep

theorem bitsUn_len {n : N} {op : Int} {xs : List Int} : (pickN (netOk n) (bitsUnR n op xs)).1.gs.length ≤ 1048576 ∧ (pickN (netOk n) (bitsUnR n op xs)).2.length ≤ 1048576 := pickN_len fun hok => by
  unfold bitsUnR bitsOk
  split
  · rename_i hc
    simp only [Bool.and_eq_true] at hc
    have hn := (netOk_iff n).1 hok
    have hnb : NB n := ⟨hn.1, hn.2.1, hn.2.2.1⟩
    obtain ⟨l1, l2, m1⟩ := goodL_iff.1 hc.1
    rw [← told_out]
    unfold toldR
    split
    · dsimp only
      have h1 := (unP_nb (op := op) (k := (n, true)) hnb (fun x hx => (mark_mb hnb (m1 x hx)).rb)).2.2
      have h2 := unP_len (o := opsR) op xs (n, true)
      exact ⟨by omega, by omega⟩
    · exact ⟨Nat.zero_le _, Nat.zero_le _⟩
  · exact ⟨Nat.zero_le _, Nat.zero_le _⟩
theorem implBitsUn_u (a0 a1 : Addr) (l0 : Nat) (x0 : N) (A : Option Addr) (c : Nat) (x1 : Int) (x2 : List Int) (X : Option Addr) (cx : Nat) (w : World) (h : Lay.gate.Rd w A x0.gs) (_ : x0.gs.length ≤ c) (hX : Lay.int.Rd w X x2) (_ : x2.length ≤ cx) (s0 : smNet x0) (s1 : okInt x1) (s2 : smInts x2) (hg : Glb a0 a1 l0 w) (hl : l0 ≤ w.heap.size) :
    Calls Tryd.prog 33 #[.agg #[.int .i64 x0.ins, .slice A x0.gs.length c], .int .i64 x1, .slice X x2.length cx] w (RetBits (pickN (netOk x0) (bitsUnR x0 x1 x2)) w) :=
  implBitsUn_any a0 a1 l0 x0 x1 x2 A X c cx w hg hl h s0.1 (sl_nonnil h) s0.2.1 hX s2.2 s1 s2.1
theorem specBitsUn_u (x0 : N) (A : Option Addr) (c : Nat) (x1 : Int) (x2 : List Int) (X : Option Addr) (cx : Nat) (w : World) (h : Lay.gate.Rd w A x0.gs) (_ : x0.gs.length ≤ c) (hX : Lay.int.Rd w X x2) (h2 : x2.length ≤ cx) (s0 : smNet x0) (s1 : okInt x1) (s2 : smInts x2) :
    Calls Tryd.prog 32 #[.agg #[.int .i64 x0.ins, .slice A x0.gs.length c], .int .i64 x1, .slice X x2.length cx] w (RetBits (pickN (netOk x0) (bitsUnR x0 x1 x2)) w) :=
  specBitsUn_any x0 x1 x2 A X c cx w h s0.1 (sl_nonnil h) s0.2.1 hX s2.2 s1 s2.1
end Go.Proofs.YtjghcaghigebjaaDoor

/-! The two sentinels: what the condition on the package's variables gives; the variables read again; the world that the initialisers leave. -/
namespace Go.Proofs.YtjghcaghigebjaaDoor
open Go Go.ChangeShapes Go.WideShapes Go.ChangeAt Go.RowKit

theorem dr_own : ownKnob Tryd.prog.godebug = none := by kernel_rfl
theorem dr_g0 : Tryd.prog.globalNamed "loop.example/seedlip/impl.errBits" = some 0 := by kernel_rfl
theorem dr_g1 : Tryd.prog.globalNamed "loop.example/seedlip/impl.errRoom" = some 1 := by kernel_rfl
theorem dr_t0 : (Tryd.prog.globals[0]?).map (·.type) = some 80 := by kernel_rfl
theorem dr_t1 : (Tryd.prog.globals[1]?).map (·.type) = some 80 := by kernel_rfl
theorem dr_c0 : Tryd.prog.cellsOf 210 = 1 := by kernel_rfl
theorem dr_c1 : Tryd.prog.cellsOf 9 = 1 := by kernel_rfl
theorem dr_star : "*" ++ "errors.errorString" = "*errors.errorString" := by decide
theorem dr_row (u : TypeId) (h : Tryd.prog.typeName? 3 u = some "*errors.errorString") : u = 183 :=
  typeName_ptr_named (nm := "errors.errorString") (by rw [dr_star]; kernel_rfl) (by kernel_rfl) (by decide) u (by rw [dr_star]; exact h)
/-- What is listed of the package's variables. -/
abbrev laid2 : List (String × DataW Unit) := [("loop.example/seedlip/impl.errRoom", Rows.laid_loop_example_seedlip_impl_errRoom), ("loop.example/seedlip/impl.errBits", Rows.laid_loop_example_seedlip_impl_errBits)]
set_option maxRecDepth 100000 in
theorem glb_of_laid {W : World} (h : laidMetH Tryd.prog laid2 W) :
    ∃ a0 a1 : Addr, Glb a0 a1 W.heap.size W ∧ W.var? Tryd.prog "loop.example/seedlip/impl.errBits" = some #[sentV a0] ∧ W.var? Tryd.prog "loop.example/seedlip/impl.errRoom" = some #[sentV a1] := by
  rw [MakeChecks.laidMetH_plain _ _ _ (by kernel_rfl)] at h
  obtain ⟨ps, ⟨g1, t1, cs1, f1, p1, q1, hg1, ht1, hv1, hd1, ⟨g0, t0, cs0, f0, p0, q0, hg0, ht0, hv0, hd0, hq0, e0⟩, e1⟩, hnd, hrows⟩ := h
  obtain rfl := Option.some.inj (dr_g0.symm.trans hg0)
  obtain rfl := Option.some.inj (dr_g1.symm.trans hg1)
  obtain rfl := Option.some.inj (dr_t0.symm.trans ht0)
  obtain rfl := Option.some.inj (dr_t1.symm.trans ht1)
  have hq0' : q0 = [] := hq0
  subst hq0'
  subst e0
  subst e1
  obtain ⟨l0⟩ := cs0
  obtain ⟨l1⟩ := cs1
  have ok0 : ∀ u v, l0 = [.iface u v] → Value.okWide Tryd.prog W .any 0 u v := fun u v e => by
    subst e
    exact (hrows 0 0 (by simp [MemPlace.row])).2 u v (by simpa using World.var?_cell hg0 hv0 0)
  have ok1 : ∀ u v, l1 = [.iface u v] → Value.okWide Tryd.prog W .any 0 u v := fun u v e => by
    subst e
    exact (hrows 1 0 (by simp [MemPlace.row])).2 u v (by simpa using World.var?_cell hg1 hv1 0)
  obtain ⟨a0, s0, rfl, hc0, hs0, hz0, rfl⟩ := errorString_of_trod Tryd.underlying80 dr_row Tryd.underlying183 Tryd.underlying210 rfl rfl Tryd.underlying9 dr_c0 dr_c1 hd0 ok0
  obtain ⟨a1, s1, rfl, hc1, hs1, hz1, rfl⟩ := errorString_of_trod Tryd.underlying80 dr_row Tryd.underlying183 Tryd.underlying210 rfl rfl Tryd.underlying9 dr_c0 dr_c1 hd1 ok1
  obtain ⟨c0, t0, hb0⟩ := (hrows a0.block a0.off (by simp [MemPlace.row])).1
  obtain ⟨c1, t1, hb1⟩ := (hrows a1.block a1.off (by simp [MemPlace.row])).1
  have k0 : W.cell? ⟨0, 0, none⟩ = some (sentV a0) := by simpa using World.var?_cell dr_g0 hv0 0
  have k1 : W.cell? ⟨1, 0, none⟩ = some (sentV a1) := by simpa using World.var?_cell dr_g1 hv1 0
  refine ⟨a0, a1, ⟨k0, k1, ⟨c0, t0, hb0⟩, ⟨c1, t1, hb1⟩, ?_, ?_, (Array.getElem?_eq_some_iff.1 hb0).1, (Array.getElem?_eq_some_iff.1 hb1).1⟩, hv0, hv1⟩
  · rintro rfl
    simp [MemPlace.row] at hnd
  · have := World.block_lt_of_cell? W _ k1
    exact this
/-- The variables hold below a mark what they held. -/
theorem var_below {W W' : World} {n : String} {g : Nat} {cs : Array Value} (hg : Tryd.prog.globalNamed n = some g) (h : W.var? Tryd.prog n = some cs) (hb : Below W.heap.size W W') : W'.var? Tryd.prog n = some cs := by
  unfold World.var? at h ⊢
  rw [hg] at h ⊢
  simp only [Option.bind_some] at h ⊢
  have hlt : g < W.heap.size := by
    rcases Nat.lt_or_ge g W.heap.size with h' | h'
    · exact h'
    · simp [Array.getElem?_eq_none h'] at h
  rw [hb.block g hlt]; exact h
theorem vars_read {H : Type} (enc : TypeId × Value → H) {W : World} {x0 x1 : Value} (h0 : W.var? Tryd.prog "loop.example/seedlip/impl.errBits" = some #[x0]) (h1 : W.var? Tryd.prog "loop.example/seedlip/impl.errRoom" = some #[x1]) (i0 : IsIface x0) (i1 : IsIface x1) (sp : Nat → Bool) :
    DataW.TrodVars enc Tryd.prog W sp ["loop.example/seedlip/impl.errBits", "loop.example/seedlip/impl.errRoom"] [tok enc x0, tok enc x1] [.cell 0 0, .cell 1 0] :=
  ⟨0, 80, #[x0], 1, [], [.cell 1 0], dr_g0, dr_t0, h0, trod_held Tryd.underlying80 i0 0, ⟨1, 80, #[x1], 1, [], [], dr_g1, dr_t1, h1, trod_held Tryd.underlying80 i1 0, rfl, rfl⟩, rfl⟩
/-- The heap that the initialisers leave meets the condition. -/
theorem door_met (os : Os) (args : Array Value) : laidMetH Tryd.prog laid2 ((World.doorLaid Tryd.prog 400 os).forCall (fun _ _ => 0) ⟨#[], args, []⟩).memory :=
  laidMetH_of_parts3 (fuel := 8) (laidMet_of_run' 8 (by kernel_rfl) (by kernel_rfl)) (by kernel_rfl) (by kernel_rfl)
end Go.Proofs.YtjghcaghigebjaaDoor
