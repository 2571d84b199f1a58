/- FnBitsAgain: circuits are shared when they are made again: for any bytes the law says true. -/
import Derived.Test.YtjghcaghigebjaaGreatDoorRows
import Derived.ProofKit
import Derived.LaidMore
import Derived.OpenShut
import Derived.Stop.Joined
import Derived.ChangeSame
import Derived.ChangeVars
import Derived.RowKitTokens
import Derived.LaidLaws
import Derived.Test.YtjghcaghigebjaaGreatDoorTie
import Derived.Test.YtjghcaghigebjaaGreatDoorCards
import Derived.SevenTiedAt
import Derived.Test.YtjghcaghigebjaaGreatDoorJFnBitsAgain0
import Derived.Test.YtjghcaghigebjaaGreatDoorJFnBitsAgain1
import Derived.Test.YtjghcaghigebjaaGreatDoorJFnBitsAgain2
import Derived.Test.YtjghcaghigebjaaGreatDoorJFnBitsAgain3
import Derived.Test.YtjghcaghigebjaaGreatDoorJFnBitsAgain4
import Derived.Test.YtjghcaghigebjaaGreatDoorJFnBitsAgain9
namespace Go.Proofs.YtjghcaghigebjaaGreatDoor
open Go Go.RowKit
def RetT2 (S0 : Nat → Prop) (r : Nat) (p M : Int) (w : World) (e : Ending) (w' : World) : Prop :=
 ∃ (n : N) (A : Option Addr) (c : Nat) (xs : List Int) (X : Option Addr) (cx : Nat) (ys : List Int) (Y : Option Addr) (cy : Nat), e = .returned (.tuple #[.agg #[.int .i64 n.ins, .slice A n.gs.length c], .slice X xs.length cx, .slice Y ys.length cy]) ∧
  Lay.gate.Sl w' (Ab S0 w') A n.gs ∧ Lay.int.Sl w' (Ab S0 w') X xs ∧ Lay.int.Sl w' (Ab S0 w') Y ys ∧ bentN 4 n ∧ okMks xs ∧ okMks ys ∧ xs.length ≤ cx ∧ ys.length ≤ cy ∧ Drawn r p M w w'
def SayM (S : Nat → Prop) (v : Value) (y : World) : Prop := ∃ (ys : List Int) (Y : Option Addr) (cy : Nat), v = .slice Y ys.length cy ∧ okMks ys ∧ ys.length ≤ cy ∧ Lay.int.Sl y (Ab S y) Y ys
theorem SayM.gr {S T : Nat → Prop} {v : Value} {x y : World} (h : SayM S v x) (hg : Gr T x y) (hT : ∀ b, T b → S b) : SayM S v y := by
 obtain ⟨ys, Y, cy, h1, h2, h3, h4⟩ := h
 exact ⟨ys, Y, cy, h1, h2, h3, h4.gr (hg.mono hT)⟩
def TwoQ (r b2 b5 : Nat) (q0 : Int) (w : World) (o2 o5 : Obj) (drawn done : Bool) (x : World) : Prop :=
 Gr (fun b => b = r ∨ b = b2) w x ∧ (∃ q, Rdr x r q ∧ q0 ≤ q ∧ q ≤ q0 + (if drawn = true then 20 else 0)) ∧ x.heap[b5]? = some o5 ∧ (done = false → x.heap[b2]? = some o2) ∧ (done = true → x.heap[b2]? = some o5)
theorem OwnI.capI {w : World} {base c : Nat} {A : Option Addr} {xs : List Int} (h : OwnI w base (.slice A xs.length c) xs) : xs.length ≤ c := by
 obtain ⟨A', c', e, hl, hs⟩ := h.form
 injection e with e1 e2 e3
 omega
set_option maxRecDepth 100000 in
set_option maxHeartbeats 4000000 in
theorem l7Two_any (S0 : Nat → Prop) (r : Nat) (p : Int) (w : World) (h : Rdr w r p) (hS0 : ∀ b, S0 b → b < w.heap.size) (hSr : S0 r) (p0 : 0 ≤ p) (p1 : p ≤ 500000000) :
  Calls Tryz.prog 49 #[.pointer (some ⟨r, 0, none⟩)] w (RetT2 S0 r p 10000 w) := by
 have hrl := h.lt
 have hal0 : Below w.heap.size w (w.alloc (.cells #[.int .i64 0, .slice none 0 0] 29)) := (Below.refl _ _).alloc (Nat.le_refl _) _
 have HB2 := zH (show (w.alloc (.cells #[.int .i64 0, .slice none 0 0] 29)).heap[w.heap.size]? = some (.cells #[.int .i64 0, .slice none 0 0] 29 (0, 0)) from heap_alloc_new _ _)
 have HSZ0 := zH (show (w.alloc (.cells #[.int .i64 0, .slice none 0 0] 29)).heap.size = w.heap.size + 1 by simp)
 have hR0 := h.up hal0
 have hg0 : Gr (IsR r) w (w.alloc (.cells #[.int .i64 0, .slice none 0 0] 29)) := .below hal0
 clear hal0 h
 go_enter Tryz.func49, Tryz.ntmps49
 go_wp2_with fail
 have hsz0 := HSZ0.out
 clear HSZ0
 generalize w.alloc (.cells #[.int .i64 0, .slice none 0 0] 29) = w0 at *
 obtain ⟨T, hT⟩ : ∃ T : Nat → Prop, ∀ b, T b ↔ S0 b ∨ b = w.heap.size := ⟨fun b => S0 b ∨ b = w.heap.size, fun _ => Iff.rfl⟩
 have HT := zH hT
 have HTL : Hid (∀ b, T b → b < w.heap.size + 1) := zH fun b hb => by
  rcases (hT b).1 hb with h9 | h9
  · have := hS0 b h9; omega
  · omega
 have HTr : Hid (T r) := zH ((hT r).2 (.inl hSr))
 clear hT
 refine (l7Net_any T r p w0 hR0 (fun b hb => by have := HTL.out b hb; omega) HTr.out p0 (by omega)).mono ?_
 rintro e w1 ⟨y, A2, c2, rfl, hs2, hbn, q2, q20, q21, hR2, hg2⟩
 have HB2 := zH (hg2.heap (by show ¬ _ = r; omega) HB2.out)
 have hgg2 := hg0.trans hg2
 have hz2 := hg2.size
 have i5 : w.heap.size < w1.heap.size := by omega
 have HBN := zH hbn
 have hyb : -1 ≤ y.ins ∧ y.ins ≤ 9 ∧ y.gs.length ≤ 4 := ⟨hbn.1, hbn.2.1, hbn.2.2.1⟩
 obtain ⟨hyb0, hyb1, hyb2⟩ := hyb
 clear hR0 hg2 hbn hg0
 have hal : Below w1.heap.size w1 (w1.alloc (.cells #[.int .i64 y.ins, .slice A2 y.gs.length c2] 29)) := (Below.refl _ _).alloc (Nat.le_refl _) _
 have HB5 := zH (show (w1.alloc (.cells #[.int .i64 y.ins, .slice A2 y.gs.length c2] 29)).heap[w1.heap.size]? = some (.cells #[.int .i64 y.ins, .slice A2 y.gs.length c2] 29 (0, 0)) from heap_alloc_new _ _)
 have HB2 := zH ((hal.block _ (lt_of_block HB2.out)).trans HB2.out)
 have hR3 := hR2.up hal
 have hgg3 := hgg2.up hal
 have HS := zH (hs2.gr (.below hal))
 have HSZ3 := zH (show (w1.alloc (.cells #[.int .i64 y.ins, .slice A2 y.gs.length c2] 29)).heap.size = w1.heap.size + 1 by simp)
 clear hal hR2 hgg2 hs2 hsz0
 go_wp2_with fail
 have hz3 := HSZ3.out
 clear HSZ3
 generalize w1.alloc (.cells #[.int .i64 y.ins, .slice A2 y.gs.length c2] 29) = w3 at *
 have hb2l := lt_of_block HB2.out
 generalize hb5e : w1.heap.size = b5 at *
 generalize hb2e : w.heap.size = b2 at *
 have HB2E := zH hb2e
 clear hb5e hb2e hz2
 refine (pick_any r q2 4 w3 hR3 (by omega) (by omega) (by omega) (by omega)).mono ?_
 rintro e w4 ⟨k, rfl, k0, k1, _, hR4, hg4⟩
 have k1 := k1 (by omega)
 have hg4 := Gr.one (S := IsR r) hg4 rfl
 have HB2 := zH (hg4.heap (by show ¬ _ = r; omega) HB2.out)
 have HB5 := zH (hg4.heap (by show ¬ _ = r; omega) HB5.out)
 have HS := zH (HS.out.gr (hg4.mono fun b hb => by rw [show b = r from hb]; exact HTr.out))
 have hgg4 := hgg3.trans hg4
 have hz4 := hg4.size
 obtain ⟨m, hm⟩ := Int.eq_ofNat_of_zero_le (show (0 : Int) ≤ 1 + k by omega)
 have hm1 : 1 ≤ m ∧ m ≤ 4 := by omega
 obtain ⟨m1, m4⟩ := hm1
 have HM := zH hm
 clear hR3 hgg3 hg4
 have v0 := (z00 HB5.out 0).1
 have v1 := (z00 HB5.out 1).1
 go_wp2_with fail
 clear v0 v1
 clear hm
 refine (l7Marks_any r (q2 + 1) y A2 c2 m w4 hR4 (by omega) (by omega) (by omega) (by omega) (by omega) m1 m4).mono ?_
 rintro e w5 ⟨A5, c5, xs, rfl, ho5, hok5, q5, q50, q51, hR5, hg5⟩
 have HB2 := zH (hg5.heap (by show ¬ _ = r; omega) HB2.out)
 have HB5 := zH (hg5.heap (by show ¬ _ = r; omega) HB5.out)
 have HS := zH (HS.out.gr (hg5.mono fun b hb => by rw [hb]; exact HTr.out))
 have hgg5 := hgg4.trans hg5
 have hz5 := hg5.size
 have HOK := zH hok5
 have HCX := zH ho5.capI
 have HXS := zH (ho5.ab (S := T) (fun b hb => by have := HTL.out b hb; omega))
 clear hR4 hgg4 hg5 hok5 ho5
 go_wp2_with fail
 refine (pick_any r q5 16 w5 hR5 (by omega) (by omega) (by omega) (by omega)).mono ?_
 rintro e w6 ⟨k6, rfl, k60, _, _, hR6, hg6⟩
 have hg6 := Gr.one (S := IsR r) hg6 rfl
 have HB2 := zH (hg6.heap (by show ¬ _ = r; omega) HB2.out)
 have HB5 := zH (hg6.heap (by show ¬ _ = r; omega) HB5.out)
 have HS := zH (HS.out.gr (hg6.mono fun b hb => by rw [show b = r from hb]; exact HTr.out))
 have HXS := zH (HXS.out.gr (hg6.mono fun b hb => by rw [show b = r from hb]; exact HTr.out))
 have hgg6 := hgg5.trans hg6
 have hz6 := hg6.size
 clear hR5 hgg5 hg6
 by_cases hk6 : k6 = 0
 ·
  have hkb : (k6 == 0) = true := by simpa using hk6
  clear hk6
  go_wp2_with fail
  refine (pick_any r (q5 + 1) 4 w6 hR6 (by omega) (by omega) (by omega) (by omega)).mono ?_
  rintro e w7 ⟨k7, rfl, k70, k71, _, hR7, hg7⟩
  have k71 := k71 (by omega)
  have hg7 := Gr.one (S := IsR r) hg7 rfl
  have HB2 := zH (hg7.heap (by show ¬ _ = r; omega) HB2.out)
  have HB5 := zH (hg7.heap (by show ¬ _ = r; omega) HB5.out)
  have HS := zH (HS.out.gr (hg7.mono fun b hb => by rw [show b = r from hb]; exact HTr.out))
  have HXS := zH (HXS.out.gr (hg7.mono fun b hb => by rw [show b = r from hb]; exact HTr.out))
  have hgg7 := hgg6.trans hg7
  have hz7 := hg7.size
  obtain ⟨m7, hm7⟩ := Int.eq_ofNat_of_zero_le (show (0 : Int) ≤ 1 + k7 by omega)
  have hm71 : 1 ≤ m7 ∧ m7 ≤ 4 := by omega
  obtain ⟨m71, m74⟩ := hm71
  have HR7 := zH hR7
  have HGG7 := zH hgg7
  clear hR6 hgg6 hg7 hR7 hgg7
  go_wp2
  clear hm7
  refine z05 [[], [], [], [], [], [(2, 25), (3, 26), (4, 27)], [(0, 23)], [(1, 24)], [(5, 28)]]
   (Gr (fun b => b = r ∨ b = b2))
   []
   (fun f9 x9 => TwoQ r b2 b5 (q5 + 1 + 1) w7 (.cells #[.int .i64 0, .slice none 0 0] 29 (0, 0)) (.cells #[.int .i64 y.ins, .slice A2 y.gs.length c2] 29 (0, 0)) (f9 5) (f9 6) x9)
   [fun vs9 _ => vs9 0 = (.agg #[.int .i64 y.ins, .slice A2 y.gs.length c2]),
  fun vs9 _ => vs9 1 = (.slice A5 xs.length c5),
  fun vs9 _ => vs9 2 = (.pointer (some ⟨r, 0, none⟩)),
  fun vs9 _ => vs9 3 = (.agg #[.int .i64 y.ins, .slice A2 y.gs.length c2]),
  fun vs9 _ => vs9 4 = (.int .i64 (m7 : Int)),
  fun vs9 y9 => (fun v yy => SayM T v yy) (vs9 5) y9,
  fun _ _ => True,
  fun vs9 _ => vs9 7 = (.slice A5 xs.length c5),
  fun vs9 _ => vs9 8 = vs9 5]
   [(0, 23), (1, 24), (2, 25), (3, 26), (4, 27), (5, 28), (7, 3), (8, 4)] (by kernel_rfl) (by kernel_rfl) (by kernel_rfl) (by kernel_rfl)
   (fun _ => Gr.refl _ _) trivial
   ⟨⟨.inr zK, trivial⟩,
  ⟨.inr zK, trivial⟩,
  ⟨.inr zK, trivial⟩,
  ⟨.inr zK, trivial⟩,
  ⟨.inr zK, trivial⟩,
  ⟨.inr (zS (fun v yy => SayM T v yy) (fun _ _ _ h hR => h.gr hR (fun b hb => hb.elim (fun h => by rw [h]; exact HTr.out) (fun h => by rw [h]; exact (HT.out _).2 (.inr rfl))))), trivial⟩,
  ⟨.inr zK, trivial⟩,
  ⟨.inr zK, trivial⟩,
  ⟨.inr zK, trivial⟩, trivial⟩ ⟨fun _ _ _ h _ v => (by simpa only [← h] using v),
  fun _ _ _ h _ v => (by simpa only [← h] using v),
  fun _ _ _ h _ v => (by simpa only [← h] using v),
  fun _ _ _ h _ v => (by simpa only [← h] using v),
  fun _ _ _ h _ v => (by simpa only [← h] using v),
  fun _ _ _ h _ v => (by simpa only [← h] using v),
  fun _ _ _ _ _ _ => trivial,
  fun _ _ _ h _ v => (by simpa only [← h] using v),
  fun vs vs' x h hd hv => (by have h2 := hd 5 (by decide); show vs' 8 = vs' 5; exact h.symm.trans (Eq.trans hv h2)), trivial⟩ (⟨.below (z01 (Below.refl _ _) 1), ⟨q5 + 1 + 1, HR7.out.up (z01 (Below.refl _ _) 1), by omega, by simp⟩, ((z01 (Below.refl _ _) 1 : Below w7.heap.size w7 _).block _ (lt_of_block HB5.out)).trans HB5.out, (fun _ => ((z01 (Below.refl _ _) 1 : Below w7.heap.size w7 _).block _ (lt_of_block HB2.out)).trans HB2.out), fun h => by cases h⟩) ⟨?_, ?_, ?_, ?_, ?_, ?_, ?_, ?_, ?_, trivial⟩ ?_
  ·
   rintro vals xw f hf1 - - hI hF
   dsimp only [owes4, bare]
   simp only [putsD, Act.put, zA, zB, zC]
   have hk9 := hI.2.2.1
   have c0 := (z00 hk9 0).1
   have c1 := (z00 hk9 1).1
   clear hk9
   go_wp2
   exact ⟨rfl, rfl, Gr.refl _ _, hI⟩
  ·
   rintro vals xw f hf1 - - hI hF
   dsimp only [owes4, bare]
   simp only [putsD, Act.put, zA, zB, zC]
   go_wp2
   exact ⟨rfl, rfl, Gr.refl _ _, hI⟩
  ·
   rintro vals xw f hf1 - - hI hF
   dsimp only [owes4, bare]
   simp only [putsD, Act.put, zA, zB, zC]
   go_wp2
   exact ⟨rfl, rfl, Gr.refl _ _, hI⟩
  ·
   rintro vals xw f hf1 - - hI hF
   dsimp only [owes4, bare]
   simp only [putsD, Act.put, zA, zB, zC]
   have hk9 := hI.2.2.1
   have c0 := (z00 hk9 0).1
   have c1 := (z00 hk9 1).1
   clear hk9
   go_wp2
   exact ⟨rfl, rfl, Gr.refl _ _, hI⟩
  ·
   rintro vals xw f hf1 - - hI hF
   dsimp only [owes4, bare]
   simp only [putsD, Act.put, zA, zB, zC]
   go_wp2
   exact ⟨rfl, rfl, Gr.refl _ _, hI⟩
  ·
   rintro vals xw f hf1 - - hI hF
   simp only [saysD, zD, zE, and_true] at hF
   obtain ⟨e1, e2, e3⟩ := hF
   dsimp only [owes4, bare]
   simp only [putsD, Act.put, zA, zB, zC]
   simp only [e1, e2, e3]
   obtain ⟨i1, ⟨q', hq, q'0, q'1⟩, i3, i4, i5⟩ := hI
   rw [hf1, if_neg (by simp)] at q'1
   have hsz9 := i1.size
   have I1 := zH i1
   have I3 := zH i3
   have I4 := zH i4
   have I5 := zH i5
   clear i1 i3 i4 i5
   go_wp2_with fail
   refine (l7Marks_any r q' y A2 c2 m7 xw hq (by omega) (by omega) (by omega) (by omega) (by omega) (by omega) (by omega)).mono ?_
   rintro e wx ⟨B9, d9, ys, rfl, ho9, hk9, q9, q90, q91, hR9, hg9⟩
   have HG9 := zH (hg9.mono (T := fun b => b = r ∨ b = b2) fun b hb => .inl hb)
   have HSM := zH (show SayM T (.slice B9 ys.length d9) wx from ⟨ys, B9, d9, rfl, hk9, ho9.capI, ho9.ab (fun b hb => by have := HTL.out b hb; omega)⟩)
   have HQ9 := zH (show TwoQ r b2 b5 (q5 + 1 + 1) w7 (.cells #[.int .i64 0, .slice none 0 0] 29 (0, 0)) (.cells #[.int .i64 y.ins, .slice A2 y.gs.length c2] 29 (0, 0)) true (f 6) wx from ⟨I1.out.trans HG9.out, ⟨q9, hR9, by omega, by simp; omega⟩, hg9.heap (by show ¬ _ = r; omega) I3.out, fun h => hg9.heap (by show ¬ _ = r; omega) (I4.out h), fun h => hg9.heap (by show ¬ _ = r; omega) (I5.out h)⟩)
   clear ho9 hk9 hR9 hg9
   go_wp2
   exact ⟨rfl, HSM.out, HG9.out, HQ9.out⟩
  ·
   rintro vals xw f hf1 - - hI hF
   simp only [saysD, zD, zE, and_true] at hF
   have e23 := hF
   dsimp only [owes4, bare]
   simp only [putsD, Act.put, zA, zB, zC]
   simp only [e23]
   obtain ⟨i1, ⟨q', i2, q'0, q'1⟩, i3, i4, i5⟩ := hI
   have j4 := i4 hf1
   have v0 := (z00 j4 0).1
   have v1 := (z00 j4 1).1
   have f0 := (z00 j4 0).2
   have f1 := (z00 j4 1).2
   have hh := z03 _ b2 1 (.slice A2 y.gs.length c2) _ _ (z03 xw b2 0 (.int .i64 y.ins) _ _ j4)
   have hg : Gr (fun z => z = b2) xw ((xw.setCell ⟨b2, 0, none⟩ (.int .i64 y.ins)).setCell ⟨b2, 1, none⟩ (.slice A2 y.gs.length c2)) := ((Gr.refl (fun z => z = b2) xw).set _ _ _ (.inl (by rfl))).set _ _ _ (.inl (by rfl))
   have HH := zH hh
   have HG9 := zH hg
   have J4 := zH j4
   have I1 := zH i1
   have I2 := zH i2
   have I3 := zH i3
   clear i1 i2 i3 i4 i5 j4 hh hg
   go_wp2
   have hgT := HG9.out.mono (T := fun b => b = r ∨ b = b2) fun z hz => .inr hz
   exact ⟨rfl, trivial, hgT, I1.out.trans hgT, ⟨q', I2.out.far HG9.out (by omega) ⟨_, _, _, J4.out, by simp⟩, q'0, q'1⟩, HG9.out.heap (by show ¬ _ = b2; omega) I3.out, fun h => absurd ((z10 f 6).symm.trans h) (by simp), fun _ => HH.out⟩
  ·
   rintro vals xw f hf1 - - hI hF
   simp only [saysD, zD, zE, and_true] at hF
   have e24 := hF
   dsimp only [owes4, bare]
   simp only [putsD, Act.put, zA, zB, zC]
   simp only [e24]
   go_wp2
   exact ⟨rfl, rfl, Gr.refl _ _, hI⟩
  ·
   rintro vals xw f hf1 - - hI hF
   simp only [saysD, zD, zE, and_true] at hF
   obtain ⟨ys, B8, d8, e28, _⟩ := hF
   dsimp only [owes4, bare]
   simp only [putsD, Act.put, zA, zB, zC]
   simp only [e28]
   go_wp2
   exact ⟨rfl, e28.symm, Gr.refl _ _, hI⟩
  ·
   intro vals xw f hall hI hF
   rw [show List.range _ = [0, 1, 2, 3, 4, 5, 6, 7, 8] from rfl] at hF
   simp only [says, zD, zE, and_true] at hF
   obtain ⟨i1, ⟨q', i2, q'0, q'1⟩, _, _, i5⟩ := hI
   rw [hall 5 (by decide), if_pos rfl] at q'1
   have j5 := i5 (hall 6 (by decide))
   obtain ⟨_, _, _, _, _, ⟨ys, Y, cy, e28, hk9, hcy, hs9⟩, _, e3, e4⟩ := hF
   rw [e28] at e4
   have k5 := (z00 j5 0).1
   have k6 := (z00 j5 1).1
   have kf5 := (z00 j5 0).2
   have kf6 := (z00 j5 1).2
   have I1 := zH i1
   have I2 := zH i2
   have HK9 := zH hk9
   have HCY := zH hcy
   have HS9 := zH hs9
   clear i1 i2 i5 j5 hk9 hs9 hcy e28
   simp only [putsD, Act.put, zA, zB, zC]
   simp only [e3, e4]
   clear e3 e4
   go_wp2
   refine bodyPost_ret (v := .tuple #[.agg #[.int .i64 y.ins, .slice A2 y.gs.length c2], .slice A5 xs.length c5, .slice Y ys.length cy]) (by simp [results, Tryz.results49, go_sem, k5, k6, kf5, kf6]) rfl ?_
   have hgx : Gr T w7 xw := I1.out.mono (fun b hb => hb.elim (fun h => by rw [h]; exact HTr.out) (fun h => by rw [h]; exact (HT.out _).2 (.inr rfl)))
   exact ⟨y, A2, c2, xs, A5, c5, ys, Y, cy, rfl, (HS.out.gr hgx).ab_mono fun b _ hb => (HT.out b).2 (.inl hb), (HXS.out.gr hgx).ab_mono fun b _ hb => (HT.out b).2 (.inl hb), HS9.out.ab_mono fun b _ hb => (HT.out b).2 (.inl hb), HBN.out, HOK.out, HK9.out, HCX.out, HCY.out, q', by omega, by omega, I2.out, HGG7.out.then I1.out (fun b hb => hb.imp id (fun h => by rw [HB2E.out]; omega))⟩
 ·
  have hkb : (k6 == 0) = false := by simpa using hk6
  clear hk6
  have HR6 := zH hR6
  have HGG6 := zH hgg6
  clear hR6 hgg6
  go_wp2
  refine z05 [[], [], [], [], [], [(2, 25), (3, 26), (4, 27)], [(0, 23)], [(1, 24)], [(5, 28)]]
   (Gr (fun b => b = r ∨ b = b2))
   []
   (fun f9 x9 => TwoQ r b2 b5 (q5 + 1) w6 (.cells #[.int .i64 0, .slice none 0 0] 29 (0, 0)) (.cells #[.int .i64 y.ins, .slice A2 y.gs.length c2] 29 (0, 0)) (f9 5) (f9 6) x9)
   [fun vs9 _ => vs9 0 = (.agg #[.int .i64 y.ins, .slice A2 y.gs.length c2]),
  fun vs9 _ => vs9 1 = (.slice A5 xs.length c5),
  fun vs9 _ => vs9 2 = (.pointer (some ⟨r, 0, none⟩)),
  fun vs9 _ => vs9 3 = (.agg #[.int .i64 y.ins, .slice A2 y.gs.length c2]),
  fun vs9 _ => vs9 4 = (.int .i64 (m : Int)),
  fun vs9 y9 => (fun v yy => SayM T v yy) (vs9 5) y9,
  fun _ _ => True,
  fun vs9 _ => vs9 7 = (.slice A5 xs.length c5),
  fun vs9 _ => vs9 8 = vs9 5]
   [(0, 23), (1, 24), (2, 25), (3, 26), (4, 27), (5, 28), (7, 3), (8, 4)] (by kernel_rfl) (by kernel_rfl) (by kernel_rfl) (by kernel_rfl)
   (fun _ => Gr.refl _ _) trivial
   ⟨⟨.inr zK, trivial⟩,
  ⟨.inr zK, trivial⟩,
  ⟨.inr zK, trivial⟩,
  ⟨.inr zK, trivial⟩,
  ⟨.inr zK, trivial⟩,
  ⟨.inr (zS (fun v yy => SayM T v yy) (fun _ _ _ h hR => h.gr hR (fun b hb => hb.elim (fun h => by rw [h]; exact HTr.out) (fun h => by rw [h]; exact (HT.out _).2 (.inr rfl))))), trivial⟩,
  ⟨.inr zK, trivial⟩,
  ⟨.inr zK, trivial⟩,
  ⟨.inr zK, trivial⟩, trivial⟩ ⟨fun _ _ _ h _ v => (by simpa only [← h] using v),
  fun _ _ _ h _ v => (by simpa only [← h] using v),
  fun _ _ _ h _ v => (by simpa only [← h] using v),
  fun _ _ _ h _ v => (by simpa only [← h] using v),
  fun _ _ _ h _ v => (by simpa only [← h] using v),
  fun _ _ _ h _ v => (by simpa only [← h] using v),
  fun _ _ _ _ _ _ => trivial,
  fun _ _ _ h _ v => (by simpa only [← h] using v),
  fun vs vs' x h hd hv => (by have h2 := hd 5 (by decide); show vs' 8 = vs' 5; exact h.symm.trans (Eq.trans hv h2)), trivial⟩ (⟨.below (z01 (Below.refl _ _) 1), ⟨q5 + 1, HR6.out.up (z01 (Below.refl _ _) 1), by omega, by simp⟩, ((z01 (Below.refl _ _) 1 : Below w6.heap.size w6 _).block _ (lt_of_block HB5.out)).trans HB5.out, (fun _ => ((z01 (Below.refl _ _) 1 : Below w6.heap.size w6 _).block _ (lt_of_block HB2.out)).trans HB2.out), fun h => by cases h⟩) ⟨?_, ?_, ?_, ?_, ?_, ?_, ?_, ?_, ?_, trivial⟩ ?_
  ·
   rintro vals xw f hf1 - - hI hF
   dsimp only [owes4, bare]
   simp only [putsD, Act.put, zA, zB, zC]
   have hk9 := hI.2.2.1
   have c0 := (z00 hk9 0).1
   have c1 := (z00 hk9 1).1
   clear hk9
   go_wp2
   exact ⟨rfl, rfl, Gr.refl _ _, hI⟩
  ·
   rintro vals xw f hf1 - - hI hF
   dsimp only [owes4, bare]
   simp only [putsD, Act.put, zA, zB, zC]
   go_wp2
   exact ⟨rfl, rfl, Gr.refl _ _, hI⟩
  ·
   rintro vals xw f hf1 - - hI hF
   dsimp only [owes4, bare]
   simp only [putsD, Act.put, zA, zB, zC]
   go_wp2
   exact ⟨rfl, rfl, Gr.refl _ _, hI⟩
  ·
   rintro vals xw f hf1 - - hI hF
   dsimp only [owes4, bare]
   simp only [putsD, Act.put, zA, zB, zC]
   have hk9 := hI.2.2.1
   have c0 := (z00 hk9 0).1
   have c1 := (z00 hk9 1).1
   clear hk9
   go_wp2
   exact ⟨rfl, rfl, Gr.refl _ _, hI⟩
  ·
   rintro vals xw f hf1 - - hI hF
   dsimp only [owes4, bare]
   simp only [putsD, Act.put, zA, zB, zC]
   go_wp2
   exact ⟨rfl, rfl, Gr.refl _ _, hI⟩
  ·
   rintro vals xw f hf1 - - hI hF
   simp only [saysD, zD, zE, and_true] at hF
   obtain ⟨e1, e2, e3⟩ := hF
   dsimp only [owes4, bare]
   simp only [putsD, Act.put, zA, zB, zC]
   simp only [e1, e2, e3]
   obtain ⟨i1, ⟨q', hq, q'0, q'1⟩, i3, i4, i5⟩ := hI
   rw [hf1, if_neg (by simp)] at q'1
   have hsz9 := i1.size
   have I1 := zH i1
   have I3 := zH i3
   have I4 := zH i4
   have I5 := zH i5
   clear i1 i3 i4 i5
   go_wp2_with fail
   refine (l7Marks_any r q' y A2 c2 m xw hq (by omega) (by omega) (by omega) (by omega) (by omega) (by omega) (by omega)).mono ?_
   rintro e wx ⟨B9, d9, ys, rfl, ho9, hk9, q9, q90, q91, hR9, hg9⟩
   have HG9 := zH (hg9.mono (T := fun b => b = r ∨ b = b2) fun b hb => .inl hb)
   have HSM := zH (show SayM T (.slice B9 ys.length d9) wx from ⟨ys, B9, d9, rfl, hk9, ho9.capI, ho9.ab (fun b hb => by have := HTL.out b hb; omega)⟩)
   have HQ9 := zH (show TwoQ r b2 b5 (q5 + 1) w6 (.cells #[.int .i64 0, .slice none 0 0] 29 (0, 0)) (.cells #[.int .i64 y.ins, .slice A2 y.gs.length c2] 29 (0, 0)) true (f 6) wx from ⟨I1.out.trans HG9.out, ⟨q9, hR9, by omega, by simp; omega⟩, hg9.heap (by show ¬ _ = r; omega) I3.out, fun h => hg9.heap (by show ¬ _ = r; omega) (I4.out h), fun h => hg9.heap (by show ¬ _ = r; omega) (I5.out h)⟩)
   clear ho9 hk9 hR9 hg9
   go_wp2
   exact ⟨rfl, HSM.out, HG9.out, HQ9.out⟩
  ·
   rintro vals xw f hf1 - - hI hF
   simp only [saysD, zD, zE, and_true] at hF
   have e23 := hF
   dsimp only [owes4, bare]
   simp only [putsD, Act.put, zA, zB, zC]
   simp only [e23]
   obtain ⟨i1, ⟨q', i2, q'0, q'1⟩, i3, i4, i5⟩ := hI
   have j4 := i4 hf1
   have v0 := (z00 j4 0).1
   have v1 := (z00 j4 1).1
   have f0 := (z00 j4 0).2
   have f1 := (z00 j4 1).2
   have hh := z03 _ b2 1 (.slice A2 y.gs.length c2) _ _ (z03 xw b2 0 (.int .i64 y.ins) _ _ j4)
   have hg : Gr (fun z => z = b2) xw ((xw.setCell ⟨b2, 0, none⟩ (.int .i64 y.ins)).setCell ⟨b2, 1, none⟩ (.slice A2 y.gs.length c2)) := ((Gr.refl (fun z => z = b2) xw).set _ _ _ (.inl (by rfl))).set _ _ _ (.inl (by rfl))
   have HH := zH hh
   have HG9 := zH hg
   have J4 := zH j4
   have I1 := zH i1
   have I2 := zH i2
   have I3 := zH i3
   clear i1 i2 i3 i4 i5 j4 hh hg
   go_wp2
   have hgT := HG9.out.mono (T := fun b => b = r ∨ b = b2) fun z hz => .inr hz
   exact ⟨rfl, trivial, hgT, I1.out.trans hgT, ⟨q', I2.out.far HG9.out (by omega) ⟨_, _, _, J4.out, by simp⟩, q'0, q'1⟩, HG9.out.heap (by show ¬ _ = b2; omega) I3.out, fun h => absurd ((z10 f 6).symm.trans h) (by simp), fun _ => HH.out⟩
  ·
   rintro vals xw f hf1 - - hI hF
   simp only [saysD, zD, zE, and_true] at hF
   have e24 := hF
   dsimp only [owes4, bare]
   simp only [putsD, Act.put, zA, zB, zC]
   simp only [e24]
   go_wp2
   exact ⟨rfl, rfl, Gr.refl _ _, hI⟩
  ·
   rintro vals xw f hf1 - - hI hF
   simp only [saysD, zD, zE, and_true] at hF
   obtain ⟨ys, B8, d8, e28, _⟩ := hF
   dsimp only [owes4, bare]
   simp only [putsD, Act.put, zA, zB, zC]
   simp only [e28]
   go_wp2
   exact ⟨rfl, e28.symm, Gr.refl _ _, hI⟩
  ·
   intro vals xw f hall hI hF
   rw [show List.range _ = [0, 1, 2, 3, 4, 5, 6, 7, 8] from rfl] at hF
   simp only [says, zD, zE, and_true] at hF
   obtain ⟨i1, ⟨q', i2, q'0, q'1⟩, _, _, i5⟩ := hI
   rw [hall 5 (by decide), if_pos rfl] at q'1
   have j5 := i5 (hall 6 (by decide))
   obtain ⟨_, _, _, _, _, ⟨ys, Y, cy, e28, hk9, hcy, hs9⟩, _, e3, e4⟩ := hF
   rw [e28] at e4
   have k5 := (z00 j5 0).1
   have k6 := (z00 j5 1).1
   have kf5 := (z00 j5 0).2
   have kf6 := (z00 j5 1).2
   have I1 := zH i1
   have I2 := zH i2
   have HK9 := zH hk9
   have HCY := zH hcy
   have HS9 := zH hs9
   clear i1 i2 i5 j5 hk9 hs9 hcy e28
   simp only [putsD, Act.put, zA, zB, zC]
   simp only [e3, e4]
   clear e3 e4
   go_wp2
   refine bodyPost_ret (v := .tuple #[.agg #[.int .i64 y.ins, .slice A2 y.gs.length c2], .slice A5 xs.length c5, .slice Y ys.length cy]) (by simp [results, Tryz.results49, go_sem, k5, k6, kf5, kf6]) rfl ?_
   have hgx : Gr T w6 xw := I1.out.mono (fun b hb => hb.elim (fun h => by rw [h]; exact HTr.out) (fun h => by rw [h]; exact (HT.out _).2 (.inr rfl)))
   exact ⟨y, A2, c2, xs, A5, c5, ys, Y, cy, rfl, (HS.out.gr hgx).ab_mono fun b _ hb => (HT.out b).2 (.inl hb), (HXS.out.gr hgx).ab_mono fun b _ hb => (HT.out b).2 (.inl hb), HS9.out.ab_mono fun b _ hb => (HT.out b).2 (.inl hb), HBN.out, HOK.out, HK9.out, HCX.out, HCY.out, q', by omega, by omega, I2.out, HGG6.out.then I1.out (fun b hb => hb.imp id (fun h => by rw [HB2E.out]; omega))⟩
def DrawB4 (w : World) (e : Ending) (w' : World) : Prop :=
 ∃ (n : N) (A : Option Addr) (c : Nat) (m : Int) (xs : List Int) (X : Option Addr) (cx : Nat) (ys : List Int) (Y : Option Addr) (cy : Nat), e = .returned (.tuple #[.agg #[.int .i64 n.ins, .slice A n.gs.length c], .int .i64 m, .slice X xs.length cx, .slice Y ys.length cy]) ∧
  Lay.gate.Rd w' A n.gs ∧ Lay.int.Rd w' X xs ∧ Lay.int.Rd w' Y ys ∧ bentN 4 n ∧ okInt m ∧ okMks xs ∧ okMks ys ∧ xs.length ≤ cx ∧ ys.length ≤ cy ∧ Below w.heap.size w w'
set_option maxHeartbeats 1000000 in
theorem l1Min_any (a b : Int) (w : World) : Calls Tryz.prog 50 #[.int .i64 a, .int .i64 b] w fun e w' => e = .returned (.int .i64 (if a < b then a else b)) ∧ w = w' := by
 by_cases h : a < b
 ·
  rw [if_pos h]
  go_enter Tryz.func50, Tryz.ntmps50
  go_wp2
  go_ret
  exact ⟨rfl, rfl⟩
 ·
  rw [if_neg h]
  go_enter Tryz.func50, Tryz.ntmps50
  go_wp2
  go_ret
  exact ⟨rfl, rfl⟩
theorem okMks_take {xs : List Int} (h : okMks xs) (k : Nat) : okMks (xs.take k) := ⟨by rw [List.length_take]; have := h.1; omega, fun x hx => h.2 x (List.mem_of_mem_take hx)⟩
set_option maxRecDepth 100000 in
set_option maxHeartbeats 4000000 in
theorem drawBitsBin_any (A : Option Addr) (c : Nat) (bs : List UInt8) (w : World) (h : Lay.byte.Rd w A bs) (hc : bs.length ≤ c) (hn : bs.length ≤ 9223372036854775807) :
  Calls Tryz.prog 16 #[.slice A bs.length c] w (DrawB4 w) := by
 have hal0 : Below w.heap.size w (w.alloc (.cells #[.int .i64 0, .slice none 0 0] 29)) := (Below.refl _ _).alloc (Nat.le_refl _) _
 have HB2 := zH (show (w.alloc (.cells #[.int .i64 0, .slice none 0 0] 29)).heap[w.heap.size]? = some (.cells #[.int .i64 0, .slice none 0 0] 29 (0, 0)) from heap_alloc_new _ _)
 have HO := zH (open_any A c bs _ (h.up hal0) hc hn)
 have HAL := zH hal0
 have HS0 := zH (show (w.alloc (.cells #[.int .i64 0, .slice none 0 0] 29)).heap.size = w.heap.size + 1 by simp)
 clear hal0 h
 go_enter Tryz.func16, Tryz.ntmps16
 go_wp2_with fail
 have hs0 := HS0.out
 clear HS0
 generalize w.alloc (.cells #[.int .i64 0, .slice none 0 0] 29) = w0 at *
 refine HO.out.mono ?_
 clear HO
 rintro e w1 ⟨r, rfl, hr, hR1, hb1⟩
 have HB2 := zH ((hb1.block _ (lt_of_block HB2.out)).trans HB2.out)
 have HBW := zH (bthen HAL.out hb1)
 have hr2 : w.heap.size < r := by omega
 have hrl := hR1.lt
 obtain ⟨T, hT⟩ : ∃ T : Nat → Prop, ∀ b, T b ↔ b = r ∨ b = w.heap.size := ⟨fun b => b = r ∨ b = w.heap.size, fun _ => Iff.rfl⟩
 have HT := zH hT
 have HTL : Hid (∀ b, T b → b < w1.heap.size) := zH fun b hb => by have := (hT b).1 hb; omega
 have hT9 : T r := (hT r).2 (.inl rfl)
 have HTr := zH hT9
 clear hT hb1 HAL hs0
 have hrz : r < w1.heap.size := hrl
 have hwz : w.heap.size < w1.heap.size := by omega
 clear hT9
 go_wp2_with fail
 refine (pick_any r 0 12 w1 hR1 (by omega) (by omega) (by omega) (by omega)).mono ?_
 rintro e w2 ⟨k, rfl, k0, kL, _, hR2, hg9⟩
 have hg9 := Gr.one (S := IsR r) hg9 rfl
 have HB2 := zH (hg9.heap (by show ¬ _ = r; omega) HB2.out)
 have HG3 := zH hg9
 have hz9 := hg9.size
 clear hg9
 have kL := kL (by omega)
 clear hR1
 go_wp2_with fail
 refine (pick_any r (0 + 1) 16 w2 hR2 (by omega) (by omega) (by omega) (by omega)).mono ?_
 rintro e w3 ⟨m, rfl, m0, mL, _, hR3, hg9⟩
 have hg9 := Gr.one (S := IsR r) hg9 rfl
 have HB2 := zH (hg9.heap (by show ¬ _ = r; omega) HB2.out)
 have HG3 := zH (HG3.out.trans hg9)
 have hz9 := hg9.size
 clear hg9
 clear hR2
 by_cases hm0 : m = 0
 ·
  have hmb : (m == 0) = true := by simpa using hm0
  clear hm0
  go_wp2_with fail
  refine (pick_any r (0 + 1 + 1) 20 w3 hR3 (by omega) (by omega) (by omega) (by omega)).mono ?_
  rintro e w4 ⟨o, rfl, o0, oL, _, hR4, hg9⟩
  have hg9 := Gr.one (S := IsR r) hg9 rfl
  have HB2 := zH (hg9.heap (by show ¬ _ = r; omega) HB2.out)
  have HG3 := zH (HG3.out.trans hg9)
  have hz9 := hg9.size
  clear hg9
  have oL := oL (by omega)
  clear hR3
  go_wp2_with fail
  refine (l7Two_any T r (0 + 1 + 1 + 1) w4 hR4 (fun b hb => by have := HTL.out b hb; omega) HTr.out (by omega) (by omega)).mono ?_
  rintro e w2 ⟨n, A2, c2, xs, X, cx, ys, Y, cy, rfl, hs2, hx2, hy2, hbn, hkx, hky, hcx, hcy, q2, q20, q21, hR2, hg9⟩
  have HB2 := zH (hg9.heap (by show ¬ _ = r; omega) HB2.out)
  have HG3 := zH (HG3.out.trans hg9)
  have hz9 := hg9.size
  clear hg9
  have HBN := zH hbn
  obtain ⟨hx5, hy5⟩ : xs.length ≤ 5 ∧ ys.length ≤ 5 := ⟨hkx.1, hky.1⟩
  have HK := zH (And.intro hkx hky)
  have HCC := zH (And.intro hcx hcy)
  have hal : Below w2.heap.size w2 (w2.alloc (.cells #[.int .i64 n.ins, .slice A2 n.gs.length c2] 29)) := (Below.refl _ _).alloc (Nat.le_refl _) _
  have HB5 := zH (show (w2.alloc (.cells #[.int .i64 n.ins, .slice A2 n.gs.length c2] 29)).heap[w2.heap.size]? = some (.cells #[.int .i64 n.ins, .slice A2 n.gs.length c2] 29 (0, 0)) from heap_alloc_new _ _)
  have HB2w := HB2
  have HG2 := HG3
  have HS2 := zH hs2
  have HX2 := zH hx2
  have HY2 := zH hy2
  have HB2 := zH ((hal.block _ (lt_of_block HB2.out)).trans HB2.out)
  have hR7 := hR2.up hal
  have HG3 := zH (HG3.out.up hal)
  have HS := zH (hs2.gr (.below hal))
  have HX := zH (hx2.gr (.below hal))
  have HY := zH (hy2.gr (.below hal))
  have i5 : r < w2.heap.size := by omega
  have i6 : w.heap.size < w2.heap.size := by omega
  clear hal hR2 hs2 hx2 hy2 hbn hkx hky hcx hcy hR4
  by_cases h14 : o = 14
  ·
   have hb14 : (o == 14) = true := by simpa using h14
   have H14 := zH h14
   clear h14
   by_cases hl1 : (1 : Int) < xs.length
   ·
    skip
    have hcx2 : (xs.length : Int) ≤ cx := by have := HCC.out.1; omega
    have hcy2 : (ys.length : Int) ≤ cy := by have := HCC.out.2; omega
    go_wp2_with fail
    generalize w2.alloc (.cells #[.int .i64 n.ins, .slice A2 n.gs.length c2] 29) = w7 at *
    generalize hb5e : w2.heap.size = b5 at *
    clear hb5e
    refine (pick_any r q2 _ w7 hR7 (by omega) (by omega) (by omega) (by omega)).mono ?_
    clear HB2w HG2 HS2 HX2 HY2
    rintro e w9 ⟨kk, rfl, kk0, kk1, kk2, hR9, hg9⟩
    have hg9 := Gr.one (S := IsR r) hg9 rfl
    have HB2 := zH (hg9.heap (by show ¬ _ = r; omega) HB2.out)
    have HB5 := zH (hg9.heap (by show ¬ _ = r; omega) HB5.out)
    have HS := zH (HS.out.gr (hg9.mono fun b hb => by rw [show b = r from hb]; exact HTr.out))
    have HX := zH (HX.out.gr (hg9.mono fun b hb => by rw [show b = r from hb]; exact HTr.out))
    have HY := zH (HY.out.gr (hg9.mono fun b hb => by rw [show b = r from hb]; exact HTr.out))
    have HG3 := zH (HG3.out.trans hg9)
    have hz9 := hg9.size
    clear hg9
    have kk1 := kk1 (by omega)
    obtain ⟨kn, rfl⟩ : ∃ kn : Nat, kk = kn := ⟨kk.toNat, by omega⟩
    clear hR7 hR9
    obtain ⟨adx, rfl, -, -⟩ := HX.out.at_int (k := 0) (by omega)
    have HXT := zH (okMks_take HK.out.1 (1 + kn))
    have hlx : (xs.take (1 + kn)).length = 1 + kn := by rw [List.length_take]; omega
    have HXS := zH (HX.out.take (1 + kn))
    have HXC : Hid ((xs.take (1 + kn)).length ≤ cx) := zH (by rw [hlx]; omega)
    obtain ⟨tx, htx⟩ : ∃ tx, tx = xs.take (1 + kn) := ⟨_, rfl⟩
    rw [← htx] at HXT HXS HXC hlx
    clear htx HX
    by_cases hy2 : (ys.length : Int) < 2
    ·
     have HM := zH (l1Min_any ys.length 2 w9)
     rw [if_pos hy2] at HM
     go_wp2_with fail
     refine HM.out.mono ?_
     clear HM
     rintro e wz ⟨rfl, hwz⟩
     subst hwz
     obtain ⟨wz, hwz⟩ : ∃ wz, wz = w9 := ⟨_, rfl⟩
     subst hwz
     have v0 := (z00 HB5.out 0).1
     have v1 := (z00 HB5.out 1).1
     have u0 := (z00 HB2.out 0).1
     have u1 := (z00 HB2.out 1).1
     have g0 := (z00 HB2.out 0).2
     have g1 := (z00 HB2.out 1).2
     go_wp2
     have HX := HXS
     have hset : Gr T wz ((wz.setCell ⟨w.heap.size, 0, none⟩ (.int .i64 n.ins)).setCell ⟨w.heap.size, 1, none⟩ (.slice A2 n.gs.length c2)) := ((Gr.refl _ _).set _ _ _ (.inl ((HT.out _).2 (.inr rfl)))).set _ _ _ (.inl ((HT.out _).2 (.inr rfl)))
     have HL := zH (And.intro ((HS.out.gr hset).ab_rd) (And.intro ((HX.out.gr hset).ab_rd) ((HY.out.gr hset).ab_rd)))
     have HGG := zH (((Gr.below (S := T) HBW.out).trans (HG3.out.mono fun b hb => (HT.out b).2 (.inl hb))).trans hset)
     have HQ2 := zH (z03 _ (w.heap.size) 1 (.slice A2 n.gs.length c2) _ _ (z03 _ (w.heap.size) 0 (.int .i64 n.ins) _ _ HB2.out))
     clear hset
     have k5 := (z00 HQ2.out 0).1
     have k6 := (z00 HQ2.out 1).1
     have kf5 := (z00 HQ2.out 0).2
     have kf6 := (z00 HQ2.out 1).2
     refine bodyPost_ret (v := .tuple #[.agg #[.int .i64 n.ins, .slice A2 n.gs.length c2], .int .i64 o, .slice (some adx) (1 + kn) cx, .slice Y ys.length cy]) (by simp [results, Tryz.results16, go_sem, k5, k6, kf5, kf6]) rfl ⟨n, A2, c2, o, tx, (some adx), cx, ys, Y, cy, (by rw [hlx]), HL.out.1, HL.out.2.1, HL.out.2.2, HBN.out, (by unfold okInt; omega), HXT.out, HK.out.2, HXC.out, HCC.out.2, ?_⟩
     exact HGG.out.to_below fun b hb => by rcases (HT.out b).1 hb with h9 | h9 <;> omega
    ·
     have HM := zH (l1Min_any ys.length 2 w9)
     rw [if_neg hy2] at HM
     obtain ⟨ady, rfl, -, -⟩ := HY.out.at_int (k := 0) (by omega)
     have HYT := zH (okMks_take HK.out.2 2)
     have hly : (ys.take 2).length = 2 := by rw [List.length_take]; omega
     have HYC : Hid ((ys.take 2).length ≤ cy) := zH (by rw [hly]; omega)
     have HYS := zH (HY.out.take 2)
     obtain ⟨ty, hty⟩ : ∃ ty, ty = ys.take 2 := ⟨_, rfl⟩
     rw [← hty] at HYT HYS HYC hly
     clear hty HY
     go_wp2_with fail
     refine HM.out.mono ?_
     clear HM
     rintro e wz ⟨rfl, hwz⟩
     subst hwz
     obtain ⟨wz, hwz⟩ : ∃ wz, wz = w9 := ⟨_, rfl⟩
     subst hwz
     have v0 := (z00 HB5.out 0).1
     have v1 := (z00 HB5.out 1).1
     have u0 := (z00 HB2.out 0).1
     have u1 := (z00 HB2.out 1).1
     have g0 := (z00 HB2.out 0).2
     have g1 := (z00 HB2.out 1).2
     go_wp2
     have HX := HXS
     have HY := HYS
     have hset : Gr T wz ((wz.setCell ⟨w.heap.size, 0, none⟩ (.int .i64 n.ins)).setCell ⟨w.heap.size, 1, none⟩ (.slice A2 n.gs.length c2)) := ((Gr.refl _ _).set _ _ _ (.inl ((HT.out _).2 (.inr rfl)))).set _ _ _ (.inl ((HT.out _).2 (.inr rfl)))
     have HL := zH (And.intro ((HS.out.gr hset).ab_rd) (And.intro ((HX.out.gr hset).ab_rd) ((HY.out.gr hset).ab_rd)))
     have HGG := zH (((Gr.below (S := T) HBW.out).trans (HG3.out.mono fun b hb => (HT.out b).2 (.inl hb))).trans hset)
     have HQ2 := zH (z03 _ (w.heap.size) 1 (.slice A2 n.gs.length c2) _ _ (z03 _ (w.heap.size) 0 (.int .i64 n.ins) _ _ HB2.out))
     clear hset
     have k5 := (z00 HQ2.out 0).1
     have k6 := (z00 HQ2.out 1).1
     have kf5 := (z00 HQ2.out 0).2
     have kf6 := (z00 HQ2.out 1).2
     refine bodyPost_ret (v := .tuple #[.agg #[.int .i64 n.ins, .slice A2 n.gs.length c2], .int .i64 o, .slice (some adx) (1 + kn) cx, .slice (some ady) 2 cy]) (by simp [results, Tryz.results16, go_sem, k5, k6, kf5, kf6]) rfl ⟨n, A2, c2, o, tx, (some adx), cx, ty, (some ady), cy, (by rw [hlx, hly]), HL.out.1, HL.out.2.1, HL.out.2.2, HBN.out, (by unfold okInt; omega), HXT.out, HYT.out, HXC.out, HYC.out, ?_⟩
     exact HGG.out.to_below fun b hb => by rcases (HT.out b).1 hb with h9 | h9 <;> omega
   ·
    skip
    have u0 := (z00 HB2w.out 0).1
    have u1 := (z00 HB2w.out 1).1
    have g0 := (z00 HB2w.out 0).2
    have g1 := (z00 HB2w.out 1).2
    have hal2 : Below ((w2.setCell ⟨w.heap.size, 0, none⟩ (.int .i64 n.ins)).setCell ⟨w.heap.size, 1, none⟩ (.slice A2 n.gs.length c2)).heap.size ((w2.setCell ⟨w.heap.size, 0, none⟩ (.int .i64 n.ins)).setCell ⟨w.heap.size, 1, none⟩ (.slice A2 n.gs.length c2)) (((w2.setCell ⟨w.heap.size, 0, none⟩ (.int .i64 n.ins)).setCell ⟨w.heap.size, 1, none⟩ (.slice A2 n.gs.length c2)).alloc (.cells #[.int .i64 n.ins, .slice A2 n.gs.length c2] 29)) := (Below.refl _ _).alloc (Nat.le_refl _) _
    have hset : Gr T w2 (((w2.setCell ⟨w.heap.size, 0, none⟩ (.int .i64 n.ins)).setCell ⟨w.heap.size, 1, none⟩ (.slice A2 n.gs.length c2)).alloc (.cells #[.int .i64 n.ins, .slice A2 n.gs.length c2] 29)) := (((Gr.refl _ _).set _ _ _ (.inl ((HT.out _).2 (.inr rfl)))).set _ _ _ (.inl ((HT.out _).2 (.inr rfl)))).up hal2
    have HL := zH (And.intro ((HS2.out.gr hset).ab_rd) (And.intro ((HX2.out.gr hset).ab_rd) ((HY2.out.gr hset).ab_rd)))
    have HGG := zH (((Gr.below (S := T) HBW.out).trans (HG2.out.mono fun b hb => (HT.out b).2 (.inl hb))).trans hset)
    have hq := z03 _ (w.heap.size) 1 (.slice A2 n.gs.length c2) _ _ (z03 _ (w.heap.size) 0 (.int .i64 n.ins) _ _ HB2w.out)
    have HQ2 := zH ((hal2.block _ (lt_of_block hq)).trans hq)
    clear hset hal2 hq
    go_wp2
    clear u0 u1 g0 g1
    generalize ((w2.setCell ⟨w.heap.size, 0, none⟩ (.int .i64 n.ins)).setCell ⟨w.heap.size, 1, none⟩ (.slice A2 n.gs.length c2)).alloc (.cells #[.int .i64 n.ins, .slice A2 n.gs.length c2] 29) = wz at *
    have k5 := (z00 HQ2.out 0).1
    have k6 := (z00 HQ2.out 1).1
    have kf5 := (z00 HQ2.out 0).2
    have kf6 := (z00 HQ2.out 1).2
    refine bodyPost_ret (v := .tuple #[.agg #[.int .i64 n.ins, .slice A2 n.gs.length c2], .int .i64 o, .slice X xs.length cx, .slice Y ys.length cy]) (by simp [results, Tryz.results16, go_sem, k5, k6, kf5, kf6]) rfl ⟨n, A2, c2, o, xs, X, cx, ys, Y, cy, rfl, HL.out.1, HL.out.2.1, HL.out.2.2, HBN.out, (by unfold okInt; omega), HK.out.1, HK.out.2, HCC.out.1, HCC.out.2, ?_⟩
    exact HGG.out.to_below fun b hb => by rcases (HT.out b).1 hb with h9 | h9 <;> omega
  ·
   have hb14 : (o == 14) = false := by simpa using h14
   clear h14
   have u0 := (z00 HB2w.out 0).1
   have u1 := (z00 HB2w.out 1).1
   have g0 := (z00 HB2w.out 0).2
   have g1 := (z00 HB2w.out 1).2
   have hal2 : Below ((w2.setCell ⟨w.heap.size, 0, none⟩ (.int .i64 n.ins)).setCell ⟨w.heap.size, 1, none⟩ (.slice A2 n.gs.length c2)).heap.size ((w2.setCell ⟨w.heap.size, 0, none⟩ (.int .i64 n.ins)).setCell ⟨w.heap.size, 1, none⟩ (.slice A2 n.gs.length c2)) (((w2.setCell ⟨w.heap.size, 0, none⟩ (.int .i64 n.ins)).setCell ⟨w.heap.size, 1, none⟩ (.slice A2 n.gs.length c2)).alloc (.cells #[.int .i64 n.ins, .slice A2 n.gs.length c2] 29)) := (Below.refl _ _).alloc (Nat.le_refl _) _
   have hset : Gr T w2 (((w2.setCell ⟨w.heap.size, 0, none⟩ (.int .i64 n.ins)).setCell ⟨w.heap.size, 1, none⟩ (.slice A2 n.gs.length c2)).alloc (.cells #[.int .i64 n.ins, .slice A2 n.gs.length c2] 29)) := (((Gr.refl _ _).set _ _ _ (.inl ((HT.out _).2 (.inr rfl)))).set _ _ _ (.inl ((HT.out _).2 (.inr rfl)))).up hal2
   have HL := zH (And.intro ((HS2.out.gr hset).ab_rd) (And.intro ((HX2.out.gr hset).ab_rd) ((HY2.out.gr hset).ab_rd)))
   have HGG := zH (((Gr.below (S := T) HBW.out).trans (HG2.out.mono fun b hb => (HT.out b).2 (.inl hb))).trans hset)
   have hq := z03 _ (w.heap.size) 1 (.slice A2 n.gs.length c2) _ _ (z03 _ (w.heap.size) 0 (.int .i64 n.ins) _ _ HB2w.out)
   have HQ2 := zH ((hal2.block _ (lt_of_block hq)).trans hq)
   clear hset hal2 hq
   go_wp2
   clear u0 u1 g0 g1
   generalize ((w2.setCell ⟨w.heap.size, 0, none⟩ (.int .i64 n.ins)).setCell ⟨w.heap.size, 1, none⟩ (.slice A2 n.gs.length c2)).alloc (.cells #[.int .i64 n.ins, .slice A2 n.gs.length c2] 29) = wz at *
   have k5 := (z00 HQ2.out 0).1
   have k6 := (z00 HQ2.out 1).1
   have kf5 := (z00 HQ2.out 0).2
   have kf6 := (z00 HQ2.out 1).2
   refine bodyPost_ret (v := .tuple #[.agg #[.int .i64 n.ins, .slice A2 n.gs.length c2], .int .i64 o, .slice X xs.length cx, .slice Y ys.length cy]) (by simp [results, Tryz.results16, go_sem, k5, k6, kf5, kf6]) rfl ⟨n, A2, c2, o, xs, X, cx, ys, Y, cy, rfl, HL.out.1, HL.out.2.1, HL.out.2.2, HBN.out, (by unfold okInt; omega), HK.out.1, HK.out.2, HCC.out.1, HCC.out.2, ?_⟩
   exact HGG.out.to_below fun b hb => by rcases (HT.out b).1 hb with h9 | h9 <;> omega
 ·
  have hmb : (m == 0) = false := by simpa using hm0
  clear hm0
  go_wp2_with fail
  refine (l7Two_any T r (0 + 1 + 1) w3 hR3 (fun b hb => by have := HTL.out b hb; omega) HTr.out (by omega) (by omega)).mono ?_
  rintro e w2 ⟨n, A2, c2, xs, X, cx, ys, Y, cy, rfl, hs2, hx2, hy2, hbn, hkx, hky, hcx, hcy, q2, q20, q21, hR2, hg9⟩
  have HB2 := zH (hg9.heap (by show ¬ _ = r; omega) HB2.out)
  have HG3 := zH (HG3.out.trans hg9)
  have hz9 := hg9.size
  clear hg9
  have HBN := zH hbn
  obtain ⟨hx5, hy5⟩ : xs.length ≤ 5 ∧ ys.length ≤ 5 := ⟨hkx.1, hky.1⟩
  have HK := zH (And.intro hkx hky)
  have HCC := zH (And.intro hcx hcy)
  have hal : Below w2.heap.size w2 (w2.alloc (.cells #[.int .i64 n.ins, .slice A2 n.gs.length c2] 29)) := (Below.refl _ _).alloc (Nat.le_refl _) _
  have HB5 := zH (show (w2.alloc (.cells #[.int .i64 n.ins, .slice A2 n.gs.length c2] 29)).heap[w2.heap.size]? = some (.cells #[.int .i64 n.ins, .slice A2 n.gs.length c2] 29 (0, 0)) from heap_alloc_new _ _)
  have HB2w := HB2
  have HG2 := HG3
  have HS2 := zH hs2
  have HX2 := zH hx2
  have HY2 := zH hy2
  have HB2 := zH ((hal.block _ (lt_of_block HB2.out)).trans HB2.out)
  have hR7 := hR2.up hal
  have HG3 := zH (HG3.out.up hal)
  have HS := zH (hs2.gr (.below hal))
  have HX := zH (hx2.gr (.below hal))
  have HY := zH (hy2.gr (.below hal))
  have i5 : r < w2.heap.size := by omega
  have i6 : w.heap.size < w2.heap.size := by omega
  clear hal hR2 hs2 hx2 hy2 hbn hkx hky hcx hcy hR3
  by_cases h14 : (3 + k) = 14
  ·
   have hb14 : ((3 + k) == 14) = true := by simpa using h14
   have H14 := zH h14
   clear h14
   by_cases hl1 : (1 : Int) < xs.length
   ·
    skip
    have hcx2 : (xs.length : Int) ≤ cx := by have := HCC.out.1; omega
    have hcy2 : (ys.length : Int) ≤ cy := by have := HCC.out.2; omega
    go_wp2_with fail
    generalize w2.alloc (.cells #[.int .i64 n.ins, .slice A2 n.gs.length c2] 29) = w7 at *
    generalize hb5e : w2.heap.size = b5 at *
    clear hb5e
    refine (pick_any r q2 _ w7 hR7 (by omega) (by omega) (by omega) (by omega)).mono ?_
    clear HB2w HG2 HS2 HX2 HY2
    rintro e w9 ⟨kk, rfl, kk0, kk1, kk2, hR9, hg9⟩
    have hg9 := Gr.one (S := IsR r) hg9 rfl
    have HB2 := zH (hg9.heap (by show ¬ _ = r; omega) HB2.out)
    have HB5 := zH (hg9.heap (by show ¬ _ = r; omega) HB5.out)
    have HS := zH (HS.out.gr (hg9.mono fun b hb => by rw [show b = r from hb]; exact HTr.out))
    have HX := zH (HX.out.gr (hg9.mono fun b hb => by rw [show b = r from hb]; exact HTr.out))
    have HY := zH (HY.out.gr (hg9.mono fun b hb => by rw [show b = r from hb]; exact HTr.out))
    have HG3 := zH (HG3.out.trans hg9)
    have hz9 := hg9.size
    clear hg9
    have kk1 := kk1 (by omega)
    obtain ⟨kn, rfl⟩ : ∃ kn : Nat, kk = kn := ⟨kk.toNat, by omega⟩
    clear hR7 hR9
    obtain ⟨adx, rfl, -, -⟩ := HX.out.at_int (k := 0) (by omega)
    have HXT := zH (okMks_take HK.out.1 (1 + kn))
    have hlx : (xs.take (1 + kn)).length = 1 + kn := by rw [List.length_take]; omega
    have HXS := zH (HX.out.take (1 + kn))
    have HXC : Hid ((xs.take (1 + kn)).length ≤ cx) := zH (by rw [hlx]; omega)
    obtain ⟨tx, htx⟩ : ∃ tx, tx = xs.take (1 + kn) := ⟨_, rfl⟩
    rw [← htx] at HXT HXS HXC hlx
    clear htx HX
    by_cases hy2 : (ys.length : Int) < 2
    ·
     have HM := zH (l1Min_any ys.length 2 w9)
     rw [if_pos hy2] at HM
     go_wp2_with fail
     refine HM.out.mono ?_
     clear HM
     rintro e wz ⟨rfl, hwz⟩
     subst hwz
     obtain ⟨wz, hwz⟩ : ∃ wz, wz = w9 := ⟨_, rfl⟩
     subst hwz
     have v0 := (z00 HB5.out 0).1
     have v1 := (z00 HB5.out 1).1
     have u0 := (z00 HB2.out 0).1
     have u1 := (z00 HB2.out 1).1
     have g0 := (z00 HB2.out 0).2
     have g1 := (z00 HB2.out 1).2
     go_wp2
     have HX := HXS
     have hset : Gr T wz ((wz.setCell ⟨w.heap.size, 0, none⟩ (.int .i64 n.ins)).setCell ⟨w.heap.size, 1, none⟩ (.slice A2 n.gs.length c2)) := ((Gr.refl _ _).set _ _ _ (.inl ((HT.out _).2 (.inr rfl)))).set _ _ _ (.inl ((HT.out _).2 (.inr rfl)))
     have HL := zH (And.intro ((HS.out.gr hset).ab_rd) (And.intro ((HX.out.gr hset).ab_rd) ((HY.out.gr hset).ab_rd)))
     have HGG := zH (((Gr.below (S := T) HBW.out).trans (HG3.out.mono fun b hb => (HT.out b).2 (.inl hb))).trans hset)
     have HQ2 := zH (z03 _ (w.heap.size) 1 (.slice A2 n.gs.length c2) _ _ (z03 _ (w.heap.size) 0 (.int .i64 n.ins) _ _ HB2.out))
     clear hset
     have k5 := (z00 HQ2.out 0).1
     have k6 := (z00 HQ2.out 1).1
     have kf5 := (z00 HQ2.out 0).2
     have kf6 := (z00 HQ2.out 1).2
     refine bodyPost_ret (v := .tuple #[.agg #[.int .i64 n.ins, .slice A2 n.gs.length c2], .int .i64 (3 + k), .slice (some adx) (1 + kn) cx, .slice Y ys.length cy]) (by simp [results, Tryz.results16, go_sem, k5, k6, kf5, kf6]) rfl ⟨n, A2, c2, (3 + k), tx, (some adx), cx, ys, Y, cy, (by rw [hlx]), HL.out.1, HL.out.2.1, HL.out.2.2, HBN.out, (by unfold okInt; omega), HXT.out, HK.out.2, HXC.out, HCC.out.2, ?_⟩
     exact HGG.out.to_below fun b hb => by rcases (HT.out b).1 hb with h9 | h9 <;> omega
    ·
     have HM := zH (l1Min_any ys.length 2 w9)
     rw [if_neg hy2] at HM
     obtain ⟨ady, rfl, -, -⟩ := HY.out.at_int (k := 0) (by omega)
     have HYT := zH (okMks_take HK.out.2 2)
     have hly : (ys.take 2).length = 2 := by rw [List.length_take]; omega
     have HYC : Hid ((ys.take 2).length ≤ cy) := zH (by rw [hly]; omega)
     have HYS := zH (HY.out.take 2)
     obtain ⟨ty, hty⟩ : ∃ ty, ty = ys.take 2 := ⟨_, rfl⟩
     rw [← hty] at HYT HYS HYC hly
     clear hty HY
     go_wp2_with fail
     refine HM.out.mono ?_
     clear HM
     rintro e wz ⟨rfl, hwz⟩
     subst hwz
     obtain ⟨wz, hwz⟩ : ∃ wz, wz = w9 := ⟨_, rfl⟩
     subst hwz
     have v0 := (z00 HB5.out 0).1
     have v1 := (z00 HB5.out 1).1
     have u0 := (z00 HB2.out 0).1
     have u1 := (z00 HB2.out 1).1
     have g0 := (z00 HB2.out 0).2
     have g1 := (z00 HB2.out 1).2
     go_wp2
     have HX := HXS
     have HY := HYS
     have hset : Gr T wz ((wz.setCell ⟨w.heap.size, 0, none⟩ (.int .i64 n.ins)).setCell ⟨w.heap.size, 1, none⟩ (.slice A2 n.gs.length c2)) := ((Gr.refl _ _).set _ _ _ (.inl ((HT.out _).2 (.inr rfl)))).set _ _ _ (.inl ((HT.out _).2 (.inr rfl)))
     have HL := zH (And.intro ((HS.out.gr hset).ab_rd) (And.intro ((HX.out.gr hset).ab_rd) ((HY.out.gr hset).ab_rd)))
     have HGG := zH (((Gr.below (S := T) HBW.out).trans (HG3.out.mono fun b hb => (HT.out b).2 (.inl hb))).trans hset)
     have HQ2 := zH (z03 _ (w.heap.size) 1 (.slice A2 n.gs.length c2) _ _ (z03 _ (w.heap.size) 0 (.int .i64 n.ins) _ _ HB2.out))
     clear hset
     have k5 := (z00 HQ2.out 0).1
     have k6 := (z00 HQ2.out 1).1
     have kf5 := (z00 HQ2.out 0).2
     have kf6 := (z00 HQ2.out 1).2
     refine bodyPost_ret (v := .tuple #[.agg #[.int .i64 n.ins, .slice A2 n.gs.length c2], .int .i64 (3 + k), .slice (some adx) (1 + kn) cx, .slice (some ady) 2 cy]) (by simp [results, Tryz.results16, go_sem, k5, k6, kf5, kf6]) rfl ⟨n, A2, c2, (3 + k), tx, (some adx), cx, ty, (some ady), cy, (by rw [hlx, hly]), HL.out.1, HL.out.2.1, HL.out.2.2, HBN.out, (by unfold okInt; omega), HXT.out, HYT.out, HXC.out, HYC.out, ?_⟩
     exact HGG.out.to_below fun b hb => by rcases (HT.out b).1 hb with h9 | h9 <;> omega
   ·
    skip
    have u0 := (z00 HB2w.out 0).1
    have u1 := (z00 HB2w.out 1).1
    have g0 := (z00 HB2w.out 0).2
    have g1 := (z00 HB2w.out 1).2
    have hal2 : Below ((w2.setCell ⟨w.heap.size, 0, none⟩ (.int .i64 n.ins)).setCell ⟨w.heap.size, 1, none⟩ (.slice A2 n.gs.length c2)).heap.size ((w2.setCell ⟨w.heap.size, 0, none⟩ (.int .i64 n.ins)).setCell ⟨w.heap.size, 1, none⟩ (.slice A2 n.gs.length c2)) (((w2.setCell ⟨w.heap.size, 0, none⟩ (.int .i64 n.ins)).setCell ⟨w.heap.size, 1, none⟩ (.slice A2 n.gs.length c2)).alloc (.cells #[.int .i64 n.ins, .slice A2 n.gs.length c2] 29)) := (Below.refl _ _).alloc (Nat.le_refl _) _
    have hset : Gr T w2 (((w2.setCell ⟨w.heap.size, 0, none⟩ (.int .i64 n.ins)).setCell ⟨w.heap.size, 1, none⟩ (.slice A2 n.gs.length c2)).alloc (.cells #[.int .i64 n.ins, .slice A2 n.gs.length c2] 29)) := (((Gr.refl _ _).set _ _ _ (.inl ((HT.out _).2 (.inr rfl)))).set _ _ _ (.inl ((HT.out _).2 (.inr rfl)))).up hal2
    have HL := zH (And.intro ((HS2.out.gr hset).ab_rd) (And.intro ((HX2.out.gr hset).ab_rd) ((HY2.out.gr hset).ab_rd)))
    have HGG := zH (((Gr.below (S := T) HBW.out).trans (HG2.out.mono fun b hb => (HT.out b).2 (.inl hb))).trans hset)
    have hq := z03 _ (w.heap.size) 1 (.slice A2 n.gs.length c2) _ _ (z03 _ (w.heap.size) 0 (.int .i64 n.ins) _ _ HB2w.out)
    have HQ2 := zH ((hal2.block _ (lt_of_block hq)).trans hq)
    clear hset hal2 hq
    go_wp2
    clear u0 u1 g0 g1
    generalize ((w2.setCell ⟨w.heap.size, 0, none⟩ (.int .i64 n.ins)).setCell ⟨w.heap.size, 1, none⟩ (.slice A2 n.gs.length c2)).alloc (.cells #[.int .i64 n.ins, .slice A2 n.gs.length c2] 29) = wz at *
    have k5 := (z00 HQ2.out 0).1
    have k6 := (z00 HQ2.out 1).1
    have kf5 := (z00 HQ2.out 0).2
    have kf6 := (z00 HQ2.out 1).2
    refine bodyPost_ret (v := .tuple #[.agg #[.int .i64 n.ins, .slice A2 n.gs.length c2], .int .i64 (3 + k), .slice X xs.length cx, .slice Y ys.length cy]) (by simp [results, Tryz.results16, go_sem, k5, k6, kf5, kf6]) rfl ⟨n, A2, c2, (3 + k), xs, X, cx, ys, Y, cy, rfl, HL.out.1, HL.out.2.1, HL.out.2.2, HBN.out, (by unfold okInt; omega), HK.out.1, HK.out.2, HCC.out.1, HCC.out.2, ?_⟩
    exact HGG.out.to_below fun b hb => by rcases (HT.out b).1 hb with h9 | h9 <;> omega
  ·
   have hb14 : ((3 + k) == 14) = false := by simpa using h14
   clear h14
   have u0 := (z00 HB2w.out 0).1
   have u1 := (z00 HB2w.out 1).1
   have g0 := (z00 HB2w.out 0).2
   have g1 := (z00 HB2w.out 1).2
   have hal2 : Below ((w2.setCell ⟨w.heap.size, 0, none⟩ (.int .i64 n.ins)).setCell ⟨w.heap.size, 1, none⟩ (.slice A2 n.gs.length c2)).heap.size ((w2.setCell ⟨w.heap.size, 0, none⟩ (.int .i64 n.ins)).setCell ⟨w.heap.size, 1, none⟩ (.slice A2 n.gs.length c2)) (((w2.setCell ⟨w.heap.size, 0, none⟩ (.int .i64 n.ins)).setCell ⟨w.heap.size, 1, none⟩ (.slice A2 n.gs.length c2)).alloc (.cells #[.int .i64 n.ins, .slice A2 n.gs.length c2] 29)) := (Below.refl _ _).alloc (Nat.le_refl _) _
   have hset : Gr T w2 (((w2.setCell ⟨w.heap.size, 0, none⟩ (.int .i64 n.ins)).setCell ⟨w.heap.size, 1, none⟩ (.slice A2 n.gs.length c2)).alloc (.cells #[.int .i64 n.ins, .slice A2 n.gs.length c2] 29)) := (((Gr.refl _ _).set _ _ _ (.inl ((HT.out _).2 (.inr rfl)))).set _ _ _ (.inl ((HT.out _).2 (.inr rfl)))).up hal2
   have HL := zH (And.intro ((HS2.out.gr hset).ab_rd) (And.intro ((HX2.out.gr hset).ab_rd) ((HY2.out.gr hset).ab_rd)))
   have HGG := zH (((Gr.below (S := T) HBW.out).trans (HG2.out.mono fun b hb => (HT.out b).2 (.inl hb))).trans hset)
   have hq := z03 _ (w.heap.size) 1 (.slice A2 n.gs.length c2) _ _ (z03 _ (w.heap.size) 0 (.int .i64 n.ins) _ _ HB2w.out)
   have HQ2 := zH ((hal2.block _ (lt_of_block hq)).trans hq)
   clear hset hal2 hq
   go_wp2
   clear u0 u1 g0 g1
   generalize ((w2.setCell ⟨w.heap.size, 0, none⟩ (.int .i64 n.ins)).setCell ⟨w.heap.size, 1, none⟩ (.slice A2 n.gs.length c2)).alloc (.cells #[.int .i64 n.ins, .slice A2 n.gs.length c2] 29) = wz at *
   have k5 := (z00 HQ2.out 0).1
   have k6 := (z00 HQ2.out 1).1
   have kf5 := (z00 HQ2.out 0).2
   have kf6 := (z00 HQ2.out 1).2
   refine bodyPost_ret (v := .tuple #[.agg #[.int .i64 n.ins, .slice A2 n.gs.length c2], .int .i64 (3 + k), .slice X xs.length cx, .slice Y ys.length cy]) (by simp [results, Tryz.results16, go_sem, k5, k6, kf5, kf6]) rfl ⟨n, A2, c2, (3 + k), xs, X, cx, ys, Y, cy, rfl, HL.out.1, HL.out.2.1, HL.out.2.2, HBN.out, (by unfold okInt; omega), HK.out.1, HK.out.2, HCC.out.1, HCC.out.2, ?_⟩
   exact HGG.out.to_below fun b hb => by rcases (HT.out b).1 hb with h9 | h9 <;> omega
structure Ext (n x : N) : Prop where
 ok : netOk x = true
 ins : x.ins = n.ins
 ext : ∃ t, x.gs = n.gs ++ t
theorem Ext.refl {n : N} (h : netOk n = true) : Ext n n := ⟨h, rfl, [], by simp⟩
theorem Ext.trans {n x y : N} (h : Ext n x) (k : Ext x y) : Ext n y := by
 obtain ⟨t, ht⟩ := h.ext
 obtain ⟨u, hu⟩ := k.ext
 exact ⟨k.ok, k.ins.trans h.ins, t ++ u, by rw [hu, ht, List.append_assoc]⟩
theorem Ext.has {n x : N} (h : Ext n x) {m : Int} (hm : z04 n m = true) : z04 x m = true := by
 obtain ⟨t, ht⟩ := h.ext
 have := z11.1 hm
 have hl : x.gs.length = n.gs.length + t.length := by rw [ht]; simp
 exact z11.2 (by have := h.ins; omega)
theorem Ext.obeys {n x : N} (h : Ext n x) {w : List Bool} (hw : Obeys x w) : Obeys n w := by
 obtain ⟨t, ht⟩ := h.ext
 obtain ⟨u, hu⟩ : ∃ u : List G, u = [] := ⟨_, rfl⟩
 refine ⟨?_, hw.one, fun k g hk j hj => hw.gate k g ?_ j (by rw [h.ins]; exact hj)⟩
 · have := hw.len; rw [h.ins, ht] at this; simp at this; omega
 · rw [ht]; exact (List.getElem?_append_left (List.getElem?_eq_some_iff.1 hk).1).trans hk
theorem Grows.to {n : N} {r : N × Int} (h : Grows n r) : Ext n r.1 := by
 obtain ⟨t, ht, _⟩ := h.ext
 exact ⟨h.ok, h.ins, t, ht⟩
theorem netMark_neg {n : N} {m : Int} (h : z04 n m = true) : z04 n (-m) = true := by
 have := z11.1 h
 exact z11.2 (by omega)
def PG.all {α : Type} (w : List Bool) (Φ : α → N → Prop) : PG α → N → Prop
 | .ret a, n => Φ a n
 | .and x y k, n => (z04 n x = true ∧ z04 n y = true) ∧ ∀ m n', Ext n n' → z04 n' m = true → (Obeys n' w → netLit w m = (netLit w x && netLit w y)) → (k m).all w Φ n'
 | .xor x y k, n => (z04 n x = true ∧ z04 n y = true) ∧ ∀ m n', Ext n n' → z04 n' m = true → (Obeys n' w → netLit w m = (netLit w x != netLit w y)) → (k m).all w Φ n'
theorem step_none {n : N} {r : N × Int} (h : (stepP ⟨n, none⟩ r).1.e = none) : r.2 ≠ 0 ∧ stepP ⟨n, none⟩ r = (⟨r.1, none⟩, r.2) := by
 unfold stepP at h ⊢
 rw [if_neg (by simp)] at h ⊢
 by_cases hz : r.2 = 0
 · rw [if_pos hz] at h; cases h
 · rw [if_neg hz]; exact ⟨hz, rfl⟩
theorem all_run {α : Type} {w : List Bool} {Φ : α → N → Prop} : ∀ (p : PG α) (n : N), p.all w Φ n → netOk n = true → (run opsP p ⟨n, none⟩).1.e = none → Φ (run opsP p ⟨n, none⟩).2 (run opsP p ⟨n, none⟩).1.n ∧ Ext n (run opsP p ⟨n, none⟩).1.n
 | .ret a, n, h, hn, _ => ⟨h, .refl hn⟩
 | .and x y k, n, h, hn, he => by
  obtain ⟨⟨hx, hy⟩, hk⟩ := h
  by_cases hs : (stepP ⟨n, none⟩ (and1 n x y)).1.e = none
  ·
   obtain ⟨hz, e⟩ := step_none hs
   obtain ⟨hg, hv⟩ := and1_says hn hx hy hz
   have e1 : run opsP (.and x y k) ⟨n, none⟩ = run opsP (k (and1 n x y).2) ⟨(and1 n x y).1, none⟩ := by
    show run opsP (k (stepP ⟨n, none⟩ (and1 n x y)).2) (stepP ⟨n, none⟩ (and1 n x y)).1 = _
    rw [e]
   rw [e1] at he ⊢
   obtain ⟨h1, h2⟩ := all_run (k _) _ (hk _ _ hg.to hg.mark (hv w)) hg.ok he
   exact ⟨h1, hg.to.trans h2⟩
  · exact absurd he (run_failP (k (stepP ⟨n, none⟩ (and1 n x y)).2) _ hs)
 | .xor x y k, n, h, hn, he => by
  obtain ⟨⟨hx, hy⟩, hk⟩ := h
  by_cases hs : (stepP ⟨n, none⟩ (xor1 n x y)).1.e = none
  ·
   obtain ⟨hz, e⟩ := step_none hs
   obtain ⟨hg, hv⟩ := xor1_says hn hx hy hz
   have e1 : run opsP (.xor x y k) ⟨n, none⟩ = run opsP (k (xor1 n x y).2) ⟨(xor1 n x y).1, none⟩ := by
    show run opsP (k (stepP ⟨n, none⟩ (xor1 n x y)).2) (stepP ⟨n, none⟩ (xor1 n x y)).1 = _
    rw [e]
   rw [e1] at he ⊢
   obtain ⟨h1, h2⟩ := all_run (k _) _ (hk _ _ hg.to hg.mark (hv w)) hg.ok he
   exact ⟨h1, hg.to.trans h2⟩
  · exact absurd he (run_failP (k (stepP ⟨n, none⟩ (xor1 n x y)).2) _ hs)
theorem all_bind {α β : Type} {w : List Bool} {Φ : β → N → Prop} (f : α → PG β) : ∀ (p : PG α) (n : N), p.all w (fun a n' => (f a).all w Φ n') n → (p.bind f).all w Φ n
 | .ret _, _, h => h
 | .and x y k, n, h => ⟨h.1, fun m n' h1 h2 h3 => all_bind f (k m) n' (h.2 m n' h1 h2 h3)⟩
 | .xor x y k, n, h => ⟨h.1, fun m n' h1 h2 h3 => all_bind f (k m) n' (h.2 m n' h1 h2 h3)⟩
theorem all_or {w : List Bool} {Φ : Int → N → Prop} {n : N} {x y : Int} (hx : z04 n x = true) (hy : z04 n y = true)
  (h : ∀ m n', Ext n n' → z04 n' m = true → (Obeys n' w → netLit w m = (netLit w x || netLit w y)) → Φ m n') : (orP x y).all w Φ n := by
 refine ⟨⟨netMark_neg hx, netMark_neg hy⟩, fun m n' he hm hv => h _ _ he (netMark_neg hm) fun hw => ?_⟩
 have := hv hw
 rw [netLit_turn ((he.obeys hw).sig hx), netLit_turn ((he.obeys hw).sig hy)] at this
 rw [netLit_turn (hw.sig hm), this]
 cases netLit w x <;> cases netLit w y <;> rfl
theorem all_mux {w : List Bool} {Φ : Int → N → Prop} {n : N} {c x y : Int} (hc : z04 n c = true) (hx : z04 n x = true) (hy : z04 n y = true)
  (h : ∀ m n', Ext n n' → z04 n' m = true → (Obeys n' w → netLit w m = if netLit w c then netLit w x else netLit w y) → Φ m n') : (muxP c x y).all w Φ n := by
 refine ⟨⟨hc, hx⟩, fun p n1 e1 m1 v1 => ⟨⟨netMark_neg (e1.has hc), e1.has hy⟩, fun q n2 e2 m2 v2 => all_or (e2.has m1) m2 fun m n3 e3 m3 v3 => h m n3 (e1.trans (e2.trans e3)) m3 fun hw => ?_⟩⟩
 have w2 := e3.obeys hw
 have w1 := e2.obeys w2
 rw [v3 hw, v1 w1, v2 w2, netLit_turn ((e1.obeys w1).sig hc)]
 cases netLit w c <;> cases netLit w x <;> cases netLit w y <;> rfl
theorem all_each {w : List Bool} {f : Int → Int → PG Int} {op : Bool → Bool → Bool} {n0 : N}
  (hf : ∀ (Ψ : Int → N → Prop) (n : N) (x y : Int), Ext n0 n → z04 n x = true → z04 n y = true → (∀ m n', Ext n n' → z04 n' m = true → (Obeys n' w → netLit w m = op (netLit w x) (netLit w y)) → Ψ m n') → (f x y).all w Ψ n) :
  ∀ (xs ys : List Int) (Φ : List Int → N → Prop) (n : N), xs.length = ys.length → Ext n0 n → (∀ x ∈ xs, z04 n x = true) → (∀ y ∈ ys, z04 n y = true) →
   (∀ ms n', Ext n n' → ms.length = xs.length → (∀ m ∈ ms, z04 n' m = true) → (Obeys n' w → ms.map (netLit w) = List.zipWith (fun x y => op (netLit w x) (netLit w y)) xs ys) → Φ ms n') → (eachP f xs ys).all w Φ n
 | [], [], Φ, n, _, h0, _, _, h => h [] n (.refl h0.ok) rfl (fun _ h => by cases h) fun _ => rfl
 | x :: xs, y :: ys, Φ, n, hl, h0, hx, hy, h => by
  refine all_bind _ _ _ (hf _ _ _ _ h0 (hx _ (.head _)) (hy _ (.head _)) fun m n1 e1 m1 v1 => all_bind _ _ _ (all_each hf xs ys _ n1 (by simpa using hl) (h0.trans e1) (fun z hz => e1.has (hx z (.tail _ hz))) (fun z hz => e1.has (hy z (.tail _ hz))) fun ms n2 e2 l2 m2 v2 => ?_))
  refine h (m :: ms) n2 (e1.trans e2) (by simp [l2]) (fun z hz => ?_) fun hw => ?_
  ·
   rcases List.mem_cons.1 hz with rfl | hz
   · exact e2.has m1
   · exact m2 z hz
  · rw [List.map_cons, v2 hw, v1 (e2.obeys hw)]; rfl
 | [], _ :: _, _, _, hl, _, _, _, _ => by simp at hl
 | _ :: _, [], _, _, hl, _, _, _, _ => by simp at hl
theorem put_in {n y : N} {g : G} (hm : (put n g).2 ≠ 0) (hi : y.ins = (put n g).1.ins) {t : List G} (hg : y.gs = (put n g).1.gs ++ t) : put y g = (y, (put n g).2) := by
 by_cases hin : g ∈ n.gs
 ·
  rw [put_mem hin] at hi hg ⊢
  rw [put_mem (show g ∈ y.gs by rw [hg]; exact List.mem_append_left _ hin)]
  rw [hg, List.idxOf_append, if_pos hin, hi]
 by_cases h6 : 600 ≤ n.gs.length
 · rw [put_full hin h6] at hm; exact absurd rfl hm
 rw [put_new hin h6] at hi hg ⊢
 have hin2 : g ∈ n.gs ++ [g] := by simp
 rw [put_mem (show g ∈ y.gs by rw [hg]; exact List.mem_append_left _ hin2)]
 dsimp only at hi hg ⊢
 rw [hg, List.idxOf_append, if_pos hin2, List.idxOf_append, if_neg hin, hi]
 simp
theorem and1_in {n y : N} {a b : Int} (hm : (and1 n a b).2 ≠ 0) (hi : y.ins = (and1 n a b).1.ins) {t : List G} (hg : y.gs = (and1 n a b).1.gs ++ t) : and1 y a b = (y, (and1 n a b).2) := by
 by_cases c1 : a = -1 ∨ b = -1 ∨ a = -b
 · unfold and1; rw [if_pos c1, if_pos c1]
 by_cases c2 : a = 1 ∨ a = b
 · unfold and1; rw [if_neg c1, if_pos c2, if_neg c1, if_pos c2]
 by_cases c3 : b = 1
 · unfold and1; rw [if_neg c1, if_neg c2, if_pos c3, if_neg c1, if_neg c2, if_pos c3]
 have e : ∀ m : N, and1 m a b = if b.natAbs < a.natAbs then put m ⟨false, b, a⟩ else put m ⟨false, a, b⟩ := fun m => by unfold and1; rw [if_neg c1, if_neg c2, if_neg c3]
 rw [e] at hm hi hg ⊢
 rw [e]
 by_cases hs : b.natAbs < a.natAbs
 · rw [if_pos hs] at hm hi hg ⊢; rw [if_pos hs]; exact put_in hm hi hg
 · rw [if_neg hs] at hm hi hg ⊢; rw [if_neg hs]; exact put_in hm hi hg
theorem xor1_in {n y : N} {a b : Int} (hm : (xor1 n a b).2 ≠ 0) (hi : y.ins = (xor1 n a b).1.ins) {t : List G} (hg : y.gs = (xor1 n a b).1.gs ++ t) : xor1 y a b = (y, (xor1 n a b).2) := by
 by_cases c1 : a = 1 ∨ a = -1
 · rw [xor1_1 c1, xor1_1 c1]
 by_cases c2 : b = 1 ∨ b = -1
 · rw [xor1_2 c1 c2, xor1_2 c1 c2]
 by_cases c3 : a = b
 · rw [xor1_3 c1 c2 c3, xor1_3 c1 c2 c3]
 by_cases c4 : a = -b
 · rw [xor1_4 c1 c2 c3 c4, xor1_4 c1 c2 c3 c4]
 rw [xor1_5 c1 c2 c3 c4] at hm hi hg ⊢
 rw [xor1_5 c1 c2 c3 c4]
 have hz : (put n (sortG ⟨true, a.natAbs, b.natAbs⟩)).2 ≠ 0 := by
  intro h
  apply hm
  dsimp only
  split <;> omega
 rw [put_in hz hi hg]
def addB : List Bool → List Bool → Bool → List Bool
 | x :: xs, y :: ys, c => ((x != y) != c) :: addB xs ys ((x && y) || ((x != y) && c))
 | _, _, _ => []
def lessB : List Bool → List Bool → Bool → Bool
 | x :: xs, y :: ys, r => lessB xs ys (if x != y then y else r)
 | _, _, r => r
theorem all_sum {w : List Bool} : ∀ (xs ys : List Int) (c : Int) (Φ : List Int → N → Prop) (n : N), xs.length = ys.length → netOk n = true → (∀ x ∈ xs, z04 n x = true) → (∀ y ∈ ys, z04 n y = true) → z04 n c = true →
  (∀ ms n', Ext n n' → ms.length = xs.length → (∀ m ∈ ms, z04 n' m = true) → (Obeys n' w → ms.map (netLit w) = addB (xs.map (netLit w)) (ys.map (netLit w)) (netLit w c)) → Φ ms n') → (sumP xs ys c).all w Φ n
 | [], [], _, _, n, _, h0, _, _, _, h => h [] n (.refl h0) rfl (fun _ h => by cases h) fun _ => rfl
 | x :: xs, y :: ys, c, Φ, n, hl, h0, hx, hy, hc, h => by
  have x0 := hx _ (.head _)
  have y0 := hy _ (.head _)
  refine ⟨⟨x0, y0⟩, fun d n1 e1 m1 v1 => ⟨⟨m1, e1.has hc⟩, fun s n2 e2 m2 v2 => ⟨⟨e2.has (e1.has x0), e2.has (e1.has y0)⟩, fun p n3 e3 m3 v3 => ⟨⟨e3.has (e2.has m1), e3.has (e2.has (e1.has hc))⟩, fun q n4 e4 m4 v4 => ?_⟩⟩⟩⟩
  refine all_bind _ _ _ (all_or (e4.has m3) m4 fun c' n5 e5 m5 v5 => ?_)
  have e15 := e1.trans (e2.trans (e3.trans (e4.trans e5)))
  refine all_bind _ _ _ (all_sum xs ys c' _ n5 (by simpa using hl) e5.ok (fun z hz => e15.has (hx z (.tail _ hz))) (fun z hz => e15.has (hy z (.tail _ hz))) m5 fun ms n6 e6 l6 m6 v6 => ?_)
  refine h (s :: ms) n6 (e15.trans e6) (by simp [l6]) (fun z hz => ?_) fun hw => ?_
  ·
   rcases List.mem_cons.1 hz with rfl | hz
   · exact e6.has (e5.has (e4.has (e3.has m2)))
   · exact m6 z hz
  ·
   have w5 := e6.obeys hw
   have w4 := e5.obeys w5
   have w3 := e4.obeys w4
   have w2 := e3.obeys w3
   have w1 := e2.obeys w2
   rw [List.map_cons, v6 hw, v5 w5, v4 w4, v3 w3, v2 w2, v1 w1]
   rfl
 | [], _ :: _, _, _, _, hl, _, _, _, _, _ => by simp at hl
 | _ :: _, [], _, _, _, hl, _, _, _, _, _ => by simp at hl
theorem all_less {w : List Bool} : ∀ (xs ys : List Int) (r : Int) (Φ : Int → N → Prop) (n : N), xs.length = ys.length → netOk n = true → (∀ x ∈ xs, z04 n x = true) → (∀ y ∈ ys, z04 n y = true) → z04 n r = true →
  (∀ m n', Ext n n' → z04 n' m = true → (Obeys n' w → netLit w m = lessB (xs.map (netLit w)) (ys.map (netLit w)) (netLit w r)) → Φ m n') → (lessP xs ys r).all w Φ n
 | [], [], r, _, n, _, h0, _, _, hr, h => h r n (.refl h0) hr fun _ => rfl
 | x :: xs, y :: ys, r, Φ, n, hl, h0, hx, hy, hr, h => by
  have x0 := hx _ (.head _)
  have y0 := hy _ (.head _)
  refine ⟨⟨x0, y0⟩, fun d n1 e1 m1 v1 => all_bind _ _ _ (all_mux m1 (e1.has y0) (e1.has hr) fun r' n2 e2 m2 v2 => ?_)⟩
  have e12 := e1.trans e2
  refine all_less xs ys r' Φ n2 (by simpa using hl) e2.ok (fun z hz => e12.has (hx z (.tail _ hz))) (fun z hz => e12.has (hy z (.tail _ hz))) m2 fun m n3 e3 m3 v3 => h m n3 (e12.trans e3) m3 fun hw => ?_
  have w2 := e3.obeys hw
  rw [v3 hw, v2 w2, v1 (e2.obeys w2)]
  rfl
 | [], _ :: _, _, _, _, hl, _, _, _, _, _ => by simp at hl
 | _ :: _, [], _, _, _, hl, _, _, _, _, _ => by simp at hl
theorem bitsOk_yes {n : N} {b : Bool} {p : PG (List Int)} {r : N × List Int} (hr : r = pickN (netOk n) (bitsOk n b p)) (h : r.2 ≠ []) : netOk n = true ∧ b = true ∧ (run opsP p ⟨n, none⟩).1.e = none ∧ r = ((run opsP p ⟨n, none⟩).1.n, (run opsP p ⟨n, none⟩).2) := by
 cases hk : netOk n
 · rw [hr, hk] at h; exact absurd rfl h
 ·
  rw [hk] at hr
  unfold pickN bitsOk at hr
  cases b
  · rw [hr] at h; exact absurd rfl h
  ·
   simp only [if_true] at hr
   unfold bitsOut at hr
   split at hr
   · rename_i he; exact ⟨rfl, rfl, he, hr⟩
   · rw [hr] at h; exact absurd rfl h
theorem okInts_of {n : N} (h : netOk n = true) : okInts n := fun g hg => by
 obtain ⟨h0, h1, h2, h3⟩ := netOk_all.1 h
 obtain ⟨k, hk, rfl⟩ := List.getElem_of_mem hg
 have h4 := (h3 k _ (List.getElem?_eq_getElem hk)).1
 unfold okG at h4
 simp only [Bool.and_eq_true, decide_eq_true_eq] at h4
 have : k ≤ 600 := by omega
 refine ⟨⟨?_, ?_⟩, ?_, ?_⟩ <;> omega
theorem one_mark9 {n : N} (h : netOk n = true) : z04 n 1 = true := z11.2 (by have := (netOk_all.1 h).1; omega)
theorem off_lit {n : N} {w : List Bool} (h : netOk n = true) (hw : Obeys n w) : netLit w (-1) = false := by
 rw [netLit_turn (hw.sig (one_mark9 h)), netLit_one hw.one]; rfl
theorem all_map {w : List Bool} {f : Int → PG Int} {op : Bool → Bool} {n0 : N}
  (hf : ∀ (Ψ : Int → N → Prop) (n : N) (x : Int), Ext n0 n → z04 n x = true → (∀ m n', Ext n n' → z04 n' m = true → (Obeys n' w → netLit w m = op (netLit w x)) → Ψ m n') → (f x).all w Ψ n) :
  ∀ (xs : List Int) (Φ : List Int → N → Prop) (n : N), Ext n0 n → (∀ x ∈ xs, z04 n x = true) →
   (∀ ms n', Ext n n' → ms.length = xs.length → (∀ m ∈ ms, z04 n' m = true) → (Obeys n' w → ms.map (netLit w) = (xs.map (netLit w)).map op) → Φ ms n') → (mapP f xs).all w Φ n
 | [], Φ, n, h0, _, h => h [] n (.refl h0.ok) rfl (fun _ h => by cases h) fun _ => rfl
 | x :: xs, Φ, n, h0, hx, h => by
  refine all_bind _ _ _ (hf _ _ _ h0 (hx _ (.head _)) fun m n1 e1 m1 v1 => all_bind _ _ _ (all_map hf xs _ n1 (h0.trans e1) (fun z hz => e1.has (hx z (.tail _ hz))) fun ms n2 e2 l2 m2 v2 => ?_))
  refine h (m :: ms) n2 (e1.trans e2) (by simp [l2]) (fun z hz => ?_) fun hw => ?_
  ·
   rcases List.mem_cons.1 hz with rfl | hz
   · exact e2.has m1
   · exact m2 z hz
  · rw [List.map_cons, v2 hw, v1 (e2.obeys hw)]; rfl
def rowB (X : List Bool) (i : Nat) (y : Bool) : List Bool := List.replicate i false ++ (X.take (X.length - i)).map fun x => x && y
def mulB (X : List Bool) : List Bool → Nat → List Bool → List Bool
 | [], _, s => s
 | y :: ys, i, s => mulB X ys (i + 1) (addB s (rowB X i y) false)
def muxB (l : Bool) (a b : List Bool) : List Bool := List.zipWith (fun x y => if l then x else y) a b
def divB (X W : List Bool) : Nat → List Bool → List Bool → List Bool × List Bool
 | 0, q, r => (q, r)
 | k + 1, q, r => divB X W k (q.set k (!lessB (X.getD k false :: r) W false)) (muxB (lessB (X.getD k false :: r) W false) ((X.getD k false :: r).take X.length) ((addB (X.getD k false :: r) (W.map not) true).take X.length))
theorem divB_succ (X W : List Bool) (k : Nat) (q r : List Bool) : divB X W (k + 1) q r = divB X W k (q.set k (!lessB (X.getD k false :: r) W false)) (muxB (lessB (X.getD k false :: r) W false) ((X.getD k false :: r).take X.length) ((addB (X.getD k false :: r) (W.map not) true).take X.length)) := rfl
def fromB (up : Bool) (s : List Bool) (step : Nat) (fill : Bool) : List Bool := (List.range s.length).map fun k => if up = true then (if k < step then fill else s.getD (k - step) false) else if k + step < s.length then s.getD (k + step) false else fill
def shiftB (up fill : Bool) : List Bool → Nat → List Bool → List Bool
 | [], _, s => s
 | c :: cs, i, s => shiftB up fill cs (i + 1) (muxB c (fromB up s (2 ^ i) fill) s)
def binB (op : Int) (X Y : List Bool) : List Bool :=
 if op = 3 then List.zipWith (fun x y => x && y) X Y
 else if op = 4 then List.zipWith (fun x y => x || y) X Y
 else if op = 5 then List.zipWith (fun x y => x != y) X Y
 else if op = 6 then addB X Y false
 else if op = 7 then addB X (Y.map not) true
 else if op = 8 then mulB X Y 0 (List.replicate X.length false)
 else if op = 9 then (divB X (Y ++ [false]) X.length (List.replicate X.length false) (List.replicate X.length false)).1
 else if op = 10 then (divB X (Y ++ [false]) X.length (List.replicate X.length false) (List.replicate X.length false)).2
 else if op = 11 then shiftB true false Y 0 X
 else if op = 12 then shiftB false false Y 0 X
 else if op = 13 then shiftB false (X.getD (X.length - 1) false) Y 0 X
 else Y ++ X
theorem lit_getD {w : List Bool} {xs : List Int} {k : Nat} (hk : k < xs.length) : netLit w (xs.getD k 0) = (xs.map (netLit w)).getD k false := by
 rw [List.getD_eq_getElem?_getD, List.getD_eq_getElem?_getD, List.getElem?_map, List.getElem?_eq_getElem hk]; rfl
theorem marks_off {n : N} (h : netOk n = true) (k : Nat) : ∀ m ∈ List.replicate k (-1 : Int), z04 n m = true := fun m hm => by rw [List.eq_of_mem_replicate hm]; exact netMark_neg (one_mark9 h)
theorem lits_off {n : N} {w : List Bool} (h : netOk n = true) (hw : Obeys n w) (k : Nat) : (List.replicate k (-1 : Int)).map (netLit w) = List.replicate k false := by rw [List.map_replicate, off_lit h hw]
theorem marks_neg {n : N} {xs : List Int} (h : ∀ x ∈ xs, z04 n x = true) : ∀ m ∈ xs.map Neg.neg, z04 n m = true := fun m hm => by
 obtain ⟨x, hx, rfl⟩ := List.mem_map.1 hm
 exact netMark_neg (h x hx)
theorem lits_neg {n : N} {w : List Bool} {xs : List Int} (h : ∀ x ∈ xs, z04 n x = true) (hw : Obeys n w) : (xs.map Neg.neg).map (netLit w) = (xs.map (netLit w)).map not := by
 rw [List.map_map, List.map_map]
 exact List.map_congr_left fun x hx => netLit_turn (hw.sig (h x hx))
theorem all_muxes {w : List Bool} {c : Int} (xs ys : List Int) (Φ : List Int → N → Prop) (n : N) (hc : z04 n c = true) (hl : xs.length = ys.length) (h0 : netOk n = true) (hx : ∀ x ∈ xs, z04 n x = true) (hy : ∀ y ∈ ys, z04 n y = true)
  (h : ∀ ms n', Ext n n' → ms.length = xs.length → (∀ m ∈ ms, z04 n' m = true) → (Obeys n' w → ms.map (netLit w) = muxB (netLit w c) (xs.map (netLit w)) (ys.map (netLit w))) → Φ ms n') : (eachP (muxP c) xs ys).all w Φ n := by
 refine all_each (w := w) (op := fun x y => if netLit w c then x else y) (n0 := n) (fun Ψ n' x y e mx my k => all_mux (e.has hc) mx my k) xs ys Φ n hl (.refl h0) hx hy fun ms n' e l m v => h ms n' e l m fun hw => ?_
 rw [v hw]; unfold muxB; rw [List.zipWith_map]
theorem all_row {w : List Bool} {xs : List Int} {i : Nat} {y : Int} (Φ : List Int → N → Prop) (n : N) (hi : i ≤ xs.length) (h0 : netOk n = true) (hx : ∀ x ∈ xs, z04 n x = true) (hy : z04 n y = true)
  (h : ∀ ms n', Ext n n' → ms.length = xs.length → (∀ m ∈ ms, z04 n' m = true) → (Obeys n' w → ms.map (netLit w) = rowB (xs.map (netLit w)) i (netLit w y)) → Φ ms n') : (rowP xs i y).all w Φ n := by
 refine all_bind _ _ _ (all_map (w := w) (f := andP y) (op := fun b => b && netLit w y) (n0 := n) (fun Ψ n' x e mx k => ⟨⟨mx, e.has hy⟩, k⟩) _ _ n (.refl h0) (fun z hz => hx z (List.mem_of_mem_take hz)) fun ms n1 e1 l1 m1 v1 => ?_)
 refine h _ n1 e1 (by rw [List.length_append, l1, List.length_replicate, List.length_take]; omega) (fun z hz => ?_) fun hw => ?_
 ·
  rcases List.mem_append.1 hz with hz | hz
  · exact marks_off e1.ok i z hz
  · exact m1 z hz
 · rw [List.map_append, lits_off e1.ok hw, v1 hw]; unfold rowB; rw [List.map_take, List.length_map]
theorem all_mul {w : List Bool} {xs : List Int} : ∀ (ys : List Int) (i : Nat) (s : List Int) (Φ : List Int → N → Prop) (n : N), i + ys.length ≤ xs.length → netOk n = true → (∀ x ∈ xs, z04 n x = true) → (∀ y ∈ ys, z04 n y = true) → (∀ m ∈ s, z04 n m = true) → s.length = xs.length →
  (∀ ms n', Ext n n' → ms.length = xs.length → (∀ m ∈ ms, z04 n' m = true) → (Obeys n' w → ms.map (netLit w) = mulB (xs.map (netLit w)) (ys.map (netLit w)) i (s.map (netLit w))) → Φ ms n') → (mulP xs ys i s).all w Φ n
 | [], _, s, Φ, n, _, h0, _, _, hs, hl, h => h s n (.refl h0) hl hs fun _ => rfl
 | y :: ys, i, s, Φ, n, hi, h0, hx, hy, hs, hl, h => by
  rw [List.length_cons] at hi
  refine all_bind _ _ _ (all_row _ n (by omega) h0 hx (hy _ (.head _)) fun row n1 e1 l1 m1 v1 => all_bind _ _ _ (all_sum _ _ _ _ n1 (by rw [hl, l1]) e1.ok (fun z hz => e1.has (hs z hz)) m1 (netMark_neg (one_mark9 e1.ok)) fun s' n2 e2 l2 m2 v2 => ?_))
  have e12 := e1.trans e2
  refine all_mul ys (i + 1) s' Φ n2 (by omega) e2.ok (fun z hz => e12.has (hx z hz)) (fun z hz => e12.has (hy z (.tail _ hz))) m2 (by rw [l2, hl]) fun ms n3 e3 l3 m3 v3 => h ms n3 (e12.trans e3) l3 m3 fun hw => ?_
  have w2 := e3.obeys hw
  have w1 := e2.obeys w2
  rw [v3 hw, v2 w2, v1 w1, off_lit e1.ok w1]
  rfl
theorem all_div {w : List Bool} {xs wide : List Int} (hwl : wide.length = xs.length + 1) : ∀ (k : Nat) (q r : List Int) (Φ : List Int × List Int → N → Prop) (n : N), k ≤ xs.length → netOk n = true → (∀ x ∈ xs, z04 n x = true) → (∀ x ∈ wide, z04 n x = true) → (∀ m ∈ q, z04 n m = true) → (∀ m ∈ r, z04 n m = true) → q.length = xs.length → r.length = xs.length →
  (∀ z n', Ext n n' → z.1.length = xs.length → z.2.length = xs.length → (∀ m ∈ z.1, z04 n' m = true) → (∀ m ∈ z.2, z04 n' m = true) → (Obeys n' w → (z.1.map (netLit w), z.2.map (netLit w)) = divB (xs.map (netLit w)) (wide.map (netLit w)) k (q.map (netLit w)) (r.map (netLit w))) → Φ z n') → (divP xs wide k q r).all w Φ n
 | 0, q, r, Φ, n, _, h0, _, _, hq, hr, hql, hrl, h => h (q, r) n (.refl h0) hql hrl hq hr fun _ => rfl
 | k + 1, q, r, Φ, n, hk, h0, hx, hw, hq, hr, hql, hrl, h => by
  have ht : ∀ z ∈ xs.getD k 0 :: r, z04 n z = true := fun z hz => by
   rcases List.mem_cons.1 hz with rfl | hz
   · exact getD_inP (B := fun z => z04 n z = true) hx (by omega)
   · exact hr z hz
  have htl : (xs.getD k 0 :: r).length = wide.length := by rw [List.length_cons, hrl, hwl]
  have htm : (xs.getD k 0 :: r).map (netLit w) = (xs.map (netLit w)).getD k false :: r.map (netLit w) := by rw [List.map_cons, lit_getD (by omega)]
  refine all_bind _ _ _ (all_less _ _ _ _ n htl h0 ht hw (netMark_neg (one_mark9 h0)) fun l n1 e1 m1 v1 => all_bind _ _ _ (all_sum _ _ _ _ n1 (by rw [htl, List.length_map]) e1.ok (fun z hz => e1.has (ht z hz)) (fun z hz => e1.has (marks_neg hw z hz)) (one_mark9 e1.ok) fun u n2 e2 l2 m2 v2 => all_bind _ _ _ (all_muxes _ _ _ n2 (e2.has m1) ?_ e2.ok (fun z hz => e2.has (e1.has (ht z (List.mem_of_mem_take hz)))) (fun z hz => m2 z (List.mem_of_mem_take hz)) fun r' n3 e3 l3 m3 v3 => ?_)))
  · rw [List.length_take, List.length_take, l2]
  have e13 := e1.trans (e2.trans e3)
  refine all_div hwl k _ r' Φ n3 (by omega) e3.ok (fun z hz => e13.has (hx z hz)) (fun z hz => e13.has (hw z hz)) (fun z hz => ?_) m3 (by rw [List.length_set]; exact hql) ?_ fun z n4 e4 a4 b4 c4 d4 v4 => h z n4 (e13.trans e4) a4 b4 c4 d4 fun hw4 => ?_
  ·
   rcases List.mem_or_eq_of_mem_set hz with hz | hz
   · exact e13.has (hq z hz)
   · rw [hz]; exact netMark_neg (e3.has (e2.has m1))
  · rw [l3, List.length_take, List.length_cons, hrl]; omega
  ·
   have w3 := e4.obeys hw4
   have w2 := e3.obeys w3
   have w1 := e2.obeys w2
   have w0 := e1.obeys w1
   have hl1 : netLit w l = lessB ((xs.map (netLit w)).getD k false :: r.map (netLit w)) (wide.map (netLit w)) false := by rw [v1 w1, htm, off_lit h0 w0]
   rw [v4 hw4, v3 w3, List.map_take, List.map_take, v2 w2, htm, lits_neg hw w0, List.map_set, netLit_turn (w1.sig m1), hl1, netLit_one w1.one]
   rw [divB_succ, List.length_map]
theorem lits_from {w : List Bool} {up : Bool} {s : List Int} {step : Nat} {fill : Int} : (fromL up s step fill).map (netLit w) = fromB up (s.map (netLit w)) step (netLit w fill) := by
 unfold fromL fromB
 rw [List.map_map, List.length_map]
 refine List.map_congr_left fun k hk => ?_
 rw [List.mem_range] at hk
 show netLit w (if up = true then _ else _) = _
 split
 ·
  split
  · rfl
  · exact lit_getD (Nat.lt_of_le_of_lt (Nat.sub_le _ _) hk)
 ·
  split
  · exact lit_getD (by assumption)
  · rfl
theorem marks_from {n : N} {up : Bool} {s : List Int} {step : Nat} {fill : Int} (hs : ∀ x ∈ s, z04 n x = true) (hf : z04 n fill = true) : ∀ z ∈ fromL up s step fill, z04 n z = true := fun z hz => by
 unfold fromL at hz
 obtain ⟨k, hk, rfl⟩ := List.mem_map.1 hz
 rw [List.mem_range] at hk
 have hg : ∀ j, j < s.length → z04 n (s.getD j 0) = true := fun j hj => getD_inP (B := fun z => z04 n z = true) hs hj
 split
 ·
  split
  · exact hf
  · exact hg _ (Nat.lt_of_le_of_lt (Nat.sub_le _ _) hk)
 ·
  split
  · exact hg _ (by assumption)
  · exact hf
theorem all_shift {w : List Bool} {up : Bool} {fill : Int} : ∀ (cs : List Int) (i : Nat) (s : List Int) (Φ : List Int → N → Prop) (n : N), netOk n = true → z04 n fill = true → (∀ c ∈ cs, z04 n c = true) → (∀ m ∈ s, z04 n m = true) →
  (∀ ms n', Ext n n' → ms.length = s.length → (∀ m ∈ ms, z04 n' m = true) → (Obeys n' w → ms.map (netLit w) = shiftB up (netLit w fill) (cs.map (netLit w)) i (s.map (netLit w))) → Φ ms n') → (shiftP up fill cs i s).all w Φ n
 | [], _, s, Φ, n, h0, _, _, hs, h => h s n (.refl h0) rfl hs fun _ => rfl
 | c :: cs, i, s, Φ, n, h0, hf, hc, hs, h => by
  refine all_bind _ _ _ (all_muxes _ _ _ n (hc _ (.head _)) (fromL_len _ _ _ _) h0 (marks_from hs hf) hs fun s' n1 e1 l1 m1 v1 => ?_)
  rw [fromL_len] at l1
  refine all_shift cs (i + 1) s' Φ n1 e1.ok (e1.has hf) (fun z hz => e1.has (hc z (.tail _ hz))) m1 fun ms n2 e2 l2 m2 v2 => h ms n2 (e1.trans e2) (by rw [l2, l1]) m2 fun hw => ?_
  rw [v2 hw, v1 (e2.obeys hw), lits_from]
  rfl
def lenV (op : Int) (a b : Nat) : Nat := if op = 14 then b + a else a
set_option maxHeartbeats 2000000 in
theorem bin_all {op : Int} {w : List Bool} {n : N} {xs ys : List Int} (h0 : netOk n = true) (hx : ∀ x ∈ xs, z04 n x = true) (hy : ∀ y ∈ ys, z04 n y = true) (hl0 : 1 ≤ xs.length) (hl : op ≠ 14 → xs.length = ys.length) (ho : opBin op = true) :
  (binP op xs ys).all w (fun ms n' => ms.length = lenV op xs.length ys.length ∧ (∀ m ∈ ms, z04 n' m = true) ∧ (Obeys n' w → ms.map (netLit w) = binB op (xs.map (netLit w)) (ys.map (netLit w)))) n := by
 unfold opBin at ho
 simp only [Bool.and_eq_true, decide_eq_true_eq] at ho
 unfold binP
 have off1 := netMark_neg (one_mark9 h0)
 have pad : z04 n (-1) = true := off1
 have hwd : ∀ y ∈ ys ++ [-1], z04 n y = true := fun z hz => by
  rcases List.mem_append.1 hz with hz | hz
  · exact hy z hz
  · rw [List.mem_singleton.1 hz]; exact off1
 have hdiv : op ≠ 14 → ∀ Φ : List Int × List Int → N → Prop, (∀ z n', Ext n n' → z.1.length = xs.length → z.2.length = xs.length → (∀ m ∈ z.1, z04 n' m = true) → (∀ m ∈ z.2, z04 n' m = true) → (Obeys n' w → (z.1.map (netLit w), z.2.map (netLit w)) = divB (xs.map (netLit w)) (ys.map (netLit w) ++ [false]) xs.length (List.replicate xs.length false) (List.replicate xs.length false)) → Φ z n') →
   (divP xs (ys ++ [-1]) xs.length (List.replicate xs.length (-1)) (List.replicate xs.length (-1))).all w Φ n := fun h14 Φ h =>
  all_div (by rw [List.length_append, hl h14]; rfl) xs.length _ _ Φ n (Nat.le_refl _) h0 hx hwd (marks_off h0 _) (marks_off h0 _) List.length_replicate List.length_replicate fun z n' e a b c d v => h z n' e a b c d fun hw => by
   have w0 := e.obeys hw
   rw [v hw, lits_off h0 w0, List.map_append, List.map_cons, List.map_nil, off_lit h0 w0]
 split
 ·
  rename_i e; subst e
  refine all_each (w := w) (f := fun x y => .and x y .ret) (op := fun x y => x && y) (n0 := n) (fun Ψ n' x y e mx my k => ⟨⟨mx, my⟩, k⟩) xs ys _ n (hl (by decide)) (.refl h0) hx hy fun ms n' e l m v => ⟨l, m, fun hw => ?_⟩
  rw [v hw]; show _ = List.zipWith _ _ _; rw [List.zipWith_map]
 split
 ·
  rename_i e; subst e
  refine all_each (w := w) (f := orP) (op := fun x y => x || y) (n0 := n) (fun Ψ n' x y e mx my k => all_or mx my k) xs ys _ n (hl (by decide)) (.refl h0) hx hy fun ms n' e l m v => ⟨l, m, fun hw => ?_⟩
  rw [v hw]; show _ = List.zipWith _ _ _; rw [List.zipWith_map]
 split
 ·
  rename_i e; subst e
  refine all_each (w := w) (f := fun x y => .xor x y .ret) (op := fun x y => x != y) (n0 := n) (fun Ψ n' x y e mx my k => ⟨⟨mx, my⟩, k⟩) xs ys _ n (hl (by decide)) (.refl h0) hx hy fun ms n' e l m v => ⟨l, m, fun hw => ?_⟩
  rw [v hw]; show _ = List.zipWith _ _ _; rw [List.zipWith_map]
 split
 ·
  rename_i e; subst e
  refine all_sum xs ys (-1) _ n (hl (by decide)) h0 hx hy off1 fun ms n' e l m v => ⟨l, m, fun hw => ?_⟩
  rw [v hw, off_lit e.ok hw]; rfl
 split
 ·
  rename_i e; subst e
  refine all_sum xs _ 1 _ n (by rw [List.length_map]; exact hl (by decide)) h0 hx (marks_neg hy) (one_mark9 h0) fun ms n' e l m v => ⟨l, m, fun hw => ?_⟩
  rw [v hw, netLit_one hw.one, lits_neg hy (e.obeys hw)]; rfl
 split
 ·
  rename_i e; subst e
  have h9 := hl (by decide)
  refine all_mul ys 0 _ _ n (by omega) h0 hx hy (marks_off h0 _) List.length_replicate fun ms n' e l m v => ⟨l, m, fun hw => ?_⟩
  rw [v hw, lits_off h0 (e.obeys hw)]; show _ = mulB _ _ 0 _; rw [List.length_map]
 split
 ·
  rename_i e; subst e
  refine all_bind _ _ _ (hdiv (by decide) _ fun z n' e a b c d v => ⟨a, c, fun hw => ?_⟩)
  show _ = (divB _ _ _ _ _).1
  rw [List.length_map, ← v hw]
 split
 ·
  rename_i e; subst e
  refine all_bind _ _ _ (hdiv (by decide) _ fun z n' e a b c d v => ⟨b, d, fun hw => ?_⟩)
  show _ = (divB _ _ _ _ _).2
  rw [List.length_map, ← v hw]
 split
 ·
  rename_i e; subst e
  refine all_shift ys 0 xs _ n h0 off1 hy hx fun ms n' e l m v => ⟨l, m, fun hw => ?_⟩
  rw [v hw, off_lit e.ok hw]; rfl
 split
 ·
  rename_i e; subst e
  refine all_shift ys 0 xs _ n h0 off1 hy hx fun ms n' e l m v => ⟨l, m, fun hw => ?_⟩
  rw [v hw, off_lit e.ok hw]; rfl
 split
 ·
  rename_i e; subst e
  refine all_shift ys 0 xs _ n h0 (getD_inP (B := fun z => z04 n z = true) hx (by omega)) hy hx fun ms n' e l m v => ⟨l, m, fun hw => ?_⟩
  rw [v hw, lit_getD (by omega)]; show _ = shiftB _ (List.getD _ _ _) _ _ _; rw [List.length_map]
 ·
  have e : op = 14 := by omega
  subst e
  refine ⟨by rw [List.length_append]; rfl, fun m hm => ?_, fun hw => ?_⟩
  ·
   rcases List.mem_append.1 hm with hm | hm
   · exact hy m hm
   · exact hx m hm
  · rw [List.map_append]; rfl
def Turned {α : Type} : PG α → PG α → Prop
 | .ret a, .ret b => a = b
 | .and x y k, .and x' y' k' => (x' = x ∧ y' = y ∨ x' = y ∧ y' = x) ∧ ∀ m, Turned (k m) (k' m)
 | .xor x y k, .xor x' y' k' => (x' = x ∧ y' = y ∨ x' = y ∧ y' = x) ∧ ∀ m, Turned (k m) (k' m)
 | _, _ => False
theorem turned_bind {α β : Type} {f g : α → PG β} (hf : ∀ a, Turned (f a) (g a)) : ∀ (p q : PG α), Turned p q → Turned (p.bind f) (q.bind g)
 | .ret a, .ret b, h => by
  have e : a = b := h
  rw [e]; exact hf b
 | .and _ _ k, .and _ _ k', h => ⟨h.1, fun m => turned_bind hf (k m) (k' m) (h.2 m)⟩
 | .xor _ _ k, .xor _ _ k', h => ⟨h.1, fun m => turned_bind hf (k m) (k' m) (h.2 m)⟩
 | .ret _, .and _ _ _, h => h.elim
 | .ret _, .xor _ _ _, h => h.elim
 | .and _ _ _, .ret _, h => h.elim
 | .and _ _ _, .xor _ _ _, h => h.elim
 | .xor _ _ _, .ret _, h => h.elim
 | .xor _ _ _, .and _ _ _, h => h.elim
theorem turned_each {f : Int → Int → PG Int} (hf : ∀ x y, Turned (f x y) (f y x)) : ∀ xs ys : List Int, Turned (eachP f xs ys) (eachP f ys xs)
 | [], [] => rfl
 | [], _ :: _ => rfl
 | _ :: _, [] => rfl
 | x :: xs, y :: ys => turned_bind (fun m => turned_bind (f := fun l => .ret (m :: l)) (g := fun l => .ret (m :: l)) (fun _ => rfl) _ _ (turned_each hf xs ys)) _ _ (hf x y)
theorem turned_same {α : Type} : ∀ p : PG α, Turned p p
 | .ret _ => rfl
 | .and _ _ k => ⟨.inl ⟨rfl, rfl⟩, fun m => turned_same (k m)⟩
 | .xor _ _ k => ⟨.inl ⟨rfl, rfl⟩, fun m => turned_same (k m)⟩
theorem turned_sum : ∀ (xs ys : List Int) (c : Int), Turned (sumP xs ys c) (sumP ys xs c)
 | [], [], _ => rfl
 | [], _ :: _, _ => rfl
 | _ :: _, [], _ => rfl
 | x :: xs, y :: ys, c => ⟨.inr ⟨rfl, rfl⟩, fun d => ⟨.inl ⟨rfl, rfl⟩, fun s => ⟨.inr ⟨rfl, rfl⟩, fun p => ⟨.inl ⟨rfl, rfl⟩, fun q =>
   turned_bind (fun c' => turned_bind (f := fun l => .ret (s :: l)) (g := fun l => .ret (s :: l)) (fun _ => rfl) _ _ (turned_sum xs ys c')) _ _ (turned_same _)⟩⟩⟩⟩
theorem turned_bin {op : Int} (h : op = 6 ∨ op = 3 ∨ op = 4 ∨ op = 5) (xs ys : List Int) : Turned (binP op xs ys) (binP op ys xs) := by
 rcases h with rfl | rfl | rfl | rfl
 · exact turned_sum xs ys (-1)
 · exact turned_each (f := fun x y => .and x y .ret) (fun x y => ⟨.inr ⟨rfl, rfl⟩, fun _ => rfl⟩) xs ys
 · exact turned_each (f := orP) (fun x y => ⟨.inr ⟨rfl, rfl⟩, fun _ => rfl⟩) xs ys
 · exact turned_each (f := fun x y => .xor x y .ret) (fun x y => ⟨.inr ⟨rfl, rfl⟩, fun _ => rfl⟩) xs ys
theorem and1_both {y : N} {a b a' b' : Int} {m : Int} (hm : m ≠ 0) (e : and1 y a b = (y, m)) (h : a' = a ∧ b' = b ∨ a' = b ∧ b' = a) : and1 y a' b' = (y, m) := by
 rcases h with ⟨rfl, rfl⟩ | ⟨rfl, rfl⟩
 · exact e
 ·
  have := and1_turn (n := y) (a := b') (b := a') (by rw [e]; exact hm)
  rw [e] at this; exact this
theorem xor1_both {y : N} {a b a' b' : Int} {m : Int} (hm : m ≠ 0) (e : xor1 y a b = (y, m)) (h : a' = a ∧ b' = b ∨ a' = b ∧ b' = a) : xor1 y a' b' = (y, m) := by
 rcases h with ⟨rfl, rfl⟩ | ⟨rfl, rfl⟩
 · exact e
 ·
  have := xor1_turn (n := y) (a := b') (b := a') (by rw [e]; exact hm)
  rw [e] at this; exact this
theorem run_turn {α : Type} {w : List Bool} {Φ : α → N → Prop} : ∀ (p p' : PG α) (n y : N), Turned p p' → p.all w Φ n → netOk n = true → (run opsP p ⟨n, none⟩).1.e = none → Ext (run opsP p ⟨n, none⟩).1.n y → run opsP p' ⟨y, none⟩ = (⟨y, none⟩, (run opsP p ⟨n, none⟩).2)
 | .ret a, .ret b, n, y, ht, _, _, _, _ => by
  have e : a = b := ht
  rw [e]; rfl
 | .and a b k, .and a' b' k', n, y, ht, h, hn, he, hy => by
  obtain ⟨⟨hx, hy'⟩, hk⟩ := h
  by_cases hs : (stepP ⟨n, none⟩ (and1 n a b)).1.e = none
  ·
   obtain ⟨hz, e⟩ := step_none hs
   obtain ⟨hg, hv⟩ := and1_says hn hx hy' hz
   have e1 : run opsP (.and a b k) ⟨n, none⟩ = run opsP (k (and1 n a b).2) ⟨(and1 n a b).1, none⟩ := by
    show run opsP (k (stepP ⟨n, none⟩ (and1 n a b)).2) (stepP ⟨n, none⟩ (and1 n a b)).1 = _
    rw [e]
   rw [e1] at he hy ⊢
   have hk' := hk _ _ hg.to hg.mark (hv w)
   have h2 := ((all_run (k _) _ hk' hg.ok he).2).trans hy
   obtain ⟨t, htl⟩ := h2.ext
   have e2 := and1_both hz (and1_in hz h2.ins htl) ht.1
   have e3 : run opsP (.and a' b' k') ⟨y, none⟩ = run opsP (k' (and1 n a b).2) ⟨y, none⟩ := by
    show run opsP (k' (stepP ⟨y, none⟩ (and1 y a' b')).2) (stepP ⟨y, none⟩ (and1 y a' b')).1 = _
    rw [e2]
    unfold stepP
    rw [if_neg (by simp), if_neg hz]
   rw [e3]
   exact run_turn (k _) (k' _) _ y (ht.2 _) hk' hg.ok he hy
  · exact absurd he (run_failP (k (stepP ⟨n, none⟩ (and1 n a b)).2) _ hs)
 | .xor a b k, .xor a' b' k', n, y, ht, h, hn, he, hy => by
  obtain ⟨⟨hx, hy'⟩, hk⟩ := h
  by_cases hs : (stepP ⟨n, none⟩ (xor1 n a b)).1.e = none
  ·
   obtain ⟨hz, e⟩ := step_none hs
   obtain ⟨hg, hv⟩ := xor1_says hn hx hy' hz
   have e1 : run opsP (.xor a b k) ⟨n, none⟩ = run opsP (k (xor1 n a b).2) ⟨(xor1 n a b).1, none⟩ := by
    show run opsP (k (stepP ⟨n, none⟩ (xor1 n a b)).2) (stepP ⟨n, none⟩ (xor1 n a b)).1 = _
    rw [e]
   rw [e1] at he hy ⊢
   have hk' := hk _ _ hg.to hg.mark (hv w)
   have h2 := ((all_run (k _) _ hk' hg.ok he).2).trans hy
   obtain ⟨t, htl⟩ := h2.ext
   have e2 := xor1_both hz (xor1_in hz h2.ins htl) ht.1
   have e3 : run opsP (.xor a' b' k') ⟨y, none⟩ = run opsP (k' (xor1 n a b).2) ⟨y, none⟩ := by
    show run opsP (k' (stepP ⟨y, none⟩ (xor1 y a' b')).2) (stepP ⟨y, none⟩ (xor1 y a' b')).1 = _
    rw [e2]
    unfold stepP
    rw [if_neg (by simp), if_neg hz]
   rw [e3]
   exact run_turn (k _) (k' _) _ y (ht.2 _) hk' hg.ok he hy
  · exact absurd he (run_failP (k (stepP ⟨n, none⟩ (xor1 n a b)).2) _ hs)
 | .ret _, .and _ _ _, _, _, h, _, _, _, _ => h.elim
 | .ret _, .xor _ _ _, _, _, h, _, _, _, _ => h.elim
 | .and _ _ _, .ret _, _, _, h, _, _, _, _ => h.elim
 | .and _ _ _, .xor _ _ _, _, _, h, _, _, _, _ => h.elim
 | .xor _ _ _, .ret _, _, _, h, _, _, _, _ => h.elim
 | .xor _ _ _, .and _ _ _, _, _, h, _, _, _, _ => h.elim
structure GrBin (op : Int) (n : N) (xs ys : List Int) (r : N × List Int) : Prop where
 ok : netOk n = true
 ext : Ext n r.1
 len : r.2.length = lenV op xs.length ys.length
 mks : ∀ m ∈ r.2, z04 r.1 m = true
 lx : 1 ≤ xs.length ∧ xs.length ≤ 4
 ly : 1 ≤ ys.length ∧ ys.length ≤ 4
 hop : 3 ≤ op ∧ op ≤ 14
 lxy : op ≠ 14 → xs.length = ys.length
 l14 : op = 14 → xs.length + ys.length ≤ 4
 say : ∀ ins : List Bool, (ins.length : Int) = n.ins → r.2.map (netLit (netVals r.1 ins)) = binB op (xs.map (netLit (netVals r.1 ins))) (ys.map (netLit (netVals r.1 ins)))
 again : pickN (netOk r.1) (bitsBinR r.1 op xs ys) = r
 turn : op = 6 ∨ op = 3 ∨ op = 4 ∨ op = 5 → pickN (netOk r.1) (bitsBinR r.1 op ys xs) = r
theorem bitsBin_law {n : N} {op : Int} {xs ys : List Int} {r : N × List Int} (hr : r = pickN (netOk n) (bitsBinR n op xs ys)) (h : r.2 ≠ []) : GrBin op n xs ys r := by
 obtain ⟨hok, hb, he, hv⟩ := bitsOk_yes hr h
 simp only [Bool.and_eq_true] at hb
 obtain ⟨⟨⟨gx, gy⟩, ho⟩, hlb⟩ := hb
 obtain ⟨l1, l2, m1⟩ := goodL_iff.1 gx
 obtain ⟨l3, l4, m2⟩ := goodL_iff.1 gy
 have hl : op ≠ 14 → xs.length = ys.length := fun h14 => by unfold lenBin at hlb; rw [if_neg h14] at hlb; simpa using hlb
 have BA := fun w => bin_all (w := w) hok m1 m2 l1 hl ho
 have A := fun w => all_run (w := w) (binP op xs ys) n (BA w) hok he
 have hx := (A []).2
 have gxx : goodL r.1 xs = true := goodL_iff.2 ⟨l1, l2, fun m hm => by rw [hv]; exact hx.has (m1 m hm)⟩
 have gyy : goodL r.1 ys = true := goodL_iff.2 ⟨l3, l4, fun m hm => by rw [hv]; exact hx.has (m2 m hm)⟩
 have hok' : netOk r.1 = true := by rw [hv]; exact hx.ok
 have hag : ∀ p' : PG (List Int), Turned (binP op xs ys) p' → bitsOut (run opsP p' ⟨r.1, none⟩) = r := fun p' ht => by
  have := run_turn (binP op xs ys) p' n r.1 ht (BA []) hok he (by rw [hv]; exact .refl hx.ok)
  rw [this, hv]; rfl
 refine ⟨hok, by rw [hv]; exact hx, by rw [hv]; exact (A []).1.1, by rw [hv]; exact (A []).1.2.1, ⟨l1, l2⟩, ⟨l3, l4⟩, by unfold opBin at ho; simpa using ho, hl, fun h14 => by unfold lenBin at hlb; rw [if_pos h14] at hlb; simpa using hlb, fun ins hi => ?_, ?_, fun h4 => ?_⟩
 ·
  rw [hv]
  have hob := (obeys_vals hx.ok (by rw [hx.ins]; exact hi)).1
  exact (A (netVals (run opsP (binP op xs ys) ⟨n, none⟩).1.n ins)).1.2.2 hob
 ·
  rw [hok']
  show bitsBinR r.1 op xs ys = r
  unfold bitsBinR bitsOk
  rw [gxx, gyy, ho, hlb]
  exact hag _ (turned_same _)
 ·
  rw [hok']
  show bitsBinR r.1 op ys xs = r
  have hlb' : lenBin op ys xs = true := by unfold lenBin; rw [if_neg (by omega)]; exact decide_eq_true (hl (by omega)).symm
  unfold bitsBinR bitsOk
  rw [gxx, gyy, ho, hlb']
  exact hag _ (turned_bin h4 xs ys)
end Go.Proofs.YtjghcaghigebjaaGreatDoor
namespace Go.Proofs.YtjghcaghigebjaaGreatDoor
open Go Go.ChangeShapes Go.WideShapes Go.ChangeAt Go.RowKit
theorem dr_own : ownKnob Tryz.prog.godebug = none := by kernel_rfl
theorem dr_g0 : Tryz.prog.globalNamed "loop.example/seedlip/impl.errBits" = some 1 := by kernel_rfl
theorem dr_g1 : Tryz.prog.globalNamed "loop.example/seedlip/impl.errRoom" = some 0 := by kernel_rfl
theorem dr_t0 : (Tryz.prog.globals[1]?).map (·.type) = some 81 := by kernel_rfl
theorem dr_t1 : (Tryz.prog.globals[0]?).map (·.type) = some 81 := by kernel_rfl
theorem dr_c0 : Tryz.prog.cellsOf 216 = 1 := by kernel_rfl
theorem dr_c1 : Tryz.prog.cellsOf 9 = 1 := by kernel_rfl
theorem dr_star : "*" ++ "errors.errorString" = "*errors.errorString" := by decide
theorem dr_row (u : TypeId) (h : Tryz.prog.typeName? 3 u = some "*errors.errorString") : u = 189 :=
 typeName_ptr_named (nm := "errors.errorString") (by rw [dr_star]; kernel_rfl) (by kernel_rfl) (by decide) u (by rw [dr_star]; exact h)
abbrev laid2 : List (String × DataW Unit) := [("loop.example/seedlip/impl.errRoom", Rows.laid_loop_example_seedlip_impl_errRoom), ("loop.example/seedlip/impl.errBits", Rows.laid_loop_example_seedlip_impl_errBits)]
set_option maxRecDepth 100000 in
theorem glb_of_laid {W : World} (h : laidMetH Tryz.prog laid2 W) :
  ∃ a0 a1 : Addr, Glb a0 a1 W.heap.size W ∧ W.var? Tryz.prog "loop.example/seedlip/impl.errBits" = some #[sentV a0] ∧ W.var? Tryz.prog "loop.example/seedlip/impl.errRoom" = some #[sentV a1] := by
 rw [MakeChecks.laidMetH_plain _ _ _ (by kernel_rfl)] at h
 obtain ⟨ps, ⟨g1, t1, cs1, f1, p1, q1, hg1, ht1, hv1, hd1, ⟨g0, t0, cs0, f0, p0, q0, hg0, ht0, hv0, hd0, hq0, e0⟩, e1⟩, hnd, hrows⟩ := h
 obtain rfl := Option.some.inj (dr_g0.symm.trans hg0)
 obtain rfl := Option.some.inj (dr_g1.symm.trans hg1)
 obtain rfl := Option.some.inj (dr_t0.symm.trans ht0)
 obtain rfl := Option.some.inj (dr_t1.symm.trans ht1)
 have hq0' : q0 = [] := hq0
 subst hq0'
 subst e0
 subst e1
 obtain ⟨l0⟩ := cs0
 obtain ⟨l1⟩ := cs1
 have ok0 : ∀ u v, l0 = [.iface u v] → Value.okWide Tryz.prog W .any 0 u v := fun u v e => by
  subst e
  exact (hrows 1 0 (by simp [MemPlace.row])).2 u v (by simpa using World.var?_cell hg0 hv0 0)
 have ok1 : ∀ u v, l1 = [.iface u v] → Value.okWide Tryz.prog W .any 0 u v := fun u v e => by
  subst e
  exact (hrows 0 0 (by simp [MemPlace.row])).2 u v (by simpa using World.var?_cell hg1 hv1 0)
 obtain ⟨a0, s0, rfl, hc0, hs0, hz0, rfl⟩ := errorString_of_trod Tryz.underlying81 dr_row Tryz.underlying189 Tryz.underlying216 rfl rfl Tryz.underlying9 dr_c0 dr_c1 hd0 ok0
 obtain ⟨a1, s1, rfl, hc1, hs1, hz1, rfl⟩ := errorString_of_trod Tryz.underlying81 dr_row Tryz.underlying189 Tryz.underlying216 rfl rfl Tryz.underlying9 dr_c0 dr_c1 hd1 ok1
 obtain ⟨c0, t0, hb0⟩ := (hrows a0.block a0.off (by simp [MemPlace.row])).1
 obtain ⟨c1, t1, hb1⟩ := (hrows a1.block a1.off (by simp [MemPlace.row])).1
 have k0 : W.cell? ⟨1, 0, none⟩ = some (sentV a0) := by simpa using World.var?_cell dr_g0 hv0 0
 have k1 : W.cell? ⟨0, 0, none⟩ = some (sentV a1) := by simpa using World.var?_cell dr_g1 hv1 0
 refine ⟨a0, a1, ⟨k0, k1, ⟨c0, t0, hb0⟩, ⟨c1, t1, hb1⟩, ?_, ?_, (Array.getElem?_eq_some_iff.1 hb0).1, (Array.getElem?_eq_some_iff.1 hb1).1⟩, hv0, hv1⟩
 ·
  rintro rfl
  simp [MemPlace.row] at hnd
 ·
  have h1 := World.block_lt_of_cell? W _ k1
  have h0 := World.block_lt_of_cell? W _ k0
  dsimp only at h0 h1
  omega
theorem var_below {W W' : World} {n : String} {g : Nat} {cs : Array Value} (hg : Tryz.prog.globalNamed n = some g) (h : W.var? Tryz.prog n = some cs) (hb : Below W.heap.size W W') : W'.var? Tryz.prog n = some cs := by
 unfold World.var? at h ⊢
 rw [hg] at h ⊢
 simp only [Option.bind_some] at h ⊢
 have hlt : g < W.heap.size := by
  rcases Nat.lt_or_ge g W.heap.size with h' | h'
  · exact h'
  · simp [Array.getElem?_eq_none h'] at h
 rw [hb.block g hlt]; exact h
theorem vars_read {H : Type} (enc : TypeId × Value → H) {W : World} {x0 x1 : Value} (h0 : W.var? Tryz.prog "loop.example/seedlip/impl.errBits" = some #[x0]) (h1 : W.var? Tryz.prog "loop.example/seedlip/impl.errRoom" = some #[x1]) (i0 : IsIface x0) (i1 : IsIface x1) (sp : Nat → Bool) :
  DataW.TrodVars enc Tryz.prog W sp ["loop.example/seedlip/impl.errBits", "loop.example/seedlip/impl.errRoom"] [tok enc x0, tok enc x1] [.cell 1 0, .cell 0 0] :=
 ⟨1, 81, #[x0], 1, [], [.cell 0 0], dr_g0, dr_t0, h0, trod_held Tryz.underlying81 i0 0, ⟨0, 81, #[x1], 1, [], [], dr_g1, dr_t1, h1, trod_held Tryz.underlying81 i1 0, rfl, rfl⟩, rfl⟩
theorem door_met (os : Os) (args : Array Value) : laidMetH Tryz.prog laid2 ((World.doorLaid Tryz.prog 400 os).forCall (fun _ _ => 0) ⟨#[], args, []⟩).memory :=
 laidMetH_of_parts3 (fuel := 8) (laidMet_of_run' 8 (by kernel_rfl) (by kernel_rfl)) (by kernel_rfl) (by kernel_rfl)
end Go.Proofs.YtjghcaghigebjaaGreatDoor
namespace Go.Proofs.YtjghcaghigebjaaGreatDoor
open Go Go.RowKit
set_option maxHeartbeats 400000 in
theorem wpInts_any (A B : Option Addr) (c d : Nat) (xs ys : List Int) (F G : Nat → Prop) (w : World) (h : Lay.int.Sl w F A xs) (h' : Lay.int.Sl w G B ys) (hn : xs.length ≤ 1048576) (hn' : ys.length ≤ 1048576) :
  Calls Tryz.prog 15 #[.slice A xs.length c, .slice B ys.length d] w fun e w' => e = .returned (.bool (decide (xs = ys))) ∧ ∃ n, w' = w.drewN n := by
 by_cases hl : xs.length = ys.length
 ·
  have hne : (((xs.length : Int) != (ys.length : Int))) = false := by simp [hl]
  have HL := zH hl
  clear hl
  go_enter Tryz.func15, Tryz.ntmps15
  go_wp2
  clear hne
  go_loopw [5] (fun i wr => ∃ k m : Nat, k ≤ xs.length ∧ i = .int .i64 k ∧ wr = w.drewN m ∧ xs.take k = ys.take k) (fun i _ => xs.length - (intOf i).toNat)
  case atStart => exact ⟨0, 0, Nat.zero_le _, rfl, rfl, rfl⟩
  case round =>
   obtain ⟨k, m, hk, rfl, rfl, ht⟩ := hrel
   have HT := zH ht
   clear ht
   by_cases hlt : k < xs.length
   ·
    have hlt' : k < ys.length := by have := HL.out; omega
    obtain ⟨ad, rfl, hf, hc⟩ := h.at_int hlt
    obtain ⟨ad', rfl, hf', hc'⟩ := h'.at_int hlt'
    have hk0 : (0 : Int) ≤ k := by omega
    have hk1 : (k : Int) < xs.length := by omega
    have hk2 : (k : Int) < ys.length := by omega
    clear h h' hf hf'
    by_cases hxy : xs[k] = ys[k]
    ·
     have hb : (xs[k] != ys[k]) = false := by simp [hxy]
     have HX := zH hxy
     clear hxy
     go_wp2
     go_quiet (fail)
     go_wp2
     go_roundw
     case rel => exact ⟨k + 1, _, by omega, by go_num, rfl, take_eq_step hlt hlt' HT.out HX.out⟩
     case measure => simp [intOf]; omega
    ·
     have hb : (xs[k] != ys[k]) = true := by simp [hxy]
     go_wp2
     go_quiet (fail)
     go_wp2
     go_ret
     exact ⟨z16 (by simp; rintro rfl; exact hxy rfl), m + nq, by rw [World.drewN_drewN]⟩
   ·
    have : k = xs.length := by omega
    subst this
    go_wp2
    go_ret
    exact ⟨z16 (by have := HL.out; have := HT.out; simp [eq_of_take HL.out HT.out]), _, rfl⟩
 ·
  have hne : (((xs.length : Int) != (ys.length : Int))) = true := by simp; omega
  go_enter Tryz.func15, Tryz.ntmps15
  go_wp2
  go_ret
  exact ⟨z16 (by simp; rintro rfl; exact hl rfl), 0, rfl⟩
theorem wpInts_u (xs ys : List Int) (A B : Option Addr) (c d : Nat) (w : World) (h : Lay.int.Rd w A xs) (h' : Lay.int.Rd w B ys) (hs : xs.length ≤ 1048576) (hs' : ys.length ≤ 1048576) :
  Calls Tryz.prog 15 #[.slice A xs.length c, .slice B ys.length d] w (RetB w (decide (xs = ys))) :=
 (wpInts_any A B c d xs ys _ _ w h h' hs hs').mono fun _ _ ⟨h, m, hm⟩ => ⟨h, by rw [hm]; exact z01 (Below.refl _ _) m⟩
def OwnB (w : World) (lo : Nat) (v : Value) (bs : List Bool) : Prop := w.ownsRow lo 4 1 v bs.length (bs.map Value.bool)
theorem OwnB.rd {w : World} {lo c : Nat} {A : Option Addr} {bs : List Bool} (h : OwnB w lo (.slice A bs.length c) bs) : Lay.bool.Rd w A bs := (sl_bools_of_own h (fun g _ hg => hg)).1
theorem OwnB.gr {S : Nat → Prop} {w w' : World} {lo : Nat} {v : Value} {bs : List Bool} (h : OwnB w lo v bs) (hg : Gr S w w') (hr : ∀ b, S b → b < lo) : OwnB w' lo v bs :=
 own_of_heap h fun g hg' => hg.block g (h.lt g hg').2 (fun e => by have := hr g e; have := (h.lt g hg').1; omega)
theorem OwnB.up {w w' : World} {lo : Nat} {v : Value} {bs : List Bool} (h : OwnB w lo v bs) (hb : Below w.heap.size w w') : OwnB w' lo v bs := z07 h hb (Nat.le_refl _)
theorem OwnB.set {w : World} {lo g c k : Nat} {bs : List Bool} (h : OwnB w lo (.slice (some ⟨g, 0, none⟩) bs.length c) bs) (b : Bool) : OwnB (w.setCell ⟨g, k, none⟩ (.bool b)) lo (.slice (some ⟨g, 0, none⟩) bs.length c) (bs.set k b) := by
 have := (h.stored k (.bool b)).1
 unfold OwnB
 rw [List.length_set, List.map_set]
 exact this
theorem OwnB.cell {w : World} {lo g c k : Nat} {bs : List Bool} (h : OwnB w lo (.slice (some ⟨g, 0, none⟩) bs.length c) bs) (hk : k < bs.length) : w.cell? ⟨g, k, none⟩ = some (.bool bs[k]) ∧ w.frozen? ⟨g, k, none⟩ = false := by
 refine ⟨?_, h.frozenAt k⟩
 have hc := h.2
 rcases hc with ⟨e, _⟩ | ⟨g', cap, cur, e, _, _, h3, _⟩
 · cases e
 ·
  have hx := h.cellAt k (by simp; omega)
  rw [hx, List.getElem?_map, List.getElem?_eq_getElem hk]; rfl
theorem OwnB.form {w : World} {lo : Nat} {v : Value} {bs : List Bool} (h : OwnB w lo v bs) : ∃ A c, v = .slice A bs.length c ∧ bs.length ≤ c := by
 rcases h.2 with ⟨h1, h2⟩ | ⟨g, cap, cur, h1, _, _, h3, _⟩
 · exact ⟨none, 0, by rw [h1, h2], by rw [h2]; exact Nat.le_refl _⟩
 · exact ⟨_, cap, h1, h3⟩
theorem OwnB.cap {w : World} {lo c n : Nat} {A : Option Addr} {bs : List Bool} (h : OwnB w lo (.slice A n c) bs) : n = bs.length ∧ bs.length ≤ c := by
 obtain ⟨A', c', e, hl⟩ := h.form
 injection e with e1 e2 e3
 exact ⟨e2, by omega⟩
theorem neqG (w : World) (g h : G) : (binOp .neq 88 (.agg #[.bool g.x, .int .i64 g.a, .int .i64 g.b]) (.agg #[.bool h.x, .int .i64 h.a, .int .i64 h.b])).run Tryz.prog w = .ok (.bool (!decide (g = h))) w := by
 have hh : Tryz.prog.stoodInHeld 88 = false := by kernel_rfl
 rw [decide_G]
 simp [go_sem, hh]
 (repeat' split) <;> simp_all
set_option maxHeartbeats 1000000 in
theorem equalG_any (A B : Option Addr) (c d : Nat) (xs ys : List G) (w : World) (h : Lay.gate.Rd w A xs) (h' : Lay.gate.Rd w B ys) (hn : xs.length ≤ 1048576) (hn' : ys.length ≤ 1048576) :
  Calls Tryz.prog 48 #[.slice A xs.length c, .slice B ys.length d] w fun e w' => e = .returned (.bool (decide (xs = ys))) ∧ Below w.heap.size w w' := by
 by_cases hl : xs.length = ys.length
 ·
  have hne : (((xs.length : Int) != (ys.length : Int))) = false := by simp [hl]
  have HL := zH hl
  clear hl
  go_enter Tryz.func48, Tryz.ntmps48
  go_wp2
  clear hne
  go_loopw [13] (fun i wr => ∃ k m : Nat, k ≤ xs.length ∧ i = .int .i64 k ∧ wr = w.drewN m ∧ xs.take k = ys.take k) (fun i _ => xs.length - (intOf i).toNat)
  case atStart => exact ⟨0, 0, Nat.zero_le _, rfl, rfl, rfl⟩
  case round =>
   obtain ⟨k, m, hk, rfl, rfl, ht⟩ := hrel
   have HT := zH ht
   clear ht
   by_cases hlt : k < xs.length
   ·
    have hlt' : k < ys.length := by have := HL.out; omega
    obtain ⟨ad, rfl, hf, j1, j2, j3⟩ := h.at_gate hlt
    obtain ⟨ad', rfl, hf', l1, l2, l3⟩ := h'.at_gate hlt'
    have hk0 : (0 : Int) ≤ k := by omega
    have hk1 : (k : Int) < xs.length := by omega
    have hk2 : (k : Int) < ys.length := by omega
    clear h h' hf hf'
    by_cases hxy : xs[k] = ys[k]
    ·
     have he : ∀ W' : World, (binOp .neq 88 (.agg #[.bool xs[k].x, .int .i64 xs[k].a, .int .i64 xs[k].b]) (.agg #[.bool ys[k].x, .int .i64 ys[k].a, .int .i64 ys[k].b])).run Tryz.prog W' = .ok (.bool false) W' := fun W' => by rw [neqG W' xs[k] ys[k], decide_eq_true hxy]; rfl
     have HS := zH (take_eq_step hlt hlt' HT.out hxy)
     clear hxy
     generalize xs[k] = gx at *
     generalize ys[k] = gy at *
     go_wp2
     go_quiet (fail)
     clear he
     go_wp2
     go_roundw
     case rel => exact ⟨k + 1, _, by omega, by go_num, rfl, HS.out⟩
     case measure => simp [intOf]; omega
    ·
     have he : ∀ W' : World, (binOp .neq 88 (.agg #[.bool xs[k].x, .int .i64 xs[k].a, .int .i64 xs[k].b]) (.agg #[.bool ys[k].x, .int .i64 ys[k].a, .int .i64 ys[k].b])).run Tryz.prog W' = .ok (.bool true) W' := fun W' => by rw [neqG W' xs[k] ys[k], decide_eq_false hxy]; rfl
     have HXY := zH (fun e : xs = ys => hxy (by simp [e]))
     clear hxy
     generalize xs[k] = gx at *
     generalize ys[k] = gy at *
     go_wp2
     go_quiet (fail)
     clear he
     go_wp2
     go_ret
     exact ⟨z16 (decide_eq_false HXY.out).symm, by rw [World.drewN_drewN]; exact z01 (Below.refl _ _) _⟩
   ·
    have : k = xs.length := by omega
    subst this
    go_wp2
    go_ret
    exact ⟨z16 (by have := HL.out; have := HT.out; simp [eq_of_take HL.out HT.out]), z01 (Below.refl _ _) _⟩
 ·
  have hne : (((xs.length : Int) != (ys.length : Int))) = true := by simp; omega
  go_enter Tryz.func48, Tryz.ntmps48
  go_wp2
  go_ret
  exact ⟨z16 (by simp; rintro rfl; exact hl rfl), Below.refl _ _⟩
theorem decide_N (m n : N) : decide (m = n) = (m.ins == n.ins && decide (m.gs = n.gs)) := by
 cases m; cases n; rw [Bool.eq_iff_iff]; simp
set_option maxHeartbeats 1000000 in
theorem netSame_any (m n : N) (A B : Option Addr) (c d : Nat) (w : World) (h : Lay.gate.Rd w A m.gs) (h' : Lay.gate.Rd w B n.gs) (hn : m.gs.length ≤ 1048576) (hn' : n.gs.length ≤ 1048576) :
  Calls Tryz.prog 14 #[.agg #[.int .i64 m.ins, .slice A m.gs.length c], .agg #[.int .i64 n.ins, .slice B n.gs.length d]] w fun e w' => e = .returned (.bool (decide (m = n))) ∧ Below w.heap.size w w' := by
 have hw : Below w.heap.size w ((w.alloc (.cells #[.int .i64 m.ins, .slice A m.gs.length c] 29)).alloc (.cells #[.int .i64 n.ins, .slice B n.gs.length d] 29)) := ((Below.refl _ _).alloc (Nat.le_refl _) _).alloc (by simp) _
 have HC := zH (equalG_any A B c d m.gs n.gs _ (h.up hw) (h'.up hw) hn hn')
 have HW := zH hw
 have HD := zH (decide_N m n)
 clear hw
 by_cases hi : m.ins = n.ins
 ·
  have hib : (m.ins == n.ins) = true := by simpa using hi
  have HI := zH hib
  clear hi
  go_enter Tryz.func14, Tryz.ntmps14
  go_wp2_with fail
  refine HC.out.mono ?_
  rintro e w1 ⟨rfl, hb⟩
  clear hib
  go_wp2
  go_ret
  exact ⟨z16 (by rw [HD.out, HI.out]; rfl), bthen HW.out hb⟩
 ·
  have hib : (m.ins == n.ins) = false := by simpa using hi
  have HI := zH hib
  clear hi
  go_enter Tryz.func14, Tryz.ntmps14
  go_wp2
  go_ret
  exact ⟨z16 (by rw [HD.out, HI.out]; rfl), HW.out⟩
end Go.Proofs.YtjghcaghigebjaaGreatDoor
namespace Go.Proofs.YtjghcaghigebjaaGreatDoor
open Go Go.RowKit Go.ChangeShapes Go.WideShapes Go.ChangeAt Go.Deep
theorem opens_bytes : Opens Tryz.prog 22 Lay.byte.slice (fun xs => xs.length ≤ maxLen ∧ ∀ x ∈ xs, True) := Opens.slice Tryz.underlying22 (by kernel_rfl) (by decide) (Opens.byte Tryz.underlying5)
set_option maxRecDepth 100000 in
set_option maxHeartbeats 8000000 in
theorem fnBitsAgain_walk (W : World) (a0 a1 : Addr) {A0 : Option Addr} {c0 : Nat} {x0 : List UInt8} (hglb : Glb a0 a1 W.heap.size W) (hc0 : x0.length ≤ c0) (hok0 : x0.length ≤ maxLen ∧ ∀ z ∈ x0, True) (h0 : Lay.byte.Rd W A0 x0) :
  Calls Tryz.prog 4 #[.slice A0 x0.length c0] W (LawC W) := by
 have GLB := zH hglb
 clear hglb
 have hm0 : x0.length ≤ 9223372036854775807 := by have := hok0.1; unfold maxLen at this; omega
 clear hok0
 by_cases hbig0 : (1048576 : Int) < x0.length
 ·
  go_enter Tryz.func4, Tryz.ntmps4
  go_wp2
  go_ret
  exact ⟨rfl, Below.refl _ _⟩
 have hb : Below W.heap.size W W := Below.refl _ _
 go_enter Tryz.func4, Tryz.ntmps4
 go_wp2_with fail
 refine (drawBitsBin_any A0 c0 x0 _ h0 hc0 hm0).mono ?_
 rintro e u1 ⟨n, A1, d1, op, xs, X1, e1, ys, Y1, k1, rfl, hn, hxs, hys, hbn, ha, hkx, hky, hcx, hcy, hb9⟩
 have hb := bthen hb hb9
 clear hb9
 clear h0
 have hnl : n.gs.length ≤ 4 := hbn.2.2.1
 have hx5 : xs.length ≤ 5 := hkx.1
 have hy5 : ys.length ≤ 5 := hky.1
 have SN : Hid (smNet n) := zH ⟨by omega, hbn.2.2.2, by have := hbn.1; have := hbn.2.1; unfold okInt; omega⟩
 have SX : Hid (smInts xs) := zH ⟨by omega, hkx.2⟩
 have SY : Hid (smInts ys) := zH ⟨by omega, hky.2⟩
 have SA := zH ha
 clear hbn hkx hky ha hcx hcy
 obtain ⟨r, hr⟩ : ∃ r, r = pickN (netOk n) (bitsBinR n op xs ys) := ⟨_, rfl⟩
 have HR := zH hr
 have HLEN := zH (show r.1.gs.length ≤ 1048576 ∧ r.2.length ≤ 1048576 by rw [hr]; exact bitsBin_len)
 have HLW := zH (fun h : r.2 ≠ [] => bitsBin_law hr h)
 have hrl := HLEN.out.1
 have hol := HLEN.out.2
 clear hr
 have hal : Below u1.heap.size u1 (u1.alloc (.cells #[.int .i64 n.ins, .slice A1 n.gs.length d1] 29)) := (Below.refl _ _).alloc (Nat.le_refl _) _
 have B9 : (u1.alloc (.cells #[.int .i64 n.ins, .slice A1 n.gs.length d1] 29)).heap[u1.heap.size]? = some (.cells #[.int .i64 n.ins, .slice A1 n.gs.length d1] 29 (0, 0)) := heap_alloc_new _ _
 have hb := bthen hb hal
 have hn := hn.up hal
 have hxs := hxs.up hal
 have hys := hys.up hal
 clear hal
 have BN := zH B9
 clear B9
 go_wp2_with fail
 generalize u1.alloc (.cells #[.int .i64 n.ins, .slice A1 n.gs.length d1] 29) = u2 at *
 generalize u1.heap.size = iBN at *
 refine (implBitsBin_v a0 a1 W.heap.size n A1 d1 op xs X1 e1 ys Y1 k1 _ hn hxs hys SN.out SA.out SX.out SY.out (GLB.out.below hb) hb.size).mono ?_
 rw [← HR.out]
 rintro e u3 ⟨A2, B2, d2, e2, rfl, hd2, he2, g2, o2, hb9, _⟩
 have hb := bthen hb hb9
 have hn := hn.up hb9
 have hxs := hxs.up hb9
 have hys := hys.up hb9
 have BN := zH ((hb9.block _ (lt_of_block BN.out)).trans BN.out)
 clear hb9
 have hx := g2.own_rd
 have ho := o2.own_rd
 clear g2 o2
 have kBN_0 : u3.cell? ⟨iBN, 0, none⟩ = some (.int .i64 n.ins) := (z00 BN.out 0).1
 have kBN_1 : u3.cell? ⟨iBN, 1, none⟩ = some (.slice A1 n.gs.length d1) := (z00 BN.out 1).1
 have ltBN : iBN < u3.heap.size := lt_of_block BN.out
 have hal : Below u3.heap.size u3 (u3.alloc (.cells #[.int .i64 r.1.ins, .slice A2 r.1.gs.length d2] 29)) := (Below.refl _ _).alloc (Nat.le_refl _) _
 have B9 : (u3.alloc (.cells #[.int .i64 r.1.ins, .slice A2 r.1.gs.length d2] 29)).heap[u3.heap.size]? = some (.cells #[.int .i64 r.1.ins, .slice A2 r.1.gs.length d2] 29 (0, 0)) := heap_alloc_new _ _
 have hb := bthen hb hal
 have hn := hn.up hal
 have hxs := hxs.up hal
 have hys := hys.up hal
 have BN := zH ((hal.block _ (lt_of_block BN.out)).trans BN.out)
 have hx := hx.up hal
 have ho := ho.up hal
 clear hal
 have BX := zH B9
 clear B9
 go_wp2_with fail
 clear kBN_0 kBN_1 ltBN
 generalize u3.alloc (.cells #[.int .i64 r.1.ins, .slice A2 r.1.gs.length d2] 29) = u4 at *
 generalize u3.heap.size = iBX at *
 refine (specBitsBin_v n A1 d1 op xs X1 e1 ys Y1 k1 _ hn hxs hys SN.out SA.out SX.out SY.out).mono ?_
 rw [← HR.out]
 rintro e u5 ⟨A3, B3, d3, e3, rfl, hd3, he3, g3, o3, hb9, _⟩
 have hb := bthen hb hb9
 have hn := hn.up hb9
 have hxs := hxs.up hb9
 have hys := hys.up hb9
 have BN := zH ((hb9.block _ (lt_of_block BN.out)).trans BN.out)
 have hx := hx.up hb9
 have ho := ho.up hb9
 have BX := zH ((hb9.block _ (lt_of_block BX.out)).trans BX.out)
 clear hb9
 have ho3 := o3.own_rd
 clear g3 o3
 have hal : Below u5.heap.size u5 (u5.alloc (.cells #[.int .i64 r.1.ins, .slice A3 r.1.gs.length d3] 29)) := (Below.refl _ _).alloc (Nat.le_refl _) _
 have B9 : (u5.alloc (.cells #[.int .i64 r.1.ins, .slice A3 r.1.gs.length d3] 29)).heap[u5.heap.size]? = some (.cells #[.int .i64 r.1.ins, .slice A3 r.1.gs.length d3] 29 (0, 0)) := heap_alloc_new _ _
 have hb := bthen hb hal
 have hn := hn.up hal
 have hxs := hxs.up hal
 have hys := hys.up hal
 have BN := zH ((hal.block _ (lt_of_block BN.out)).trans BN.out)
 have hx := hx.up hal
 have ho := ho.up hal
 have BX := zH ((hal.block _ (lt_of_block BX.out)).trans BX.out)
 have ho3 := ho3.up hal
 clear hal
 have BY := zH B9
 clear B9
 go_wp2_with fail
 generalize u5.alloc (.cells #[.int .i64 r.1.ins, .slice A3 r.1.gs.length d3] 29) = u6 at *
 generalize u5.heap.size = iBY at *
 refine (wpInts_u r.2 r.2 B2 B3 e2 e3 _ ho ho3 hol hol).mono ?_
 rintro e u7 ⟨rfl, hb9⟩
 have hb := bthen hb hb9
 have hn := hn.up hb9
 have hxs := hxs.up hb9
 have hys := hys.up hb9
 have BN := zH ((hb9.block _ (lt_of_block BN.out)).trans BN.out)
 have hx := hx.up hb9
 have ho := ho.up hb9
 have BX := zH ((hb9.block _ (lt_of_block BX.out)).trans BX.out)
 have ho3 := ho3.up hb9
 have BY := zH ((hb9.block _ (lt_of_block BY.out)).trans BY.out)
 clear hb9
 rw [show decide (r.2 = r.2) = true by simp]
 clear BY
 by_cases hz : r.2 = []
 ·
  skip
  have hz0 : ((r.2.length : Int) == 0) = true := by rw [hz]; rfl
  clear hz
  go_wp2_with fail
  refine (wpInts_u r.2 r.2 B2 B3 e2 e3 _ ho ho3 hol hol).mono ?_
  rintro e u8 ⟨rfl, hb9⟩
  have hb := bthen hb hb9
  have hn := hn.up hb9
  have hxs := hxs.up hb9
  have hys := hys.up hb9
  have BN := zH ((hb9.block _ (lt_of_block BN.out)).trans BN.out)
  have hx := hx.up hb9
  have ho := ho.up hb9
  have BX := zH ((hb9.block _ (lt_of_block BX.out)).trans BX.out)
  have ho3 := ho3.up hb9
  clear hb9
  rw [show decide (r.2 = r.2) = true by simp]
  go_wp2
  go_ret
  exact ⟨rfl, hb⟩
 have hz0 : ((r.2.length : Int) == 0) = false := by simpa using (fun h : r.2.length = 0 => hz (List.eq_nil_of_length_eq_zero h))
 have lg := HLW.out hz
 have HAG := zH lg.again
 have HTU := zH lg.turn
 have hro9 := netOk_all.1 lg.ext.ok
 have SR : Hid (smNet r.1) := zH ⟨hrl, okInts_of lg.ext.ok, by unfold okInt; omega⟩
 clear lg hz hro9 ho3 HLW
 have kBX_0 : u7.cell? ⟨iBX, 0, none⟩ = some (.int .i64 r.1.ins) := (z00 BX.out 0).1
 have kBX_1 : u7.cell? ⟨iBX, 1, none⟩ = some (.slice A2 r.1.gs.length d2) := (z00 BX.out 1).1
 go_wp2_with fail
 clear kBX_0 kBX_1
 refine (implBitsBin_v a0 a1 W.heap.size r.1 A2 d2 op xs X1 e1 ys Y1 k1 _ hx hxs hys SR.out SA.out SX.out SY.out (GLB.out.below hb) hb.size).mono ?_
 rw [HAG.out]
 rintro e u9 ⟨A4, B4, d4, e4, rfl, hd4, he4, g4, o4, hb9, _⟩
 have hb := bthen hb hb9
 have hn := hn.up hb9
 have hxs := hxs.up hb9
 have hys := hys.up hb9
 have BN := zH ((hb9.block _ (lt_of_block BN.out)).trans BN.out)
 have hx := hx.up hb9
 have ho := ho.up hb9
 have BX := zH ((hb9.block _ (lt_of_block BX.out)).trans BX.out)
 clear hb9
 have hx4 := g4.own_rd
 have ho4 := o4.own_rd
 clear g4 o4
 have kBX_0 : u9.cell? ⟨iBX, 0, none⟩ = some (.int .i64 r.1.ins) := (z00 BX.out 0).1
 have kBX_1 : u9.cell? ⟨iBX, 1, none⟩ = some (.slice A2 r.1.gs.length d2) := (z00 BX.out 1).1
 have ltBX : iBX < u9.heap.size := lt_of_block BX.out
 have hal : Below u9.heap.size u9 (u9.alloc (.cells #[.int .i64 r.1.ins, .slice A4 r.1.gs.length d4] 29)) := (Below.refl _ _).alloc (Nat.le_refl _) _
 have B9 : (u9.alloc (.cells #[.int .i64 r.1.ins, .slice A4 r.1.gs.length d4] 29)).heap[u9.heap.size]? = some (.cells #[.int .i64 r.1.ins, .slice A4 r.1.gs.length d4] 29 (0, 0)) := heap_alloc_new _ _
 have hb := bthen hb hal
 have hn := hn.up hal
 have hxs := hxs.up hal
 have hys := hys.up hal
 have BN := zH ((hal.block _ (lt_of_block BN.out)).trans BN.out)
 have hx := hx.up hal
 have ho := ho.up hal
 have BX := zH ((hal.block _ (lt_of_block BX.out)).trans BX.out)
 have hx4 := hx4.up hal
 have ho4 := ho4.up hal
 clear hal
 have BZ := zH B9
 clear B9
 go_wp2_with fail
 clear kBX_0 kBX_1 ltBX
 generalize u9.alloc (.cells #[.int .i64 r.1.ins, .slice A4 r.1.gs.length d4] 29) = u10 at *
 generalize u9.heap.size = iBZ at *
 refine (netSame_any r.1 r.1 A2 A4 d2 d4 _ hx hx4 hrl hrl).mono ?_
 rintro e u11 ⟨rfl, hb9⟩
 have hb := bthen hb hb9
 have hn := hn.up hb9
 have hxs := hxs.up hb9
 have hys := hys.up hb9
 have BN := zH ((hb9.block _ (lt_of_block BN.out)).trans BN.out)
 have hx := hx.up hb9
 have ho := ho.up hb9
 have BX := zH ((hb9.block _ (lt_of_block BX.out)).trans BX.out)
 have hx4 := hx4.up hb9
 have ho4 := ho4.up hb9
 have BZ := zH ((hb9.block _ (lt_of_block BZ.out)).trans BZ.out)
 clear hb9
 rw [show decide (r.1 = r.1) = true by simp]
 go_wp2_with fail
 refine (wpInts_u r.2 r.2 B4 B2 e4 e2 _ ho4 ho hol hol).mono ?_
 rintro e u12 ⟨rfl, hb9⟩
 have hb := bthen hb hb9
 have hn := hn.up hb9
 have hxs := hxs.up hb9
 have hys := hys.up hb9
 have BN := zH ((hb9.block _ (lt_of_block BN.out)).trans BN.out)
 have hx := hx.up hb9
 have ho := ho.up hb9
 have BX := zH ((hb9.block _ (lt_of_block BX.out)).trans BX.out)
 have hx4 := hx4.up hb9
 have ho4 := ho4.up hb9
 have BZ := zH ((hb9.block _ (lt_of_block BZ.out)).trans BZ.out)
 clear hb9
 rw [show decide (r.2 = r.2) = true by simp]
 clear hx4 ho4
 clear BZ
 by_cases h4 : op = 6 ∨ op = 3 ∨ op = 4 ∨ op = 5
 ·
  skip
  have HTV := zH (HTU.out h4)
  clear HTU
  rcases h4 with rfl | rfl | rfl | rfl
  ·
   skip
   have kBX_0 : u12.cell? ⟨iBX, 0, none⟩ = some (.int .i64 r.1.ins) := (z00 BX.out 0).1
   have kBX_1 : u12.cell? ⟨iBX, 1, none⟩ = some (.slice A2 r.1.gs.length d2) := (z00 BX.out 1).1
   go_wp2_with fail
   clear kBX_0 kBX_1
   refine (implBitsBin_v a0 a1 W.heap.size r.1 A2 d2 6 ys Y1 k1 xs X1 e1 _ hx hys hxs SR.out SA.out SY.out SX.out (GLB.out.below hb) hb.size).mono ?_
   rw [HTV.out]
   rintro e u13 ⟨A5, B5, d5, e5, rfl, hd5, he5, g5, o5, hb9, _⟩
   have hb := bthen hb hb9
   have hn := hn.up hb9
   have hxs := hxs.up hb9
   have hys := hys.up hb9
   have BN := zH ((hb9.block _ (lt_of_block BN.out)).trans BN.out)
   have hx := hx.up hb9
   have ho := ho.up hb9
   have BX := zH ((hb9.block _ (lt_of_block BX.out)).trans BX.out)
   clear hb9
   have hx5' := g5.own_rd
   have ho5 := o5.own_rd
   clear g5 o5
   have kBX_0 : u13.cell? ⟨iBX, 0, none⟩ = some (.int .i64 r.1.ins) := (z00 BX.out 0).1
   have kBX_1 : u13.cell? ⟨iBX, 1, none⟩ = some (.slice A2 r.1.gs.length d2) := (z00 BX.out 1).1
   have ltBX : iBX < u13.heap.size := lt_of_block BX.out
   have hal : Below u13.heap.size u13 (u13.alloc (.cells #[.int .i64 r.1.ins, .slice A5 r.1.gs.length d5] 29)) := (Below.refl _ _).alloc (Nat.le_refl _) _
   have B9 : (u13.alloc (.cells #[.int .i64 r.1.ins, .slice A5 r.1.gs.length d5] 29)).heap[u13.heap.size]? = some (.cells #[.int .i64 r.1.ins, .slice A5 r.1.gs.length d5] 29 (0, 0)) := heap_alloc_new _ _
   have hb := bthen hb hal
   have hn := hn.up hal
   have hxs := hxs.up hal
   have hys := hys.up hal
   have BN := zH ((hal.block _ (lt_of_block BN.out)).trans BN.out)
   have hx := hx.up hal
   have ho := ho.up hal
   have BX := zH ((hal.block _ (lt_of_block BX.out)).trans BX.out)
   have hx5' := hx5'.up hal
   have ho5 := ho5.up hal
   clear hal
   have BQ := zH B9
   clear B9
   go_wp2_with fail
   clear kBX_0 kBX_1 ltBX
   generalize u13.alloc (.cells #[.int .i64 r.1.ins, .slice A5 r.1.gs.length d5] 29) = u14 at *
   generalize u13.heap.size = iBQ at *
   refine (netSame_any r.1 r.1 A2 A5 d2 d5 _ hx hx5' hrl hrl).mono ?_
   rintro e u15 ⟨rfl, hb9⟩
   have hb := bthen hb hb9
   have hn := hn.up hb9
   have hxs := hxs.up hb9
   have hys := hys.up hb9
   have BN := zH ((hb9.block _ (lt_of_block BN.out)).trans BN.out)
   have hx := hx.up hb9
   have ho := ho.up hb9
   have BX := zH ((hb9.block _ (lt_of_block BX.out)).trans BX.out)
   have hx5' := hx5'.up hb9
   have ho5 := ho5.up hb9
   have BQ := zH ((hb9.block _ (lt_of_block BQ.out)).trans BQ.out)
   clear hb9
   rw [show decide (r.1 = r.1) = true by simp]
   go_wp2_with fail
   refine (wpInts_u r.2 r.2 B5 B2 e5 e2 _ ho5 ho hol hol).mono ?_
   rintro e u16 ⟨rfl, hb9⟩
   have hb := bthen hb hb9
   have hn := hn.up hb9
   have hxs := hxs.up hb9
   have hys := hys.up hb9
   have BN := zH ((hb9.block _ (lt_of_block BN.out)).trans BN.out)
   have hx := hx.up hb9
   have ho := ho.up hb9
   have BX := zH ((hb9.block _ (lt_of_block BX.out)).trans BX.out)
   have hx5' := hx5'.up hb9
   have ho5 := ho5.up hb9
   have BQ := zH ((hb9.block _ (lt_of_block BQ.out)).trans BQ.out)
   clear hb9
   rw [show decide (r.2 = r.2) = true by simp]
   go_wp2
   go_ret
   exact ⟨rfl, hb⟩
  ·
   skip
   have kBX_0 : u12.cell? ⟨iBX, 0, none⟩ = some (.int .i64 r.1.ins) := (z00 BX.out 0).1
   have kBX_1 : u12.cell? ⟨iBX, 1, none⟩ = some (.slice A2 r.1.gs.length d2) := (z00 BX.out 1).1
   go_wp2_with fail
   clear kBX_0 kBX_1
   refine (implBitsBin_v a0 a1 W.heap.size r.1 A2 d2 3 ys Y1 k1 xs X1 e1 _ hx hys hxs SR.out SA.out SY.out SX.out (GLB.out.below hb) hb.size).mono ?_
   rw [HTV.out]
   rintro e u17 ⟨A5, B5, d5, e5, rfl, hd5, he5, g5, o5, hb9, _⟩
   have hb := bthen hb hb9
   have hn := hn.up hb9
   have hxs := hxs.up hb9
   have hys := hys.up hb9
   have BN := zH ((hb9.block _ (lt_of_block BN.out)).trans BN.out)
   have hx := hx.up hb9
   have ho := ho.up hb9
   have BX := zH ((hb9.block _ (lt_of_block BX.out)).trans BX.out)
   clear hb9
   have hx5' := g5.own_rd
   have ho5 := o5.own_rd
   clear g5 o5
   have kBX_0 : u17.cell? ⟨iBX, 0, none⟩ = some (.int .i64 r.1.ins) := (z00 BX.out 0).1
   have kBX_1 : u17.cell? ⟨iBX, 1, none⟩ = some (.slice A2 r.1.gs.length d2) := (z00 BX.out 1).1
   have ltBX : iBX < u17.heap.size := lt_of_block BX.out
   have hal : Below u17.heap.size u17 (u17.alloc (.cells #[.int .i64 r.1.ins, .slice A5 r.1.gs.length d5] 29)) := (Below.refl _ _).alloc (Nat.le_refl _) _
   have B9 : (u17.alloc (.cells #[.int .i64 r.1.ins, .slice A5 r.1.gs.length d5] 29)).heap[u17.heap.size]? = some (.cells #[.int .i64 r.1.ins, .slice A5 r.1.gs.length d5] 29 (0, 0)) := heap_alloc_new _ _
   have hb := bthen hb hal
   have hn := hn.up hal
   have hxs := hxs.up hal
   have hys := hys.up hal
   have BN := zH ((hal.block _ (lt_of_block BN.out)).trans BN.out)
   have hx := hx.up hal
   have ho := ho.up hal
   have BX := zH ((hal.block _ (lt_of_block BX.out)).trans BX.out)
   have hx5' := hx5'.up hal
   have ho5 := ho5.up hal
   clear hal
   have BQ := zH B9
   clear B9
   go_wp2_with fail
   clear kBX_0 kBX_1 ltBX
   generalize u17.alloc (.cells #[.int .i64 r.1.ins, .slice A5 r.1.gs.length d5] 29) = u18 at *
   generalize u17.heap.size = iBQ at *
   refine (netSame_any r.1 r.1 A2 A5 d2 d5 _ hx hx5' hrl hrl).mono ?_
   rintro e u19 ⟨rfl, hb9⟩
   have hb := bthen hb hb9
   have hn := hn.up hb9
   have hxs := hxs.up hb9
   have hys := hys.up hb9
   have BN := zH ((hb9.block _ (lt_of_block BN.out)).trans BN.out)
   have hx := hx.up hb9
   have ho := ho.up hb9
   have BX := zH ((hb9.block _ (lt_of_block BX.out)).trans BX.out)
   have hx5' := hx5'.up hb9
   have ho5 := ho5.up hb9
   have BQ := zH ((hb9.block _ (lt_of_block BQ.out)).trans BQ.out)
   clear hb9
   rw [show decide (r.1 = r.1) = true by simp]
   go_wp2_with fail
   refine (wpInts_u r.2 r.2 B5 B2 e5 e2 _ ho5 ho hol hol).mono ?_
   rintro e u20 ⟨rfl, hb9⟩
   have hb := bthen hb hb9
   have hn := hn.up hb9
   have hxs := hxs.up hb9
   have hys := hys.up hb9
   have BN := zH ((hb9.block _ (lt_of_block BN.out)).trans BN.out)
   have hx := hx.up hb9
   have ho := ho.up hb9
   have BX := zH ((hb9.block _ (lt_of_block BX.out)).trans BX.out)
   have hx5' := hx5'.up hb9
   have ho5 := ho5.up hb9
   have BQ := zH ((hb9.block _ (lt_of_block BQ.out)).trans BQ.out)
   clear hb9
   rw [show decide (r.2 = r.2) = true by simp]
   go_wp2
   go_ret
   exact ⟨rfl, hb⟩
  ·
   skip
   have kBX_0 : u12.cell? ⟨iBX, 0, none⟩ = some (.int .i64 r.1.ins) := (z00 BX.out 0).1
   have kBX_1 : u12.cell? ⟨iBX, 1, none⟩ = some (.slice A2 r.1.gs.length d2) := (z00 BX.out 1).1
   go_wp2_with fail
   clear kBX_0 kBX_1
   refine (implBitsBin_v a0 a1 W.heap.size r.1 A2 d2 4 ys Y1 k1 xs X1 e1 _ hx hys hxs SR.out SA.out SY.out SX.out (GLB.out.below hb) hb.size).mono ?_
   rw [HTV.out]
   rintro e u21 ⟨A5, B5, d5, e5, rfl, hd5, he5, g5, o5, hb9, _⟩
   have hb := bthen hb hb9
   have hn := hn.up hb9
   have hxs := hxs.up hb9
   have hys := hys.up hb9
   have BN := zH ((hb9.block _ (lt_of_block BN.out)).trans BN.out)
   have hx := hx.up hb9
   have ho := ho.up hb9
   have BX := zH ((hb9.block _ (lt_of_block BX.out)).trans BX.out)
   clear hb9
   have hx5' := g5.own_rd
   have ho5 := o5.own_rd
   clear g5 o5
   have kBX_0 : u21.cell? ⟨iBX, 0, none⟩ = some (.int .i64 r.1.ins) := (z00 BX.out 0).1
   have kBX_1 : u21.cell? ⟨iBX, 1, none⟩ = some (.slice A2 r.1.gs.length d2) := (z00 BX.out 1).1
   have ltBX : iBX < u21.heap.size := lt_of_block BX.out
   have hal : Below u21.heap.size u21 (u21.alloc (.cells #[.int .i64 r.1.ins, .slice A5 r.1.gs.length d5] 29)) := (Below.refl _ _).alloc (Nat.le_refl _) _
   have B9 : (u21.alloc (.cells #[.int .i64 r.1.ins, .slice A5 r.1.gs.length d5] 29)).heap[u21.heap.size]? = some (.cells #[.int .i64 r.1.ins, .slice A5 r.1.gs.length d5] 29 (0, 0)) := heap_alloc_new _ _
   have hb := bthen hb hal
   have hn := hn.up hal
   have hxs := hxs.up hal
   have hys := hys.up hal
   have BN := zH ((hal.block _ (lt_of_block BN.out)).trans BN.out)
   have hx := hx.up hal
   have ho := ho.up hal
   have BX := zH ((hal.block _ (lt_of_block BX.out)).trans BX.out)
   have hx5' := hx5'.up hal
   have ho5 := ho5.up hal
   clear hal
   have BQ := zH B9
   clear B9
   go_wp2_with fail
   clear kBX_0 kBX_1 ltBX
   generalize u21.alloc (.cells #[.int .i64 r.1.ins, .slice A5 r.1.gs.length d5] 29) = u22 at *
   generalize u21.heap.size = iBQ at *
   refine (netSame_any r.1 r.1 A2 A5 d2 d5 _ hx hx5' hrl hrl).mono ?_
   rintro e u23 ⟨rfl, hb9⟩
   have hb := bthen hb hb9
   have hn := hn.up hb9
   have hxs := hxs.up hb9
   have hys := hys.up hb9
   have BN := zH ((hb9.block _ (lt_of_block BN.out)).trans BN.out)
   have hx := hx.up hb9
   have ho := ho.up hb9
   have BX := zH ((hb9.block _ (lt_of_block BX.out)).trans BX.out)
   have hx5' := hx5'.up hb9
   have ho5 := ho5.up hb9
   have BQ := zH ((hb9.block _ (lt_of_block BQ.out)).trans BQ.out)
   clear hb9
   rw [show decide (r.1 = r.1) = true by simp]
   go_wp2_with fail
   refine (wpInts_u r.2 r.2 B5 B2 e5 e2 _ ho5 ho hol hol).mono ?_
   rintro e u24 ⟨rfl, hb9⟩
   have hb := bthen hb hb9
   have hn := hn.up hb9
   have hxs := hxs.up hb9
   have hys := hys.up hb9
   have BN := zH ((hb9.block _ (lt_of_block BN.out)).trans BN.out)
   have hx := hx.up hb9
   have ho := ho.up hb9
   have BX := zH ((hb9.block _ (lt_of_block BX.out)).trans BX.out)
   have hx5' := hx5'.up hb9
   have ho5 := ho5.up hb9
   have BQ := zH ((hb9.block _ (lt_of_block BQ.out)).trans BQ.out)
   clear hb9
   rw [show decide (r.2 = r.2) = true by simp]
   go_wp2
   go_ret
   exact ⟨rfl, hb⟩
  ·
   skip
   have kBX_0 : u12.cell? ⟨iBX, 0, none⟩ = some (.int .i64 r.1.ins) := (z00 BX.out 0).1
   have kBX_1 : u12.cell? ⟨iBX, 1, none⟩ = some (.slice A2 r.1.gs.length d2) := (z00 BX.out 1).1
   go_wp2_with fail
   clear kBX_0 kBX_1
   refine (implBitsBin_v a0 a1 W.heap.size r.1 A2 d2 5 ys Y1 k1 xs X1 e1 _ hx hys hxs SR.out SA.out SY.out SX.out (GLB.out.below hb) hb.size).mono ?_
   rw [HTV.out]
   rintro e u25 ⟨A5, B5, d5, e5, rfl, hd5, he5, g5, o5, hb9, _⟩
   have hb := bthen hb hb9
   have hn := hn.up hb9
   have hxs := hxs.up hb9
   have hys := hys.up hb9
   have BN := zH ((hb9.block _ (lt_of_block BN.out)).trans BN.out)
   have hx := hx.up hb9
   have ho := ho.up hb9
   have BX := zH ((hb9.block _ (lt_of_block BX.out)).trans BX.out)
   clear hb9
   have hx5' := g5.own_rd
   have ho5 := o5.own_rd
   clear g5 o5
   have kBX_0 : u25.cell? ⟨iBX, 0, none⟩ = some (.int .i64 r.1.ins) := (z00 BX.out 0).1
   have kBX_1 : u25.cell? ⟨iBX, 1, none⟩ = some (.slice A2 r.1.gs.length d2) := (z00 BX.out 1).1
   have ltBX : iBX < u25.heap.size := lt_of_block BX.out
   have hal : Below u25.heap.size u25 (u25.alloc (.cells #[.int .i64 r.1.ins, .slice A5 r.1.gs.length d5] 29)) := (Below.refl _ _).alloc (Nat.le_refl _) _
   have B9 : (u25.alloc (.cells #[.int .i64 r.1.ins, .slice A5 r.1.gs.length d5] 29)).heap[u25.heap.size]? = some (.cells #[.int .i64 r.1.ins, .slice A5 r.1.gs.length d5] 29 (0, 0)) := heap_alloc_new _ _
   have hb := bthen hb hal
   have hn := hn.up hal
   have hxs := hxs.up hal
   have hys := hys.up hal
   have BN := zH ((hal.block _ (lt_of_block BN.out)).trans BN.out)
   have hx := hx.up hal
   have ho := ho.up hal
   have BX := zH ((hal.block _ (lt_of_block BX.out)).trans BX.out)
   have hx5' := hx5'.up hal
   have ho5 := ho5.up hal
   clear hal
   have BQ := zH B9
   clear B9
   go_wp2_with fail
   clear kBX_0 kBX_1 ltBX
   generalize u25.alloc (.cells #[.int .i64 r.1.ins, .slice A5 r.1.gs.length d5] 29) = u26 at *
   generalize u25.heap.size = iBQ at *
   refine (netSame_any r.1 r.1 A2 A5 d2 d5 _ hx hx5' hrl hrl).mono ?_
   rintro e u27 ⟨rfl, hb9⟩
   have hb := bthen hb hb9
   have hn := hn.up hb9
   have hxs := hxs.up hb9
   have hys := hys.up hb9
   have BN := zH ((hb9.block _ (lt_of_block BN.out)).trans BN.out)
   have hx := hx.up hb9
   have ho := ho.up hb9
   have BX := zH ((hb9.block _ (lt_of_block BX.out)).trans BX.out)
   have hx5' := hx5'.up hb9
   have ho5 := ho5.up hb9
   have BQ := zH ((hb9.block _ (lt_of_block BQ.out)).trans BQ.out)
   clear hb9
   rw [show decide (r.1 = r.1) = true by simp]
   go_wp2_with fail
   refine (wpInts_u r.2 r.2 B5 B2 e5 e2 _ ho5 ho hol hol).mono ?_
   rintro e u28 ⟨rfl, hb9⟩
   have hb := bthen hb hb9
   have hn := hn.up hb9
   have hxs := hxs.up hb9
   have hys := hys.up hb9
   have BN := zH ((hb9.block _ (lt_of_block BN.out)).trans BN.out)
   have hx := hx.up hb9
   have ho := ho.up hb9
   have BX := zH ((hb9.block _ (lt_of_block BX.out)).trans BX.out)
   have hx5' := hx5'.up hb9
   have ho5 := ho5.up hb9
   have BQ := zH ((hb9.block _ (lt_of_block BQ.out)).trans BQ.out)
   clear hb9
   rw [show decide (r.2 = r.2) = true by simp]
   go_wp2
   go_ret
   exact ⟨rfl, hb⟩
 have q6 : (op != 6) = true := by simpa using fun h => h4 (.inl h)
 have q3 : (op != 3) = true := by simpa using fun h => h4 (.inr (.inl h))
 have q4 : (op != 4) = true := by simpa using fun h => h4 (.inr (.inr (.inl h)))
 have q5 : (op != 5) = true := by simpa using fun h => h4 (.inr (.inr (.inr h)))
 clear h4
 go_wp2
 go_ret
 exact ⟨rfl, hb⟩
set_option maxRecDepth 100000 in
theorem fnBitsAgain_lifted (os : Os) (started : os.Started) (H : Type) (enc : TypeId × Value → H) :
  ReturnsInHanded {} Tryz.checked os 4 .any (fun w args => (Rows.fnBitsAgainSpec.pre enc Tryz.prog Tryz.f4 [] false w args ∧ laidMetH Tryz.prog laid2 w) ∧ sizedMet enc Tryz.prog Tryz.f4 (OpenSpec.ofChange Rows.fnBitsAgainSpec) false w args)
   (Rows.fnBitsAgainSpec.post enc Tryz.prog Tryz.f4 false true false false) := by
 refine returnsInHanded_of_change_and (C := Tryz.checked) (X := fun w _ => laidMetH Tryz.prog laid2 w) (fun _ _ _ hh h => h.of_heap hh) dr_own started (by kernel_rfl) Tryz.func4
  (ChangeSpec.witness_shaped (enc := enc) (C := Tryz.checked) (os := os) (X := fun w _ => laidMetH Tryz.prog laid2 w) false (World.doorLaid Tryz.prog 400 os) #[.slice none 0 0] 16 rfl (World.shaped_of_RefB (by kernel_rfl) (by kernel_rfl)) (by kernel_rfl) (by kernel_rfl) (by kernel_rfl) (door_met os _)) ?_
 intro W base args ds gs before hval0 hW _ _ hL _
 have hval : ∀ (j : Nat) t v, Tryz.f4.params[j]? = some t → args[j]? = some v → Value.okWide Tryz.prog W .any base t v := hval0
 have hW' := hW
 obtain ⟨p, q, hA0, hV0, rfl, hfz, hnd⟩ := hW
 have hV : DataW.TrodVars enc Tryz.prog W (fun _ => true) ["loop.example/seedlip/impl.errBits", "loop.example/seedlip/impl.errRoom"] gs q := hV0
 obtain ⟨a0, a1, hglb, hv0, hv1⟩ := glb_of_laid hL
 have hA : DataW.TrodAll enc Tryz.prog W 0 (fun _ => true) true Tryz.f4.params.toList args.toList ds p := hA0
 rw [Tryz.params4] at hA hval
 obtain ⟨v0, vs0, d0, ds0, p0, q0, hargs, rfl, rfl, h0, r0⟩ := trodAll_cons hA
 obtain ⟨rfl, rfl, rfl⟩ := trodAll_nil r0
 obtain rfl : args = #[v0] := by cases args; simp_all
 obtain ⟨rfl, rfl⟩ := hV.unique (vars_read enc hv0 hv1 trivial trivial _)
 have k0 := h0
 have lt0 : ∀ x ∈ p0, x.block < W.heap.size := by obtain ⟨m, hm⟩ := k0; exact DataW.trod_lt m _ _ _ hm
 obtain ⟨A0, c0, x0, rfl, hc0, ok0, rd0⟩ := open_arg Tryz.underlying22 opens_bytes (hval 0 22 v0 rfl rfl) h0
 clear hA0 hval0 hV0
 refine (fnBitsAgain_walk W a0 a1 hglb hc0 ok0 rd0).mono fun e W' ⟨he, bel⟩ => ?_
 subst he
 exact ⟨_, rfl, _, _, _, [], _, [.cell 1 0, .cell 0 0], hW', trodAll_mk1 (shut_bool Tryz.underlying4 _), (trodAll_cons_mk (Below.trod (by kernel_rfl) (by kernel_rfl) (of_decide_eq_true (by kernel_rfl)) k0 bel lt0) trodAll_mk0), vars_read enc (var_below dr_g0 hv0 bel) (var_below dr_g1 hv1 bel) trivial trivial _, bel.frame _, fun h => by cases h⟩
theorem fnBitsAgain_row : Rows.FnBitsAgainSaid :=
 OpenClaim.holds_of_wide 4 Tryz.f4 rfl rfl rfl rfl rfl rfl rfl ⟨rfl, rfl, rfl, rfl, rfl⟩ rfl rfl rfl rfl rfl (by kernel_rfl) Tryz.func4 (by kernel_rfl)
  (of_decide_eq_true (by kernel_rfl)) (by unfold Func.isWrapper; first | (rw [if_pos (by decide +kernel)]; kernel_rfl) | (rw [if_neg (by decide +kernel)]; exact ⟨rfl, rfl⟩))
  (fun os started H enc _ => fnBitsAgain_lifted os started H enc)
theorem fnBitsAgain_holds : Rows.FnBitsAgainCardSaid :=
 Claim7.holds_tied_plain_at .later [] [.sentinel, .sentinel] true Rows.fnBitsAgainCard.stood.harness Rows.fnBitsAgainCard.stood.looks
  fnBitsAgain_row (fun _ h => by cases h) (by kernel_rfl) (fun _ h => by cases h) fnBitsAgain_row_tie rfl ⟨rfl, rfl⟩ (by kernel_rfl) rfl
  (fun f fn hf hfn => by
   obtain rfl : f = 4 := Option.some.inj ((show Tryz.prog.funcNamed "loop.example/seedlip/laws.FnBitsAgain" = some 4 by kernel_rfl).symm.trans hf) |>.symm
   obtain rfl : fn = Tryz.f4 := (Option.some.inj (Tryz.func4.symm.trans hfn)).symm
   exact ⟨by kernel_rfl, fun j t ht => by
    rw [Tryz.params4] at ht
    have hm : t ∈ [22] := by simpa using Array.mem_of_getElem? ht
    have hall : ([22].all fun u => !Tryz.prog.wantsStandIn u) = true := by kernel_rfl
    exact (show Tryz.prog.wantsStandIn t = false by simpa using List.all_eq_true.1 hall t hm)⟩)
  (by kernel_rfl)
#print axioms fnBitsAgain_holds
end Go.Proofs.YtjghcaghigebjaaGreatDoor
