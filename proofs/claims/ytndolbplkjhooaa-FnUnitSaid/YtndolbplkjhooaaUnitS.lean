/- The reference's UnitAll. -/
import Derived.Test.YtndolbplkjhooaaMarks5
import Derived.Test.YtndolbplkjhooaaUnitAll
namespace Go.Proofs.Ytndolbplkjhooaa
open Go Go.RowKit

theorem sl_nil_of {α : Type} {L : Lay α} {w : World} {F : Nat → Prop} {A : Option Addr} {xs : List α} (h : L.Sl w F A xs) : A = none → xs.length = 0 := fun e => by
  rcases Nat.eq_zero_or_pos xs.length with h0 | h0
  · exact h0
  · obtain ⟨ad, e', _⟩ := h h0
    rw [e] at e'; cases e'
theorem own_empty {w : World} {lo b : Nat} {cs : Array Value} (hlo : lo ≤ b) (hb : w.heap[b]? = some (.cells #[] 3 (0, 0))) (_ : cs = #[]) : OwnI w lo (.slice (some ⟨b, 0, none⟩) 0 0) [] :=
  ⟨rfl, .inr ⟨b, 0, #[], rfl, hlo, hb, Nat.le_refl _, by unfold maxLen; omega, rfl, rfl⟩⟩
set_option maxHeartbeats 1000000 in
theorem specUnitAll_any (A B : Option Addr) (p q : Nat) (x : C) (cl : List Int) (F G : Nat → Prop) (w : World) (h : Lay.int.slice.Sl w F A x.list) (hF : ∀ b, F b → b < w.heap.size)
    (hp : Lay.int.Sl w G B cl) (hG : ∀ b, G b → b < w.heap.size) (hsh : shortC x) (hcn : cl.length ≤ 1048576) (hi64 : i64s cl) :
    Calls Try.prog 18 #[.agg #[.int .i64 x.many, .slice A x.list.length p], .slice B cl.length q] w (RetU w (unitAllP x cl)) := by
  have hw : Below w.heap.size w (w.alloc (.cells #[.int .i64 x.many, .slice A x.list.length p] 28)) := (Below.refl _ _).alloc (Nat.le_refl _) _
  have K := h.below hw hF
  have KP := hp.below hw hG
  have hFW : ∀ b, F b → b < (w.alloc (.cells #[.int .i64 x.many, .slice A x.list.length p] 28)).heap.size := fun b h9 => Nat.lt_of_lt_of_le (hF b h9) hw.size
  have hGW : ∀ b, G b → b < (w.alloc (.cells #[.int .i64 x.many, .slice A x.list.length p] 28)).heap.size := fun b h9 => Nat.lt_of_lt_of_le (hG b h9) hw.size
  have v0 : (w.alloc (.cells #[.int .i64 x.many, .slice A x.list.length p] 28)).cell? ⟨w.heap.size, 0, none⟩ = some (.int .i64 x.many) := by simp [go_sem]
  have v1 : (w.alloc (.cells #[.int .i64 x.many, .slice A x.list.length p] 28)).cell? ⟨w.heap.size, 1, none⟩ = some (.slice A x.list.length p) := by simp [go_sem]
  have HI := Lib.hid hi64
  clear hi64
  go_enter Try.func18, Try.ntmps18
  go_wp2_with fail
  have HWS := Lib.hid hw.size
  generalize w.alloc (.cells #[.int .i64 x.many, .slice A x.list.length p] 28) = W at *
  refine (specCnfOk_any A p x F W K hFW hsh).mono ?_
  cases hok : cnfOk x
  · have HE := Lib.hid (unitAllP_no (x := x) (sl := cl) fun h9 => by rw [hok] at h9; exact absurd h9.1 (by simp))
    clear hok
    rintro e w1 ⟨rfl, hb1⟩
    go_wp2
    go_ret2
    rw [HE.out]
    exact ⟨_, 0, rfl, own_empty (cs := #[]) (Nat.le_trans HWS.out hb1.size) (heap_alloc_new _ _) rfl, (bthen hw hb1).alloc (Nat.le_trans HWS.out hb1.size) _⟩
  have hi := (cnfOk_iff x).1 hok
  have hrng := cnfOk_rng hok
  have HOK := Lib.hid hok
  obtain ⟨M, hM⟩ := Int.eq_ofNat_of_zero_le hi.1
  have hm1 : M ≤ 700 := by have := hi.2.1; omega
  clear hok hi
  rintro e w1 ⟨rfl, hb1⟩
  have c0 := (hb1.cell (World.block_lt_of_cell? W _ v0)).trans v0
  have c1 := (hb1.cell (World.block_lt_of_cell? W _ v1)).trans v1
  have HMM := Lib.hid hM
  clear hM
  have HRR : Hid (∀ cl ∈ x.list, (∀ l ∈ cl, l ≠ 0 ∧ -(M : Int) ≤ l ∧ l ≤ M) ∧ cl.length ≤ 1048576) := Lib.hid fun cl h9 => ⟨by rw [← HMM.out]; exact hrng cl h9, hsh.2 cl h9⟩
  have HK1 := Lib.hid (K.below hb1 hFW)
  have HP1 := Lib.hid (KP.below hb1 hGW)
  have HF1 : Hid (∀ b, F b → b < w1.heap.size) := Lib.hid fun b h9 => Nat.lt_of_lt_of_le (hFW b h9) hb1.size
  have HG1 : Hid (∀ b, G b → b < w1.heap.size) := Lib.hid fun b h9 => Nat.lt_of_lt_of_le (hGW b h9) hb1.size
  have HSH := Lib.hid hsh.1
  have HB1 := Lib.hid (bthen hw hb1)
  have HLE := Lib.hid (Nat.le_trans HWS.out hb1.size)
  clear hrng hFW hGW K KP h hp hF hG hsh v0 v1
  go_wp2_with fail
  refine (l5Marks_any A B p q M x cl G w1 HMM.out (by omega) HP1.out HG1.out hcn HI.out).mono ?_
  rintro e w2 ⟨b, rfl, hiff, hb2⟩
  cases b
  · have HE := Lib.hid (unitAllP_no (x := x) (sl := cl) fun h9 => absurd (hiff.2 (by rw [← HMM.out]; exact h9.2)) (by simp))
    clear hiff
    go_wp2
    go_ret2
    rw [HE.out]
    exact ⟨_, 0, rfl, own_empty (cs := #[]) (Nat.le_trans HLE.out hb2.size) (heap_alloc_new _ _) rfl, (bthen HB1.out hb2).alloc (Nat.le_trans HLE.out hb2.size) _⟩
  · have hgood := hiff.1 rfl
    have HE := Lib.hid (unitAllP_yes (x := x) (sl := cl) ⟨HOK.out, by rw [HMM.out]; exact hgood⟩)
    have HGD := Lib.hid hgood
    have c0 := (hb2.cell (World.block_lt_of_cell? w1 _ c0)).trans c0
    have c1 := (hb2.cell (World.block_lt_of_cell? w1 _ c1)).trans c1
    clear hiff hgood
    go_wp2_with fail
    refine (l5Units_any A B p q M x cl F G w2 HMM.out hm1 (HK1.out.below hb2 HF1.out) (fun b h9 => Nat.lt_of_lt_of_le (HF1.out b h9) hb2.size) (HP1.out.below hb2 HG1.out) (fun b h9 => Nat.lt_of_lt_of_le (HG1.out b h9) hb2.size) (sl_nil_of HP1.out) HGD.out HRR.out HSH.out).mono ?_
    rw [← HMM.out, ← HE.out]
    generalize unitAllP x cl = r at *
    rintro e w3 ⟨A9, c9, rfl, ho, hb3⟩
    go_wp2
    go_ret2
    exact ⟨A9, c9, rfl, own_mono ho (Nat.le_trans HLE.out hb2.size), bthen (bthen HB1.out hb2) hb3⟩
end Go.Proofs.Ytndolbplkjhooaa
