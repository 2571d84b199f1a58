/- Contracts of the reference's l5Rup and RupOk. -/
import Derived.Test.YtndolbplkjhooaaCnf4
namespace Go.Proofs.Ytndolbplkjhooaa
open Go Go.RowKit

def RetB (w : World) (b : Bool) (e : Ending) (w' : World) : Prop := e = .returned (.bool b) ∧ Below w.heap.size w w'
set_option maxRecDepth 100000 in
set_option maxHeartbeats 4000000 in
theorem l5Rup_any (A B : Option Addr) (p q M : Nat) (x : C) (cl : List Int) (F G : Nat → Prop) (w : World) (hM : x.many = (M : Int)) (hM2 : M ≤ 700) (h : Lay.int.slice.Sl w F A x.list) (hF : ∀ b, F b → b < w.heap.size)
    (hp : Lay.int.Sl w G B cl) (hG : ∀ b, G b → b < w.heap.size) (hg : Good M (cl.map fun l => -l)) (hcl : ∀ l ∈ cl, l ≠ 0 ∧ -(M : Int) ≤ l ∧ l ≤ M) (hr : ∀ cl ∈ x.list, (∀ l ∈ cl, l ≠ 0 ∧ -(M : Int) ≤ l ∧ l ≤ M) ∧ cl.length ≤ 1048576) (hn : x.list.length ≤ 1048576) (hcn : cl.length ≤ 1048576) :
    Calls Try.prog 39 #[.agg #[.int .i64 x.many, .slice A x.list.length p], .slice B cl.length q] w (RetB w (units M x.list (cl.map fun l => -l)).2) := by
  obtain ⟨i0, hi0, hz0, hz1, hz2⟩ := info_parts int_info
  have HMM := Lib.hid hM
  clear hM
  have hw : Below w.heap.size w (w.alloc (.cells #[.int .i64 x.many, .slice A x.list.length p] 28)) := (Below.refl _ _).alloc (Nat.le_refl _) _
  have K := h.below hw hF
  have KP := hp.below hw hG
  have hFW : ∀ b, F b → b < (w.alloc (.cells #[.int .i64 x.many, .slice A x.list.length p] 28)).heap.size := fun b h9 => Nat.lt_of_lt_of_le (hF b h9) hw.size
  have hGW : ∀ b, G b → b < (w.alloc (.cells #[.int .i64 x.many, .slice A x.list.length p] 28)).heap.size := fun b h9 => Nat.lt_of_lt_of_le (hG b h9) hw.size
  have v0 : (w.alloc (.cells #[.int .i64 x.many, .slice A x.list.length p] 28)).cell? ⟨w.heap.size, 0, none⟩ = some (.int .i64 x.many) := by simp [go_sem]
  have v1 : (w.alloc (.cells #[.int .i64 x.many, .slice A x.list.length p] 28)).cell? ⟨w.heap.size, 1, none⟩ = some (.slice A x.list.length p) := by simp [go_sem]
  have hb1 : Below (w.alloc (.cells #[.int .i64 x.many, .slice A x.list.length p] 28)).heap.size (w.alloc (.cells #[.int .i64 x.many, .slice A x.list.length p] 28)) ((w.alloc (.cells #[.int .i64 x.many, .slice A x.list.length p] 28)).alloc (.cells #[] 3)) := (Below.refl _ _).alloc (Nat.le_refl _) _
  have hown1 : ((w.alloc (.cells #[.int .i64 x.many, .slice A x.list.length p] 28)).alloc (.cells #[] 3)).ownsRow (w.heap.size + 1) 3 1 (.slice (some ⟨w.heap.size + 1, 0, none⟩) 0 0) 0 [] := own_lit0 (by simp)
  have hWS : (w.alloc (.cells #[.int .i64 x.many, .slice A x.list.length p] 28)).heap.size = w.heap.size + 1 := by simp
  go_enter Try.func39, Try.ntmps39
  go_wp2
  generalize (w.alloc (.cells #[.int .i64 x.many, .slice A x.list.length p] 28)).alloc (.cells #[] 3) = W1 at *
  generalize w.alloc (.cells #[.int .i64 x.many, .slice A x.list.length p] 28) = W at *
  have hSW : w.heap.size < W.heap.size := World.block_lt_of_cell? W _ v0
  have hWle : W.heap.size ≤ w.heap.size + 1 := by omega
  clear h hp hWS
  go_loopw [5, 6] (fun s i wr => ∃ (k : Nat) (A2 : Option Addr) (c2 : Nat), k ≤ cl.length ∧ i = .int .i64 k ∧ s = .slice A2 k c2 ∧ wr.ownsRow (w.heap.size + 1) 3 1 (.slice A2 k c2) k (((cl.map fun l => -l).take k).map (Value.int .i64)) ∧ Below W.heap.size W wr) (fun _ i _ => cl.length - (intOf i).toNat)
  case atStart => exact ⟨0, some ⟨w.heap.size + 1, 0, none⟩, 0, Nat.zero_le _, rfl, rfl, by simpa using hown1, hb1⟩
  case round =>
    obtain ⟨k, A2, c2, hk, rfl, rfl, ho, hb⟩ := hrel
    by_cases hlt : k < cl.length
    · obtain ⟨ad, rfl, hf, hc⟩ := (KP.below hb hGW).at_int hlt
      have hk1 : (k : Int) < cl.length := by omega
      obtain ⟨r0, r1, r2⟩ := hcl _ (List.getElem_mem hlt)
      have htk : (cl.map fun l => -l).take (k + 1) = (cl.map fun l => -l).take k ++ [-cl[k]] := by
        rw [List.take_succ_eq_append_getElem (by simpa using hlt)]; simp
      have HT := Lib.hid htk
      clear htk
      generalize cl[k] = a at *
      have hlo9 : w.heap.size + 1 ≤ wr.heap.size := Nat.le_trans hSW hb.size
      have HO := Lib.hid ho
      clear ho
      go_wp2_with (at_builtin; refine wpList_append1 rfl _ _ 25 rfl (w.heap.size + 1) 3 i0 _ 8 Try.underlying25 hi0 hz0 hz1 hz2 rfl (.slice A2 k c2) k _ (.int .i64 (-a)) _ rfl HO.out rfl rfl (by unfold maxLen; omega) (by omega) hlo9 ?_; intro v6 w6 hown6 hb6)
      have hb6' : Below W.heap.size W w6 := hb.trans (hb6.mono hWle)
      have hf6 : ∃ A6 c6, v6 = .slice A6 (k + 1) c6 := by
        rcases hown6.2 with ⟨_, h9⟩ | ⟨g, cap, cur, h9, _⟩
        · omega
        · exact ⟨_, cap, h9⟩
      obtain ⟨A6, c6, rfl⟩ := hf6
      have HO6 : Hid (w6.ownsRow (w.heap.size + 1) 3 1 (.slice A6 (k + 1) c6) (k + 1) (((cl.map fun l => -l).take (k + 1)).map (Value.int .i64))) := Lib.hid (by rw [HT.out, List.map_append]; exact hown6)
      clear hown6
      go_wp2
      go_roundw
      case rel => exact ⟨k + 1, A6, c6, by omega, by go_num, rfl, HO6.out, hb6'⟩
      case measure => simp [intOf]; omega
    · have hke : k = cl.length := by omega
      subst hke
      have hml : (cl.map fun l => -l).length = cl.length := by simp
      have ho2 : OwnI wr (w.heap.size + 1) (.slice A2 (cl.map fun l => -l).length c2) (cl.map fun l => -l) := by
        unfold OwnI; rw [← hml, List.take_length] at ho; exact ho
      have c0 := (hb.cell (World.block_lt_of_cell? W _ v0)).trans v0
      have c1 := (hb.cell (World.block_lt_of_cell? W _ v1)).trans v1
      have hun := l5Units_any A A2 p c2 M x (cl.map fun l => -l) _ _ wr HMM.out hM2 (K.below hb hFW) (fun b h9 => Nat.lt_of_lt_of_le (hFW b h9) hb.size) (OwnI.rd ho2) (fun _ h9 => h9) (by
        intro e; subst e
        rcases ho2.2 with ⟨e, _⟩ | ⟨g, cap, cur, e, _⟩
        · injection e
        · injection e with e; cases e) hg hr hn
      rw [hml] at hun
      generalize hRR : units M x.list (cl.map fun l => -l) = R at *
      have HRR := Lib.hid hRR
      clear hRR
      have HUN := Lib.hid hun
      clear hun ho ho2 hml
      go_wp2_with fail
      refine HUN.out.mono ?_
      rintro e wx ⟨A9, c9, rfl, _, hb9⟩
      go_wp2
      go_ret
      exact ⟨ret_bool (by rw [HRR.out]), bthen (bthen hw hb) hb9⟩

set_option maxHeartbeats 1000000 in
theorem specRupOk_any (A B : Option Addr) (p q : Nat) (x : C) (cl : List Int) (F G : Nat → Prop) (w : World) (h : Lay.int.slice.Sl w F A x.list) (hF : ∀ b, F b → b < w.heap.size)
    (hp : Lay.int.Sl w G B cl) (hG : ∀ b, G b → b < w.heap.size) (hsh : shortC x) (hcn : cl.length ≤ 1048576) :
    Calls Try.prog 10 #[.agg #[.int .i64 x.many, .slice A x.list.length p], .slice B cl.length q] w (RetB w (rupOk x cl)) := by
  have hw : Below w.heap.size w (w.alloc (.cells #[.int .i64 x.many, .slice A x.list.length p] 28)) := (Below.refl _ _).alloc (Nat.le_refl _) _
  have K := h.below hw hF
  have KP := hp.below hw hG
  have hFW : ∀ b, F b → b < (w.alloc (.cells #[.int .i64 x.many, .slice A x.list.length p] 28)).heap.size := fun b h9 => Nat.lt_of_lt_of_le (hF b h9) hw.size
  have hGW : ∀ b, G b → b < (w.alloc (.cells #[.int .i64 x.many, .slice A x.list.length p] 28)).heap.size := fun b h9 => Nat.lt_of_lt_of_le (hG b h9) hw.size
  have v0 : (w.alloc (.cells #[.int .i64 x.many, .slice A x.list.length p] 28)).cell? ⟨w.heap.size, 0, none⟩ = some (.int .i64 x.many) := by simp [go_sem]
  have v1 : (w.alloc (.cells #[.int .i64 x.many, .slice A x.list.length p] 28)).cell? ⟨w.heap.size, 1, none⟩ = some (.slice A x.list.length p) := by simp [go_sem]
  go_enter Try.func10, Try.ntmps10
  go_wp2_with fail
  generalize w.alloc (.cells #[.int .i64 x.many, .slice A x.list.length p] 28) = W at *
  refine (specCnfOk_any A p x F W K hFW hsh).mono ?_
  cases hok : cnfOk x
  · have HOK := Lib.hid hok
    clear hok
    rintro e w1 ⟨rfl, hb1⟩
    go_wp2
    go_ret
    exact ⟨ret_bool (by simp [rupOk, HOK.out]), bthen hw hb1⟩
  have hi := (cnfOk_iff x).1 hok
  have hrng := cnfOk_rng hok
  have HOK := Lib.hid hok
  obtain ⟨M, hM⟩ := Int.eq_ofNat_of_zero_le hi.1
  have hm0 := hi.1
  have hm1 := hi.2.1
  clear hok hi
  rintro e w1 ⟨rfl, hb1⟩
  have c0 := (hb1.cell (World.block_lt_of_cell? W _ v0)).trans v0
  have c1 := (hb1.cell (World.block_lt_of_cell? W _ v1)).trans v1
  have HMM := Lib.hid hM
  clear hM
  go_wp2_with fail
  refine (l4Clause_any B q cl x.many G w1 (KP.below hb1 hGW) hcn hm0 hm1).mono ?_
  cases hcl : clOk x.many cl
  · have HCL := Lib.hid hcl
    clear hcl
    rintro e w2 ⟨rfl, rfl⟩
    go_wp2
    go_ret
    exact ⟨ret_bool (by simp [rupOk, HCL.out]), bthen hw hb1⟩
  have hgood : Good M (cl.map fun l => -l) := by rw [← HMM.out]; exact (cOk_good (Int.le_refl 0) hcl).1
  have hclr : ∀ l ∈ cl, l ≠ 0 ∧ -(M : Int) ≤ l ∧ l ≤ M := by rw [← HMM.out]; exact clOk_rng hcl
  have hrr : ∀ cl ∈ x.list, (∀ l ∈ cl, l ≠ 0 ∧ -(M : Int) ≤ l ∧ l ≤ M) ∧ cl.length ≤ 1048576 := fun cl h9 => ⟨by rw [← HMM.out]; exact hrng cl h9, hsh.2 cl h9⟩
  have HR := Lib.hid (show rupOk x cl = (units M x.list (cl.map fun l => -l)).2 by unfold rupOk rupP; rw [HOK.out, hcl, HMM.out]; rfl)
  have hM7 : M ≤ 700 := by have := HMM.out; omega
  clear hcl hrng
  rintro e w2 ⟨rfl, rfl⟩
  go_wp2_with fail
  refine (l5Rup_any A B p q M x cl _ _ w1 HMM.out hM7 (K.below hb1 hFW) (fun b h9 => Nat.lt_of_lt_of_le (hFW b h9) hb1.size) (KP.below hb1 hGW) (fun b h9 => Nat.lt_of_lt_of_le (hGW b h9) hb1.size) hgood hclr hrr hsh.1 hcn).mono ?_
  rintro e w3 ⟨rfl, hb3⟩
  go_wp2
  go_ret
  exact ⟨ret_bool (by rw [HR.out]), bthen (bthen hw hb1) hb3⟩
end Go.Proofs.Ytndolbplkjhooaa
