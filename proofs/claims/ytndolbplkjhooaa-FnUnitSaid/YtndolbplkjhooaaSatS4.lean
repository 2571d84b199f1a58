/- The reference's SatVals. -/
import Derived.Test.YtndolbplkjhooaaSatS3
namespace Go.Proofs.Ytndolbplkjhooaa
open Go Go.RowKit

theorem own_bools {w : World} {base n c : Nat} {e : TypeId} {A : Option Addr} {xs : List Bool} (h : w.ownsRow base e 1 (.slice A n c) n (xs.map Value.bool)) : n = xs.length ∧ n ≤ c ∧ Lay.bool.Sl w (Own base w) A xs := by
  obtain ⟨h1, h2, h3⟩ := sl_bools_of_own (F := fun b => base ≤ b ∧ b < w.heap.size) h (fun g a b => ⟨a, b⟩)
  exact ⟨h2, h3, own_of_row h h1 fun _ _ _ _ h => h⟩
/-- What is answered: bools in memory of the call's own. -/
def ResB (r : List Bool) (w : World) (e : Ending) (w' : World) : Prop := ∃ A c, e = .returned (.slice A r.length c) ∧ r.length ≤ c ∧ Lay.bool.Sl w' (Own w.heap.size w') A r ∧ Below w.heap.size w w'
theorem resB_of {w w' : World} {lo n c : Nat} {e : TypeId} {A : Option Addr} {xs : List Bool} (h : w'.ownsRow lo e 1 (.slice A n c) n (xs.map Value.bool)) (hlo : w.heap.size ≤ lo) (hb : Below w.heap.size w w') : ResB xs w (.returned (.slice A n c)) w' := by
  obtain ⟨rfl, h2, h3⟩ := own_bools h
  exact ⟨A, c, rfl, h2, h3.own_mono hlo, hb⟩
theorem valsP_len (x : C) (s : S) : (valsP x s).length = x.many.toNat := by simp [valsP]
theorem valsP_get (x : C) (s : S) (i : Nat) (h : i < (valsP x s).length) : (valsP x s)[i] = decide (((i : Int) + 1) ∈ s.put) := by simp [valsP]
theorem sg_one {put : List Int} {v : Int} : (sg put v == 1) = decide (v ∈ put) := by
  unfold sg
  by_cases h : v ∈ put
  · simp [h]
  · rw [if_neg h]; simp only [h, decide_false]
    split <;> rfl
set_option maxRecDepth 100000 in
set_option maxHeartbeats 2000000 in
theorem specSatVals_u (x : C) (A : Option Addr) (a : Nat) (s : S) (P Q D : Option Addr) (p q d : Nat) (w : World) (h : Lay.int.slice.Rd w A x.list) (ha : x.list.length ≤ a) (hp : Lay.int.Rd w P s.put) (hq : Lay.int.Rd w Q s.why) (hd : Lay.int.slice.Rd w D s.learned)
    (cp : s.put.length ≤ p) (cq : s.why.length ≤ q) (cd : s.learned.length ≤ d) (sx : smCnf x) (ss : smS s) :
    Calls Try.prog 31 #[.agg #[.int .i64 x.many, .slice A x.list.length a], .agg #[.slice P s.put.length p, .slice Q s.why.length q, .slice D s.learned.length d, .int .i64 s.code]] w (ResB (satVals x s) w) := by
  obtain ⟨i0, hi0, hz0, hz1, hz2⟩ := info_parts bool_info
  obtain ⟨hw, hB0, hB1, hWS⟩ := two_boxes w (.cells #[.int .i64 x.many, .slice A x.list.length a] 28) (.cells #[.slice P s.put.length p, .slice Q s.why.length q, .slice D s.learned.length d, .int .i64 s.code] 46)
  have HR : Hid (SatR w (fun b => b < w.heap.size) P Q D s) := Lib.hid ⟨hp, hq, hd⟩
  have HX := Lib.hid h
  have HC := Lib.hid (And.intro ha (And.intro cp (And.intro cq cd)))
  have SX := Lib.hid sx
  have SS := Lib.hid ss
  have hl0 : s.put.length ≤ 1048576 := ss.1.1
  have HW := Lib.hid hw
  have HB0 := Lib.hid hB0
  have HB1 := Lib.hid hB1
  have HWS := Lib.hid hWS
  clear h hp hq hd sx ss hw hB0 hB1 hWS ha cp cq cd
  go_enter Try.func31, Try.ntmps31
  go_wp2_with fail
  generalize (w.alloc (.cells #[.int .i64 x.many, .slice A x.list.length a] 28)).alloc (.cells #[.slice P s.put.length p, .slice Q s.why.length q, .slice D s.learned.length d, .int .i64 s.code] 46) = W at *
  have HRW := Lib.hid ((HR.out.below HW.out (fun _ h => h)).mono (G := fun b => b < W.heap.size) fun b h9 => Nat.lt_of_lt_of_le h9 HW.out.size)
  refine (specSatOk_u x A a s P Q D p q d W (HX.out.up HW.out) HC.out.1 HRW.out.a HRW.out.b HRW.out.d HC.out.2.1 HC.out.2.2.1 HC.out.2.2.2 SX.out SS.out).mono ?_
  cases hok : satOk x s
  · have HE := Lib.hid (show satVals x s = [] by unfold satVals; rw [hok]; rfl)
    clear hok
    rintro e w1 ⟨rfl, hb1⟩
    have HB := Lib.hid (bthen HW.out hb1)
    have HF : Hid (ResB [] w (.returned (.slice (some ⟨w1.heap.size, 0, none⟩) 0 0)) (w1.alloc (.cells #[] 4))) := Lib.hid
      (resB_of (lo := w1.heap.size) (e := 4) (xs := []) ⟨rfl, .inr ⟨w1.heap.size, 0, #[], rfl, Nat.le_refl _, heap_alloc_new _ _, Nat.le_refl _, by unfold maxLen; omega, rfl, rfl⟩⟩ HB.out.size (HB.out.alloc HB.out.size _))
    go_wp2
    go_ret
    rw [HE.out]
    exact HF.out
  have HG := Lib.hid ((satOk_iff x s).1 hok)
  have HE := Lib.hid (show satVals x s = valsP x s by unfold satVals; rw [hok]; rfl)
  clear hok
  have hi := (cnfOk_iff x).1 HG.out.cnf
  obtain ⟨M, hM⟩ := Int.eq_ofNat_of_zero_le hi.1
  have hM7 : M ≤ 700 := by have := hi.2.1; omega
  have HMM := Lib.hid hM
  clear hi hM
  rintro e w1 ⟨rfl, hb1⟩
  have HB := Lib.hid (bthen HW.out hb1)
  have hsz1 : w.heap.size + 1 < w1.heap.size := by have := HWS.out; have := hb1.size; omega
  have HB0 := Lib.hid ((hb1.block _ (by have := HWS.out; omega)).trans HB0.out)
  have HB1 := Lib.hid ((hb1.block _ (by have := HWS.out; omega)).trans HB1.out)
  clear hb1
  have HR := Lib.hid ((HR.out.below HB.out (fun _ h => h)).mono (G := fun b => b < w1.heap.size) fun b h9 => Nat.lt_of_lt_of_le h9 HB.out.size)
  have c0 : w1.cell? ⟨w.heap.size, 0, none⟩ = some (.int .i64 x.many) := (cell_of_block HB0.out 0).1
  have c1 : w1.cell? ⟨w.heap.size, 1, none⟩ = some (.slice A x.list.length a) := (cell_of_block HB0.out 1).1
  have d0 : w1.cell? ⟨w.heap.size + 1, 0, none⟩ = some (.slice P s.put.length p) := (cell_of_block HB1.out 0).1
  go_wp2_with fail
  clear c0 c1 d0
  refine (l5Vals_any A P a p M x s.put _ w1 HMM.out (by omega) HR.out.a (fun _ h => h) (by rw [← HMM.out]; exact HG.out.good) hl0).mono ?_
  rintro e w2 ⟨V, v, vs, rfl, hvs, hvr, hb2⟩
  have HV := Lib.hid hvs
  have HVR := Lib.hid hvr
  have hvl := hvs.1
  have HBB := Lib.hid (bthen HB.out hb2)
  have HB0 := Lib.hid ((hb2.block _ (by omega)).trans HB0.out)
  have hsz2 : w.heap.size + 1 < w2.heap.size := by have := hb2.size; omega
  have HVL := Lib.hid hvl
  have hal : Below w2.heap.size w2 (w2.alloc (.cells #[] 4)) := (Below.refl _ _).alloc (Nat.le_refl _) _
  have hown1 : (w2.alloc (.cells #[] 4)).ownsRow w2.heap.size 4 1 (.slice (some ⟨w2.heap.size, 0, none⟩) 0 0) 0 [] := own_lit0 rfl
  have HAL := Lib.hid hal
  clear hvs hvr hvl hb2 hal
  go_wp2
  generalize w2.alloc (.cells #[] 4) = w3 at *
  have hlo3 : w2.heap.size ≤ w3.heap.size := HAL.out.size
  go_loopw [6, 7] (fun r i wr => ∃ (j k : Nat) (A2 : Option Addr) (c2 : Nat), j = k + 1 ∧ k ≤ M ∧ i = .int .i64 (j : Int) ∧ r = .slice A2 k c2 ∧ wr.ownsRow w2.heap.size 4 1 (.slice A2 k c2) k (((valsP x s).take k).map Value.bool) ∧ Below w2.heap.size w2 wr) (fun _ i _ => M + 1 - (intOf i).toNat)
  case atStart => exact ⟨1, 0, _, 0, rfl, Nat.zero_le _, rfl, rfl, by simpa using hown1, HAL.out⟩
  case round =>
    obtain ⟨j, k, A2, c2, hjk, hk, rfl, rfl, ho, hb⟩ := hrel
    have HJ := Lib.hid hjk
    have hj1 : 1 ≤ j := by omega
    have hj2 : j ≤ M + 1 := by omega
    have HBR := Lib.hid hb
    have HO := Lib.hid ho
    clear ho hb
    have HB0 := Lib.hid ((HBR.out.block _ (by omega)).trans HB0.out)
    have c0 : wr.cell? ⟨w.heap.size, 0, none⟩ = some (.int .i64 (M : Int)) := by rw [← HMM.out]; exact (cell_of_block HB0.out 0).1
    by_cases hlt : j ≤ M
    · have hkv : j < vs.length := by have := HVL.out; omega
      obtain ⟨ad, rfl, hf, hc⟩ := (HVR.out.up HBR.out).at_int hkv
      have hx := HV.out.2 j (by omega) (by omega)
      rw [List.getElem?_eq_getElem hkv] at hx
      injection hx with hx
      rw [hx] at hc
      have hk1 : (j : Int) ≤ M := by omega
      have hk2 : (j : Int) < vs.length := by omega
      have hkp : k < (valsP x s).length := by rw [valsP_len, HMM.out]; omega
      have htk : (valsP x s).take (k + 1) = (valsP x s).take k ++ [sg s.put (j : Int) == 1] := by
        rw [List.take_succ_eq_append_getElem hkp, valsP_get, sg_one, hjk]; push_cast; rfl
      have HT := Lib.hid htk
      generalize sg s.put (j : Int) = z at *
      clear hjk
      have hlo9 : w2.heap.size ≤ wr.heap.size := HBR.out.size
      have hkM : k ≤ 700 := by omega
      clear htk hx hkp hf
      go_wp2_with (at_builtin; refine wpList_append1 rfl _ _ 51 rfl w2.heap.size 4 i0 _ 1 Try.underlying51 hi0 hz0 hz1 hz2 rfl (.slice A2 k c2) k _ _ _ rfl HO.out rfl rfl (by unfold maxLen; omega) (by omega) hlo9 ?_; intro v6 w6 hown6 hb6)
      have hf6 : ∃ A6 c6, v6 = .slice A6 (k + 1) c6 := by
        rcases hown6.2 with ⟨_, h9⟩ | ⟨g, cap, cur, h9, _⟩
        · omega
        · exact ⟨_, cap, h9⟩
      obtain ⟨A6, c6, rfl⟩ := hf6
      have HO6 : Hid (w6.ownsRow w2.heap.size 4 1 (.slice A6 (k + 1) c6) (k + 1) (((valsP x s).take (k + 1)).map Value.bool)) := Lib.hid (by rw [HT.out, List.map_append]; exact hown6)
      have HB6 := Lib.hid (HBR.out.trans hb6)
      clear hown6 hb6
      go_wp2
      go_roundw
      case rel => exact ⟨j + 1, k + 1, A6, c6, by rw [HJ.out], by have := HJ.out; omega, by go_num, rfl, HO6.out, HB6.out⟩
      case measure => simp [intOf]; omega
    · have hke : k = M := by omega
      subst hke
      clear hjk
      have hlt2 : ¬ (j : Int) ≤ k := by omega
      have HF : Hid (ResB (valsP x s) w (.returned (.slice A2 k c2)) wr) := Lib.hid (by
        have ho := HO.out
        rw [List.take_of_length_le (by rw [valsP_len, HMM.out]; omega)] at ho
        exact resB_of ho HBB.out.size (HBB.out.trans (HBR.out.mono HBB.out.size)))
      go_wp2
      go_ret
      rw [HE.out]
      exact HF.out
end Go.Proofs.Ytndolbplkjhooaa
