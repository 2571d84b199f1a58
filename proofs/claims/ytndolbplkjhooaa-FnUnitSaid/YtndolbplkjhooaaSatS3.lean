/- The reference's SatOk, whole; SatVals. -/
import Derived.Test.YtndolbplkjhooaaSatS2
namespace Go.Proofs.Ytndolbplkjhooaa
open Go Go.RowKit

def boxC (x : C) (A : Option Addr) (a : Nat) : Obj := .cells #[.int .i64 x.many, .slice A x.list.length a] 28
def boxS (s : S) (P Q D : Option Addr) (p q d : Nat) : Obj := .cells #[.slice P s.put.length p, .slice Q s.why.length q, .slice D s.learned.length d, .int .i64 s.code] 46
theorem two_boxes (w : World) (o o' : Obj) : Below w.heap.size w ((w.alloc o).alloc o') ∧ ((w.alloc o).alloc o').heap[w.heap.size]? = some o ∧ ((w.alloc o).alloc o').heap[w.heap.size + 1]? = some o' ∧ ((w.alloc o).alloc o').heap.size = w.heap.size + 1 + 1 := by
  have h1 := heap_alloc_new w o
  have h2 := heap_alloc_new (w.alloc o) o'
  exact ⟨((Below.refl _ _).alloc (Nat.le_refl _) _).alloc (by simp) _, (((Below.refl _ _).alloc (Nat.le_refl _) _).block _ (by simp)).trans h1, by simpa using h2, by simp⟩
set_option maxRecDepth 100000 in
set_option maxHeartbeats 2000000 in
theorem specSatOk_u (x : C) (A : Option Addr) (a : Nat) (s : S) (P Q D : Option Addr) (p q d : Nat) (w : World) (h : Lay.int.slice.Rd w A x.list) (_ : x.list.length ≤ a) (hp : Lay.int.Rd w P s.put) (hq : Lay.int.Rd w Q s.why) (hd : Lay.int.slice.Rd w D s.learned)
    (_ : s.put.length ≤ p) (_ : s.why.length ≤ q) (_ : s.learned.length ≤ d) (sx : smCnf x) (ss : smS s) :
    Calls Try.prog 24 #[.agg #[.int .i64 x.many, .slice A x.list.length a], .agg #[.slice P s.put.length p, .slice Q s.why.length q, .slice D s.learned.length d, .int .i64 s.code]] w (RetB w (satOk x s)) := by
  obtain ⟨hw, hB0, hB1, hWS⟩ := two_boxes w (.cells #[.int .i64 x.many, .slice A x.list.length a] 28) (.cells #[.slice P s.put.length p, .slice Q s.why.length q, .slice D s.learned.length d, .int .i64 s.code] 46)
  have HR : Hid (SatR w (fun b => b < w.heap.size) P Q D s) := Lib.hid ⟨hp, hq, hd⟩
  have HX := Lib.hid h
  have hl0 : s.put.length ≤ 1048576 := ss.1.1
  have hl1 : s.why.length ≤ 1048576 := ss.2.1.1
  have hl2 : s.learned.length ≤ 1048576 := ss.2.2.1.1
  have hlx : x.list.length ≤ 1048576 := sx.2.1
  have hcode := ss.2.2.2
  have SX := Lib.hid sx
  have SS := Lib.hid ss
  have HW := Lib.hid hw
  have HB0 := Lib.hid hB0
  have HB1 := Lib.hid hB1
  have HWS := Lib.hid hWS
  unfold okInt at hcode
  clear h hp hq hd sx ss hw hB0 hB1 hWS
  go_enter Try.func24, Try.ntmps24
  go_wp2_with fail
  generalize (w.alloc (.cells #[.int .i64 x.many, .slice A x.list.length a] 28)).alloc (.cells #[.slice P s.put.length p, .slice Q s.why.length q, .slice D s.learned.length d, .int .i64 s.code] 46) = W at *
  refine (specCnfOk_any A a x _ W (HX.out.up HW.out) (fun _ h => h) SX.out.short).mono ?_
  cases hok : cnfOk x
  · have HE := Lib.hid (satOk_no (c := x) (s := s) fun h9 => by have := h9.cnf; rw [hok] at this; cases this)
    clear hok
    rintro e w1 ⟨rfl, hb1⟩
    go_wp2
    go_ret
    exact ⟨ret_bool (by rw [HE.out]), bthen HW.out hb1⟩
  have HOK := Lib.hid hok
  have hi := (cnfOk_iff x).1 hok
  obtain ⟨M, hM⟩ := Int.eq_ofNat_of_zero_le hi.1
  have hM7 : M ≤ 700 := by have := hi.2.1; omega
  have HMM := Lib.hid hM
  clear hok hi hM
  rintro e w1 ⟨rfl, hb1⟩
  have HB := Lib.hid (bthen HW.out hb1)
  have b0 : w1.heap[w.heap.size]? = _ := (hb1.block _ (by have := HWS.out; omega)).trans HB0.out
  have b1 : w1.heap[w.heap.size + 1]? = _ := (hb1.block _ (by have := HWS.out; omega)).trans HB1.out
  have HB0 := Lib.hid b0
  have HB1 := Lib.hid b1
  have hsz1 : w.heap.size + 1 < w1.heap.size := by have := HWS.out; have := hb1.size; omega
  clear b0 b1 hb1
  have HX := Lib.hid (HX.out.up HB.out)
  have HR := Lib.hid ((HR.out.below HB.out (fun _ h => h)).mono (G := fun b => b < w1.heap.size) fun b h9 => Nat.lt_of_lt_of_le h9 HB.out.size)
  have c0 : w1.cell? ⟨w.heap.size, 0, none⟩ = some (.int .i64 x.many) := (cell_of_block HB0.out 0).1
  have c1 : w1.cell? ⟨w.heap.size, 1, none⟩ = some (.slice A x.list.length a) := (cell_of_block HB0.out 1).1
  have d0 : w1.cell? ⟨w.heap.size + 1, 0, none⟩ = some (.slice P s.put.length p) := (cell_of_block HB1.out 0).1
  have d1 : w1.cell? ⟨w.heap.size + 1, 1, none⟩ = some (.slice Q s.why.length q) := (cell_of_block HB1.out 1).1
  have d2 : w1.cell? ⟨w.heap.size + 1, 2, none⟩ = some (.slice D s.learned.length d) := (cell_of_block HB1.out 2).1
  have d3 : w1.cell? ⟨w.heap.size + 1, 3, none⟩ = some (.int .i64 s.code) := (cell_of_block HB1.out 3).1
  by_cases h1 : 300 < s.learned.length
  · have HE := Lib.hid (satOk_no (c := x) (s := s) fun h9 => by have := h9.learned; omega)
    go_wp2
    go_ret
    exact ⟨ret_bool (by rw [HE.out]), HB.out⟩
  by_cases h2 : s.code < 0
  · have HE := Lib.hid (satOk_no (c := x) (s := s) fun h9 => by have := h9.code0; omega)
    go_wp2
    go_ret
    exact ⟨ret_bool (by rw [HE.out]), HB.out⟩
  by_cases h3 : 3 < s.code
  · have HE := Lib.hid (satOk_no (c := x) (s := s) fun h9 => by have := h9.code1; omega)
    go_wp2
    go_ret
    exact ⟨ret_bool (by rw [HE.out]), HB.out⟩
  by_cases h4 : ¬ s.put.length = s.why.length
  · have HE := Lib.hid (satOk_no (c := x) (s := s) fun h9 => h4 h9.len)
    have h4b : ((s.put.length : Int) != (s.why.length : Int)) = true := by simp; omega
    go_wp2
    go_ret
    exact ⟨ret_bool (by rw [HE.out]), HB.out⟩
  have h4b : ((s.put.length : Int) != (s.why.length : Int)) = false := by simp; omega
  have HL4 : Hid (s.put.length = s.why.length) := Lib.hid (by omega)
  clear h4
  go_wp2_with fail
  refine (l5Marks_any A P a p M x s.put _ w1 HMM.out (by omega) HR.out.a (fun _ h => h) hl0 SS.out.1.2).mono ?_
  clear c0 c1 d0 d1 d2 d3
  rintro e w2 ⟨b, rfl, hiff, hb2⟩
  have HBB := Lib.hid (bthen HB.out hb2)
  cases b
  · have HE := Lib.hid (satOk_no (c := x) (s := s) fun h9 => absurd (hiff.2 (by rw [← HMM.out]; exact h9.good)) (by simp))
    clear hiff
    go_wp2
    go_ret
    exact ⟨ret_bool (by rw [HE.out]), HBB.out⟩
  have HGD := Lib.hid (hiff.1 rfl)
  clear hiff
  have HX := Lib.hid (HX.out.up hb2)
  have HR := Lib.hid ((HR.out.below hb2 (fun _ h => h)).mono (G := fun b => b < w2.heap.size) fun b h9 => Nat.lt_of_lt_of_le h9 hb2.size)
  have HB0 := Lib.hid ((hb2.block _ (by omega)).trans HB0.out)
  have HB1 := Lib.hid ((hb2.block _ (by omega)).trans HB1.out)
  have hsz2 : w.heap.size + 1 < w2.heap.size := by have := hb2.size; omega
  clear hb2
  have HM0 : Hid (0 ≤ x.many ∧ x.many ≤ 700) := Lib.hid (by have := HMM.out; omega)
  go_wp2
  go_loopw [5] (fun i wr => ∃ k : Nat, k ≤ s.learned.length ∧ i = .int .i64 k ∧ Below w2.heap.size w2 wr ∧ s.learned.all (clOk x.many) = (s.learned.drop k).all (clOk x.many)) (fun i _ => s.learned.length - (intOf i).toNat)
  case atStart => exact ⟨0, Nat.zero_le _, rfl, Below.refl _ _, rfl⟩
  case round =>
    obtain ⟨k, hk, rfl, hBm, ht⟩ := hrel
    have HB0 := Lib.hid ((hBm.block _ (by omega)).trans HB0.out)
    have HB1 := Lib.hid ((hBm.block _ (by omega)).trans HB1.out)
    have HT := Lib.hid ht
    clear ht
    have c0 : wr.cell? ⟨w.heap.size, 0, none⟩ = some (.int .i64 x.many) := (cell_of_block HB0.out 0).1
    have c1 : wr.cell? ⟨w.heap.size, 1, none⟩ = some (.slice A x.list.length a) := (cell_of_block HB0.out 1).1
    have d0 : wr.cell? ⟨w.heap.size + 1, 0, none⟩ = some (.slice P s.put.length p) := (cell_of_block HB1.out 0).1
    have d1 : wr.cell? ⟨w.heap.size + 1, 1, none⟩ = some (.slice Q s.why.length q) := (cell_of_block HB1.out 1).1
    have d2 : wr.cell? ⟨w.heap.size + 1, 2, none⟩ = some (.slice D s.learned.length d) := (cell_of_block HB1.out 2).1
    have d3 : wr.cell? ⟨w.heap.size + 1, 3, none⟩ = some (.int .i64 s.code) := (cell_of_block HB1.out 3).1
    have HBM := Lib.hid (bthen HBB.out hBm)
    have HRM := Lib.hid ((HR.out.below hBm (fun _ h => h)).mono (G := fun b => b < wr.heap.size) fun b h9 => Nat.lt_of_lt_of_le h9 hBm.size)
    have HXM := Lib.hid (HX.out.up hBm)
    have HBW := Lib.hid hBm
    clear hBm
    by_cases hlt : k < s.learned.length
    · obtain ⟨ad, A', c', rfl, _, hc, _, hsl⟩ := HRM.out.d.at_slice hlt
      have hk1 : (k : Int) < s.learned.length := by omega
      have HD := Lib.hid (HT.out.trans (all_drop' hlt))
      have hlc := (SS.out.2.2.1.2.1 _ (List.getElem_mem hlt)).1
      have HMEM := Lib.hid (List.getElem_mem hlt)
      generalize s.learned[k] = cl at *
      have LC : Hid (∀ n, Calls Try.prog 38 #[.slice A' cl.length c', .int .i64 x.many] (wr.drewN n) fun e w' => e = .returned (.bool (clOk x.many cl)) ∧ wr.drewN n = w') :=
        Lib.hid fun n => l4Clause_any A' c' cl x.many _ _ (hsl.drewN n) hlc HM0.out.1 HM0.out.2
      generalize hbc : clOk x.many cl = bc at *
      have HBC := Lib.hid hbc
      clear hbc hlc hsl d0 d1 d3 c1
      go_wp2
      go_quiet ((go_at_call 38; with_reducible exact quiet_left (LC.out _)))
      clear LC
      cases bc
      · have HE := Lib.hid (satOk_no (c := x) (s := s) fun h9 => by have := h9.cls _ HMEM.out; rw [HBC.out] at this; cases this)
        go_wp2
        go_ret
        exact ⟨ret_bool (by rw [HE.out]), below_drewN HBM.out _⟩
      · go_wp2
        go_roundw
        case rel => exact ⟨k + 1, by omega, by go_num, below_drewN HBW.out _, by rw [HD.out]; simp⟩
        case measure => simp [intOf]; omega
    · have hke : k = s.learned.length := by omega
      subst hke
      have HA := Lib.hid (show s.learned.all (clOk x.many) = true by rw [HT.out, List.drop_length]; rfl)
      have hcl : ∀ cl ∈ x.list ++ s.learned, clOk M cl = true := fun cl h9 => by
        rw [← HMM.out]
        rcases List.mem_append.1 h9 with h9 | h9
        · have h8 := HOK.out
          simp only [cnfOk, Bool.and_eq_true, List.all_eq_true] at h8
          exact h8.2 cl h9
        · exact List.all_eq_true.1 HA.out cl h9
      have hn9 : ∀ cl ∈ x.list ++ s.learned, cl.length ≤ 1048576 := fun cl h9 => by
        rcases List.mem_append.1 h9 with h9 | h9
        · exact SX.out.short.2 cl h9
        · exact (SS.out.2.2.1.2.1 cl h9).1
      have LW := Lib.hid (l5Whys_any x s A P Q D a p q d M _ _ wr HXM.out (fun _ h => h) HRM.out (fun _ h => h) HMM.out hM7 HGD.out HL4.out hcl hn9 hlx hl2 SS.out.2.1.2)
      have HE : Hid (satOk x s = whysF (x.list ++ s.learned) [] s.put s.why) := Lib.hid (by
        unfold satOk
        rw [HOK.out, HA.out, (satPre_iff s).2 ⟨by omega, by omega, by omega, HL4.out⟩, goodB_iff.2 (by rw [HMM.out]; exact HGD.out)]
        rfl)
      clear hcl hn9
      go_wp2_with fail
      clear c0 c1 d0 d1 d2 d3
      refine LW.out.mono ?_
      rintro e w9 ⟨rfl, hb9⟩
      go_wp2
      go_ret
      exact ⟨ret_bool (by rw [HE.out]), bthen HBM.out hb9⟩
end Go.Proofs.Ytndolbplkjhooaa
