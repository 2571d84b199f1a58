/- The program's readSat. The program's SatVals, SatOk. The reference's search: what it does, the plain law. No program is named here. Unit propagation is confluent: the plain law. No program is named here. The reference's search keeps its trail right: the plain law. No program is named here. -/
import Derived.Test.YtbljfhmcebgdaaaJFnSatBent4
import Derived.Test.YtbljfhmcebgdaaaJFnSatBent6
/-! The program's readSat. -/
namespace Go.Proofs.Ytbljfhmcebgdaaa
open Go Go.RowKit

/-- What readSat gives: a search in memory, or nothing. -/
def SrAt (lo : Nat) (w : World) (r : Nat) (x : C) (s : S) : Prop := ∃ A a t W D d ls, SrB w r x A a t W D s.learned.length d s.code ∧ Tr lo (fun _ => False) x.many.toNat w t s.put ls
def RetRead (x : C) (s : S) (w : World) (e : Ending) (w' : World) : Prop :=
  Below w.heap.size w w' ∧ ((satOk x s = true ∧ ∃ r, e = .returned (.tuple #[.pointer (some ⟨r, 0, none⟩), .bool true]) ∧ SrAt w.heap.size w' r x s) ∨ (satOk x s = false ∧ e = .returned (.tuple #[.pointer none, .bool false])))
theorem srB_up {w w' : World} {r : Nat} {x : C} {A : Option Addr} {a t : Nat} {W : Value} {D : Option Addr} {n d : Nat} {code : Int} (h : SrB w r x A a t W D n d code) (hb : Below w.heap.size w w') : SrB w' r x A a t W D n d code := (hb.block r (lt_of_block h)).trans h
theorem Tr.lo_mono {lo lo' M : Nat} {S : Nat → Prop} {w : World} {t : Nat} {put ls : List Int} (h : Tr lo S M w t put ls) (hl : lo' ≤ lo) : Tr lo' S M w t put ls := by
  obtain ⟨A, B, c, d, Q, pl, h⟩ := h
  exact ⟨A, B, c, d, Q, pl, ⟨h.blk, Nat.le_trans hl h.hlo, own_mono h.hput hl, own_mono h.hpl hl, own_mono h.hls hl, h.d1, h.d2, h.d3, h.d4⟩, h.ok, h.len, h.lv⟩
def Fact.slI (xs : List Int) : Fact := .of (fun v _ => ∃ A c, v = .slice A xs.length c) fun _ _ _ h _ => h
def Fact.rowsI (W : World) (xs : List (List Int)) : Fact := .of (fun v xw => ∃ A c, v = .slice A xs.length c ∧ Lay.int.slice.Rd xw A xs) fun _ _ _ ⟨A, c, h1, h2⟩ hb => ⟨A, c, h1, h2.up hb⟩
def Fact.srA (x : C) (A : Option Addr) (a t : Nat) (s : S) : Fact := .of (fun v xw => ∃ V D d, v = .agg #[.int .i64 x.many, .slice A x.list.length a, .pointer (some ⟨t, 0, none⟩), V, .slice D s.learned.length d, .int .i64 s.code] ∧ Lay.int.slice.Rd xw D s.learned) fun _ _ _ ⟨V, D, d, h1, h2⟩ hb => ⟨V, D, d, h1, h2.up hb⟩
def Fact.srP (W : World) (x : C) (A : Option Addr) (a t : Nat) (s : S) : Fact := .of (fun v xw => ∃ r V D d, v = .pointer (some ⟨r, 0, none⟩) ∧ SrB xw r x A a t V D s.learned.length d s.code ∧ Lay.int.slice.Rd xw D s.learned ∧ Below W.heap.size W xw) fun _ _ _ ⟨r, V, D, d, h1, h2, h3, h4⟩ hb => ⟨r, V, D, d, h1, srB_up h2 hb, h3.up hb, bthen h4 hb⟩

set_option maxRecDepth 100000 in
set_option maxHeartbeats 8000000 in
theorem readSat_any (x : C) (A : Option Addr) (a : Nat) (s : S) (P Q D : Option Addr) (p q d : Nat) (w : World) (h : Lay.int.slice.Rd w A x.list) (hp : Lay.int.Rd w P s.put) (hq : Lay.int.Rd w Q s.why) (hd : Lay.int.slice.Rd w D s.learned) (sx : smCnf x) (ss : smS s) :
    Calls Try.prog 51 #[.agg #[.int .i64 x.many, .slice A x.list.length a], .agg #[.slice P s.put.length p, .slice Q s.why.length q, .slice D s.learned.length d, .int .i64 s.code]] w (RetRead x s w) := by
  obtain ⟨hw, hB0, hB1, hWS⟩ := two_boxes w (.cells #[.int .i64 x.many, .slice A x.list.length a] 25) (.cells #[.slice P s.put.length p, .slice Q s.why.length q, .slice D s.learned.length d, .int .i64 s.code] 35)
  have hl0 : s.put.length ≤ 1048576 := ss.1.1
  have hl1 : s.why.length ≤ 1048576 := ss.2.1.1
  have hl2 : s.learned.length ≤ 1048576 := ss.2.2.1.1
  have hlx : x.list.length ≤ 1048576 := sx.2.1
  have hcode := ss.2.2.2
  have hmany := sx.1
  have SX := Lib.hid sx
  have SS := Lib.hid ss
  have HX := Lib.hid (h.up hw)
  have HP := Lib.hid (hp.up hw)
  have HQ := Lib.hid (hq.up hw)
  have HDD := Lib.hid (hd.up hw)
  unfold okInt at hcode hmany
  clear h hp hq hd sx ss
  generalize hW : (w.alloc (.cells #[.int .i64 x.many, .slice A x.list.length a] 25)).alloc (.cells #[.slice P s.put.length p, .slice Q s.why.length q, .slice D s.learned.length d, .int .i64 s.code] 35) = W at *
  have HW := Lib.hid hw
  have HB0 := Lib.hid hB0
  have HB1 := Lib.hid hB1
  have HWS := Lib.hid hWS
  have c0 : W.cell? ⟨w.heap.size, 0, none⟩ = some (.int .i64 x.many) := (cell_of_block HB0.out 0).1
  have c1 : W.cell? ⟨w.heap.size, 1, none⟩ = some (.slice A x.list.length a) := (cell_of_block HB0.out 1).1
  have HOKC := Lib.hid (cnfOkP_any x A a _ W HX.out (fun _ h => h) hmany (by omega) SX.out.ints)
  clear hw hB0 hB1 hWS
  go_enter Try.func51, Try.ntmps51
  go_wp2_with fail
  clear c0 c1 hW
  refine HOKC.out.mono ?_
  clear HOKC
  cases hok : cnfOk x
  · have HE := Lib.hid (satOk_no (c := x) (s := s) fun h9 => by have := h9.cnf; rw [hok] at this; cases this)
    clear hok
    rintro e w1 ⟨rfl, hb1⟩
    go_wp2
    go_ret2
    exact ⟨bthen HW.out hb1, .inr ⟨HE.out, rfl⟩⟩
  have HOK := Lib.hid hok
  have hi := (cnfOk_iff x).1 hok
  obtain ⟨M, hM⟩ := Int.eq_ofNat_of_zero_le hi.1
  have hM7 : M ≤ 700 := by have := hi.2.1; omega
  have HMM := Lib.hid hM
  clear hok hi hM
  rintro e w1 ⟨rfl, hb1⟩
  have HB := Lib.hid (bthen HW.out hb1)
  have HX := Lib.hid (HX.out.up hb1)
  have HP := Lib.hid (HP.out.up hb1)
  have HQ := Lib.hid (HQ.out.up hb1)
  have HDD := Lib.hid (HDD.out.up hb1)
  have b0 : w1.heap[w.heap.size]? = _ := (hb1.block _ (by have := HWS.out; omega)).trans HB0.out
  have b1 : w1.heap[w.heap.size + 1]? = _ := (hb1.block _ (by have := HWS.out; omega)).trans HB1.out
  have HB0 := Lib.hid b0
  have HB1 := Lib.hid b1
  have hsz1 : w.heap.size + 1 < w1.heap.size := by have := HWS.out; have := hb1.size; omega
  clear b0 b1 hb1
  have d0 : w1.cell? ⟨w.heap.size + 1, 0, none⟩ = some (.slice P s.put.length p) := (cell_of_block HB1.out 0).1
  have d1 : w1.cell? ⟨w.heap.size + 1, 1, none⟩ = some (.slice Q s.why.length q) := (cell_of_block HB1.out 1).1
  have d2 : w1.cell? ⟨w.heap.size + 1, 2, none⟩ = some (.slice D s.learned.length d) := (cell_of_block HB1.out 2).1
  have d3 : w1.cell? ⟨w.heap.size + 1, 3, none⟩ = some (.int .i64 s.code) := (cell_of_block HB1.out 3).1
  have c0 : w1.cell? ⟨w.heap.size, 0, none⟩ = some (.int .i64 x.many) := (cell_of_block HB0.out 0).1
  by_cases h1 : 300 < s.learned.length
  · have HE := Lib.hid (satOk_no (c := x) (s := s) fun h9 => by have := h9.learned; omega)
    go_wp2
    go_ret2
    exact ⟨HB.out, .inr ⟨HE.out, rfl⟩⟩
  by_cases h2 : s.code < 0
  · have HE := Lib.hid (satOk_no (c := x) (s := s) fun h9 => by have := h9.code0; omega)
    go_wp2
    go_ret2
    exact ⟨HB.out, .inr ⟨HE.out, rfl⟩⟩
  by_cases h3 : 3 < s.code
  · have HE := Lib.hid (satOk_no (c := x) (s := s) fun h9 => by have := h9.code1; omega)
    go_wp2
    go_ret2
    exact ⟨HB.out, .inr ⟨HE.out, rfl⟩⟩
  by_cases h4 : ¬ s.put.length = s.why.length
  · have HE := Lib.hid (satOk_no (c := x) (s := s) fun h9 => h4 h9.len)
    have h4b : ((s.put.length : Int) != (s.why.length : Int)) = true := by simp; omega
    go_wp2
    go_ret2
    exact ⟨HB.out, .inr ⟨HE.out, rfl⟩⟩
  have h4b : ((s.put.length : Int) != (s.why.length : Int)) = false := by simp; omega
  have HL4 : Hid (s.put.length = s.why.length) := Lib.hid (by omega)
  clear h4
  have HHF := Lib.hid (hasFuncR_any s.learned x.many D d w.heap.size _ w1 HDD.out (by omega) SS.out.2.2.1.2.1 (by have := HMM.out; omega) (by have := HMM.out; omega) c0)
  go_wp2_with fail
  refine HHF.out.mono ?_
  clear HHF
  rintro e w' ⟨rfl, rfl⟩
  cases hall : s.learned.all (clOk x.many)
  · have HE := Lib.hid (satOk_no (c := x) (s := s) fun h9 => by have := List.all_eq_true.2 h9.cls; rw [hall] at this; cases this)
    clear hall
    go_wp2
    go_ret2
    exact ⟨HB.out, .inr ⟨HE.out, rfl⟩⟩
  have HALL := Lib.hid (List.all_eq_true.1 hall)
  clear hall
  have HTR := Lib.hid (trailOkS_any M s.put s.why Q q (w.heap.size + 1) P p _ w1 HQ.out HL4.out d1 HP.out (fun _ h => h) hl0 SS.out.1.2 (by omega))
  rw [← HMM.out] at HTR
  go_wp2_with fail
  refine HTR.out.mono ?_
  clear HTR d0 d1 d2 d3 c0
  rintro e w2 (⟨hg, t, ls, rfl, htr, hb2⟩ | ⟨hng, rfl, hb2⟩)
  rotate_left
  · have HE := Lib.hid (satOk_no (c := x) (s := s) fun h9 => hng (by rw [← HMM.out]; exact h9.good))
    have HB := Lib.hid (bthen HB.out hb2)
    clear hng hb2
    go_wp2
    go_ret2
    exact ⟨HB.out, .inr ⟨HE.out, rfl⟩⟩
  have HLO := Lib.hid (show w.heap.size ≤ w1.heap.size by omega)
  have HGD := Lib.hid hg
  have HT := Lib.hid htr
  have HB := Lib.hid (bthen HB.out hb2)
  have HX := Lib.hid (HX.out.up hb2)
  have HP := Lib.hid (HP.out.up hb2)
  have HQ := Lib.hid (HQ.out.up hb2)
  have HDD := Lib.hid (HDD.out.up hb2)
  have HB0 := Lib.hid ((hb2.block _ (by omega)).trans HB0.out)
  have HB1 := Lib.hid ((hb2.block _ (by omega)).trans HB1.out)
  have hsz2 : w.heap.size + 1 < w2.heap.size := by have := hb2.size; omega
  clear hg htr hb2 hsz1
  have d1 : w2.cell? ⟨w.heap.size + 1, 1, none⟩ = some (.slice Q s.why.length q) := (cell_of_block HB1.out 1).1
  have d2 : w2.cell? ⟨w.heap.size + 1, 2, none⟩ = some (.slice D s.learned.length d) := (cell_of_block HB1.out 2).1
  have d3 : w2.cell? ⟨w.heap.size + 1, 3, none⟩ = some (.int .i64 s.code) := (cell_of_block HB1.out 3).1
  have c0 : w2.cell? ⟨w.heap.size, 0, none⟩ = some (.int .i64 x.many) := (cell_of_block HB0.out 0).1
  have c1 : w2.cell? ⟨w.heap.size, 1, none⟩ = some (.slice A x.list.length a) := (cell_of_block HB0.out 1).1
  have D1 := Later.cell d1
  have D2 := Later.cell d2
  have D3 := Later.cell d3
  have C0 := Later.cell c0
  have C1 := Later.cell c1
  go_wp2
  clear d1 d2 d3 c0 c1
  refine wp_region_shares [[], [], [], [(2, 56)], [(3, 57)], [], [(5, 59)], [(6, 60)], [], [(8, 62)], [(0, 54), (1, 55), (4, 58), (7, 61), (9, 63)], [(10, 64)], [(11, 65)]]
    [.eq (.agg #[.int .i64 x.many, .slice A x.list.length a]), .eq (.pointer (some ⟨t, 0, none⟩)), .eq (.pointer (some ⟨w.heap.size + 1, 1, none⟩)), .eq (.slice Q s.why.length q), Fact.slI s.why, .eq (.pointer (some ⟨w.heap.size + 1, 2, none⟩)), .eq (.slice D s.learned.length d), Fact.rowsI w2 s.learned, .eq (.pointer (some ⟨w.heap.size + 1, 3, none⟩)), .eq (.int .i64 s.code), Fact.srA x A a t s, Fact.srP w2 x A a t s, Fact.srP w2 x A a t s]
    [] [] [] [12] [(0, 54), (1, 55), (2, 56), (3, 57), (4, 58), (5, 59), (6, 60), (7, 61), (8, 62), (9, 63), (10, 64), (11, 65), (12, 8)] (by kernel_rfl) (by kernel_rfl) (by kernel_rfl) (by kernel_rfl)
    ⟨?_, ?_, ?_, ?_, ?_, ?_, ?_, ?_, ?_, ?_, ?_, ?_, ?_, trivial⟩ ?_
  · intro vals xw hC hF
    have hC := hC.resolve_left (by simp)
    have hsz := hC.size
    have e1 : xw.cell? _ = _ := C0 ⟨xw, hC⟩
    have e2 : xw.cell? _ = _ := C1 ⟨xw, hC⟩
    simp only [putsD, Act.put, List.setIfInBounds_toArray, List.set_cons_zero, List.set_cons_succ]
    go_wp2
    exact ⟨rfl, rfl, .inr (Below.refl _ _), .inr (.inl (by simp))⟩
  · intro vals xw hC hF
    simp only [putsD, Act.put, List.setIfInBounds_toArray, List.set_cons_zero, List.set_cons_succ]
    go_wp2
    exact ⟨rfl, rfl, .inr (Below.refl _ _), .inr (.inl (by simp))⟩
  · intro vals xw hC hF
    simp only [putsD, Act.put, List.setIfInBounds_toArray, List.set_cons_zero, List.set_cons_succ]
    go_wp2
    exact ⟨rfl, rfl, .inr (Below.refl _ _), .inr (.inl (by simp))⟩
  · intro vals xw hC hF
    have hC := hC.resolve_left (by simp)
    have hsz := hC.size
    have e1 : xw.cell? _ = _ := D1 ⟨xw, hC⟩
    simp only [factsD, List.getD_cons_zero, List.getD_cons_succ, Fact.eq, Fact.row, Fact.lit, Fact.lit0, Fact.of, and_true, Fact.slI, Fact.rowsI, Fact.srA, Fact.srP] at hF
    simp only [putsD, Act.put, List.setIfInBounds_toArray, List.set_cons_zero, List.set_cons_succ]
    simp only [hF]
    go_wp2
    exact ⟨rfl, rfl, .inr (Below.refl _ _), .inr (.inl (by simp))⟩
  · intro vals xw hC hF
    have hC := hC.resolve_left (by simp)
    have hsz := hC.size
    simp only [factsD, List.getD_cons_zero, List.getD_cons_succ, Fact.eq, Fact.row, Fact.lit, Fact.lit0, Fact.of, and_true, Fact.slI, Fact.rowsI, Fact.srA, Fact.srP] at hF
    simp only [putsD, Act.put, List.setIfInBounds_toArray, List.set_cons_zero, List.set_cons_succ]
    simp only [hF]
    go_wp2_with fail
    refine (cloneI_any Q q s.why xw (HQ.out.up hC) hl1).mono ?_
    rintro e wx ⟨A9, c9, rfl, ho9, hb9⟩
    go_wp2
    exact ⟨rfl, ⟨A9, c9, rfl⟩, .inr hb9, .inr (.inl (by simp))⟩
  · intro vals xw hC hF
    simp only [putsD, Act.put, List.setIfInBounds_toArray, List.set_cons_zero, List.set_cons_succ]
    go_wp2
    exact ⟨rfl, rfl, .inr (Below.refl _ _), .inr (.inl (by simp))⟩
  · intro vals xw hC hF
    have hC := hC.resolve_left (by simp)
    have hsz := hC.size
    have e1 : xw.cell? _ = _ := D2 ⟨xw, hC⟩
    simp only [factsD, List.getD_cons_zero, List.getD_cons_succ, Fact.eq, Fact.row, Fact.lit, Fact.lit0, Fact.of, and_true, Fact.slI, Fact.rowsI, Fact.srA, Fact.srP] at hF
    simp only [putsD, Act.put, List.setIfInBounds_toArray, List.set_cons_zero, List.set_cons_succ]
    simp only [hF]
    go_wp2
    exact ⟨rfl, rfl, .inr (Below.refl _ _), .inr (.inl (by simp))⟩
  · intro vals xw hC hF
    have hC := hC.resolve_left (by simp)
    have hsz := hC.size
    simp only [factsD, List.getD_cons_zero, List.getD_cons_succ, Fact.eq, Fact.row, Fact.lit, Fact.lit0, Fact.of, and_true, Fact.slI, Fact.rowsI, Fact.srA, Fact.srP] at hF
    simp only [putsD, Act.put, List.setIfInBounds_toArray, List.set_cons_zero, List.set_cons_succ]
    simp only [hF]
    go_wp2_with fail
    refine (copyLists_any D d s.learned xw (HDD.out.up hC) hl2 (fun l h9 => (SS.out.2.2.1.2.1 l h9).1)).mono ?_
    rintro e wx ⟨A9, c9, rfl, ho9, hb9⟩
    go_wp2
    exact ⟨rfl, ⟨A9, c9, rfl, ho9.rd⟩, .inr hb9, .inr (.inl (by simp))⟩
  · intro vals xw hC hF
    simp only [putsD, Act.put, List.setIfInBounds_toArray, List.set_cons_zero, List.set_cons_succ]
    go_wp2
    exact ⟨rfl, rfl, .inr (Below.refl _ _), .inr (.inl (by simp))⟩
  · intro vals xw hC hF
    have hC := hC.resolve_left (by simp)
    have hsz := hC.size
    have e1 : xw.cell? _ = _ := D3 ⟨xw, hC⟩
    simp only [factsD, List.getD_cons_zero, List.getD_cons_succ, Fact.eq, Fact.row, Fact.lit, Fact.lit0, Fact.of, and_true, Fact.slI, Fact.rowsI, Fact.srA, Fact.srP] at hF
    simp only [putsD, Act.put, List.setIfInBounds_toArray, List.set_cons_zero, List.set_cons_succ]
    simp only [hF]
    go_wp2
    exact ⟨rfl, rfl, .inr (Below.refl _ _), .inr (.inl (by simp))⟩
  · intro vals xw hC hF
    have hC := hC.resolve_left (by simp)
    have hsz := hC.size
    simp only [factsD, List.getD_cons_zero, List.getD_cons_succ, Fact.eq, Fact.row, Fact.lit, Fact.lit0, Fact.of, and_true, Fact.slI, Fact.rowsI, Fact.srA, Fact.srP] at hF
    obtain ⟨e54, e55, ⟨A8, c8, e58⟩, ⟨A9, c9, e61, hr9⟩, e63⟩ := hF
    simp only [putsD, Act.put, List.setIfInBounds_toArray, List.set_cons_zero, List.set_cons_succ]
    simp only [e54, e55, e58, e61, e63]
    go_wp2
    exact ⟨rfl, ⟨_, A9, c9, rfl, hr9⟩, .inr (Below.refl _ _), .inr (.inl (by simp))⟩
  · intro vals xw hC hF
    have hC := hC.resolve_left (by simp)
    have hsz := hC.size
    simp only [factsD, List.getD_cons_zero, List.getD_cons_succ, Fact.eq, Fact.row, Fact.lit, Fact.lit0, Fact.of, and_true, Fact.slI, Fact.rowsI, Fact.srA, Fact.srP] at hF
    obtain ⟨V, D9, d9, e64, hr9⟩ := hF
    simp only [putsD, Act.put, List.setIfInBounds_toArray, List.set_cons_zero, List.set_cons_succ]
    simp only [e64]
    have hal : Below xw.heap.size xw (xw.alloc (.cells #[.int .i64 x.many, .slice A x.list.length a, .pointer (some ⟨t, 0, none⟩), V, .slice D9 s.learned.length d9, .int .i64 s.code] 105)) := (Below.refl _ _).alloc (Nat.le_refl _) _
    go_wp2
    exact ⟨rfl, ⟨_, V, D9, d9, rfl, heap_alloc_new _ _, hr9.up hal, bthen hC hal⟩, .inr hal, .inr (.inl (by simp))⟩
  · intro vals xw hC hF
    have hC := hC.resolve_left (by simp)
    have hsz := hC.size
    simp only [factsD, List.getD_cons_zero, List.getD_cons_succ, Fact.eq, Fact.row, Fact.lit, Fact.lit0, Fact.of, and_true, Fact.slI, Fact.rowsI, Fact.srA, Fact.srP] at hF
    obtain ⟨r, V, D9, d9, e65, hr9⟩ := hF
    simp only [putsD, Act.put, List.setIfInBounds_toArray, List.set_cons_zero, List.set_cons_succ]
    simp only [e65]
    go_wp2
    exact ⟨rfl, ⟨r, V, D9, d9, rfl, hr9⟩, .inr (Below.refl _ _), .inr (.inl (by simp))⟩
  · intro vals xw hF
    simp only [facts, List.getD_cons_zero, List.getD_cons_succ, Fact.eq, Fact.row, Fact.lit, Fact.lit0, Fact.of, and_true, Fact.slI, Fact.rowsI, Fact.srA, Fact.srP] at hF
    obtain ⟨r, V, D9, d9, e8, hsb, hr9, hb9⟩ := hF
    simp only [putsD, Act.put, List.setIfInBounds_toArray, List.set_cons_zero, List.set_cons_succ]
    simp only [e8]
    clear D1 D2 D3 C0 C1 e8
    have HB := Lib.hid (bthen HB.out hb9)
    have HT := Lib.hid (HT.out.up hb9)
    have HX := Lib.hid (HX.out.up hb9)
    have HP := Lib.hid (HP.out.up hb9)
    have HQ := Lib.hid (HQ.out.up hb9)
    have HB0 := Lib.hid ((hb9.block _ (by omega)).trans HB0.out)
    have HB1 := Lib.hid ((hb9.block _ (by omega)).trans HB1.out)
    have HSB := Lib.hid hsb
    have HR9 := Lib.hid hr9
    have hsz3 : w.heap.size + 1 < xw.heap.size := by have := hb9.size; omega
    clear hsb hr9 hb9 hsz2 HDD
    generalize hcs : x.list ++ s.learned = cs at *
    have HCS := Lib.hid hcs
    have HCN := Lib.hid (show cs.length = x.list.length + s.learned.length by rw [← hcs]; simp)
    have HCL : Hid (∀ cl ∈ cs, (∀ l ∈ cl, l ≠ 0 ∧ -(M : Int) ≤ l ∧ l ≤ M) ∧ cl.length ≤ 1048576) := Lib.hid fun cl h9 => by
      rw [← hcs] at h9
      rcases List.mem_append.1 h9 with h8 | h8
      · exact ⟨fun l h7 => by have := cnfOk_rng HOK.out cl h8 l h7; rw [HMM.out] at this; exact this, (SX.out.ints cl h8).1⟩
      · exact ⟨fun l h7 => by have := clOk_rng (HALL.out cl h8) l h7; rw [HMM.out] at this; exact this, (SS.out.2.2.1.2.1 cl h8).1⟩
    clear hcs
    have d1 : xw.cell? ⟨w.heap.size + 1, 1, none⟩ = some (.slice Q s.why.length q) := (cell_of_block HB1.out 1).1
    go_wp2
    clear d1
    go_loopw [69] (fun i wr => ∃ k : Nat, k ≤ s.why.length ∧ i = .int .i64 k ∧ Below xw.heap.size xw wr ∧ whysF cs [] s.put s.why = whysF cs (s.put.take k) (s.put.drop k) (s.why.drop k)) (fun i _ => s.why.length - (intOf i).toNat)
    case atStart => exact ⟨0, Nat.zero_le _, rfl, Below.refl _ _, rfl⟩
    case round =>
      obtain ⟨k, hk, rfl, hb, ht⟩ := hrel
      have HTW := Lib.hid ht
      have HBB := Lib.hid (bthen HB.out hb)
      have HTR := Lib.hid (HT.out.up hb)
      have HXR := Lib.hid (HX.out.up hb)
      have HRR := Lib.hid (HR9.out.up hb)
      have HSR := Lib.hid (srB_up HSB.out hb)
      have b0 : wr.heap[w.heap.size]? = _ := (hb.block _ (by omega)).trans HB0.out
      have b1 : wr.heap[w.heap.size + 1]? = _ := (hb.block _ (by omega)).trans HB1.out
      have d2 : wr.cell? ⟨w.heap.size + 1, 2, none⟩ = some (.slice D s.learned.length d) := (cell_of_block b1 2).1
      have c1 : wr.cell? ⟨w.heap.size, 1, none⟩ = some (.slice A x.list.length a) := (cell_of_block b0 1).1
      clear ht b0 b1
      by_cases hlt : k < s.why.length
      · obtain ⟨ad, rfl, hf, hc⟩ := (HQ.out.up hb).at_int hlt
        have hk1 : (k : Int) < s.why.length := by omega
        have hkp : k < s.put.length := by have := HL4.out; omega
        have HTK := Lib.hid (show s.put.take (k + 1) = s.put.take k ++ [s.put[k]] from List.take_succ_eq_append_getElem hkp)
        have HD := Lib.hid (HTW.out.trans (whysF_drop hkp hlt))
        have hi := SS.out.2.1.2 _ (List.getElem_mem hlt)
        have hi1 := hi.1
        have hi2 := hi.2
        have HB2 := Lib.hid hb
        clear hi hb
        have HIM := fun (A9 : Option Addr) (c9 : Nat) (cl : List Int) (W9 : World) (hb9 : Below wr.heap.size wr W9) (h9 : Lay.int.Rd W9 A9 cl) (h8 : cl.length ≤ 1048576) (h7 : ∀ l ∈ cl, l ≠ 0 ∧ -(M : Int) ≤ l ∧ l ≤ M) => implies_any w1.heap.size (fun _ => False) M t k s.put ls cl A9 c9 W9 (HTR.out.up hb9) HGD.out h9 h8 h7 hkp (by omega)
        have HIM := Lib.hid HIM
        generalize s.put[k] = m at *
        generalize s.why[k] = y at *
        have e16 : IntKind.i64.wrap ((x.list.length : Int) + s.learned.length) = (x.list.length : Int) + s.learned.length := IntWalk.i64_in _ (by omega)
        by_cases h3 : y = -1
        · have HE := Lib.hid (show whysF cs [] s.put s.why = whysF cs (s.put.take k ++ [m]) (s.put.drop (k + 1)) (s.why.drop (k + 1)) by rw [HD.out, h3]; simp [whyOk])
          subst h3
          go_wp2
          go_roundw
          case rel => exact ⟨k + 1, by omega, by go_num, HB2.out, by rw [HTK.out, HE.out]⟩
          case measure => simp [intOf]; omega
        have h3b : (y == -1) = false := by simpa using h3
        by_cases h1 : y < 0
        · have HE := Lib.hid (show satOk x s = false from satOk_no fun h9 => by have := h9.whys; rw [HCS.out, HD.out, whyOk_low (by omega)] at this; cases this)
          go_wp2
          go_ret2
          exact ⟨HBB.out, .inr ⟨HE.out, rfl⟩⟩
        by_cases h2 : (x.list.length : Int) + s.learned.length ≤ y
        · have HE := Lib.hid (show satOk x s = false from satOk_no fun h9 => by have := h9.whys; rw [HCS.out, HD.out, whyOk_high (by rw [HCN.out]; omega)] at this; cases this)
          go_wp2
          go_ret2
          exact ⟨HBB.out, .inr ⟨HE.out, rfl⟩⟩
        obtain ⟨n, rfl⟩ := Int.eq_ofNat_of_zero_le (show 0 ≤ y by omega)
        have hnl : n < x.list.length + s.learned.length := by omega
        obtain ⟨A9, c9, hs9, hl9, hat⟩ := clause_at HXR.out HRR.out hnl
        rw [HCS.out] at hs9 hl9 hat
        have hmem : cs.getD n [] ∈ cs := by
          rw [List.getD_eq_getElem?_getD, List.getElem?_eq_getElem (by rw [HCN.out]; exact hnl)]
          exact List.getElem_mem _
        obtain ⟨hcl1, hcl2⟩ := HCL.out _ hmem
        have HWY := Lib.hid (whyOk_in (cs := cs) (pre := s.put.take k) (m := m) (k := n) (by rw [HCN.out]; exact hnl))
        generalize cs.getD n [] = cl at *
        have HCA := Lib.hid (clauseAt_any x A D9 a d9 s.learned.length t r n V _ s.code wr hlx HSR.out hat hnl hl2)
        have HCL1 := Lib.hid hcl1
        have HS9 := Lib.hid hs9
        clear hs9 hat hmem hcl1 h3
        go_wp2_with fail
        refine HCA.out.mono ?_
        rintro e w' ⟨rfl, m9, rfl⟩
        go_wp2_with fail
        refine (HIM.out A9 c9 cl _ (below_drewN (Below.refl _ _) m9) (HS9.out.drewN m9) hcl2 HCL1.out).mono ?_
        clear HCA
        rintro e w8 ⟨rfl, hb8⟩
        have HB8 := Lib.hid ((below_drewN HB2.out m9).trans (hb8.mono HB2.out.size))
        have HB88 := Lib.hid ((below_drewN HBB.out m9).trans (hb8.mono HBB.out.size))
        cases hbe : because (s.put.take k) cl m
        · have HE := Lib.hid (show satOk x s = false from satOk_no fun h9 => by have := h9.whys; rw [HCS.out, HD.out, HWY.out, hbe] at this; cases this)
          clear hbe hb8
          go_wp2
          go_ret2
          exact ⟨HB88.out, .inr ⟨HE.out, rfl⟩⟩
        · have HE := Lib.hid (show whysF cs [] s.put s.why = whysF cs (s.put.take k ++ [m]) (s.put.drop (k + 1)) (s.why.drop (k + 1)) by rw [HD.out, HWY.out, hbe]; rfl)
          clear hbe hb8
          go_wp2
          go_roundw
          case rel => exact ⟨k + 1, by omega, by go_num, HB8.out, by rw [HTK.out, HE.out]⟩
          case measure => simp [intOf]; omega
      · have hke : k = s.why.length := by omega
        subst hke
        have HE : Hid (satOk x s = true) := Lib.hid ((satOk_iff x s).2 ⟨HOK.out, by omega, by omega, by omega, HL4.out, by rw [HMM.out]; exact HGD.out, HALL.out, by rw [HCS.out, HTW.out, List.drop_length]; cases List.drop s.why.length s.put <;> rfl⟩)
        have HMN := Lib.hid (show x.many.toNat = M by have := HMM.out; omega)
        go_wp2
        go_ret2
        refine ⟨HBB.out, .inl ⟨HE.out, r, rfl, A, a, t, V, D9, d9, ls, HSR.out, ?_⟩⟩
        rw [HMN.out]
        exact HTR.out.lo_mono HLO.out
end Go.Proofs.Ytbljfhmcebgdaaa

/-! The program's SatVals, SatOk. -/
namespace Go.Proofs.Ytbljfhmcebgdaaa
open Go Go.RowKit

theorem implSatOk_u (x : C) (A : Option Addr) (a : Nat) (s : S) (P Q D : Option Addr) (p q d : Nat) (w : World) (h : Lay.int.slice.Rd w A x.list) (_ : x.list.length ≤ a) (hp : Lay.int.Rd w P s.put) (hq : Lay.int.Rd w Q s.why) (hd : Lay.int.slice.Rd w D s.learned)
    (_ : s.put.length ≤ p) (_ : s.why.length ≤ q) (_ : s.learned.length ≤ d) (sx : smCnf x) (ss : smS s) :
    Calls Try.prog 20 #[.agg #[.int .i64 x.many, .slice A x.list.length a], .agg #[.slice P s.put.length p, .slice Q s.why.length q, .slice D s.learned.length d, .int .i64 s.code]] w (RetB w (satOk x s)) := by
  obtain ⟨hw, hB0, hB1, hWS⟩ := two_boxes w (.cells #[.int .i64 x.many, .slice A x.list.length a] 25) (.cells #[.slice P s.put.length p, .slice Q s.why.length q, .slice D s.learned.length d, .int .i64 s.code] 35)
  generalize hW : (w.alloc (.cells #[.int .i64 x.many, .slice A x.list.length a] 25)).alloc (.cells #[.slice P s.put.length p, .slice Q s.why.length q, .slice D s.learned.length d, .int .i64 s.code] 35) = W at *
  have HC := Lib.hid (readSat_any x A a s P Q D p q d W (h.up hw) (hp.up hw) (hq.up hw) (hd.up hw) sx ss)
  have c0 : W.cell? ⟨w.heap.size, 0, none⟩ = some (.int .i64 x.many) := (cell_of_block hB0 0).1
  have c1 : W.cell? ⟨w.heap.size, 1, none⟩ = some (.slice A x.list.length a) := (cell_of_block hB0 1).1
  have d0 : W.cell? ⟨w.heap.size + 1, 0, none⟩ = some (.slice P s.put.length p) := (cell_of_block hB1 0).1
  have d1 : W.cell? ⟨w.heap.size + 1, 1, none⟩ = some (.slice Q s.why.length q) := (cell_of_block hB1 1).1
  have d2 : W.cell? ⟨w.heap.size + 1, 2, none⟩ = some (.slice D s.learned.length d) := (cell_of_block hB1 2).1
  have d3 : W.cell? ⟨w.heap.size + 1, 3, none⟩ = some (.int .i64 s.code) := (cell_of_block hB1 3).1
  have HW := Lib.hid hw
  clear h hp hq hd sx ss hw hB0 hB1 hWS
  go_enter Try.func20, Try.ntmps20
  go_wp2_with fail
  clear c0 c1 d0 d1 d2 d3 hW
  refine HC.out.mono ?_
  rintro e w1 ⟨hb, ⟨h1, r, rfl, _⟩ | ⟨h1, rfl⟩⟩
  all_goals
    have HB := Lib.hid (bthen HW.out hb)
    have HE := Lib.hid h1
    clear h1 hb
    go_wp2
    go_ret
    exact ⟨ret_bool (by rw [HE.out]), HB.out⟩

/-- What the marks say, of the first so many variables. -/
def BitsOf (M : Nat) (put : List Int) (bs : List Bool) : Prop := bs.length = M ∧ ∀ i (h : i < bs.length), bs[i] = decide (((i : Int) + 1) ∈ put)
theorem BitsOf.put {M : Nat} {put : List Int} {bs : List Bool} {l : Int} (h : BitsOf M put bs) (hg : Good M (put ++ [l])) : BitsOf M (put ++ [l]) (bs.set (l.natAbs - 1) (decide (0 < l))) := by
  have hr := hg.rng l (by simp)
  refine ⟨by simpa using h.1, fun i hi => ?_⟩
  rw [List.getElem_set]
  have hi' : i < bs.length := by simpa using hi
  split
  · rename_i he
    have hne : l.natAbs = i + 1 := by omega
    by_cases hl : 0 < l
    · rw [decide_eq_true hl, eq_comm, decide_eq_true_eq, show ((i : Int) + 1) = l by omega]; simp
    · rw [decide_eq_false hl, eq_comm, decide_eq_false_iff_not]
      intro hm
      exact hg.apart hm (by rw [show -((i : Int) + 1) = l by omega]; simp)
  · rename_i he
    rw [h.2 i hi']
    have : ((i : Int) + 1 ∈ put ++ [l]) ↔ ((i : Int) + 1 ∈ put) := by
      rw [List.mem_append, List.mem_singleton]
      constructor
      · rintro (h9 | h9)
        · exact h9
        · omega
      · exact .inl
    simp [this]
theorem BitsOf.done {x : C} {s : S} {bs : List Bool} (h : BitsOf x.many.toNat s.put bs) : bs = valsP x s := by
  refine List.ext_getElem (by rw [h.1, valsP_len]) fun i h1 h2 => ?_
  rw [h.2 i h1, valsP_get]
theorem ResB.then {r : List Bool} {w w1 : World} {e : Ending} {w' : World} (h : ResB r w1 e w') (hb : Below w.heap.size w w1) : ResB r w e w' := by
  obtain ⟨A, c, h1, h2, h3, h4⟩ := h
  exact ⟨A, c, h1, h2, h3.own_mono hb.size, bthen hb h4⟩
end Go.Proofs.Ytbljfhmcebgdaaa

/-! The reference's search: what it does, the plain law. No program is named here. -/
namespace Go.Proofs.Ytbljfhmcebgdaaa
open Go Go.RowKit

/-- How many decisions there are. -/
def negs : List Int → Int
  | [] => 0
  | k :: ks => (if k < 0 then 1 else 0) + negs ks
theorem negs_app : ∀ (xs ys : List Int), negs (xs ++ ys) = negs xs + negs ys
  | [], ys => by simp [negs]
  | x :: xs, ys => by simp only [List.cons_append, negs, negs_app xs ys]; omega
theorem negs_nn : ∀ xs : List Int, 0 ≤ negs xs
  | [] => Int.le_refl _
  | x :: xs => by
    have := negs_nn xs
    simp only [negs]
    split <;> omega
theorem negs_step {why : List Int} {i : Nat} (h : i < why.length) : negs (why.take (i + 1)) = negs (why.take i) + if why[i] < 0 then 1 else 0 := by
  rw [List.take_succ_eq_append_getElem h, negs_app]
  simp [negs]
theorem negs_mono {why : List Int} {i j : Nat} (h : i ≤ j) : negs (why.take i) ≤ negs (why.take j) := by
  have e : why.take i = (why.take j).take i := by rw [List.take_take, Nat.min_eq_left h]
  conv => rhs; rw [← List.take_append_drop i (why.take j), negs_app, ← e]
  have := negs_nn ((why.take j).drop i)
  omega
/-- The level of a mark. -/
def lev : List Int → List Int → Int → Nat → Int
  | m :: ms, k :: ks, lv, v => if m.natAbs = v then lv + (if k < 0 then 1 else 0) else lev ms ks (lv + (if k < 0 then 1 else 0)) v
  | _, _, _, _ => 0
theorem lev_at : ∀ (put why : List Int) (lv : Int) (i : Nat) (m k : Int), (put.map Int.natAbs).Nodup → put[i]? = some m → why[i]? = some k → lev put why lv m.natAbs = lv + negs (why.take (i + 1))
  | [], _, _, i, m, k, _, h, _ => by simp at h
  | _ :: _, [], _, i, m, k, _, _, h => by simp at h
  | m0 :: ms, k0 :: ks, lv, 0, m, k, hn, h, h' => by
    simp at h h'
    subst h h'
    simp [lev, negs]
  | m0 :: ms, k0 :: ks, lv, i + 1, m, k, hn, h, h' => by
    have h : ms[i]? = some m := by simpa using h
    have h' : ks[i]? = some k := by simpa using h'
    rw [List.map_cons, List.nodup_cons] at hn
    have hne : ¬ m0.natAbs = m.natAbs := fun e => hn.1 (by rw [e]; exact List.mem_map.2 ⟨m, List.mem_of_getElem? h, rfl⟩)
    simp only [lev]
    rw [if_neg hne, lev_at ms ks _ i m k hn.2 h h']
    simp only [List.take_succ_cons, negs]
    omega
/-- One mark more. -/
theorem lev_snoc : ∀ (put why : List Int) (lv m k : Int) (v : Nat), put.length = why.length → ((put ++ [m]).map Int.natAbs).Nodup → lev (put ++ [m]) (why ++ [k]) lv v = if m.natAbs = v then lv + negs (why ++ [k]) else lev put why lv v
  | [], [], lv, m, k, v, _, _ => by simp [lev, negs]
  | [], _ :: _, _, _, _, _, h, _ => by simp at h
  | _ :: _, [], _, _, _, _, h, _ => by simp at h
  | m0 :: ms, k0 :: ks, lv, m, k, v, h, hn => by
    simp only [List.cons_append, lev, negs]
    rw [List.cons_append, List.map_cons, List.nodup_cons] at hn
    rw [lev_snoc ms ks _ m k v (by simpa using h) hn.2]
    by_cases h0 : m0.natAbs = v
    · have : ¬ m.natAbs = v := fun e => hn.1 (by rw [h0, ← e]; exact List.mem_map.2 ⟨m, by simp, rfl⟩)
      rw [if_pos h0, if_pos h0, if_neg this]
    · rw [if_neg h0, if_neg h0]
      by_cases h1 : m.natAbs = v
      · rw [if_pos h1, if_pos h1]; omega
      · rw [if_neg h1, if_neg h1]
/-- The greatest level of a clause, and how many are of it. -/
def topP (lv : Nat → Int) : List Int → Int → Int → Int × Int
  | [], t, n => (t, n)
  | l :: ls, t, n => if t < lv l.natAbs then topP lv ls (lv l.natAbs) 1 else if lv l.natAbs = t then topP lv ls t (n + 1) else topP lv ls t n
theorem topP_drop {lv : Nat → Int} {cl : List Int} {k : Nat} {t n : Int} (h : k < cl.length) : topP lv (cl.drop k) t n = if t < lv cl[k].natAbs then topP lv (cl.drop (k + 1)) (lv cl[k].natAbs) 1 else if lv cl[k].natAbs = t then topP lv (cl.drop (k + 1)) t (n + 1) else topP lv (cl.drop (k + 1)) t n := by
  rw [List.drop_eq_getElem_cons h]; rfl
def cntP (lv : Nat → Int) (t : Int) (cl : List Int) : Int := ((cl.filter fun l => lv l.natAbs == t).length : Nat)
theorem cntP_cons (lv : Nat → Int) (t l : Int) (ls : List Int) : cntP lv t (l :: ls) = (if lv l.natAbs = t then 1 else 0) + cntP lv t ls := by
  unfold cntP
  rw [List.filter_cons]
  by_cases h : lv l.natAbs = t
  · rw [if_pos h, if_pos (by simpa using h), List.length_cons]; omega
  · rw [if_neg h, if_neg (by simpa using h)]; omega
theorem topP_spec {lv : Nat → Int} : ∀ (cl : List Int) (t n : Int), t ≤ (topP lv cl t n).1 ∧ (∀ l ∈ cl, lv l.natAbs ≤ (topP lv cl t n).1) ∧ (topP lv cl t n).2 = (if (topP lv cl t n).1 = t then n else 0) + cntP lv (topP lv cl t n).1 cl
  | [], t, n => by simp [topP, cntP]
  | l :: ls, t, n => by
    simp only [topP]
    split
    · rename_i h
      obtain ⟨h1, h2, h3⟩ := topP_spec (lv := lv) ls (lv l.natAbs) 1
      refine ⟨by omega, fun x hx => ?_, ?_⟩
      · rcases List.mem_cons.1 hx with rfl | hx
        · exact h1
        · exact h2 x hx
      · rw [h3, cntP_cons]
        have e : ¬ (topP lv ls (lv l.natAbs) 1).1 = t := by omega
        rw [if_neg e]
        by_cases h9 : (topP lv ls (lv l.natAbs) 1).1 = lv l.natAbs
        · rw [if_pos h9, if_pos h9.symm]; omega
        · rw [if_neg h9, if_neg fun e => h9 e.symm]; omega
    · rename_i h
      split
      · rename_i h9
        obtain ⟨h1, h2, h3⟩ := topP_spec (lv := lv) ls t (n + 1)
        refine ⟨h1, fun x hx => ?_, ?_⟩
        · rcases List.mem_cons.1 hx with rfl | hx
          · omega
          · exact h2 x hx
        · rw [h3, cntP_cons]
          by_cases h8 : (topP lv ls t (n + 1)).1 = t
          · rw [if_pos h8, if_pos h8, if_pos (by omega)]; omega
          · rw [if_neg h8, if_neg h8, if_neg (by omega)]; omega
      · rename_i h9
        obtain ⟨h1, h2, h3⟩ := topP_spec (lv := lv) ls t n
        refine ⟨h1, fun x hx => ?_, ?_⟩
        · rcases List.mem_cons.1 hx with rfl | hx
          · omega
          · exact h2 x hx
        · rw [h3, cntP_cons]
          have e : ¬ lv l.natAbs = (topP lv ls t n).1 := by omega
          rw [if_neg e]; omega
def hasM (cl : List Int) (v : Nat) : Bool := cl.any fun l => l.natAbs == v
theorem hasM_iff {cl : List Int} {v : Nat} : hasM cl v = true ↔ ∃ l ∈ cl, l.natAbs = v := by
  unfold hasM
  rw [List.any_eq_true]
  constructor
  · rintro ⟨l, h1, h2⟩; exact ⟨l, h1, by simpa using h2⟩
  · rintro ⟨l, h1, h2⟩; exact ⟨l, h1, by simpa using h2⟩
/-- The place of the mark that was put last, of the first n. -/
def lastP (put cl : List Int) : Nat → Int
  | 0 => -1
  | i + 1 => if hasM cl (put.getD i 0).natAbs then (i : Int) else lastP put cl i
theorem lastP_spec (put cl : List Int) : ∀ n : Nat, -1 ≤ lastP put cl n ∧ lastP put cl n < n ∧ (0 ≤ lastP put cl n → hasM cl (put.getD (lastP put cl n).toNat 0).natAbs = true) ∧ ∀ j : Nat, lastP put cl n < j → j < n → hasM cl (put.getD j 0).natAbs = false
  | 0 => ⟨Int.le_refl _, by simp [lastP], fun h => by simp [lastP] at h, fun j _ h => by omega⟩
  | i + 1 => by
    obtain ⟨h1, h2, h3, h4⟩ := lastP_spec put cl i
    simp only [lastP]
    split
    · rename_i h
      exact ⟨by omega, by omega, fun _ => by rw [Int.toNat_natCast]; exact h, fun j hj hj' => by omega⟩
    · rename_i h
      refine ⟨h1, by omega, h3, fun j hj hj' => ?_⟩
      by_cases e : j = i
      · subst e; simpa using h
      · exact h4 j hj (by omega)
/-- The number of a mark in a clause, or 0: the last one. -/
def litOf : List Int → Nat → Int
  | [], _ => 0
  | l :: ls, v => if hasM ls v then litOf ls v else if l.natAbs = v then l else 0
theorem litOf_app : ∀ (xs ys : List Int) (v : Nat), litOf (xs ++ ys) v = if hasM ys v then litOf ys v else litOf xs v
  | [], ys, v => by
    simp only [List.nil_append]
    split
    · rfl
    · rename_i h
      have : litOf ys v = 0 := by
        cases ys with
        | nil => rfl
        | cons y ys =>
          have h : ¬ (hasM (y :: ys) v = true) := h
          rw [hasM_iff] at h
          have h1 : ¬ hasM ys v = true := fun e => by
            obtain ⟨l, hl, e⟩ := hasM_iff.1 e
            exact h ⟨l, List.mem_cons_of_mem _ hl, e⟩
          simp only [litOf]
          rw [if_neg h1, if_neg fun e => h ⟨y, List.mem_cons_self .., e⟩]
      rw [this]; rfl
  | x :: xs, ys, v => by
    simp only [List.cons_append, litOf]
    rw [litOf_app xs ys v]
    have e : hasM (xs ++ ys) v = (hasM xs v || hasM ys v) := by unfold hasM; rw [List.any_append]
    rw [e]
    cases hy : hasM ys v <;> cases hx : hasM xs v <;> simp
theorem litOf_mem : ∀ {cl : List Int} {v : Nat}, litOf cl v ≠ 0 → litOf cl v ∈ cl ∧ (litOf cl v).natAbs = v
  | [], v, h => absurd rfl h
  | l :: ls, v, h => by
    simp only [litOf] at h ⊢
    by_cases h1 : hasM ls v = true
    · rw [if_pos h1] at h ⊢
      obtain ⟨h2, h3⟩ := litOf_mem h
      exact ⟨List.mem_cons_of_mem _ h2, h3⟩
    · rw [if_neg h1] at h ⊢
      by_cases h2 : l.natAbs = v
      · rw [if_pos h2] at h ⊢; exact ⟨List.mem_cons_self .., h2⟩
      · rw [if_neg h2] at h; exact absurd rfl h
/-- Two clauses together, without a mark: of the marks a+1 to a+n. -/
def joinF (ab : List Int) (m : Nat) : Nat → Nat → List Int
  | _, 0 => []
  | a, n + 1 => (if a + 1 ≠ m ∧ litOf ab (a + 1) ≠ 0 then [litOf ab (a + 1)] else []) ++ joinF ab m (a + 1) n
def joinP (M : Nat) (a b : List Int) (m : Nat) : List Int := joinF (a ++ b) m 0 M
theorem joinF_mem {ab : List Int} {m : Nat} : ∀ {n a : Nat} {l : Int}, l ∈ joinF ab m a n → l ∈ ab ∧ l ≠ 0 ∧ l.natAbs ≠ m ∧ a < l.natAbs ∧ l.natAbs ≤ a + n
  | 0, a, l, h => by simp [joinF] at h
  | n + 1, a, l, h => by
    simp only [joinF] at h
    rcases List.mem_append.1 h with h | h
    · split at h
      · rename_i h9
        rw [List.mem_singleton.1 h]
        obtain ⟨h1, h2⟩ := litOf_mem h9.2
        exact ⟨h1, h9.2, by rw [h2]; exact h9.1, by omega, by omega⟩
      · simp at h
    · obtain ⟨h1, h2, h3, h4, h5⟩ := joinF_mem h
      exact ⟨h1, h2, h3, by omega, by omega⟩
theorem joinF_cOk {ab : List Int} {m : Nat} {M : Int} : ∀ {n a : Nat}, (a + n : Int) ≤ M → cOk M a (joinF ab m a n) = true
  | 0, a, _ => rfl
  | n + 1, a, h => by
    have ih := joinF_cOk (ab := ab) (m := m) (M := M) (n := n) (a := a + 1) (by omega)
    simp only [joinF]
    split
    · rename_i h9
      obtain ⟨h1, h2⟩ := litOf_mem h9.2
      simp only [List.singleton_append, cOk, Bool.and_eq_true, decide_eq_true_eq]
      refine ⟨⟨⟨by omega, by omega⟩, by omega⟩, ?_⟩
      rw [show ((litOf ab (a + 1)).natAbs : Int) = ((a + 1 : Nat) : Int) by rw [h2]]
      exact ih
    · simp only [List.nil_append]
      exact cOk_low ih
where cOk_low {M : Int} {a : Nat} : ∀ {cl : List Int}, cOk M ((a + 1 : Nat) : Int) cl = true → cOk M (a : Int) cl = true
  | [], _ => rfl
  | l :: ls, h => by
    simp only [cOk, Bool.and_eq_true, decide_eq_true_eq] at h ⊢
    exact ⟨⟨h.1.1, by omega⟩, h.2⟩
theorem joinP_clOk (M : Nat) (a b : List Int) (m : Nat) : clOk (M : Int) (joinP M a b m) = true := by
  have h := joinF_cOk (ab := a ++ b) (m := m) (M := (M : Int)) (n := M) (a := 0) (by simp)
  exact h
/-- The clauses' reasons, place by place. -/
theorem whysF_iff {cs : List (List Int)} : ∀ {pre put why : List Int}, put.length = why.length → (whysF cs pre put why = true ↔ ∀ (i : Nat) (m k : Int), put[i]? = some m → why[i]? = some k → whyOk cs (pre ++ put.take i) m k = true)
  | pre, [], [], _ => ⟨fun _ i m k h => by simp at h, fun _ => rfl⟩
  | pre, [], _ :: _, h => by simp at h
  | pre, _ :: _, [], h => by simp at h
  | pre, m :: ms, k :: ks, h => by
    simp only [whysF, Bool.and_eq_true]
    rw [whysF_iff (pre := pre ++ [m]) (by simpa using h)]
    constructor
    · rintro ⟨h1, h2⟩ i m' k' hm hk
      rcases i with _ | i
      · simp at hm hk; subst hm hk; simpa using h1
      · have := h2 i m' k' (by simpa using hm) (by simpa using hk)
        simpa using this
    · intro h2
      refine ⟨by simpa using h2 0 m k rfl rfl, fun i m' k' hm hk => ?_⟩
      have := h2 (i + 1) m' k' (by simpa using hm) (by simpa using hk)
      simpa using this
end Go.Proofs.Ytbljfhmcebgdaaa

/-! Unit propagation is confluent: the plain law. No program is named here. -/
namespace Go.Proofs.Ytbljfhmcebgdaaa
open Go Go.RowKit

theorem lk_some {put : List Int} : ∀ {cl : List Int} {n f n' f' : Int}, lk put cl n f = some (n', f') →
    (∀ l ∈ cl, l ∉ put) ∧ n ≤ n' ∧ (n' = n → f' = f ∧ ∀ l ∈ cl, -l ∈ put) ∧ (n' = n + 1 → f' ∈ cl ∧ -f' ∉ put ∧ ∀ l ∈ cl, l = f' ∨ -l ∈ put)
  | [], n, f, n', f', h => by
    simp only [lk, Option.some.injEq, Prod.mk.injEq] at h
    obtain ⟨rfl, rfl⟩ := h
    exact ⟨by simp, Int.le_refl _, fun _ => ⟨rfl, by simp⟩, fun h => by omega⟩
  | l :: ls, n, f, n', f', h => by
    simp only [lk] at h
    split at h
    · cases h
    · rename_i h1
      split at h
      · rename_i h2
        obtain ⟨a, b, c, d⟩ := lk_some h
        refine ⟨fun x hx => ?_, b, fun e => ⟨(c e).1, fun x hx => ?_⟩, fun e => ⟨List.mem_cons_of_mem _ (d e).1, (d e).2.1, fun x hx => ?_⟩⟩
        · rcases List.mem_cons.1 hx with rfl | hx
          · exact h1
          · exact a x hx
        · rcases List.mem_cons.1 hx with rfl | hx
          · exact h2
          · exact (c e).2 x hx
        · rcases List.mem_cons.1 hx with rfl | hx
          · exact .inr h2
          · exact (d e).2.2 x hx
      · rename_i h2
        obtain ⟨a, b, c, d⟩ := lk_some h
        refine ⟨fun x hx => ?_, by omega, fun e => by omega, fun e => ?_⟩
        · rcases List.mem_cons.1 hx with rfl | hx
          · exact h1
          · exact a x hx
        · obtain ⟨e1, e2⟩ := c e
          subst e1
          refine ⟨List.mem_cons_self, h2, fun x hx => ?_⟩
          rcases List.mem_cons.1 hx with rfl | hx
          · exact .inl rfl
          · exact .inr (e2 x hx)
end Go.Proofs.Ytbljfhmcebgdaaa

/-! The reference's search keeps its trail right: the plain law. No program is named here. -/
namespace Go.Proofs.Ytbljfhmcebgdaaa
open Go Go.RowKit

theorem pos_eq {put : List Int} (hn : (put.map Int.natAbs).Nodup) {i j : Nat} {x y : Int} (hi : put[i]? = some x) (hj : put[j]? = some y) (h : x.natAbs = y.natAbs) : i = j := by
  obtain ⟨h1, e1⟩ := List.getElem?_eq_some_iff.1 hi
  obtain ⟨h2, e2⟩ := List.getElem?_eq_some_iff.1 hj
  have hp := List.pairwise_iff_getElem.1 hn
  rcases Nat.lt_trichotomy i j with h9 | h9 | h9
  · exact absurd (by rw [List.getElem_map, List.getElem_map, e1, e2]; exact h) (hp i j (by simpa using h1) (by simpa using h2) h9)
  · exact h9
  · exact absurd (by rw [List.getElem_map, List.getElem_map, e1, e2]; exact h.symm) (hp j i (by simpa using h2) (by simpa using h1) h9)
theorem take_pos {put : List Int} {p : Nat} {x : Int} (h : x ∈ put.take p) : ∃ i, i < p ∧ put[i]? = some x := by
  obtain ⟨i, hi, e⟩ := List.getElem_of_mem h
  rw [List.length_take] at hi
  refine ⟨i, by omega, ?_⟩
  rw [List.getElem_take] at e
  rw [← e]
  exact List.getElem?_eq_getElem (by omega)
theorem pos_take {put : List Int} {p i : Nat} {x : Int} (h : put[i]? = some x) (hi : i < p) : x ∈ put.take p := by
  refine List.mem_of_getElem? (i := i) ?_
  rw [List.getElem?_take, if_pos hi, h]
theorem nodup_const {v : Nat} : ∀ {l : List Nat}, l.Nodup → (∀ x ∈ l, x = v) → l.length ≤ 1
  | [], _, _ => by simp
  | [x], _, _ => by simp
  | x :: y :: l, hn, h => by
    have h1 := h x (by simp)
    have h2 := h y (by simp)
    rw [List.nodup_cons] at hn
    exact absurd (by rw [h1, ← h2]; simp) hn.1
theorem clOk_nodup {many : Int} {cl : List Int} (h : clOk many cl = true) : (cl.map Int.natAbs).Nodup := by
  have hg := (cOk_good (Int.le_refl 0) h).1.nodup
  rw [List.map_map] at hg
  rw [show Int.natAbs = Int.natAbs ∘ (fun l : Int => -l) from by funext l; simp]
  exact hg
/-- A step of learning: the last mark of the clause has a reason, and what comes of both stands further ahead. -/
theorem learn_step {M : Nat} {cs : List (List Int)} {put why cl : List Int} (hg : Good M put) (hl : put.length = why.length) (hw : whysF cs [] put why = true) (hc : clOk M cl = true) {p : Nat} (hf : ∀ l ∈ cl, -l ∈ put.take p) (hn : 1 < (topP (lev put why 0) cl 0 0).2) :
    ∃ (i : Nat) (m k : Int), lastP put cl put.length = i ∧ i < p ∧ put[i]? = some m ∧ why[i]? = some k ∧ 0 ≤ k ∧ k < cs.length ∧ (∀ l ∈ cs.getD k.toNat [], l = m ∨ -l ∈ put.take i) ∧ ∀ l ∈ joinP M cl (cs.getD k.toNat []) m.natAbs, -l ∈ put.take i := by
  obtain ⟨t1, t2, t3⟩ := topP_spec (lv := lev put why 0) cl 0 0
  generalize (topP (lev put why 0) cl 0 0).1 = t at *
  have hcnt : 1 < cntP (lev put why 0) t cl := by rw [t3] at hn; split at hn <;> omega
  -- where the last mark stands
  obtain ⟨l1, l2, l3, l4⟩ := lastP_spec put cl put.length
  have hat : ∀ l ∈ cl, ∃ j, j < p ∧ put[j]? = some (-l) ∧ (j : Int) ≤ lastP put cl put.length := fun l hl9 => by
    obtain ⟨j, hj, e⟩ := take_pos (hf l hl9)
    refine ⟨j, hj, e, ?_⟩
    rcases Int.lt_or_le (lastP put cl put.length) j with h9 | h9
    · have hjl := (List.getElem?_eq_some_iff.1 e).1
      have := l4 j h9 hjl
      have h8 : hasM cl (put.getD j 0).natAbs = true := hasM_iff.2 ⟨l, hl9, by rw [List.getD_eq_getElem?_getD, e]; simp⟩
      rw [h8] at this; cases this
    · exact h9
  have hne : ∃ l0, l0 ∈ cl := by
    cases cl with
    | nil => simp [cntP] at hcnt
    | cons x xs => exact ⟨x, by simp⟩
  obtain ⟨l0, hl0⟩ := hne
  obtain ⟨j0, _, _, hj0⟩ := hat l0 hl0
  obtain ⟨i, hi⟩ : ∃ i : Nat, lastP put cl put.length = i := ⟨(lastP put cl put.length).toNat, by omega⟩
  rw [hi] at l2 l3 hat
  have l3 := l3 (by omega)
  rw [Int.toNat_natCast] at l3
  have hil : i < put.length := by omega
  obtain ⟨m, hm⟩ : ∃ m, put[i]? = some m := ⟨_, List.getElem?_eq_getElem hil⟩
  obtain ⟨k, hk⟩ : ∃ k, why[i]? = some k := ⟨_, List.getElem?_eq_getElem (by omega)⟩
  have hgm : put.getD i 0 = m := by rw [List.getD_eq_getElem?_getD, hm]; rfl
  rw [hgm] at l3
  obtain ⟨x, hx, hxm⟩ := hasM_iff.1 l3
  obtain ⟨j, hjp, hjx, _⟩ := hat x hx
  have hji : j = i := pos_eq hg.nodup hjx hm (by rw [Int.natAbs_neg]; exact hxm)
  subst hji
  have hrs := (whysF_iff hl).1 hw j m k hm hk
  rw [List.nil_append] at hrs
  have hiw : j < why.length := by omega
  have hwk : why[j] = k := (List.getElem?_eq_some_iff.1 hk).2
  have hk0 : 0 ≤ k := by
    rcases Int.lt_or_le k 0 with hneg | h9
    · exfalso
      have hstep := negs_step hiw
      rw [hwk, if_pos hneg] at hstep
      have hlv : ∀ l ∈ cl, ∃ q, q ≤ j ∧ put[q]? = some (-l) ∧ lev put why 0 l.natAbs = negs (why.take (q + 1)) := fun l hl9 => by
        obtain ⟨q, hq, hq1, hq2⟩ := hat l hl9
        have hql := (List.getElem?_eq_some_iff.1 hq1).1
        refine ⟨q, by omega, hq1, ?_⟩
        have := lev_at put why 0 q (-l) _ hg.nodup hq1 (List.getElem?_eq_getElem (show q < why.length by omega))
        rw [Int.natAbs_neg] at this
        rw [this]; omega
      have hall : ∀ l ∈ cl.filter (fun l => lev put why 0 l.natAbs == t), l.natAbs = m.natAbs := fun l hl9 => by
        obtain ⟨h1, h2⟩ := List.mem_filter.1 hl9
        have h2 : lev put why 0 l.natAbs = t := by simpa using h2
        obtain ⟨q, hq, hq1, hq2⟩ := hlv l h1
        obtain ⟨q', hq', hq1', hq2'⟩ := hlv x hx
        have e' : q' = j := pos_eq hg.nodup hq1' hm (by rw [Int.natAbs_neg]; exact hxm)
        have hx2 := t2 x hx
        rw [hq2', e', hstep] at hx2
        rcases Nat.lt_or_ge q j with h9 | h9
        · have := negs_mono (why := why) (show q + 1 ≤ j by omega)
          omega
        · have e : q = j := by omega
          subst e
          rw [hm] at hq1
          injection hq1 with hq1
          rw [hq1, Int.natAbs_neg]
      have hnd : ((cl.filter (fun l => lev put why 0 l.natAbs == t)).map Int.natAbs).Nodup := ((List.filter_sublist ..).map _).nodup (clOk_nodup hc)
      have := nodup_const hnd (v := m.natAbs) fun y hy => by
        obtain ⟨l, h1, rfl⟩ := List.mem_map.1 hy
        exact hall l h1
      rw [List.length_map] at this
      unfold cntP at hcnt
      omega
    · exact h9
  unfold whyOk at hrs
  have hk1 : (k == -1) = false := by simp; omega
  rw [hk1, Bool.false_or, Bool.and_eq_true, Bool.and_eq_true, decide_eq_true_eq, decide_eq_true_eq] at hrs
  obtain ⟨⟨_, hkc⟩, hbc⟩ := hrs
  unfold because at hbc
  rw [Bool.and_eq_true, List.all_eq_true] at hbc
  have hr : ∀ l ∈ cs.getD k.toNat [], l = m ∨ -l ∈ put.take j := fun l hl9 => by
    have := hbc.2 l hl9
    simpa using this
  refine ⟨j, m, k, hi, hjp, hm, hk, hk0, hkc, hr, fun l hl9 => ?_⟩
  obtain ⟨h1, h2, h3, _, _⟩ := joinF_mem hl9
  rcases List.mem_append.1 h1 with h1 | h1
  · obtain ⟨q, _, hq1, hq2⟩ := hat l h1
    have hqj : q ≠ j := fun e => by
      subst e
      rw [hm] at hq1
      injection hq1 with hq1
      exact h3 (by rw [hq1, Int.natAbs_neg])
    exact pos_take hq1 (by omega)
  · rcases hr l h1 with h9 | h9
    · exact absurd (by rw [h9]) h3
    · exact h9
/-- The clause that is learned. -/
def learnP (M : Nat) (cs : List (List Int)) (put why : List Int) : Nat → List Int → List Int
  | 0, cl => cl
  | p + 1, cl => if 1 < (topP (lev put why 0) cl 0 0).2 then learnP M cs put why p (joinP M cl (cs.getD (why.getD (lastP put cl put.length).toNat 0).toNat []) (put.getD (lastP put cl put.length).toNat 0).natAbs) else cl
/-- One step of the loop. -/
theorem learnP_more {M : Nat} {cs : List (List Int)} {put why cl : List Int} (hg : Good M put) (hl : put.length = why.length) (hw : whysF cs [] put why = true) (hc : clOk M cl = true) {p : Nat} (hf : ∀ l ∈ cl, -l ∈ put.take p) (hn : 1 < (topP (lev put why 0) cl 0 0).2) :
    ∃ (i : Nat) (m k : Int), lastP put cl put.length = i ∧ i < p ∧ put[i]? = some m ∧ why[i]? = some k ∧ 0 ≤ k ∧ k < cs.length ∧ clOk M (joinP M cl (cs.getD k.toNat []) m.natAbs) = true ∧ (∀ l ∈ joinP M cl (cs.getD k.toNat []) m.natAbs, -l ∈ put.take (p - 1)) ∧
      (∀ l ∈ cs.getD k.toNat [], -(M : Int) ≤ l ∧ l ≤ M) ∧ learnP M cs put why p cl = learnP M cs put why (p - 1) (joinP M cl (cs.getD k.toNat []) m.natAbs) := by
  obtain ⟨i, m, k, h1, h2, h3, h4, h5, h6, h7, h8⟩ := learn_step hg hl hw hc hf hn
  refine ⟨i, m, k, h1, h2, h3, h4, h5, h6, joinP_clOk _ _ _ _, fun l hl9 => ?_, fun l hl9 => ?_, ?_⟩
  · obtain ⟨q, hq, hq1⟩ := take_pos (h8 l hl9)
    exact pos_take hq1 (by omega)
  · rcases h7 l hl9 with h9 | h9
    · rw [h9]; exact (hg.rng m (List.mem_of_getElem? h3)).2
    · have := (hg.rng _ (List.mem_of_mem_take h9)).2
      omega
  · obtain ⟨p, rfl⟩ : ∃ q, p = q + 1 := ⟨p - 1, by omega⟩
    have e1 : why.getD i 0 = k := by rw [List.getD_eq_getElem?_getD, h4]; rfl
    have e2 : put.getD i 0 = m := by rw [List.getD_eq_getElem?_getD, h3]; rfl
    rw [Nat.add_sub_cancel]
    show (if _ then _ else _) = _
    rw [if_pos hn, h1, Int.toNat_natCast, e1, e2]
theorem learnP_done {M : Nat} {cs : List (List Int)} {put why cl : List Int} {p : Nat} (hn : ¬ 1 < (topP (lev put why 0) cl 0 0).2) : learnP M cs put why p cl = cl := by
  cases p with
  | zero => rfl
  | succ p =>
    show (if _ then _ else _) = _
    rw [if_neg hn]
theorem learnP_ok {M : Nat} {cs : List (List Int)} {put why : List Int} (hg : Good M put) (hl : put.length = why.length) (hw : whysF cs [] put why = true) : ∀ (p : Nat) (cl : List Int), clOk M cl = true → (∀ l ∈ cl, -l ∈ put.take p) → clOk M (learnP M cs put why p cl) = true ∧ ∀ l ∈ learnP M cs put why p cl, -l ∈ put
  | 0, cl, hc, hf => ⟨hc, fun l hl9 => by have := hf l hl9; simp at this⟩
  | p + 1, cl, hc, hf => by
    by_cases hn : 1 < (topP (lev put why 0) cl 0 0).2
    · obtain ⟨i, m, k, h1, h2, h3, h4, h5, h6, h7, h8, _, h9⟩ := learnP_more hg hl hw hc hf hn
      rw [h9]
      rw [Nat.add_sub_cancel] at h8 ⊢
      exact learnP_ok hg hl hw p _ h7 h8
    · rw [learnP_done hn]
      exact ⟨hc, fun l hl9 => List.mem_of_mem_take (hf l hl9)⟩
end Go.Proofs.Ytbljfhmcebgdaaa
