/- The program's readSat. -/
import Derived.Test.YtndolbplkjhooaaTrail11
namespace Go.Proofs.Ytndolbplkjhooaa
open Go Go.RowKit

/-- What readSat gives: a search in memory, or nothing. -/
def SrAt (lo : Nat) (w : World) (r : Nat) (x : C) (s : S) : Prop := ∃ A a t W D d ls, SrB w r x A a t W D s.learned.length d s.code ∧ Tr lo (fun _ => False) x.many.toNat w t s.put ls
def RetRead (x : C) (s : S) (w : World) (e : Ending) (w' : World) : Prop :=
  Below w.heap.size w w' ∧ ((satOk x s = true ∧ ∃ r, e = .returned (.tuple #[.pointer (some ⟨r, 0, none⟩), .bool true]) ∧ SrAt w.heap.size w' r x s) ∨ (satOk x s = false ∧ e = .returned (.tuple #[.pointer none, .bool false])))
theorem srB_up {w w' : World} {r : Nat} {x : C} {A : Option Addr} {a t : Nat} {W : Value} {D : Option Addr} {n d : Nat} {code : Int} (h : SrB w r x A a t W D n d code) (hb : Below w.heap.size w w') : SrB w' r x A a t W D n d code := (hb.block r (lt_of_block h)).trans h
theorem Tr.lo_mono {lo lo' M : Nat} {S : Nat → Prop} {w : World} {t : Nat} {put ls : List Int} (h : Tr lo S M w t put ls) (hl : lo' ≤ lo) : Tr lo' S M w t put ls := by
  obtain ⟨A, B, c, d, Q, pl, h⟩ := h
  exact ⟨A, B, c, d, Q, pl, ⟨h.blk, Nat.le_trans hl h.hlo, own_mono h.hput hl, own_mono h.hpl hl, own_mono h.hls hl, h.d1, h.d2, h.d3, h.d4⟩, h.ok, h.len, h.lv⟩
def Fact.slI (xs : List Int) : Fact := .of (fun v _ => ∃ A c, v = .slice A xs.length c) fun _ _ _ h _ => h
def Fact.rowsI (W : World) (xs : List (List Int)) : Fact := .of (fun v xw => ∃ A c, v = .slice A xs.length c ∧ Lay.int.slice.Rd xw A xs) fun _ _ _ ⟨A, c, h1, h2⟩ hb => ⟨A, c, h1, h2.up hb⟩
def Fact.srA (x : C) (A : Option Addr) (a t : Nat) (s : S) : Fact := .of (fun v xw => ∃ V D d, v = .agg #[.int .i64 x.many, .slice A x.list.length a, .pointer (some ⟨t, 0, none⟩), V, .slice D s.learned.length d, .int .i64 s.code] ∧ Lay.int.slice.Rd xw D s.learned) fun _ _ _ ⟨V, D, d, h1, h2⟩ hb => ⟨V, D, d, h1, h2.up hb⟩
def Fact.srP (W : World) (x : C) (A : Option Addr) (a t : Nat) (s : S) : Fact := .of (fun v xw => ∃ r V D d, v = .pointer (some ⟨r, 0, none⟩) ∧ SrB xw r x A a t V D s.learned.length d s.code ∧ Lay.int.slice.Rd xw D s.learned ∧ Below W.heap.size W xw) fun _ _ _ ⟨r, V, D, d, h1, h2, h3, h4⟩ hb => ⟨r, V, D, d, h1, srB_up h2 hb, h3.up hb, bthen h4 hb⟩

set_option maxRecDepth 100000 in
set_option maxHeartbeats 8000000 in
theorem readSat_any (x : C) (A : Option Addr) (a : Nat) (s : S) (P Q D : Option Addr) (p q d : Nat) (w : World) (h : Lay.int.slice.Rd w A x.list) (hp : Lay.int.Rd w P s.put) (hq : Lay.int.Rd w Q s.why) (hd : Lay.int.slice.Rd w D s.learned) (sx : smCnf x) (ss : smS s) :
    Calls Try.prog 56 #[.agg #[.int .i64 x.many, .slice A x.list.length a], .agg #[.slice P s.put.length p, .slice Q s.why.length q, .slice D s.learned.length d, .int .i64 s.code]] w (RetRead x s w) := by
  obtain ⟨hw, hB0, hB1, hWS⟩ := two_boxes w (.cells #[.int .i64 x.many, .slice A x.list.length a] 28) (.cells #[.slice P s.put.length p, .slice Q s.why.length q, .slice D s.learned.length d, .int .i64 s.code] 46)
  have hl0 : s.put.length ≤ 1048576 := ss.1.1
  have hl1 : s.why.length ≤ 1048576 := ss.2.1.1
  have hl2 : s.learned.length ≤ 1048576 := ss.2.2.1.1
  have hlx : x.list.length ≤ 1048576 := sx.2.1
  have hcode := ss.2.2.2
  have hmany := sx.1
  have SX := Lib.hid sx
  have SS := Lib.hid ss
  have HX := Lib.hid (h.up hw)
  have HP := Lib.hid (hp.up hw)
  have HQ := Lib.hid (hq.up hw)
  have HDD := Lib.hid (hd.up hw)
  unfold okInt at hcode hmany
  clear h hp hq hd sx ss
  generalize hW : (w.alloc (.cells #[.int .i64 x.many, .slice A x.list.length a] 28)).alloc (.cells #[.slice P s.put.length p, .slice Q s.why.length q, .slice D s.learned.length d, .int .i64 s.code] 46) = W at *
  have HW := Lib.hid hw
  have HB0 := Lib.hid hB0
  have HB1 := Lib.hid hB1
  have HWS := Lib.hid hWS
  have c0 : W.cell? ⟨w.heap.size, 0, none⟩ = some (.int .i64 x.many) := (cell_of_block HB0.out 0).1
  have c1 : W.cell? ⟨w.heap.size, 1, none⟩ = some (.slice A x.list.length a) := (cell_of_block HB0.out 1).1
  have HOKC := Lib.hid (cnfOkP_any x A a _ W HX.out (fun _ h => h) hmany (by omega) SX.out.ints)
  clear hw hB0 hB1 hWS
  go_enter Try.func56, Try.ntmps56
  go_wp2_with fail
  clear c0 c1 hW
  refine HOKC.out.mono ?_
  clear HOKC
  cases hok : cnfOk x
  · have HE := Lib.hid (satOk_no (c := x) (s := s) fun h9 => by have := h9.cnf; rw [hok] at this; cases this)
    clear hok
    rintro e w1 ⟨rfl, hb1⟩
    go_wp2
    go_ret2
    exact ⟨bthen HW.out hb1, .inr ⟨HE.out, rfl⟩⟩
  have HOK := Lib.hid hok
  have hi := (cnfOk_iff x).1 hok
  obtain ⟨M, hM⟩ := Int.eq_ofNat_of_zero_le hi.1
  have hM7 : M ≤ 700 := by have := hi.2.1; omega
  have HMM := Lib.hid hM
  clear hok hi hM
  rintro e w1 ⟨rfl, hb1⟩
  have HB := Lib.hid (bthen HW.out hb1)
  have HX := Lib.hid (HX.out.up hb1)
  have HP := Lib.hid (HP.out.up hb1)
  have HQ := Lib.hid (HQ.out.up hb1)
  have HDD := Lib.hid (HDD.out.up hb1)
  have b0 : w1.heap[w.heap.size]? = _ := (hb1.block _ (by have := HWS.out; omega)).trans HB0.out
  have b1 : w1.heap[w.heap.size + 1]? = _ := (hb1.block _ (by have := HWS.out; omega)).trans HB1.out
  have HB0 := Lib.hid b0
  have HB1 := Lib.hid b1
  have hsz1 : w.heap.size + 1 < w1.heap.size := by have := HWS.out; have := hb1.size; omega
  clear b0 b1 hb1
  have d0 : w1.cell? ⟨w.heap.size + 1, 0, none⟩ = some (.slice P s.put.length p) := (cell_of_block HB1.out 0).1
  have d1 : w1.cell? ⟨w.heap.size + 1, 1, none⟩ = some (.slice Q s.why.length q) := (cell_of_block HB1.out 1).1
  have d2 : w1.cell? ⟨w.heap.size + 1, 2, none⟩ = some (.slice D s.learned.length d) := (cell_of_block HB1.out 2).1
  have d3 : w1.cell? ⟨w.heap.size + 1, 3, none⟩ = some (.int .i64 s.code) := (cell_of_block HB1.out 3).1
  have c0 : w1.cell? ⟨w.heap.size, 0, none⟩ = some (.int .i64 x.many) := (cell_of_block HB0.out 0).1
  by_cases h1 : 300 < s.learned.length
  · have HE := Lib.hid (satOk_no (c := x) (s := s) fun h9 => by have := h9.learned; omega)
    go_wp2
    go_ret2
    exact ⟨HB.out, .inr ⟨HE.out, rfl⟩⟩
  by_cases h2 : s.code < 0
  · have HE := Lib.hid (satOk_no (c := x) (s := s) fun h9 => by have := h9.code0; omega)
    go_wp2
    go_ret2
    exact ⟨HB.out, .inr ⟨HE.out, rfl⟩⟩
  by_cases h3 : 3 < s.code
  · have HE := Lib.hid (satOk_no (c := x) (s := s) fun h9 => by have := h9.code1; omega)
    go_wp2
    go_ret2
    exact ⟨HB.out, .inr ⟨HE.out, rfl⟩⟩
  by_cases h4 : ¬ s.put.length = s.why.length
  · have HE := Lib.hid (satOk_no (c := x) (s := s) fun h9 => h4 h9.len)
    have h4b : ((s.put.length : Int) != (s.why.length : Int)) = true := by simp; omega
    go_wp2
    go_ret2
    exact ⟨HB.out, .inr ⟨HE.out, rfl⟩⟩
  have h4b : ((s.put.length : Int) != (s.why.length : Int)) = false := by simp; omega
  have HL4 : Hid (s.put.length = s.why.length) := Lib.hid (by omega)
  clear h4
  have HHF := Lib.hid (hasFuncR_any s.learned x.many D d w.heap.size _ w1 HDD.out (by omega) SS.out.2.2.1.2.1 (by have := HMM.out; omega) (by have := HMM.out; omega) c0)
  go_wp2_with fail
  refine HHF.out.mono ?_
  clear HHF
  rintro e w' ⟨rfl, rfl⟩
  cases hall : s.learned.all (clOk x.many)
  · have HE := Lib.hid (satOk_no (c := x) (s := s) fun h9 => by have := List.all_eq_true.2 h9.cls; rw [hall] at this; cases this)
    clear hall
    go_wp2
    go_ret2
    exact ⟨HB.out, .inr ⟨HE.out, rfl⟩⟩
  have HALL := Lib.hid (List.all_eq_true.1 hall)
  clear hall
  have HTR := Lib.hid (trailOkS_any M s.put s.why Q q (w.heap.size + 1) P p _ w1 HQ.out HL4.out d1 HP.out (fun _ h => h) hl0 SS.out.1.2 (by omega))
  rw [← HMM.out] at HTR
  go_wp2_with fail
  refine HTR.out.mono ?_
  clear HTR d0 d1 d2 d3 c0
  rintro e w2 (⟨hg, t, ls, rfl, htr, hb2⟩ | ⟨hng, rfl, hb2⟩)
  rotate_left
  · have HE := Lib.hid (satOk_no (c := x) (s := s) fun h9 => hng (by rw [← HMM.out]; exact h9.good))
    have HB := Lib.hid (bthen HB.out hb2)
    clear hng hb2
    go_wp2
    go_ret2
    exact ⟨HB.out, .inr ⟨HE.out, rfl⟩⟩
  have HLO := Lib.hid (show w.heap.size ≤ w1.heap.size by omega)
  have HGD := Lib.hid hg
  have HT := Lib.hid htr
  have HB := Lib.hid (bthen HB.out hb2)
  have HX := Lib.hid (HX.out.up hb2)
  have HP := Lib.hid (HP.out.up hb2)
  have HQ := Lib.hid (HQ.out.up hb2)
  have HDD := Lib.hid (HDD.out.up hb2)
  have HB0 := Lib.hid ((hb2.block _ (by omega)).trans HB0.out)
  have HB1 := Lib.hid ((hb2.block _ (by omega)).trans HB1.out)
  have hsz2 : w.heap.size + 1 < w2.heap.size := by have := hb2.size; omega
  clear hg htr hb2 hsz1
  have d1 : w2.cell? ⟨w.heap.size + 1, 1, none⟩ = some (.slice Q s.why.length q) := (cell_of_block HB1.out 1).1
  have d2 : w2.cell? ⟨w.heap.size + 1, 2, none⟩ = some (.slice D s.learned.length d) := (cell_of_block HB1.out 2).1
  have d3 : w2.cell? ⟨w.heap.size + 1, 3, none⟩ = some (.int .i64 s.code) := (cell_of_block HB1.out 3).1
  have c0 : w2.cell? ⟨w.heap.size, 0, none⟩ = some (.int .i64 x.many) := (cell_of_block HB0.out 0).1
  have c1 : w2.cell? ⟨w.heap.size, 1, none⟩ = some (.slice A x.list.length a) := (cell_of_block HB0.out 1).1
  have D1 := Later.cell d1
  have D2 := Later.cell d2
  have D3 := Later.cell d3
  have C0 := Later.cell c0
  have C1 := Later.cell c1
  go_wp2
  clear d1 d2 d3 c0 c1
  refine wp_region_shares [[], [], [], [(2, 56)], [(3, 57)], [], [(5, 59)], [(6, 60)], [], [(8, 62)], [(0, 54), (1, 55), (4, 58), (7, 61), (9, 63)], [(10, 64)], [(11, 65)]]
    [.eq (.agg #[.int .i64 x.many, .slice A x.list.length a]), .eq (.pointer (some ⟨t, 0, none⟩)), .eq (.pointer (some ⟨w.heap.size + 1, 1, none⟩)), .eq (.slice Q s.why.length q), Fact.slI s.why, .eq (.pointer (some ⟨w.heap.size + 1, 2, none⟩)), .eq (.slice D s.learned.length d), Fact.rowsI w2 s.learned, .eq (.pointer (some ⟨w.heap.size + 1, 3, none⟩)), .eq (.int .i64 s.code), Fact.srA x A a t s, Fact.srP w2 x A a t s, Fact.srP w2 x A a t s]
    [] [] [] [12] [(0, 54), (1, 55), (2, 56), (3, 57), (4, 58), (5, 59), (6, 60), (7, 61), (8, 62), (9, 63), (10, 64), (11, 65), (12, 8)] (by kernel_rfl) (by kernel_rfl) (by kernel_rfl) (by kernel_rfl)
    ⟨?_, ?_, ?_, ?_, ?_, ?_, ?_, ?_, ?_, ?_, ?_, ?_, ?_, trivial⟩ ?_
  · intro vals xw hC hF
    have hC := hC.resolve_left (by simp)
    have hsz := hC.size
    have e1 : xw.cell? _ = _ := C0 ⟨xw, hC⟩
    have e2 : xw.cell? _ = _ := C1 ⟨xw, hC⟩
    simp only [putsD, Act.put, List.setIfInBounds_toArray, List.set_cons_zero, List.set_cons_succ]
    go_wp2
    exact ⟨rfl, rfl, .inr (Below.refl _ _), .inr (.inl (by simp))⟩
  · intro vals xw hC hF
    simp only [putsD, Act.put, List.setIfInBounds_toArray, List.set_cons_zero, List.set_cons_succ]
    go_wp2
    exact ⟨rfl, rfl, .inr (Below.refl _ _), .inr (.inl (by simp))⟩
  · intro vals xw hC hF
    simp only [putsD, Act.put, List.setIfInBounds_toArray, List.set_cons_zero, List.set_cons_succ]
    go_wp2
    exact ⟨rfl, rfl, .inr (Below.refl _ _), .inr (.inl (by simp))⟩
  · intro vals xw hC hF
    have hC := hC.resolve_left (by simp)
    have hsz := hC.size
    have e1 : xw.cell? _ = _ := D1 ⟨xw, hC⟩
    simp only [factsD, List.getD_cons_zero, List.getD_cons_succ, Fact.eq, Fact.row, Fact.lit, Fact.lit0, Fact.of, and_true, Fact.slI, Fact.rowsI, Fact.srA, Fact.srP] at hF
    simp only [putsD, Act.put, List.setIfInBounds_toArray, List.set_cons_zero, List.set_cons_succ]
    simp only [hF]
    go_wp2
    exact ⟨rfl, rfl, .inr (Below.refl _ _), .inr (.inl (by simp))⟩
  · intro vals xw hC hF
    have hC := hC.resolve_left (by simp)
    have hsz := hC.size
    simp only [factsD, List.getD_cons_zero, List.getD_cons_succ, Fact.eq, Fact.row, Fact.lit, Fact.lit0, Fact.of, and_true, Fact.slI, Fact.rowsI, Fact.srA, Fact.srP] at hF
    simp only [putsD, Act.put, List.setIfInBounds_toArray, List.set_cons_zero, List.set_cons_succ]
    simp only [hF]
    go_wp2_with fail
    refine (cloneI_any Q q s.why xw (HQ.out.up hC) hl1).mono ?_
    rintro e wx ⟨A9, c9, rfl, ho9, hb9⟩
    go_wp2
    exact ⟨rfl, ⟨A9, c9, rfl⟩, .inr hb9, .inr (.inl (by simp))⟩
  · intro vals xw hC hF
    simp only [putsD, Act.put, List.setIfInBounds_toArray, List.set_cons_zero, List.set_cons_succ]
    go_wp2
    exact ⟨rfl, rfl, .inr (Below.refl _ _), .inr (.inl (by simp))⟩
  · intro vals xw hC hF
    have hC := hC.resolve_left (by simp)
    have hsz := hC.size
    have e1 : xw.cell? _ = _ := D2 ⟨xw, hC⟩
    simp only [factsD, List.getD_cons_zero, List.getD_cons_succ, Fact.eq, Fact.row, Fact.lit, Fact.lit0, Fact.of, and_true, Fact.slI, Fact.rowsI, Fact.srA, Fact.srP] at hF
    simp only [putsD, Act.put, List.setIfInBounds_toArray, List.set_cons_zero, List.set_cons_succ]
    simp only [hF]
    go_wp2
    exact ⟨rfl, rfl, .inr (Below.refl _ _), .inr (.inl (by simp))⟩
  · intro vals xw hC hF
    have hC := hC.resolve_left (by simp)
    have hsz := hC.size
    simp only [factsD, List.getD_cons_zero, List.getD_cons_succ, Fact.eq, Fact.row, Fact.lit, Fact.lit0, Fact.of, and_true, Fact.slI, Fact.rowsI, Fact.srA, Fact.srP] at hF
    simp only [putsD, Act.put, List.setIfInBounds_toArray, List.set_cons_zero, List.set_cons_succ]
    simp only [hF]
    go_wp2_with fail
    refine (copyLists_any D d s.learned xw (HDD.out.up hC) hl2 (fun l h9 => (SS.out.2.2.1.2.1 l h9).1)).mono ?_
    rintro e wx ⟨A9, c9, rfl, ho9, hb9⟩
    go_wp2
    exact ⟨rfl, ⟨A9, c9, rfl, ho9.rd⟩, .inr hb9, .inr (.inl (by simp))⟩
  · intro vals xw hC hF
    simp only [putsD, Act.put, List.setIfInBounds_toArray, List.set_cons_zero, List.set_cons_succ]
    go_wp2
    exact ⟨rfl, rfl, .inr (Below.refl _ _), .inr (.inl (by simp))⟩
  · intro vals xw hC hF
    have hC := hC.resolve_left (by simp)
    have hsz := hC.size
    have e1 : xw.cell? _ = _ := D3 ⟨xw, hC⟩
    simp only [factsD, List.getD_cons_zero, List.getD_cons_succ, Fact.eq, Fact.row, Fact.lit, Fact.lit0, Fact.of, and_true, Fact.slI, Fact.rowsI, Fact.srA, Fact.srP] at hF
    simp only [putsD, Act.put, List.setIfInBounds_toArray, List.set_cons_zero, List.set_cons_succ]
    simp only [hF]
    go_wp2
    exact ⟨rfl, rfl, .inr (Below.refl _ _), .inr (.inl (by simp))⟩
  · intro vals xw hC hF
    have hC := hC.resolve_left (by simp)
    have hsz := hC.size
    simp only [factsD, List.getD_cons_zero, List.getD_cons_succ, Fact.eq, Fact.row, Fact.lit, Fact.lit0, Fact.of, and_true, Fact.slI, Fact.rowsI, Fact.srA, Fact.srP] at hF
    obtain ⟨e54, e55, ⟨A8, c8, e58⟩, ⟨A9, c9, e61, hr9⟩, e63⟩ := hF
    simp only [putsD, Act.put, List.setIfInBounds_toArray, List.set_cons_zero, List.set_cons_succ]
    simp only [e54, e55, e58, e61, e63]
    go_wp2
    exact ⟨rfl, ⟨_, A9, c9, rfl, hr9⟩, .inr (Below.refl _ _), .inr (.inl (by simp))⟩
  · intro vals xw hC hF
    have hC := hC.resolve_left (by simp)
    have hsz := hC.size
    simp only [factsD, List.getD_cons_zero, List.getD_cons_succ, Fact.eq, Fact.row, Fact.lit, Fact.lit0, Fact.of, and_true, Fact.slI, Fact.rowsI, Fact.srA, Fact.srP] at hF
    obtain ⟨V, D9, d9, e64, hr9⟩ := hF
    simp only [putsD, Act.put, List.setIfInBounds_toArray, List.set_cons_zero, List.set_cons_succ]
    simp only [e64]
    have hal : Below xw.heap.size xw (xw.alloc (.cells #[.int .i64 x.many, .slice A x.list.length a, .pointer (some ⟨t, 0, none⟩), V, .slice D9 s.learned.length d9, .int .i64 s.code] 103)) := (Below.refl _ _).alloc (Nat.le_refl _) _
    go_wp2
    exact ⟨rfl, ⟨_, V, D9, d9, rfl, heap_alloc_new _ _, hr9.up hal, bthen hC hal⟩, .inr hal, .inr (.inl (by simp))⟩
  · intro vals xw hC hF
    have hC := hC.resolve_left (by simp)
    have hsz := hC.size
    simp only [factsD, List.getD_cons_zero, List.getD_cons_succ, Fact.eq, Fact.row, Fact.lit, Fact.lit0, Fact.of, and_true, Fact.slI, Fact.rowsI, Fact.srA, Fact.srP] at hF
    obtain ⟨r, V, D9, d9, e65, hr9⟩ := hF
    simp only [putsD, Act.put, List.setIfInBounds_toArray, List.set_cons_zero, List.set_cons_succ]
    simp only [e65]
    go_wp2
    exact ⟨rfl, ⟨r, V, D9, d9, rfl, hr9⟩, .inr (Below.refl _ _), .inr (.inl (by simp))⟩
  · intro vals xw hF
    simp only [facts, List.getD_cons_zero, List.getD_cons_succ, Fact.eq, Fact.row, Fact.lit, Fact.lit0, Fact.of, and_true, Fact.slI, Fact.rowsI, Fact.srA, Fact.srP] at hF
    obtain ⟨r, V, D9, d9, e8, hsb, hr9, hb9⟩ := hF
    simp only [putsD, Act.put, List.setIfInBounds_toArray, List.set_cons_zero, List.set_cons_succ]
    simp only [e8]
    clear D1 D2 D3 C0 C1 e8
    have HB := Lib.hid (bthen HB.out hb9)
    have HT := Lib.hid (HT.out.up hb9)
    have HX := Lib.hid (HX.out.up hb9)
    have HP := Lib.hid (HP.out.up hb9)
    have HQ := Lib.hid (HQ.out.up hb9)
    have HB0 := Lib.hid ((hb9.block _ (by omega)).trans HB0.out)
    have HB1 := Lib.hid ((hb9.block _ (by omega)).trans HB1.out)
    have HSB := Lib.hid hsb
    have HR9 := Lib.hid hr9
    have hsz3 : w.heap.size + 1 < xw.heap.size := by have := hb9.size; omega
    clear hsb hr9 hb9 hsz2 HDD
    generalize hcs : x.list ++ s.learned = cs at *
    have HCS := Lib.hid hcs
    have HCN := Lib.hid (show cs.length = x.list.length + s.learned.length by rw [← hcs]; simp)
    have HCL : Hid (∀ cl ∈ cs, (∀ l ∈ cl, l ≠ 0 ∧ -(M : Int) ≤ l ∧ l ≤ M) ∧ cl.length ≤ 1048576) := Lib.hid fun cl h9 => by
      rw [← hcs] at h9
      rcases List.mem_append.1 h9 with h8 | h8
      · exact ⟨fun l h7 => by have := cnfOk_rng HOK.out cl h8 l h7; rw [HMM.out] at this; exact this, (SX.out.ints cl h8).1⟩
      · exact ⟨fun l h7 => by have := clOk_rng (HALL.out cl h8) l h7; rw [HMM.out] at this; exact this, (SS.out.2.2.1.2.1 cl h8).1⟩
    clear hcs
    have d1 : xw.cell? ⟨w.heap.size + 1, 1, none⟩ = some (.slice Q s.why.length q) := (cell_of_block HB1.out 1).1
    go_wp2
    clear d1
    go_loopw [69] (fun i wr => ∃ k : Nat, k ≤ s.why.length ∧ i = .int .i64 k ∧ Below xw.heap.size xw wr ∧ whysF cs [] s.put s.why = whysF cs (s.put.take k) (s.put.drop k) (s.why.drop k)) (fun i _ => s.why.length - (intOf i).toNat)
    case atStart => exact ⟨0, Nat.zero_le _, rfl, Below.refl _ _, rfl⟩
    case round =>
      obtain ⟨k, hk, rfl, hb, ht⟩ := hrel
      have HTW := Lib.hid ht
      have HBB := Lib.hid (bthen HB.out hb)
      have HTR := Lib.hid (HT.out.up hb)
      have HXR := Lib.hid (HX.out.up hb)
      have HRR := Lib.hid (HR9.out.up hb)
      have HSR := Lib.hid (srB_up HSB.out hb)
      have b0 : wr.heap[w.heap.size]? = _ := (hb.block _ (by omega)).trans HB0.out
      have b1 : wr.heap[w.heap.size + 1]? = _ := (hb.block _ (by omega)).trans HB1.out
      have d2 : wr.cell? ⟨w.heap.size + 1, 2, none⟩ = some (.slice D s.learned.length d) := (cell_of_block b1 2).1
      have c1 : wr.cell? ⟨w.heap.size, 1, none⟩ = some (.slice A x.list.length a) := (cell_of_block b0 1).1
      clear ht b0 b1
      by_cases hlt : k < s.why.length
      · obtain ⟨ad, rfl, hf, hc⟩ := (HQ.out.up hb).at_int hlt
        have hk1 : (k : Int) < s.why.length := by omega
        have hkp : k < s.put.length := by have := HL4.out; omega
        have HTK := Lib.hid (show s.put.take (k + 1) = s.put.take k ++ [s.put[k]] from List.take_succ_eq_append_getElem hkp)
        have HD := Lib.hid (HTW.out.trans (whysF_drop hkp hlt))
        have hi := SS.out.2.1.2 _ (List.getElem_mem hlt)
        have hi1 := hi.1
        have hi2 := hi.2
        have HB2 := Lib.hid hb
        clear hi hb
        have HIM := fun (A9 : Option Addr) (c9 : Nat) (cl : List Int) (W9 : World) (hb9 : Below wr.heap.size wr W9) (h9 : Lay.int.Rd W9 A9 cl) (h8 : cl.length ≤ 1048576) (h7 : ∀ l ∈ cl, l ≠ 0 ∧ -(M : Int) ≤ l ∧ l ≤ M) => implies_any w1.heap.size (fun _ => False) M t k s.put ls cl A9 c9 W9 (HTR.out.up hb9) HGD.out h9 h8 h7 hkp (by omega)
        have HIM := Lib.hid HIM
        generalize s.put[k] = m at *
        generalize s.why[k] = y at *
        have e16 : IntKind.i64.wrap ((x.list.length : Int) + s.learned.length) = (x.list.length : Int) + s.learned.length := IntWalk.i64_in _ (by omega)
        by_cases h3 : y = -1
        · have HE := Lib.hid (show whysF cs [] s.put s.why = whysF cs (s.put.take k ++ [m]) (s.put.drop (k + 1)) (s.why.drop (k + 1)) by rw [HD.out, h3]; simp [whyOk])
          subst h3
          go_wp2
          go_roundw
          case rel => exact ⟨k + 1, by omega, by go_num, HB2.out, by rw [HTK.out, HE.out]⟩
          case measure => simp [intOf]; omega
        have h3b : (y == -1) = false := by simpa using h3
        by_cases h1 : y < 0
        · have HE := Lib.hid (show satOk x s = false from satOk_no fun h9 => by have := h9.whys; rw [HCS.out, HD.out, whyOk_low (by omega)] at this; cases this)
          go_wp2
          go_ret2
          exact ⟨HBB.out, .inr ⟨HE.out, rfl⟩⟩
        by_cases h2 : (x.list.length : Int) + s.learned.length ≤ y
        · have HE := Lib.hid (show satOk x s = false from satOk_no fun h9 => by have := h9.whys; rw [HCS.out, HD.out, whyOk_high (by rw [HCN.out]; omega)] at this; cases this)
          go_wp2
          go_ret2
          exact ⟨HBB.out, .inr ⟨HE.out, rfl⟩⟩
        obtain ⟨n, rfl⟩ := Int.eq_ofNat_of_zero_le (show 0 ≤ y by omega)
        have hnl : n < x.list.length + s.learned.length := by omega
        obtain ⟨A9, c9, hs9, hl9, hat⟩ := clause_at HXR.out HRR.out hnl
        rw [HCS.out] at hs9 hl9 hat
        have hmem : cs.getD n [] ∈ cs := by
          rw [List.getD_eq_getElem?_getD, List.getElem?_eq_getElem (by rw [HCN.out]; exact hnl)]
          exact List.getElem_mem _
        obtain ⟨hcl1, hcl2⟩ := HCL.out _ hmem
        have HWY := Lib.hid (whyOk_in (cs := cs) (pre := s.put.take k) (m := m) (k := n) (by rw [HCN.out]; exact hnl))
        generalize cs.getD n [] = cl at *
        have HCA := Lib.hid (clauseAt_any x A D9 a d9 s.learned.length t r n V _ s.code wr hlx HSR.out hat hnl hl2)
        have HCL1 := Lib.hid hcl1
        have HS9 := Lib.hid hs9
        clear hs9 hat hmem hcl1 h3
        go_wp2_with fail
        refine HCA.out.mono ?_
        rintro e w' ⟨rfl, m9, rfl⟩
        go_wp2_with fail
        refine (HIM.out A9 c9 cl _ (below_drewN (Below.refl _ _) m9) (HS9.out.drewN m9) hcl2 HCL1.out).mono ?_
        clear HCA
        rintro e w8 ⟨rfl, hb8⟩
        have HB8 := Lib.hid ((below_drewN HB2.out m9).trans (hb8.mono HB2.out.size))
        have HB88 := Lib.hid ((below_drewN HBB.out m9).trans (hb8.mono HBB.out.size))
        cases hbe : because (s.put.take k) cl m
        · have HE := Lib.hid (show satOk x s = false from satOk_no fun h9 => by have := h9.whys; rw [HCS.out, HD.out, HWY.out, hbe] at this; cases this)
          clear hbe hb8
          go_wp2
          go_ret2
          exact ⟨HB88.out, .inr ⟨HE.out, rfl⟩⟩
        · have HE := Lib.hid (show whysF cs [] s.put s.why = whysF cs (s.put.take k ++ [m]) (s.put.drop (k + 1)) (s.why.drop (k + 1)) by rw [HD.out, HWY.out, hbe]; rfl)
          clear hbe hb8
          go_wp2
          go_roundw
          case rel => exact ⟨k + 1, by omega, by go_num, HB8.out, by rw [HTK.out, HE.out]⟩
          case measure => simp [intOf]; omega
      · have hke : k = s.why.length := by omega
        subst hke
        have HE : Hid (satOk x s = true) := Lib.hid ((satOk_iff x s).2 ⟨HOK.out, by omega, by omega, by omega, HL4.out, by rw [HMM.out]; exact HGD.out, HALL.out, by rw [HCS.out, HTW.out, List.drop_length]; cases List.drop s.why.length s.put <;> rfl⟩)
        have HMN := Lib.hid (show x.many.toNat = M by have := HMM.out; omega)
        go_wp2
        go_ret2
        refine ⟨HBB.out, .inl ⟨HE.out, r, rfl, A, a, t, V, D9, d9, ls, HSR.out, ?_⟩⟩
        rw [HMN.out]
        exact HTR.out.lo_mono HLO.out
end Go.Proofs.Ytndolbplkjhooaa
