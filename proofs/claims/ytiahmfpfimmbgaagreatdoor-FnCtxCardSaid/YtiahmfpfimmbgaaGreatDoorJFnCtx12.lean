/- The program's closure of CtxAssert. Layers as the answer of a law: rows in ranges of their own; marks. The program's changed. -/
import Derived.RegionTactic
import Derived.Test.YtiahmfpfimmbgaaGreatDoorJFnCtx10
import Derived.Test.YtiahmfpfimmbgaaGreatDoorJFnCtx11
/-! The program's closure of CtxAssert. -/
namespace Go.Proofs.YtiahmfpfimmbgaaGreatDoor
open Go Go.RowKit

theorem term_src {w : World} {b : Nat} {t : T} {A0 : Option Addr} {c0 : Nat} {fr : Nat × Nat} (h : w.heap[b]? = some (.cells #[.int .i64 t.op, .int .i64 t.a, .int .i64 t.b, .string t.name, .slice A0 t.kids.length c0] 48 fr)) : Src w Lay.term.size (some ⟨b, 0, none⟩) [t].length [.int .i64 t.op, .int .i64 t.a, .int .i64 t.b, .string t.name, .slice A0 t.kids.length c0] := src_block h rfl
def tZero : T := .mk 0 0 0 ⟨#[]⟩ []
/-- The last term of a row, of zeros so far, is put. -/
theorem OwnR.putTerm {lo c g : Nat} {W : World} {ts : List T} {t : T} {A0 : Option Addr} {c0 : Nat} (h : OwnR Lay.term 48 W lo (.slice (some ⟨g, 0, none⟩) (ts ++ [tZero]).length c) (ts ++ [tZero])) (hk : Lay.term.Sl W (fun b => b < lo) A0 t.kids) (hc0 : t.kids.length ≤ c0) :
    OwnR Lay.term 48 (((((W.setCell ⟨g, ts.length * 5, none⟩ (.int .i64 t.op)).setCell ⟨g, ts.length * 5 + 1, none⟩ (.int .i64 t.a)).setCell ⟨g, ts.length * 5 + 2, none⟩ (.int .i64 t.b)).setCell ⟨g, ts.length * 5 + 3, none⟩ (.string t.name)).setCell ⟨g, ts.length * 5 + 4, none⟩ (.slice A0 t.kids.length c0)) lo (.slice (some ⟨g, 0, none⟩) (ts ++ [t]).length c) (ts ++ [t]) := by
  have hlg := h.lt g rfl
  obtain ⟨cs, h1, h2⟩ := h
  have hl : (ts ++ [tZero]).length = (ts ++ [t]).length := by simp
  have hcl : cs.length = (ts ++ [tZero]).length * 5 := h1.1
  have hcl : cs.length = ts.length * 5 + 5 := by rw [hcl]; simp; omega
  have hst1 := (h1.stored (ts.length * 5) (.int .i64 t.op)).1
  have hst2 := (hst1.stored (ts.length * 5 + 1) (.int .i64 t.a)).1
  have hst3 := (hst2.stored (ts.length * 5 + 2) (.int .i64 t.b)).1
  have hst4 := (hst3.stored (ts.length * 5 + 3) (.string t.name)).1
  have hst5 := (hst4.stored (ts.length * 5 + 4) (.slice A0 t.kids.length c0)).1
  rw [hl] at hst5
  have hfar : ∀ b, b ≠ g → (((((W.setCell ⟨g, ts.length * 5, none⟩ (.int .i64 t.op)).setCell ⟨g, ts.length * 5 + 1, none⟩ (.int .i64 t.a)).setCell ⟨g, ts.length * 5 + 2, none⟩ (.int .i64 t.b)).setCell ⟨g, ts.length * 5 + 3, none⟩ (.string t.name)).setCell ⟨g, ts.length * 5 + 4, none⟩ (.slice A0 t.kids.length c0)).heap[b]? = W.heap[b]? := fun b hb =>
    (Below.heap_setCell _ ⟨g, _, none⟩ _ b hb).trans ((Below.heap_setCell _ ⟨g, _, none⟩ _ b hb).trans ((Below.heap_setCell _ ⟨g, _, none⟩ _ b hb).trans ((Below.heap_setCell _ ⟨g, _, none⟩ _ b hb).trans (Below.heap_setCell _ ⟨g, _, none⟩ _ b hb))))
  refine ⟨_, hst5, fun i x hx => ?_⟩
  by_cases hi : i < ts.length
  · rw [List.getElem?_append_left hi] at hx
    obtain ⟨vs, hr, hu⟩ := h2 i x (by rw [List.getElem?_append_left hi]; exact hx)
    refine ⟨vs, Lay.term.mono (fun b hb => ⟨by simpa only [size_setCell] using hb.1, hb.2.1, hb.2.2⟩) (Lay.term.keep (fun b hb => hfar b (fun e => hb.2.1 (by rw [e]; rfl))) hr), fun j u hj => ?_⟩
    have hj5 : j < 5 := by have := (List.getElem?_eq_some_iff.1 hj).1; rwa [Lay.term.len hr] at this
    have := hu j u hj
    have h9 : Lay.term.size = 5 := rfl
    rw [h9] at this ⊢
    rw [List.getElem?_set_ne (by omega), List.getElem?_set_ne (by omega), List.getElem?_set_ne (by omega), List.getElem?_set_ne (by omega), List.getElem?_set_ne (by omega)]
    exact this
  · have hil : i = ts.length := by have := (List.getElem?_eq_some_iff.1 hx).1; simp at this; omega
    subst hil
    rw [List.getElem?_append_right (Nat.le_refl _), Nat.sub_self] at hx
    simp at hx
    subst hx
    refine ⟨_, TermR.of hc0 ((hk.keep fun b hb => hfar b (fun e => by have := hlg.1; omega)).mono fun b hb => ⟨by simp only [size_setCell]; have := hlg; omega, fun e => by have e : some g = some b := e; injection e with e; have := hlg.1; omega, hb⟩), fun j u hj => ?_⟩
    have h9 : Lay.term.size = 5 := rfl
    rw [h9]
    match j, hj with
    | 0, hj => rw [List.getElem?_set_ne (by omega), List.getElem?_set_ne (by omega), List.getElem?_set_ne (by omega), List.getElem?_set_ne (by omega), Nat.add_zero, List.getElem?_set_self (by omega)]; exact hj
    | 1, hj => rw [List.getElem?_set_ne (by omega), List.getElem?_set_ne (by omega), List.getElem?_set_ne (by omega), List.getElem?_set_self (by simp only [List.length_set]; omega)]; exact hj
    | 2, hj => rw [List.getElem?_set_ne (by omega), List.getElem?_set_ne (by omega), List.getElem?_set_self (by simp only [List.length_set]; omega)]; exact hj
    | 3, hj => rw [List.getElem?_set_ne (by omega), List.getElem?_set_self (by simp only [List.length_set]; omega)]; exact hj
    | 4, hj => rw [List.getElem?_set_self (by simp only [List.length_set]; omega)]; exact hj
    | j + 5, hj => simp at hj
set_option maxRecDepth 100000 in
set_option maxHeartbeats 16000000 in
theorem chgAssert_any (lo p bt : Nat) (t : T) (A0 : Option Addr) (c0 : Nat) (ds : List D) (ts : List T) (mx : List (Int × Int)) (a b : Int) (w : World) (h : StkE lo w p ds ts (mx ++ [(a, b)])) (hbt : w.heap[bt]? = some (.cells #[.int .i64 t.op, .int .i64 t.a, .int .i64 t.b, .string t.name, .slice A0 t.kids.length c0] 48 (0, 0))) (hlb : bt < lo) (hk : Lay.term.Sl w (fun b => b < lo) A0 t.kids) (hc0 : t.kids.length ≤ c0) (hts : ts.length ≤ 1048576) (hmx : mx.length ≤ 1048576) (hb0 : 0 ≤ b) (hb1 : b ≤ 1048576) :
    Calls Tryz.prog 72 #[.pointer (some ⟨p, 0, none⟩), .pointer (some ⟨bt, 0, none⟩)] w fun e w' => e = .returned (.tuple #[]) ∧ StkE lo w' p ds (ts ++ [t]) (mx ++ [(a, b + 1)]) ∧ Below lo w w' := by
  obtain ⟨ys, hys⟩ : ∃ ys, ys = ts ++ [t] := ⟨_, rfl⟩
  rw [← hys]
  have HY := Lib.hid hys
  obtain ⟨ms, hms⟩ : ∃ ms, ms = mx ++ [(a, b)] := ⟨_, rfl⟩
  rw [← hms] at h
  have HMS := Lib.hid hms
  obtain ⟨A1, A2, A3, c1, c2, c3, h⟩ := h
  have hloW0 := h.loW
  have HST0 := Lib.hid h
  have HBT0 := Lib.hid hbt
  have HK0 := Lib.hid hk
  obtain ⟨i0, hi0, hz0, hz1, hz2⟩ := info_parts term_info
  have HI := Lib.hid (And.intro hi0 (And.intro hz0 (And.intro hz1 hz2)))
  clear hys hms h hi0 hz0 hz1 hz2 hbt hk
  have HALL : ∀ v : Bool, Below w.heap.size w (w.alloc (.cells #[.bool v] 4)).drew := fun v => below_drewN ((Below.refl _ _).alloc (Nat.le_refl _) _) 1
  have HALF := Lib.hid (HALL false)
  have HALT := Lib.hid (HALL true)
  clear HALL
  go_enter Tryz.func72, Tryz.ntmps72
  go_wp2
  go_region
  · go_wp2
    generalize (w.alloc (.cells #[.bool false] 4)).drew = W at *
    have HST := Lib.hid (HST0.out.up HALF.out)
    have hbt := (HALF.out.block _ (lt_of_block HBT0.out)).trans HBT0.out
    have HK : Hid (Lay.term.Sl W (fun b => b < lo) A0 t.kids) := Lib.hid (HK0.out.keep fun b hb => HALF.out.block b (Nat.lt_of_lt_of_le hb hloW0))
    have HWB := Lib.hid (HALF.out.mono hloW0)
    have d1 := Later.cell (cell_of_block HST.out.box 1).1
    have q0 := Later.cell (cell_of_block hbt 0).1
    have q1 := Later.cell (cell_of_block hbt 1).1
    have q2 := Later.cell (cell_of_block hbt 2).1
    have q3 := Later.cell (cell_of_block hbt 3).1
    have q4 := Later.cell (cell_of_block hbt 4).1
    have hloW := HST.out.loW
    clear hbt
    refine wp_region_shares [[], [], [(1, 17)], [(2, 18)], [(3, 19)], [], [(5, 21)], [(4, 20), (6, 22)], [(0, 16)], [(8, 24)], [(9, 25), (7, 23)]]
      [.eq (.pointer (some ⟨p, 0, none⟩)), .eq (.pointer (some ⟨p, 0, none⟩)), .eq (.pointer (some ⟨p, 0, none⟩)), .eq (.pointer (some ⟨p, 1, none⟩)), .eq (.slice A2 ts.length c2), .eq (.agg #[.int .i64 t.op, .int .i64 t.a, .int .i64 t.b, .string t.name, .slice A0 t.kids.length c0]), .lit 48 1 #[.int .i64 t.op, .int .i64 t.a, .int .i64 t.b, .string t.name, .slice A0 t.kids.length c0], Fact.rows Lay.term 48 lo W (.slice A2 ts.length c2) ys, .eq (.pointer (some ⟨p, 0, none⟩)), .eq (.pointer (some ⟨p, 1, none⟩)), Fact.stk lo W p ds ys ms]
      [7, 10] [7, 10] [0, 8, 9, 10] [10] [(0, 16), (1, 17), (2, 18), (3, 19), (4, 20), (5, 21), (6, 22), (7, 23), (8, 24), (9, 25)] (by kernel_rfl) (by kernel_rfl) (by kernel_rfl) (by kernel_rfl)
      ⟨?_, ?_, ?_, ?_, ?_, ?_, ?_, ?_, ?_, ?_, ?_, trivial⟩ ?_
    · intro vals z hC hF
      simp only [putsD, Act.put, List.setIfInBounds_toArray, List.set_cons_zero, List.set_cons_succ]
      go_wp2
      exact ⟨rfl, rfl, .inr (Below.refl _ _), .inr (.inl (by simp))⟩
    · intro vals z hC hF
      simp only [putsD, Act.put, List.setIfInBounds_toArray, List.set_cons_zero, List.set_cons_succ]
      go_wp2
      exact ⟨rfl, rfl, .inr (Below.refl _ _), .inr (.inl (by simp))⟩
    · intro vals z hC hF
      simp only [factsD, List.getD_cons_zero, List.getD_cons_succ, Fact.eq, Fact.row, Fact.lit, Fact.lit0, Fact.of, and_true, Fact.rows, Fact.stk] at hF
      simp only [putsD, Act.put, List.setIfInBounds_toArray, List.set_cons_zero, List.set_cons_succ]
      simp only [hF]
      go_wp2
      exact ⟨rfl, rfl, .inr (Below.refl _ _), .inr (.inl (by simp))⟩
    · intro vals z hC hF
      simp only [factsD, List.getD_cons_zero, List.getD_cons_succ, Fact.eq, Fact.row, Fact.lit, Fact.lit0, Fact.of, and_true, Fact.rows, Fact.stk] at hF
      simp only [putsD, Act.put, List.setIfInBounds_toArray, List.set_cons_zero, List.set_cons_succ]
      simp only [hF]
      go_wp2
      exact ⟨rfl, rfl, .inr (Below.refl _ _), .inr (.inl (by simp))⟩
    · intro vals z hC hF
      have hC := hC.resolve_left (by simp)
      have hsz := hC.size
      have e1 : z.cell? _ = _ := d1 ⟨z, hC⟩
      simp only [factsD, List.getD_cons_zero, List.getD_cons_succ, Fact.eq, Fact.row, Fact.lit, Fact.lit0, Fact.of, and_true, Fact.rows, Fact.stk] at hF
      simp only [putsD, Act.put, List.setIfInBounds_toArray, List.set_cons_zero, List.set_cons_succ]
      simp only [hF]
      go_wp2
      exact ⟨rfl, rfl, .inr (Below.refl _ _), .inr (.inl (by simp))⟩
    · intro vals z hC hF
      have hC := hC.resolve_left (by simp)
      have hsz := hC.size
      have e1 : z.cell? _ = _ := q0 ⟨z, hC⟩
      have e2 : z.cell? _ = _ := q1 ⟨z, hC⟩
      have e3 : z.cell? _ = _ := q2 ⟨z, hC⟩
      have e4 : z.cell? _ = _ := q3 ⟨z, hC⟩
      have e5 : z.cell? _ = _ := q4 ⟨z, hC⟩
      simp only [putsD, Act.put, List.setIfInBounds_toArray, List.set_cons_zero, List.set_cons_succ]
      go_wp2
      exact ⟨rfl, rfl, .inr (Below.refl _ _), .inr (.inl (by simp))⟩
    · intro vals z hC hF
      have hC := hC.resolve_left (by simp)
      have hsz := hC.size
      simp only [factsD, List.getD_cons_zero, List.getD_cons_succ, Fact.eq, Fact.row, Fact.lit, Fact.lit0, Fact.of, and_true, Fact.rows, Fact.stk] at hF
      simp only [putsD, Act.put, List.setIfInBounds_toArray, List.set_cons_zero, List.set_cons_succ]
      simp only [hF]
      go_wp2
      exact ⟨rfl, ⟨_, rfl, by simp, _, heap_alloc_new _ _⟩, .inr ((Below.refl _ _).alloc (Nat.le_refl _) _), .inr (.inl (by simp))⟩
    · intro vals z hC hF
      have hC := hC.resolve_left (by simp)
      have hsz := hC.size
      simp only [factsD, List.getD_cons_zero, List.getD_cons_succ, Fact.eq, Fact.row, Fact.lit, Fact.lit0, Fact.of, and_true, Fact.rows, Fact.stk] at hF
      obtain ⟨e5, b5, e7, hlt5, fr5, hb5⟩ := hF
      have HS9 := HST.out.up hC
      simp only [putsD, Act.put, List.setIfInBounds_toArray, List.set_cons_zero, List.set_cons_succ]
      simp only [e5, e7]
      refine wpList_append_rowsS (L := Lay.term) (Q := fun _ b => b < lo) (G := fun b => b < lo) (ys := ys) (zs := [t]) (by rfl) (.tmp 20) (.tmp 22) (by rfl) Tryz.underlying24 HI.out.1 HI.out.2.1 HI.out.2.2.1 HI.out.2.2.2 rfl (by show 0 < 5; omega) (by rfl) (by rfl) HS9.ts (stay_lt lo) (term_src hb5) (by intro u hu; simp at hu; rcases hu with rfl | rfl | rfl | rfl | rfl <;> rfl) ?_ (fun e => by cases e) (fun b hb => ⟨Nat.lt_of_lt_of_le hb (Nat.le_trans hloW hsz), fun e => by have := (HS9.ts.lt b e).1; omega, hb⟩) (by omega) (by show 1 ≤ 2000000; omega) (by omega) (Nat.le_trans hloW hsz) HY.out ?_
      · intro i x hx
        rcases i with _ | i
        · simp at hx; subst hx; exact ⟨_, TermR.of hc0 (HK.out.keep fun b hb => hC.block b (Nat.lt_of_lt_of_le hb hloW)), fun j u hu => by rw [Nat.zero_mul, Nat.zero_add]; exact hu⟩
        · simp at hx
      intro A9 c9 w9 hown9 hg9 hbk9
      exact ⟨rfl, ⟨A9, c9, rfl, hown9, below_grown hC hg9⟩, .inl (by simp), .inl (by simp)⟩
    · intro vals z hC hF
      simp only [factsD, List.getD_cons_zero, List.getD_cons_succ, Fact.eq, Fact.row, Fact.lit, Fact.lit0, Fact.of, and_true, Fact.rows, Fact.stk] at hF
      simp only [putsD, Act.put, List.setIfInBounds_toArray, List.set_cons_zero, List.set_cons_succ]
      simp only [hF]
      go_wp2
      exact ⟨rfl, rfl, .inr (Below.refl _ _), .inr (.inl (by simp))⟩
    · intro vals z hC hF
      simp only [factsD, List.getD_cons_zero, List.getD_cons_succ, Fact.eq, Fact.row, Fact.lit, Fact.lit0, Fact.of, and_true, Fact.rows, Fact.stk] at hF
      simp only [putsD, Act.put, List.setIfInBounds_toArray, List.set_cons_zero, List.set_cons_succ]
      simp only [hF]
      go_wp2
      exact ⟨rfl, rfl, .inr (Below.refl _ _), .inr (.inl (by simp))⟩
    · intro vals z hC hF
      simp only [factsD, List.getD_cons_zero, List.getD_cons_succ, Fact.eq, Fact.row, Fact.lit, Fact.lit0, Fact.of, and_true, Fact.rows, Fact.stk] at hF
      obtain ⟨e11, A9, c9, e8, hown9, hg9⟩ := hF
      have hpx := (hg9.block p HST.out.lt (fun e => HST.out.ts.ne2 HST.out.box neST e.symm)).trans HST.out.box
      have x1 := (cell_of_block hpx 1).1
      have x2 := (cell_of_block hpx 1).2
      have HSM := Lib.hid (HST.out.setT hg9 hown9)
      have HBL := Lib.hid (below_grow_set (p := p) (o := 1) (u := .slice A9 ys.length c9) (Below.refl lo W) hg9 hloW (fun b hb => (HST.out.ts.lt b hb).1) HST.out.lop)
      simp only [putsD, Act.put, List.setIfInBounds_toArray, List.set_cons_zero, List.set_cons_succ]
      simp only [e11, e8]
      go_wp2
      exact ⟨rfl, ⟨⟨_, _, _, _, _, _, HSM.out⟩, HBL.out, by rw [size_setCell]; exact Nat.le_trans hloW hg9.size⟩, .inl (by simp), .inl (by simp)⟩
    · intro vals z hF
      simp only [facts, List.getD_cons_zero, List.getD_cons_succ, Fact.eq, Fact.row, Fact.lit, Fact.lit0, Fact.of, and_true, Fact.rows, Fact.stk] at hF
      obtain ⟨hS9, hB9, _⟩ := hF
      have hB9 := HWB.out.trans hB9
      simp only [putsD, Act.put, List.setIfInBounds_toArray, List.set_cons_zero, List.set_cons_succ]
      clear d1 q0 q1 q2 q3 q4
      obtain ⟨B1, B2, B3, b1, b2, b3, hS⟩ := hS9
      have hml : ms.length = mx.length + 1 := by rw [HMS.out]; simp
      obtain ⟨g, rfl⟩ := hS.ms.first (by omega)
      have HL := Lib.hid (last_any lo p g mx.length ds ys ms B1 B2 b1 b2 b3 z hS hml hmx)
      have HSS := Lib.hid hS
      have HBB := Lib.hid hB9
      have HML := Lib.hid hml
      clear hS hB9 hml
      go_wp2_with fail
      refine HL.out.mono ?_
      rintro e w2 ⟨rfl, hb2⟩
      have hS2 := HSS.out.up hb2
      obtain ⟨m1, m2, mf⟩ := hS2.ms.atMark (k := mx.length) (by rw [HML.out]; omega)
      have hat : ms[mx.length]'(by rw [HML.out]; omega) = (a, b) := by simp only [HMS.out]; exact last_at mx (a, b) _
      rw [hat] at m1 m2
      dsimp only at m1 m2
      have f9 := mf (mx.length * 2 + 1)
      have HPM := Lib.hid (hS2.putM (k := mx.length) (j := 1) (m := (a, b + 1)) (v := b + 1) (by rw [HML.out]; omega) (by omega) (by rw [hat]; rfl))
      have HBN := Lib.hid (below_set9 (p := ⟨g, mx.length * 2 + 1, none⟩) (HBB.out.trans (hb2.mono HSS.out.loW)) (hS2.ms.lt g rfl).1 (.int .i64 (b + 1)))
      clear hat mf hS2 hb2
      go_wp2
      go_returns
      refine ⟨rfl, ?_, HBN.out⟩
      have hE := HPM.out
      rw [show ms.set mx.length (a, b + 1) = mx ++ [(a, b + 1)] from by rw [HMS.out]; exact last_set mx _ _] at hE
      exact ⟨_, _, _, _, _, _, hE⟩
  · have HST := Lib.hid (HST0.out.up HALT.out)
    have hbt := (HALT.out.block _ (lt_of_block HBT0.out)).trans HBT0.out
    have HK : Hid (Lay.term.Sl (w.alloc (.cells #[.bool true] 4)).drew (fun b => b < lo) A0 t.kids) := Lib.hid (HK0.out.keep fun b hb => HALT.out.block b (Nat.lt_of_lt_of_le hb hloW0))
    have HWB := Lib.hid (HALT.out.mono hloW0)
    generalize (w.alloc (.cells #[.bool true] 4)).drew = W at *
    have v1 := (cell_of_block HST.out.box 1).1
    have hloW := HST.out.loW
    have HBT := Lib.hid hbt
    clear hbt
    have halz : Below W.heap.size W (W.alloc (.cells #[.int .i64 0, .int .i64 0, .int .i64 0, .string ⟨#[]⟩, .slice none 0 0] 48)) := (Below.refl _ _).alloc (Nat.le_refl _) _
    have hnz := heap_alloc_new W (.cells #[.int .i64 0, .int .i64 0, .int .i64 0, .string ⟨#[]⟩, .slice none 0 0] 48)
    have HS9 := Lib.hid (HST.out.up halz)
    have hloZ := HS9.out.loW
    have hsz9 := halz.size
    have hz1 : ([tZero] : List T).length ≤ 2000000 := by simp
    have hsrc : Src (W.alloc (.cells #[.int .i64 0, .int .i64 0, .int .i64 0, .string ⟨#[]⟩, .slice none 0 0] 48)) Lay.term.size (some ⟨W.heap.size, 0, none⟩) [tZero].length [.int .i64 0, .int .i64 0, .int .i64 0, .string ⟨#[]⟩, .slice none 0 0] := src_block hnz rfl
    have HSRC := Lib.hid hsrc
    have HAZ := Lib.hid halz
    clear hnz hsrc halz
    have HNZ : Hid (∀ i x, ([tZero] : List T)[i]? = some x → ∃ vs, Lay.term.R (W.alloc (.cells #[.int .i64 0, .int .i64 0, .int .i64 0, .string ⟨#[]⟩, .slice none 0 0] 48)) (fun _ => False) x vs ∧ ∀ j u, vs[j]? = some u → ([.int .i64 0, .int .i64 0, .int .i64 0, .string ⟨#[]⟩, .slice none 0 0] : List Value)[i * Lay.term.size + j]? = some u) := Lib.hid (fun i x hx => by
      rcases i with _ | i
      · simp at hx; subst hx; exact ⟨_, TermR.of (t := tZero) (A := none) (c := 0) (Nat.le_refl _) (Lay.Sl.nil _ _ _ _), fun j u hu => by rw [Nat.zero_mul, Nat.zero_add]; exact hu⟩
      · simp at hx)
    have HONE : Hid (∀ u ∈ ([.int .i64 0, .int .i64 0, .int .i64 0, .string ⟨#[]⟩, .slice none 0 0] : List Value), u.oneCell' = true) := Lib.hid (by intro u hu; simp at hu; rcases hu with rfl | rfl | rfl | rfl | rfl <;> rfl)
    obtain ⟨zs, hzs⟩ : ∃ zs, zs = ts ++ [tZero] := ⟨_, rfl⟩
    have HZS := Lib.hid hzs
    have HZL : Hid (zs.length = ts.length + 1) := Lib.hid (by rw [hzs]; simp)
    have HPL : Hid (∀ (B : Option Addr) (c9 : Nat) (w9 : World), OwnR Lay.term 48 w9 lo (.slice B zs.length c9) zs → (W.alloc (.cells #[.int .i64 0, .int .i64 0, .int .i64 0, .string ⟨#[]⟩, .slice none 0 0] 48)).grownBy w9 (Value.slice A2 ts.length c2).ownBlock →
        ∃ g9, B = some ⟨g9, 0, none⟩ ∧ w9.cell? ⟨p, 1, none⟩ = some (.slice A2 ts.length c2) ∧ w9.frozen? ⟨p, 1, none⟩ = false ∧ Stk lo (w9.setCell ⟨p, 1, none⟩ (.slice (some ⟨g9, 0, none⟩) (ts.length + 1) c9)) p ds zs ms A1 (some ⟨g9, 0, none⟩) A3 c1 c9 c3 ∧
          Below lo w (w9.setCell ⟨p, 1, none⟩ (.slice (some ⟨g9, 0, none⟩) (ts.length + 1) c9)) ∧ (w9.setCell ⟨p, 1, none⟩ (.slice (some ⟨g9, 0, none⟩) (ts.length + 1) c9)).heap[bt]? = some (.cells #[.int .i64 t.op, .int .i64 t.a, .int .i64 t.b, .string t.name, .slice A0 t.kids.length c0] 48 (0, 0)) ∧
          Lay.term.Sl (w9.setCell ⟨p, 1, none⟩ (.slice (some ⟨g9, 0, none⟩) (ts.length + 1) c9)) (fun b => b < lo) A0 t.kids) := Lib.hid (fun B c9 w9 hown hg9 => by
      have hzl := HZL.out
      obtain ⟨g9, rfl⟩ := OwnL.first hown (by omega)
      have hpx := (hg9.block p HS9.out.lt (fun e => HS9.out.ts.ne2 HS9.out.box neST e.symm)).trans HS9.out.box
      have hsm := HS9.out.setT hg9 hown
      rw [hzl] at hsm
      refine ⟨g9, rfl, (cell_of_block hpx 1).1, (cell_of_block hpx 1).2, hsm, below_grow_set (p := p) (o := 1) (HWB.out.trans (HAZ.out.mono hloW)) hg9 hloZ (fun b hb => (HS9.out.ts.lt b hb).1) HS9.out.lop, ?_, ?_⟩
      · exact ((Below.heap_setCell w9 ⟨p, 1, none⟩ _ bt (fun e => by have := HST.out.lop; have e : bt = p := e; omega)).trans ((hg9.block bt (Nat.lt_of_lt_of_le (lt_of_block HBT.out) hsz9) (fun e => by have := (HS9.out.ts.lt bt e.symm).1; omega)).trans (HAZ.out.block bt (lt_of_block HBT.out)))).trans HBT.out
      · exact HK.out.keep fun b hb => (Below.heap_setCell w9 ⟨p, 1, none⟩ _ b (fun e => by have := HST.out.lop; have e : b = p := e; omega)).trans ((hg9.block b (by omega) (fun e => by have := (HS9.out.ts.lt b e.symm).1; omega)).trans (HAZ.out.block b (by omega))))
    have HPT : Hid (∀ (g9 c9 : Nat) (W9 : World), Stk lo W9 p ds zs ms A1 (some ⟨g9, 0, none⟩) A3 c1 c9 c3 → Lay.term.Sl W9 (fun b => b < lo) A0 t.kids → lo ≤ g9 ∧ (∃ u0 u1 u2 u3 u4, W9.cell? ⟨g9, ts.length * 5, none⟩ = some u0 ∧ W9.cell? ⟨g9, ts.length * 5 + 1, none⟩ = some u1 ∧ W9.cell? ⟨g9, ts.length * 5 + 2, none⟩ = some u2 ∧ W9.cell? ⟨g9, ts.length * 5 + 3, none⟩ = some u3 ∧ W9.cell? ⟨g9, ts.length * 5 + 4, none⟩ = some u4) ∧ (∀ o, W9.frozen? ⟨g9, o, none⟩ = false) ∧
        StkE lo (((((W9.setCell ⟨g9, ts.length * 5, none⟩ (.int .i64 t.op)).setCell ⟨g9, ts.length * 5 + 1, none⟩ (.int .i64 t.a)).setCell ⟨g9, ts.length * 5 + 2, none⟩ (.int .i64 t.b)).setCell ⟨g9, ts.length * 5 + 3, none⟩ (.string t.name)).setCell ⟨g9, ts.length * 5 + 4, none⟩ (.slice A0 t.kids.length c0)) p ds ys ms) := Lib.hid (fun g9 c9 W9 hS hk => by
      have hlg := hS.ts.lt g9 rfl
      have ho := hS.ts
      obtain ⟨cs9, hgb⟩ := hS.ts.blk (b := g9) rfl
      rw [HZS.out] at ho
      have hpt := OwnR.putTerm ho hk hc0
      rw [← HY.out] at hpt
      obtain ⟨cs, h1, _⟩ := ho
      have hcl : cs.length = (ts ++ [tZero]).length * 5 := h1.1
      have hcl : cs.length = ts.length * 5 + 5 := by rw [hcl]; simp; omega
      have hl9 : (ts ++ [tZero]).length = ts.length + 1 := by simp
      have hcell : ∀ j, j < 5 → ∃ u, W9.cell? ⟨g9, ts.length * 5 + j, none⟩ = some u := fun j hj => by
        have := h1.cellAt (ts.length * 5 + j) (by show ts.length * 5 + j < (ts ++ [tZero]).length * 5; omega)
        rw [List.getElem?_eq_getElem (by omega)] at this
        exact ⟨_, this⟩
      obtain ⟨u0, k0⟩ := hcell 0 (by omega)
      obtain ⟨u1, k1⟩ := hcell 1 (by omega)
      obtain ⟨u2, k2⟩ := hcell 2 (by omega)
      obtain ⟨u3, k3⟩ := hcell 3 (by omega)
      obtain ⟨u4, k4⟩ := hcell 4 (by omega)
      refine ⟨hlg.1, ⟨u0, u1, u2, u3, u4, k0, k1, k2, k3, k4⟩, fun o => h1.frozenAt o, ?_⟩
      have hpg : p ≠ g9 := fun e => hS.ts.ne2 hS.box neST (by rw [e]; rfl)
      have hfar : ∀ b, b ≠ g9 → (((((W9.setCell ⟨g9, ts.length * 5, none⟩ (.int .i64 t.op)).setCell ⟨g9, ts.length * 5 + 1, none⟩ (.int .i64 t.a)).setCell ⟨g9, ts.length * 5 + 2, none⟩ (.int .i64 t.b)).setCell ⟨g9, ts.length * 5 + 3, none⟩ (.string t.name)).setCell ⟨g9, ts.length * 5 + 4, none⟩ (.slice A0 t.kids.length c0)).heap[b]? = W9.heap[b]? := fun b hb =>
        (Below.heap_setCell _ ⟨g9, _, none⟩ _ b hb).trans ((Below.heap_setCell _ ⟨g9, _, none⟩ _ b hb).trans ((Below.heap_setCell _ ⟨g9, _, none⟩ _ b hb).trans ((Below.heap_setCell _ ⟨g9, _, none⟩ _ b hb).trans (Below.heap_setCell _ ⟨g9, _, none⟩ _ b hb))))
      have hsz : W9.heap.size ≤ (((((W9.setCell ⟨g9, ts.length * 5, none⟩ (.int .i64 t.op)).setCell ⟨g9, ts.length * 5 + 1, none⟩ (.int .i64 t.a)).setCell ⟨g9, ts.length * 5 + 2, none⟩ (.int .i64 t.b)).setCell ⟨g9, ts.length * 5 + 3, none⟩ (.string t.name)).setCell ⟨g9, ts.length * 5 + 4, none⟩ (.slice A0 t.kids.length c0)).heap.size := by simp only [size_setCell]; exact Nat.le_refl _
      refine ⟨A1, some ⟨g9, 0, none⟩, A3, c1, c9, c3, hS.lop, ?_, hS.ds.keep hsz (fun b hb => hfar b (fun e => hS.ds.ne2 hgb neDT.symm (by rw [← e]; exact hb))) (fun b hb => hfar b (by omega)), hpt, hS.ms.keep hsz (fun b hb => hfar b (fun e => hS.ms.ne2 hgb neTM (by rw [← e]; exact hb))) (fun b hb => hfar b (by omega))⟩
      rw [hfar p hpg, hS.box, HZL.out, HY.out]
      simp)
    clear hzs
    go_wp2_with (at_builtin; refine wpList_append_rowsS (L := Lay.term) (Q := fun _ b => b < lo) (G := fun _ => False) (xs := ts) (ys := zs) (zs := [tZero]) (by rfl) (.tmp 8) (.tmp 10) (by rfl) Tryz.underlying24 HI.out.1 HI.out.2.1 HI.out.2.2.1 HI.out.2.2.2 rfl (by show 0 < 5; omega) (by rfl) (by rfl) HS9.out.ts (stay_lt lo) HSRC.out HONE.out HNZ.out (fun e => by cases e) (fun b hb => hb.elim) (by omega) hz1 (by omega) hloZ HZS.out ?_; intro A9 c9 w9 hown9 hg9 hbk9; obtain ⟨g9, e9, x1, x2, hs9, hb9, hbx9, hk9⟩ := HPL.out A9 c9 w9 hown9 hg9; subst e9; rw [HZL.out]; have HSM := Lib.hid hs9; have HBN := Lib.hid hb9; obtain ⟨hlg9, ⟨u0, u1, u2, u3, u4, y0, y1, y2, y3, y4⟩, hfz9, hse9⟩ := HPT.out g9 c9 _ hs9 hk9; have q0 := (cell_of_block hbx9 0).1; have q1 := (cell_of_block hbx9 1).1; have q2 := (cell_of_block hbx9 2).1; have q3 := (cell_of_block hbx9 3).1; have q4 := (cell_of_block hbx9 4).1; have f0 := hfz9 (ts.length * 5); have f1 := hfz9 (ts.length * 5 + 1); have f2 := hfz9 (ts.length * 5 + 2); have f3 := hfz9 (ts.length * 5 + 3); have f4 := hfz9 (ts.length * 5 + 4); have HSE := Lib.hid hse9; have HLG := Lib.hid hlg9; clear hown9 hg9 hbk9 hs9 hb9 hbx9 hk9 hfz9 hse9 hlg9)
    have hS9 := HSE.out
    have hB9 := below_set9 (p := ⟨g9, ts.length * 5 + 4, none⟩) (below_set9 (p := ⟨g9, ts.length * 5 + 3, none⟩) (below_set9 (p := ⟨g9, ts.length * 5 + 2, none⟩) (below_set9 (p := ⟨g9, ts.length * 5 + 1, none⟩) (below_set9 (p := ⟨g9, ts.length * 5, none⟩) HBN.out HLG.out (.int .i64 t.op)) HLG.out (.int .i64 t.a)) HLG.out (.int .i64 t.b)) HLG.out (.string t.name)) HLG.out (.slice A0 t.kids.length c0)
    clear x1 x2 y0 y1 y2 y3 y4 q0 q1 q2 q3 q4 f0 f1 f2 f3 f4 v1 HSE HSM HBN
    generalize (((((w9.setCell ⟨p, 1, none⟩ (.slice (some ⟨g9, 0, none⟩) (ts.length + 1) c9)).setCell ⟨g9, ts.length * 5, none⟩ (.int .i64 t.op)).setCell ⟨g9, ts.length * 5 + 1, none⟩ (.int .i64 t.a)).setCell ⟨g9, ts.length * 5 + 2, none⟩ (.int .i64 t.b)).setCell ⟨g9, ts.length * 5 + 3, none⟩ (.string t.name)).setCell ⟨g9, ts.length * 5 + 4, none⟩ (.slice A0 t.kids.length c0) = W10 at *
    obtain ⟨B1, B2, B3, b1, b2, b3, hS⟩ := hS9
    have hml : ms.length = mx.length + 1 := by rw [HMS.out]; simp
    obtain ⟨g, rfl⟩ := hS.ms.first (by omega)
    have HL := Lib.hid (last_any lo p g mx.length ds ys ms B1 B2 b1 b2 b3 W10 hS hml hmx)
    have HSS := Lib.hid hS
    have HBB := Lib.hid hB9
    have HML := Lib.hid hml
    clear hS hB9 hml
    refine HL.out.mono ?_
    rintro e w2 ⟨rfl, hb2⟩
    have hS2 := HSS.out.up hb2
    obtain ⟨m1, m2, mf⟩ := hS2.ms.atMark (k := mx.length) (by rw [HML.out]; omega)
    have hat : ms[mx.length]'(by rw [HML.out]; omega) = (a, b) := by simp only [HMS.out]; exact last_at mx (a, b) _
    rw [hat] at m1 m2
    dsimp only at m1 m2
    have f9 := mf (mx.length * 2 + 1)
    have HPM := Lib.hid (hS2.putM (k := mx.length) (j := 1) (m := (a, b + 1)) (v := b + 1) (by rw [HML.out]; omega) (by omega) (by rw [hat]; rfl))
    have HBN := Lib.hid (below_set9 (p := ⟨g, mx.length * 2 + 1, none⟩) (HBB.out.trans (hb2.mono HSS.out.loW)) (hS2.ms.lt g rfl).1 (.int .i64 (b + 1)))
    clear hat mf hS2 hb2
    go_wp2
    go_returns
    refine ⟨rfl, ?_, HBN.out⟩
    have hE := HPM.out
    rw [show ms.set mx.length (a, b + 1) = mx ++ [(a, b + 1)] from by rw [HMS.out]; exact last_set mx _ _] at hE
    exact ⟨_, _, _, _, _, _, hE⟩
end Go.Proofs.YtiahmfpfimmbgaaGreatDoor

/-! Layers as the answer of a law: rows in ranges of their own; marks. -/
namespace Go.Proofs.YtiahmfpfimmbgaaGreatDoor
open Go Go.RowKit Go.ChangeShapes Go.WideShapes Go.ChangeAt Go.Deep

/-- The layers lie at A, between lo and hi, each layer's rows in a range of its own; P of each. -/
def TrG (P : Nat → LyF) (lo hi : Nat) (w : World) (A : Option Addr) (ls : List Ly) : Prop :=
  hi ≤ w.heap.size ∧ (0 < ls.length → ∃ ad, A = some ad ∧ Cp lo hi w ad.block ∧ ∃ (S E : Nat → Nat) (Vd Vt : Nat → Value),
    (∀ k l, ls[k]? = some l → w.cell? (ad.add (k * 2)) = some (Vd k) ∧ w.cell? (ad.add (k * 2 + 1)) = some (Vt k) ∧ (lo ≤ S k ∧ S k ≤ E k ∧ E k ≤ hi) ∧ ¬ (S k ≤ ad.block ∧ ad.block < E k) ∧ P k w (S k) (E k) (Vd k) (Vt k) l) ∧
    ∀ i j, i < j → j < ls.length → E i ≤ S j)
abbrev TrY (lo hi : Nat) (w : World) (A : Option Addr) (ls : List Ly) : Prop := TrG (fun _ => PP) lo hi w A ls
theorem RowP.cp_of {lo c : Nat} {w : World} {A : Option Addr} {ls : List Ly} (h : RowP PP lo w (.slice A ls.length c) ls) : TrY lo w.heap.size w A ls := by
  obtain ⟨cs, h1, S, E, Vd, Vt, h2, h3⟩ := h
  refine ⟨Nat.le_refl _, fun h0 => ?_⟩
  have hcs : cs.length = ls.length * 2 := h1.1
  rcases h1.2 with ⟨e1, e2⟩ | ⟨g, cap, cur, e1, hlo, hg, hn, hm, hsz, htk⟩
  · omega
  · injection e1 with e1 e2 e3
    subst e1
    refine ⟨_, rfl, ⟨hlo, (Array.getElem?_eq_some_iff.1 hg).1, Nat.le_refl _, fun o => World.ownsRow.frozenAt (g := g) (cap := c) ⟨h1.1, h1.2⟩ o⟩, S, E, Vd, Vt, fun k l hl => ?_, h3⟩
    obtain ⟨g1, g2, g3, g6, g7⟩ := h2 k l hl
    have hc : ∀ j u, cs[j]? = some u → w.cell? ((⟨g, 0, none⟩ : Addr).add j) = some u := fun j u hu => by
      have hj : j < cs.length := (List.getElem?_eq_some_iff.1 hu).1
      have ea : (⟨g, 0, none⟩ : Addr).add j = ⟨g, j, none⟩ := by
        unfold Addr.add
        split
        · rename_i e; rw [e]
        · simp
      rw [ea, World.ownsRow.cellAt (g := g) (cap := c) ⟨h1.1, h1.2⟩ _ (by omega)]
      exact hu
    exact ⟨hc _ _ g1, hc _ _ g2, g3, g6 g rfl, g7⟩
section
variable {P : Nat → LyF} {lo hi : Nat} {w w' : World} {A : Option Addr} {ls : List Ly}
theorem TrG.stay (hP : ∀ k, StayP (P k)) (h : TrG P lo hi w A ls) (hs : w.heap.size ≤ w'.heap.size) (hb : ∀ b, lo ≤ b → b < hi → w'.heap[b]? = w.heap[b]?) : TrG P lo hi w' A ls := by
  obtain ⟨h0, h⟩ := h
  refine ⟨Nat.le_trans h0 hs, fun h9 => ?_⟩
  obtain ⟨ad, e, hf, S, E, Vd, Vt, h2, h3⟩ := h h9
  have hk := hb _ hf.1 hf.2.1
  refine ⟨ad, e, stay_cp hf hs hk, S, E, Vd, Vt, fun k l hl => ?_, h3⟩
  obtain ⟨g1, g2, ⟨g3, g4, g5⟩, g6, g7⟩ := h2 k l hl
  exact ⟨(World.cell?_of_block (w := w) (by rw [block_of_add]; exact hk)).trans g1, (World.cell?_of_block (w := w) (by rw [block_of_add]; exact hk)).trans g2, ⟨g3, g4, g5⟩, g6, hP k _ _ _ _ _ _ _ g7 hs fun b h8 h9 => hb b (by omega) (by omega)⟩
end
theorem PP.layer {w : World} {S E lo hi : Nat} {vd vt : Value} {l : Ly} (h : PP w S E vd vt l) (h1 : lo ≤ S) (h2 : E ≤ hi) (h3 : hi ≤ w.heap.size) : Lay.layer.R w (Cp lo hi w) l [vd, vt] := by
  obtain ⟨Fd, Ft, Ad, cd, At, ct, rfl, rfl, k1, k2, k3, k4, k5, k6, k7⟩ := h
  exact ⟨Ad, cd, At, ct, rfl, k1, k2, k6.mono fun b hb => ⟨by have := (k3 b hb).1; omega, by have := (k3 b hb).2.1; omega, h3, (k3 b hb).2.2.2⟩, (TrT.sl k7).mono fun b hb => ⟨by have := (k4 b hb).1; omega, by have := (k4 b hb).2.1; omega, h3, (k4 b hb).2.2.2⟩⟩
theorem sl_two {w : World} {F : Nat → Prop} {A : Option Addr} {ls : List Ly} (h : 0 < ls.length → ∃ ad, A = some ad ∧ F ad.block ∧ ∀ k l, ls[k]? = some l → ∃ vd vt, Lay.layer.R w F l [vd, vt] ∧ w.cell? (ad.add (k * 2)) = some vd ∧ w.cell? (ad.add (k * 2 + 1)) = some vt) : Lay.layer.Sl w F A ls := by
  intro h0
  obtain ⟨ad, e, hf, hc⟩ := h h0
  refine ⟨ad, e, hf, fun k l hl => ?_⟩
  obtain ⟨vd, vt, hr, c1, c2⟩ := hc k l hl
  refine ⟨_, hr, fun j u hu => ?_⟩
  match j, hu with
  | 0, hu => simp at hu; subst hu; exact c1
  | 1, hu => simp at hu; subst hu; exact c2
  | j + 2, hu => simp at hu
theorem TrG.sl {lo hi : Nat} {w : World} {A : Option Addr} {ls : List Ly} (h : TrY lo hi w A ls) : Lay.layer.Sl w (Cp lo hi w) A ls := sl_two fun h0 => by
  obtain ⟨ad, e, hf, S, E, Vd, Vt, h2, h3⟩ := h.2 h0
  refine ⟨ad, e, hf, fun k l hl => ?_⟩
  obtain ⟨g1, g2, ⟨g3, g4, g5⟩, g6, g7⟩ := h2 k l hl
  exact ⟨Vd k, Vt k, g7.layer g3 g5 h.1, g1, g2⟩
theorem TrG.cp_rd {lo hi : Nat} {w : World} {A : Option Addr} {ls : List Ly} (h : TrY lo hi w A ls) : Lay.layer.Rd w A ls := h.sl.mono fun _ h => h.lt
/-- Marked layers. -/
def upLs : List Ly → Int → List Ly
  | [], _ => []
  | l :: ls, k => ⟨upD l.ds.length k, upTL l.ts (k + 2 * (l.ds.length : Int))⟩ :: upLs ls (k + (2 * (l.ds.length : Int) + 4 * (T.sizeL l.ts : Int)))
theorem upLs_len : ∀ (ls : List Ly) (k : Int), (upLs ls k).length = ls.length
  | [], _ => rfl
  | l :: ls, k => by simp [upLs, upLs_len ls]
theorem upLs_get : ∀ (ls : List Ly) (k : Int) (i : Nat) (x : Ly), ls[i]? = some x → (upLs ls k)[i]? = some ⟨upD x.ds.length (k + (mwL (ls.take i) : Int)), upTL x.ts (k + (mwL (ls.take i) : Int) + 2 * (x.ds.length : Int))⟩
  | [], _, i, x, h => by simp at h
  | l :: ls, k, 0, x, h => by
    simp at h
    subst h
    simp [upLs, mwL]
  | l :: ls, k, i + 1, x, h => by
    have := upLs_get ls (k + (2 * (l.ds.length : Int) + 4 * (T.sizeL l.ts : Int))) i x (by simpa using h)
    simp only [upLs, List.getElem?_cons_succ, List.take_succ_cons, mwL]
    rw [this]
    have e : k + (2 * (l.ds.length : Int) + 4 * (T.sizeL l.ts : Int)) + (mwL (ls.take i) : Int) = k + ((2 * l.ds.length + 4 * T.sizeL l.ts + mwL (ls.take i) : Nat) : Int) := by push_cast; omega
    rw [e]
/-- A layer that is marked from K on. -/
def PM (K : Int) : LyF := fun w S E vd vt l => ∃ (Fd Ft : Nat → Prop) (Ad : Option Addr) (cd : Nat) (At : Option Addr) (ct : Nat), vd = .slice Ad l.ds.length cd ∧ vt = .slice At l.ts.length ct ∧ l.ds.length ≤ cd ∧ l.ts.length ≤ ct ∧ (∀ b, Fd b → Cp S E w b) ∧ (∀ b, Ft b → Cp S E w b) ∧ Lay.decl.Sl w Fd Ad (upD l.ds.length K) ∧ Lay.term.Sl w Ft At (upTL l.ts (K + 2 * (l.ds.length : Int)))
theorem stay_PM (K : Int) : StayP (PM K) := by
  rintro w w' S E vd vt l ⟨Fd, Ft, Ad, cd, At, ct, e1, e2, h1, h2, h3, h4, h6, h7⟩ hs hb
  have hk : ∀ b, Cp S E w b → w'.heap[b]? = w.heap[b]? := fun b h9 => hb b h9.1 h9.2.1
  exact ⟨Fd, Ft, Ad, cd, At, ct, e1, e2, h1, h2, fun b hb9 => stay_cp (h3 b hb9) hs (hk b (h3 b hb9)), fun b hb9 => stay_cp (h4 b hb9) hs (hk b (h4 b hb9)), h6.keep fun b hb9 => hk b (h3 b hb9), h7.keep fun b hb9 => hk b (h4 b hb9)⟩
theorem PM.layer {K : Int} {w : World} {S E lo hi : Nat} {vd vt : Value} {l : Ly} (h : PM K w S E vd vt l) (h1 : lo ≤ S) (h2 : E ≤ hi) (h3 : hi ≤ w.heap.size) : Lay.layer.R w (Cp lo hi w) ⟨upD l.ds.length K, upTL l.ts (K + 2 * (l.ds.length : Int))⟩ [vd, vt] := by
  obtain ⟨Fd, Ft, Ad, cd, At, ct, rfl, rfl, k1, k2, k3, k4, k6, k7⟩ := h
  refine ⟨Ad, cd, At, ct, ?_, ?_, ?_, k6.mono fun b hb => ⟨by have := (k3 b hb).1; omega, by have := (k3 b hb).2.1; omega, h3, (k3 b hb).2.2.2⟩, k7.mono fun b hb => ⟨by have := (k4 b hb).1; omega, by have := (k4 b hb).2.1; omega, h3, (k4 b hb).2.2.2⟩⟩
  · simp only [upD_len, upTL_len]
  · simp only [upD_len]; exact k1
  · simp only [upTL_len]; exact k2
/-- Marked as far as the layer j. -/
def PJ (k0 : Int) (ls : List Ly) (j k : Nat) : LyF := fun w S E vd vt l => (k < j → PM (k0 + (mwL (ls.take k) : Int)) w S E vd vt l) ∧ (j ≤ k → PP w S E vd vt l)
/-- One layer more is marked. -/
theorem TrG.next {k0 : Int} {ls : List Ly} {j lo hi : Nat} {w : World} {A : Option Addr} (h : TrG (PJ k0 ls j) lo hi w A ls) (hj : j < ls.length) :
    ∃ ad S E Fd Ft Ad cd At ct, A = some ad ∧ w.cell? (ad.add (j * 2)) = some (.slice Ad ls[j].ds.length cd) ∧ w.cell? (ad.add (j * 2 + 1)) = some (.slice At ls[j].ts.length ct) ∧ Lay.decl.Sl w Fd Ad ls[j].ds ∧ TrS w Ft At ls[j].ts ∧ (lo ≤ S ∧ E ≤ hi ∧ (∀ b, Fd b → Cp S E w b) ∧ (∀ b, Ft b → Cp S E w b) ∧ (∀ b, Fd b → ¬ Ft b)) ∧
      ∀ w', Dab (fun b => S ≤ b ∧ b < E) w w' → Lay.decl.Sl w' Fd Ad (upD ls[j].ds.length (k0 + (mwL (ls.take j) : Int))) → Lay.term.Sl w' Ft At (upTL ls[j].ts (k0 + (mwL (ls.take j) : Int) + 2 * (ls[j].ds.length : Int))) → TrG (PJ k0 ls (j + 1)) lo hi w' A ls := by
  obtain ⟨h0, h⟩ := h
  obtain ⟨ad, e, hf, S, E, Vd, Vt, h2, h3⟩ := h (by omega)
  obtain ⟨g1, g2, ⟨g3, g4, g5⟩, g6, ⟨_, g7⟩⟩ := h2 j _ (List.getElem?_eq_getElem hj)
  obtain ⟨Fd, Ft, Ad, cd, At, ct, e1, e2, k1, k2, k3, k4, k5, k6, k7⟩ := g7 (Nat.le_refl _)
  rw [e1] at g1
  rw [e2] at g2
  refine ⟨ad, S j, E j, Fd, Ft, Ad, cd, At, ct, e, g1, g2, k6, k7, ⟨g3, g5, k3, k4, k5⟩, fun w' hd hD hT => ⟨Nat.le_trans h0 hd.size, fun _ => ?_⟩⟩
  have hk := hd.block ad.block (by have := hf.2.1; omega) g6
  refine ⟨ad, e, stay_cp hf hd.size hk, S, E, Vd, Vt, fun k l hl => ?_, h3⟩
  obtain ⟨q1, q2, q3, q6, q7⟩ := h2 k l hl
  have hkl : k < ls.length := (List.getElem?_eq_some_iff.1 hl).1
  refine ⟨(World.cell?_of_block (w := w) (by rw [block_of_add]; exact hk)).trans q1, (World.cell?_of_block (w := w) (by rw [block_of_add]; exact hk)).trans q2, q3, q6, ?_⟩
  by_cases hkj : k = j
  · subst hkj
    rw [List.getElem?_eq_getElem hkl] at hl
    injection hl with hl
    subst hl
    exact ⟨fun _ => ⟨Fd, Ft, Ad, cd, At, ct, e1, e2, k1, k2, fun b hb => (k3 b hb).dab hd, fun b hb => (k4 b hb).dab hd, hD, hT⟩, fun h9 => absurd h9 (by omega)⟩
  · have hb : ∀ b, S k ≤ b → b < E k → w'.heap[b]? = w.heap[b]? := fun b h8 h9 => hd.block b (by have := q3.2.2; omega) (fun h10 => by
      rcases Nat.lt_or_gt_of_ne hkj with hlt | hlt
      · have := h3 k j hlt hj; omega
      · have := h3 j k hlt hkl; omega)
    exact ⟨fun h9 => stay_PM _ _ _ _ _ _ _ _ (q7.1 (by omega)) hd.size hb, fun h9 => stay_PP _ _ _ _ _ _ _ (q7.2 (by omega)) hd.size hb⟩
theorem TrG.marked {k0 : Int} {ls : List Ly} {lo hi : Nat} {w : World} {A : Option Addr} (h : TrG (PJ k0 ls ls.length) lo hi w A ls) : Lay.layer.Sl w (Cp lo hi w) A (upLs ls k0) := sl_two fun h0 => by
  rw [upLs_len] at h0
  obtain ⟨ad, e, hf, S, E, Vd, Vt, h2, h3⟩ := h.2 h0
  refine ⟨ad, e, hf, fun k l hl => ?_⟩
  have hk : k < ls.length := by have := (List.getElem?_eq_some_iff.1 hl).1; rwa [upLs_len] at this
  rw [upLs_get ls k0 k _ (List.getElem?_eq_getElem hk)] at hl
  injection hl with hl
  subst hl
  obtain ⟨g1, g2, ⟨g3, g4, g5⟩, g6, g7⟩ := h2 k _ (List.getElem?_eq_getElem hk)
  exact ⟨Vd k, Vt k, (g7.1 hk).layer g3 g5 h.1, g1, g2⟩
end Go.Proofs.YtiahmfpfimmbgaaGreatDoor

/-! The program's changed. -/
namespace Go.Proofs.YtiahmfpfimmbgaaGreatDoor
open Go Go.RowKit

/-- A stack of the context x; of no layers, whatever it holds. -/
def StkC (lo : Nat) (w : World) (p : Nat) (x : List Ly) : Prop := ∃ ds ts, StkE lo w p ds ts (msAll x) ∧ (x ≠ [] → ds = dsAll x ∧ ts = tsAll x)
theorem StkC.of {lo p : Nat} {w : World} {x : List Ly} (h : StkE lo w p (dsAll x) (tsAll x) (msAll x)) : StkC lo w p x := ⟨_, _, h, fun _ => ⟨rfl, rfl⟩⟩
theorem ctxOk_nil : ctxOk [] = false := ctxOk_short (by simp)
set_option maxRecDepth 100000 in
set_option maxHeartbeats 4000000 in
theorem stackOkC_any (lo p : Nat) (x : List Ly) (w : World) (h : StkC lo w p x) (hc : okC x) :
    Calls Tryz.prog 55 #[.pointer (some ⟨p, 0, none⟩)] w (RetB w (ctxOk x)) := by
  obtain ⟨ds, ts, hs, hx⟩ := h
  by_cases h0 : x = []
  · subst h0
    rw [ctxOk_nil]
    obtain ⟨A1, A2, A3, c1, c2, c3, hS⟩ := hs
    have v2 : w.cell? ⟨p, 2, none⟩ = some (.slice A3 0 c3) := (cell_of_block hS.box 2).1
    clear hS hx hc
    go_enter Tryz.func55, Tryz.ntmps55
    go_wp2
    go_ret
    exact ⟨rfl, Below.refl _ _⟩
  · obtain ⟨rfl, rfl⟩ := hx h0
    exact stackOk_any lo p x w hs hc
/-- What a change hands back: layers of the call's own. -/
def RetCh (r : List Ly × Bool) (w : World) (e : Ending) (w' : World) : Prop := ∃ A c, e = .returned (.tuple #[.slice A r.1.length c, .bool r.2]) ∧ r.1.length ≤ c ∧ RowP PP w.heap.size w' (.slice A r.1.length c) r.1 ∧ Below w.heap.size w w'
theorem RowP.cap9 {P : LyF} {lo c n : Nat} {w : World} {A : Option Addr} {ls : List Ly} (h : RowP P lo w (.slice A n c) ls) : ls.length ≤ c := by
  obtain ⟨A', c', e, hl⟩ := h.form
  injection e with e1 e2 e3
  omega
set_option maxRecDepth 100000 in
set_option maxHeartbeats 8000000 in
theorem changed_Push (A : Option Addr) (q : Nat) (c x : List Ly) (w : World) (h : Lay.layer.Rd w A c) (hc : okC c) (hx : ctxOk c = true → okC x)
    (hcl : ctxOk c = true → ∀ (z : World) (p : Nat), Below w.heap.size w z → StkE w.heap.size z p (dsAll c) (tsAll c) (msAll c) → Calls Tryz.prog 62 #[.pointer (some ⟨p, 0, none⟩)] z fun e w' => e = .returned (.tuple #[]) ∧ StkC w.heap.size w' p x ∧ Below w.heap.size z w') :
    Calls Tryz.prog 61 #[.slice A c.length q, .func (.func 62) #[] #[]] w (RetCh (ctxCh c x) w) := by
  have HF := Lib.hid (fun (z : World) (hz : Lay.layer.Rd z A c) => flat_any A q c z hz hc.len hc.ds hc.ts)
  have HC := Lib.hid hc
  have H := Lib.hid h
  have HXO := Lib.hid hx
  have HCL := Lib.hid hcl
  obtain ⟨r, hr⟩ : ∃ r, r = ctxOk c := ⟨_, rfl⟩
  have HR := Lib.hid hr
  obtain ⟨s, hs⟩ : ∃ s, s = ctxOk x := ⟨_, rfl⟩
  have HS9 := Lib.hid hs
  have HX : Hid (ctxCh c x = if r = true then (if s = true then (x, true) else (c, false)) else ([], false)) := Lib.hid (by rw [hr, hs]; rfl)
  have HFW := Lib.hid (HF.out w h)
  clear hr hs h hc hx hcl
  go_enter Tryz.func61, Tryz.ntmps61
  go_wp2_with fail
  refine HFW.out.mono ?_
  rintro e w1 ⟨rfl, hs, hb⟩
  have HO := Lib.hid (stackOk_any w.heap.size w.heap.size c w1 hs HC.out)
  rw [← HR.out] at HO
  have HS := Lib.hid hs
  have HB := Lib.hid hb
  clear hs hb HFW
  go_wp2_with fail
  refine HO.out.mono ?_
  rintro e w2 ⟨rfl, hb2⟩
  have HB2 := Lib.hid (bthen HB.out hb2)
  have HS2 := Lib.hid (HS.out.up hb2)
  clear hb2 HO HS
  simp only [Bool.not_true, Bool.not_false]
  cases r
  · go_wp2
    refine bodyPost_ret (v := .tuple #[.slice none 0 0, .bool false]) (by simp [results, Tryz.results61, go_sem]) rfl ?_
    rw [show ctxCh c x = ([], false) from by rw [HX.out]; rfl]
    exact ⟨none, 0, rfl, Nat.zero_le _, RowP.nil _ _ _, HB2.out⟩
  have HCC := Lib.hid (HCL.out HR.out.symm w2 w.heap.size HB2.out HS2.out)
  have HOX := Lib.hid (HXO.out HR.out.symm)
  clear HCL HXO
  go_wp2_with fail
  refine HCC.out.mono ?_
  rintro e w3 ⟨rfl, hs3, hb3⟩
  have HB3 := Lib.hid (HB2.out.trans hb3)
  have HO := Lib.hid (stackOkC_any w.heap.size w.heap.size x w3 hs3 HOX.out)
  rw [← HS9.out] at HO
  have HS := Lib.hid hs3
  clear hs3 hb3 HCC HS2 HB2
  go_wp2_with fail
  refine HO.out.mono ?_
  rintro e w4 ⟨rfl, hb4⟩
  have HB4 := Lib.hid (bthen HB3.out hb4)
  have HB34 := Lib.hid hb4
  clear hb4 HO
  cases s
  · have HFW := Lib.hid (HF.out w4 (H.out.up HB4.out))
    go_wp2_with fail
    refine HFW.out.mono ?_
    rintro e w5 ⟨rfl, hs5, hb5⟩
    have HL := Lib.hid (layers_any w4.heap.size w4.heap.size c w5 hs5 HC.out)
    have HB5 := Lib.hid (bthen HB4.out hb5)
    clear hs5 hb5 HFW
    go_wp2_with fail
    refine HL.out.mono ?_
    rintro e w6 ⟨A6, c6, rfl, hr6, hb6⟩
    have HR6 := Lib.hid hr6
    have HB6 := Lib.hid (bthen HB5.out hb6)
    clear hr6 hb6 HL
    go_wp2
    refine bodyPost_ret (v := .tuple #[.slice A6 c.length c6, .bool false]) (by simp [results, Tryz.results61, go_sem]) rfl ?_
    rw [show ctxCh c x = (c, false) from by rw [HX.out]; rfl]
    exact ⟨A6, c6, rfl, HR6.out.cap9, HR6.out.low HB5.out.size, HB6.out⟩
  · have hx0 : x ≠ [] := fun e => by
      have := HS9.out
      rw [e, ctxOk_nil] at this
      cases this
    obtain ⟨ds, ts, hs5, hx5⟩ := HS.out
    obtain ⟨rfl, rfl⟩ := hx5 hx0
    have HL := Lib.hid (layers_any w.heap.size w.heap.size x w4 (hs5.up HB34.out) HOX.out)
    clear hs5 hx5 hx0
    go_wp2_with fail
    refine HL.out.mono ?_
    rintro e w6 ⟨A6, c6, rfl, hr6, hb6⟩
    have HR6 := Lib.hid hr6
    have HB6 := Lib.hid (bthen HB4.out hb6)
    clear hr6 hb6 HL
    go_wp2
    refine bodyPost_ret (v := .tuple #[.slice A6 x.length c6, .bool true]) (by simp [results, Tryz.results61, go_sem]) rfl ?_
    rw [show ctxCh c x = (x, true) from by rw [HX.out]; rfl]
    exact ⟨A6, c6, rfl, HR6.out.cap9, HR6.out.low HB4.out.size, HB6.out⟩
set_option maxRecDepth 100000 in
set_option maxHeartbeats 8000000 in
theorem changed_Name (A : Option Addr) (q : Nat) (c x : List Ly) (bd : Nat) (w : World) (h : Lay.layer.Rd w A c) (hc : okC c) (hx : ctxOk c = true → okC x)
    (hcl : ctxOk c = true → ∀ (z : World) (p : Nat), Below w.heap.size w z → StkE w.heap.size z p (dsAll c) (tsAll c) (msAll c) → Calls Tryz.prog 64 #[.pointer (some ⟨p, 0, none⟩), .pointer (some ⟨bd, 0, none⟩)] z fun e w' => e = .returned (.tuple #[]) ∧ StkC w.heap.size w' p x ∧ Below w.heap.size z w') :
    Calls Tryz.prog 61 #[.slice A c.length q, .func (.func 64) #[] #[.pointer (some ⟨bd, 0, none⟩)]] w (RetCh (ctxCh c x) w) := by
  have HF := Lib.hid (fun (z : World) (hz : Lay.layer.Rd z A c) => flat_any A q c z hz hc.len hc.ds hc.ts)
  have HC := Lib.hid hc
  have H := Lib.hid h
  have HXO := Lib.hid hx
  have HCL := Lib.hid hcl
  obtain ⟨r, hr⟩ : ∃ r, r = ctxOk c := ⟨_, rfl⟩
  have HR := Lib.hid hr
  obtain ⟨s, hs⟩ : ∃ s, s = ctxOk x := ⟨_, rfl⟩
  have HS9 := Lib.hid hs
  have HX : Hid (ctxCh c x = if r = true then (if s = true then (x, true) else (c, false)) else ([], false)) := Lib.hid (by rw [hr, hs]; rfl)
  have HFW := Lib.hid (HF.out w h)
  clear hr hs h hc hx hcl
  go_enter Tryz.func61, Tryz.ntmps61
  go_wp2_with fail
  refine HFW.out.mono ?_
  rintro e w1 ⟨rfl, hs, hb⟩
  have HO := Lib.hid (stackOk_any w.heap.size w.heap.size c w1 hs HC.out)
  rw [← HR.out] at HO
  have HS := Lib.hid hs
  have HB := Lib.hid hb
  clear hs hb HFW
  go_wp2_with fail
  refine HO.out.mono ?_
  rintro e w2 ⟨rfl, hb2⟩
  have HB2 := Lib.hid (bthen HB.out hb2)
  have HS2 := Lib.hid (HS.out.up hb2)
  clear hb2 HO HS
  simp only [Bool.not_true, Bool.not_false]
  cases r
  · go_wp2
    refine bodyPost_ret (v := .tuple #[.slice none 0 0, .bool false]) (by simp [results, Tryz.results61, go_sem]) rfl ?_
    rw [show ctxCh c x = ([], false) from by rw [HX.out]; rfl]
    exact ⟨none, 0, rfl, Nat.zero_le _, RowP.nil _ _ _, HB2.out⟩
  have HCC := Lib.hid (HCL.out HR.out.symm w2 w.heap.size HB2.out HS2.out)
  have HOX := Lib.hid (HXO.out HR.out.symm)
  clear HCL HXO
  go_wp2_with fail
  refine HCC.out.mono ?_
  rintro e w3 ⟨rfl, hs3, hb3⟩
  have HB3 := Lib.hid (HB2.out.trans hb3)
  have HO := Lib.hid (stackOkC_any w.heap.size w.heap.size x w3 hs3 HOX.out)
  rw [← HS9.out] at HO
  have HS := Lib.hid hs3
  clear hs3 hb3 HCC HS2 HB2
  go_wp2_with fail
  refine HO.out.mono ?_
  rintro e w4 ⟨rfl, hb4⟩
  have HB4 := Lib.hid (bthen HB3.out hb4)
  have HB34 := Lib.hid hb4
  clear hb4 HO
  cases s
  · have HFW := Lib.hid (HF.out w4 (H.out.up HB4.out))
    go_wp2_with fail
    refine HFW.out.mono ?_
    rintro e w5 ⟨rfl, hs5, hb5⟩
    have HL := Lib.hid (layers_any w4.heap.size w4.heap.size c w5 hs5 HC.out)
    have HB5 := Lib.hid (bthen HB4.out hb5)
    clear hs5 hb5 HFW
    go_wp2_with fail
    refine HL.out.mono ?_
    rintro e w6 ⟨A6, c6, rfl, hr6, hb6⟩
    have HR6 := Lib.hid hr6
    have HB6 := Lib.hid (bthen HB5.out hb6)
    clear hr6 hb6 HL
    go_wp2
    refine bodyPost_ret (v := .tuple #[.slice A6 c.length c6, .bool false]) (by simp [results, Tryz.results61, go_sem]) rfl ?_
    rw [show ctxCh c x = (c, false) from by rw [HX.out]; rfl]
    exact ⟨A6, c6, rfl, HR6.out.cap9, HR6.out.low HB5.out.size, HB6.out⟩
  · have hx0 : x ≠ [] := fun e => by
      have := HS9.out
      rw [e, ctxOk_nil] at this
      cases this
    obtain ⟨ds, ts, hs5, hx5⟩ := HS.out
    obtain ⟨rfl, rfl⟩ := hx5 hx0
    have HL := Lib.hid (layers_any w.heap.size w.heap.size x w4 (hs5.up HB34.out) HOX.out)
    clear hs5 hx5 hx0
    go_wp2_with fail
    refine HL.out.mono ?_
    rintro e w6 ⟨A6, c6, rfl, hr6, hb6⟩
    have HR6 := Lib.hid hr6
    have HB6 := Lib.hid (bthen HB4.out hb6)
    clear hr6 hb6 HL
    go_wp2
    refine bodyPost_ret (v := .tuple #[.slice A6 x.length c6, .bool true]) (by simp [results, Tryz.results61, go_sem]) rfl ?_
    rw [show ctxCh c x = (x, true) from by rw [HX.out]; rfl]
    exact ⟨A6, c6, rfl, HR6.out.cap9, HR6.out.low HB4.out.size, HB6.out⟩
set_option maxRecDepth 100000 in
set_option maxHeartbeats 8000000 in
theorem changed_Assert (A : Option Addr) (q : Nat) (c x : List Ly) (bd : Nat) (w : World) (h : Lay.layer.Rd w A c) (hc : okC c) (hx : ctxOk c = true → okC x)
    (hcl : ctxOk c = true → ∀ (z : World) (p : Nat), Below w.heap.size w z → StkE w.heap.size z p (dsAll c) (tsAll c) (msAll c) → Calls Tryz.prog 72 #[.pointer (some ⟨p, 0, none⟩), .pointer (some ⟨bd, 0, none⟩)] z fun e w' => e = .returned (.tuple #[]) ∧ StkC w.heap.size w' p x ∧ Below w.heap.size z w') :
    Calls Tryz.prog 61 #[.slice A c.length q, .func (.func 72) #[] #[.pointer (some ⟨bd, 0, none⟩)]] w (RetCh (ctxCh c x) w) := by
  have HF := Lib.hid (fun (z : World) (hz : Lay.layer.Rd z A c) => flat_any A q c z hz hc.len hc.ds hc.ts)
  have HC := Lib.hid hc
  have H := Lib.hid h
  have HXO := Lib.hid hx
  have HCL := Lib.hid hcl
  obtain ⟨r, hr⟩ : ∃ r, r = ctxOk c := ⟨_, rfl⟩
  have HR := Lib.hid hr
  obtain ⟨s, hs⟩ : ∃ s, s = ctxOk x := ⟨_, rfl⟩
  have HS9 := Lib.hid hs
  have HX : Hid (ctxCh c x = if r = true then (if s = true then (x, true) else (c, false)) else ([], false)) := Lib.hid (by rw [hr, hs]; rfl)
  have HFW := Lib.hid (HF.out w h)
  clear hr hs h hc hx hcl
  go_enter Tryz.func61, Tryz.ntmps61
  go_wp2_with fail
  refine HFW.out.mono ?_
  rintro e w1 ⟨rfl, hs, hb⟩
  have HO := Lib.hid (stackOk_any w.heap.size w.heap.size c w1 hs HC.out)
  rw [← HR.out] at HO
  have HS := Lib.hid hs
  have HB := Lib.hid hb
  clear hs hb HFW
  go_wp2_with fail
  refine HO.out.mono ?_
  rintro e w2 ⟨rfl, hb2⟩
  have HB2 := Lib.hid (bthen HB.out hb2)
  have HS2 := Lib.hid (HS.out.up hb2)
  clear hb2 HO HS
  simp only [Bool.not_true, Bool.not_false]
  cases r
  · go_wp2
    refine bodyPost_ret (v := .tuple #[.slice none 0 0, .bool false]) (by simp [results, Tryz.results61, go_sem]) rfl ?_
    rw [show ctxCh c x = ([], false) from by rw [HX.out]; rfl]
    exact ⟨none, 0, rfl, Nat.zero_le _, RowP.nil _ _ _, HB2.out⟩
  have HCC := Lib.hid (HCL.out HR.out.symm w2 w.heap.size HB2.out HS2.out)
  have HOX := Lib.hid (HXO.out HR.out.symm)
  clear HCL HXO
  go_wp2_with fail
  refine HCC.out.mono ?_
  rintro e w3 ⟨rfl, hs3, hb3⟩
  have HB3 := Lib.hid (HB2.out.trans hb3)
  have HO := Lib.hid (stackOkC_any w.heap.size w.heap.size x w3 hs3 HOX.out)
  rw [← HS9.out] at HO
  have HS := Lib.hid hs3
  clear hs3 hb3 HCC HS2 HB2
  go_wp2_with fail
  refine HO.out.mono ?_
  rintro e w4 ⟨rfl, hb4⟩
  have HB4 := Lib.hid (bthen HB3.out hb4)
  have HB34 := Lib.hid hb4
  clear hb4 HO
  cases s
  · have HFW := Lib.hid (HF.out w4 (H.out.up HB4.out))
    go_wp2_with fail
    refine HFW.out.mono ?_
    rintro e w5 ⟨rfl, hs5, hb5⟩
    have HL := Lib.hid (layers_any w4.heap.size w4.heap.size c w5 hs5 HC.out)
    have HB5 := Lib.hid (bthen HB4.out hb5)
    clear hs5 hb5 HFW
    go_wp2_with fail
    refine HL.out.mono ?_
    rintro e w6 ⟨A6, c6, rfl, hr6, hb6⟩
    have HR6 := Lib.hid hr6
    have HB6 := Lib.hid (bthen HB5.out hb6)
    clear hr6 hb6 HL
    go_wp2
    refine bodyPost_ret (v := .tuple #[.slice A6 c.length c6, .bool false]) (by simp [results, Tryz.results61, go_sem]) rfl ?_
    rw [show ctxCh c x = (c, false) from by rw [HX.out]; rfl]
    exact ⟨A6, c6, rfl, HR6.out.cap9, HR6.out.low HB5.out.size, HB6.out⟩
  · have hx0 : x ≠ [] := fun e => by
      have := HS9.out
      rw [e, ctxOk_nil] at this
      cases this
    obtain ⟨ds, ts, hs5, hx5⟩ := HS.out
    obtain ⟨rfl, rfl⟩ := hx5 hx0
    have HL := Lib.hid (layers_any w.heap.size w.heap.size x w4 (hs5.up HB34.out) HOX.out)
    clear hs5 hx5 hx0
    go_wp2_with fail
    refine HL.out.mono ?_
    rintro e w6 ⟨A6, c6, rfl, hr6, hb6⟩
    have HR6 := Lib.hid hr6
    have HB6 := Lib.hid (bthen HB4.out hb6)
    clear hr6 hb6 HL
    go_wp2
    refine bodyPost_ret (v := .tuple #[.slice A6 x.length c6, .bool true]) (by simp [results, Tryz.results61, go_sem]) rfl ?_
    rw [show ctxCh c x = (x, true) from by rw [HX.out]; rfl]
    exact ⟨A6, c6, rfl, HR6.out.cap9, HR6.out.low HB4.out.size, HB6.out⟩
set_option maxRecDepth 100000 in
set_option maxHeartbeats 8000000 in
theorem changed_Pop (A : Option Addr) (q : Nat) (c x : List Ly) (w : World) (h : Lay.layer.Rd w A c) (hc : okC c) (hx : ctxOk c = true → okC x)
    (hcl : ctxOk c = true → ∀ (z : World) (p : Nat), Below w.heap.size w z → StkE w.heap.size z p (dsAll c) (tsAll c) (msAll c) → Calls Tryz.prog 66 #[.pointer (some ⟨p, 0, none⟩)] z fun e w' => e = .returned (.tuple #[]) ∧ StkC w.heap.size w' p x ∧ Below w.heap.size z w') :
    Calls Tryz.prog 61 #[.slice A c.length q, .func (.func 66) #[] #[]] w (RetCh (ctxCh c x) w) := by
  have HF := Lib.hid (fun (z : World) (hz : Lay.layer.Rd z A c) => flat_any A q c z hz hc.len hc.ds hc.ts)
  have HC := Lib.hid hc
  have H := Lib.hid h
  have HXO := Lib.hid hx
  have HCL := Lib.hid hcl
  obtain ⟨r, hr⟩ : ∃ r, r = ctxOk c := ⟨_, rfl⟩
  have HR := Lib.hid hr
  obtain ⟨s, hs⟩ : ∃ s, s = ctxOk x := ⟨_, rfl⟩
  have HS9 := Lib.hid hs
  have HX : Hid (ctxCh c x = if r = true then (if s = true then (x, true) else (c, false)) else ([], false)) := Lib.hid (by rw [hr, hs]; rfl)
  have HFW := Lib.hid (HF.out w h)
  clear hr hs h hc hx hcl
  go_enter Tryz.func61, Tryz.ntmps61
  go_wp2_with fail
  refine HFW.out.mono ?_
  rintro e w1 ⟨rfl, hs, hb⟩
  have HO := Lib.hid (stackOk_any w.heap.size w.heap.size c w1 hs HC.out)
  rw [← HR.out] at HO
  have HS := Lib.hid hs
  have HB := Lib.hid hb
  clear hs hb HFW
  go_wp2_with fail
  refine HO.out.mono ?_
  rintro e w2 ⟨rfl, hb2⟩
  have HB2 := Lib.hid (bthen HB.out hb2)
  have HS2 := Lib.hid (HS.out.up hb2)
  clear hb2 HO HS
  simp only [Bool.not_true, Bool.not_false]
  cases r
  · go_wp2
    refine bodyPost_ret (v := .tuple #[.slice none 0 0, .bool false]) (by simp [results, Tryz.results61, go_sem]) rfl ?_
    rw [show ctxCh c x = ([], false) from by rw [HX.out]; rfl]
    exact ⟨none, 0, rfl, Nat.zero_le _, RowP.nil _ _ _, HB2.out⟩
  have HCC := Lib.hid (HCL.out HR.out.symm w2 w.heap.size HB2.out HS2.out)
  have HOX := Lib.hid (HXO.out HR.out.symm)
  clear HCL HXO
  go_wp2_with fail
  refine HCC.out.mono ?_
  rintro e w3 ⟨rfl, hs3, hb3⟩
  have HB3 := Lib.hid (HB2.out.trans hb3)
  have HO := Lib.hid (stackOkC_any w.heap.size w.heap.size x w3 hs3 HOX.out)
  rw [← HS9.out] at HO
  have HS := Lib.hid hs3
  clear hs3 hb3 HCC HS2 HB2
  go_wp2_with fail
  refine HO.out.mono ?_
  rintro e w4 ⟨rfl, hb4⟩
  have HB4 := Lib.hid (bthen HB3.out hb4)
  have HB34 := Lib.hid hb4
  clear hb4 HO
  cases s
  · have HFW := Lib.hid (HF.out w4 (H.out.up HB4.out))
    go_wp2_with fail
    refine HFW.out.mono ?_
    rintro e w5 ⟨rfl, hs5, hb5⟩
    have HL := Lib.hid (layers_any w4.heap.size w4.heap.size c w5 hs5 HC.out)
    have HB5 := Lib.hid (bthen HB4.out hb5)
    clear hs5 hb5 HFW
    go_wp2_with fail
    refine HL.out.mono ?_
    rintro e w6 ⟨A6, c6, rfl, hr6, hb6⟩
    have HR6 := Lib.hid hr6
    have HB6 := Lib.hid (bthen HB5.out hb6)
    clear hr6 hb6 HL
    go_wp2
    refine bodyPost_ret (v := .tuple #[.slice A6 c.length c6, .bool false]) (by simp [results, Tryz.results61, go_sem]) rfl ?_
    rw [show ctxCh c x = (c, false) from by rw [HX.out]; rfl]
    exact ⟨A6, c6, rfl, HR6.out.cap9, HR6.out.low HB5.out.size, HB6.out⟩
  · have hx0 : x ≠ [] := fun e => by
      have := HS9.out
      rw [e, ctxOk_nil] at this
      cases this
    obtain ⟨ds, ts, hs5, hx5⟩ := HS.out
    obtain ⟨rfl, rfl⟩ := hx5 hx0
    have HL := Lib.hid (layers_any w.heap.size w.heap.size x w4 (hs5.up HB34.out) HOX.out)
    clear hs5 hx5 hx0
    go_wp2_with fail
    refine HL.out.mono ?_
    rintro e w6 ⟨A6, c6, rfl, hr6, hb6⟩
    have HR6 := Lib.hid hr6
    have HB6 := Lib.hid (bthen HB4.out hb6)
    clear hr6 hb6 HL
    go_wp2
    refine bodyPost_ret (v := .tuple #[.slice A6 x.length c6, .bool true]) (by simp [results, Tryz.results61, go_sem]) rfl ?_
    rw [show ctxCh c x = (x, true) from by rw [HX.out]; rfl]
    exact ⟨A6, c6, rfl, HR6.out.cap9, HR6.out.low HB4.out.size, HB6.out⟩
end Go.Proofs.YtiahmfpfimmbgaaGreatDoor
