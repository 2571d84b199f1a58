/- The reference's l10Copy. What the reference hands back is only read; the reference's CtxTerms. Changed contexts as answers: comparisons, marks; CtxPush. CtxName and CtxAssert, the program's. The reference's CtxName. -/
import Derived.Test.YtiahmfpfimmbgaaGreatDoorJFnCtx10
import Derived.Test.YtiahmfpfimmbgaaGreatDoorJFnCtx12
/-! The reference's l10Copy. -/
namespace Go.Proofs.YtiahmfpfimmbgaaGreatDoor
open Go Go.RowKit

/-- The box of a layer that is being copied: its row of terms grows. -/
def BoxY (lo p n : Nat) (A : Option Addr) (c : Nat) (z : World) (ts : List T) : Prop :=
  ∃ B b, z.heap[p]? = some (.cells #[.slice A n c, .slice B ts.length b] 58 (0, 0)) ∧ RowTr lo z (.slice B ts.length b) ts
def Fact.boxY (lo p n : Nat) (A : Option Addr) (c : Nat) (W : World) (ts : List T) : Fact :=
  .of (fun _ z => BoxY lo p n A c z ts ∧ Gr (fun g => g = p ∨ lo ≤ g) W z ∧ p < W.heap.size) fun _ z z' ⟨⟨B, b, h1, h2⟩, h3, h4⟩ hb =>
    ⟨⟨B, b, (hb.block p (lt_of_block h1)).trans h1, h2.up hb⟩, h3.up hb, h4⟩
set_option maxRecDepth 100000 in
set_option maxHeartbeats 8000000 in
theorem l10Copy_any (A : Option Addr) (q : Nat) (c : List Ly) (w : World) (h : Lay.layer.Rd w A c) (hl : c.length ≤ 1048576) (ho : ∀ l ∈ c, okL2 l) :
    Calls Tryz.prog 52 #[.slice A c.length q] w fun e w' => ∃ A' c', e = .returned (.slice A' c.length c') ∧ RowP PR w.heap.size w' (.slice A' c.length c') c ∧ Below w.heap.size w w' := by
  have hal : Below w.heap.size w (w.alloc (.cells #[] 58)) := (Below.refl _ _).alloc (Nat.le_refl _) _
  have hlit := RowP.lit PR w
  have HH := Lib.hid h
  have HO := Lib.hid ho
  clear h ho
  go_enter Tryz.func52, Tryz.ntmps52
  go_wp2
  go_loopw [3, 4] (fun a i wr => ∃ (k : Nat) (xs : List Ly) (A' : Option Addr) (c' : Nat), k ≤ c.length ∧ a = .slice A' xs.length c' ∧ i = .int .i64 k ∧ Hid (RowP PR w.heap.size wr (.slice A' xs.length c') xs) ∧ Below w.heap.size w wr ∧ Hid (xs = c.take k)) (fun _ i _ => c.length - (intOf i).toNat)
  case atStart => exact ⟨0, [], _, _, Nat.zero_le _, rfl, rfl, Lib.hid hlit, hal, Lib.hid (by simp)⟩
  case round =>
    obtain ⟨k, xs, A', c', hk, rfl, rfl, HROW, hb, HX⟩ := hrel
    clear hal hlit
    by_cases hlt : k < c.length
    · have hk1 : (k : Int) < c.length := by omega
      obtain ⟨ad, A1, c1, A2, c2, rfl, hf, e1, e2, hc1, hc2, hds, hts⟩ := (Lay.Sl.below HH.out hb (fun _ h => h)).at_layer hlt
      obtain ⟨ys, hys⟩ : ∃ ys, ys = xs ++ [c[k]] := ⟨_, rfl⟩
      have HYE : Hid (ys = c.take (k + 1)) := Lib.hid (by rw [hys, HX.out, List.take_succ_eq_append_getElem hlt])
      have HYS := Lib.hid hys
      have HXL : Hid (xs.length ≤ 1048576) := Lib.hid (by rw [HX.out, List.length_take]; omega)
      obtain ⟨ol1, ol2, ol3⟩ := HO.out _ (List.getElem_mem hlt)
      have HO3 := Lib.hid ol3
      have hB : A1 = none → c[k].ds.length = 0 := fun e => by
        rcases Nat.eq_zero_or_pos c[k].ds.length with h9 | h9
        · exact h9
        · obtain ⟨a9, e9, _⟩ := hds h9
          rw [e] at e9; cases e9
      have HBN := Lib.hid hB
      have HTS := Lib.hid hts
      generalize hll : c[k] = l at *
      have HLL := Lib.hid hll
      generalize wr = V at *
      have hal1 : Below V.heap.size V (V.alloc (.cells #[] 39)) := (Below.refl _ _).alloc (Nat.le_refl _) _
      have hown := own_lit0D V
      have hbV := Nat.lt_of_lt_of_le hf hb.size
      have hb1 : (ad.add (k * 2)).block < V.heap.size := by rw [block_of_add]; exact hbV
      have f1 := (hal1.cell (p := ad.add (k * 2)) hb1).trans e1
      have HE2 := Lib.hid e2
      have HSR := Lib.hid (src_decls (hds.below hal1 (fun b hb9 => Nat.lt_of_lt_of_le hb9 hb.size)))
      have hsz1 := hal1.size
      have HAL1 := Lib.hid hal1
      have HB := Lib.hid hb
      have hz0 : ([] : List D).length ≤ 2000000 := by simp
      have hz1 : l.ds.length ≤ 2000000 := by omega
      clear hys hB hds hts hll e1 e2 ol3 hal1 hb hf
      go_wp2_with (at_builtin; refine wpList_append_decls (xs := []) (ys := l.ds) (by rfl) (.tmp 14) (.tmp 19) (by rfl) (by rfl) (by rfl) hown HSR.out HBN.out hz0 hz1 hsz1 rfl ?_; intro A3 c3 w3 hown3 hb3 hg3; have HOWN := Lib.hid hown3; have HB3 := Lib.hid hb3; have HSZ3 := Lib.hid (Nat.le_trans hsz1 hb3.size); clear hown hown3 hb3 hg3 f1 hsz1)
      have hnb := heap_alloc_new w3 (.cells #[.slice A3 l.ds.length c3, .slice none 0 0] 58)
      have hal5 : Below w3.heap.size w3 (w3.alloc (.cells #[.slice A3 l.ds.length c3, .slice none 0 0] 58)) := (Below.refl _ _).alloc (Nat.le_refl _) _
      have HSZ5 : Hid ((w3.alloc (.cells #[.slice A3 l.ds.length c3, .slice none 0 0] 58)).heap.size = w3.heap.size + 1) := Lib.hid (by simp)
      have HNB := Lib.hid hnb
      have HAL5 := Lib.hid hal5
      clear hnb hal5
      generalize w3.alloc (.cells #[.slice A3 l.ds.length c3, .slice none 0 0] 58) = W5 at *
      have HVW : Hid (Below V.heap.size V W5) := Lib.hid ((HAL1.out.trans HB3.out).trans (HAL5.out.mono HSZ3.out))
      have HDS : Hid (OwnDs W5 V.heap.size (.slice A3 l.ds.length c3) l.ds) := Lib.hid (HOWN.out.up HAL5.out)
      have HDB : Hid (∀ g, (Value.slice A3 l.ds.length c3).ownBlock = some g → g < w3.heap.size) := Lib.hid (fun g hg => (HOWN.out.lt g hg).2)
      obtain ⟨p, hp⟩ : ∃ p, p = w3.heap.size := ⟨_, rfl⟩
      rw [← hp] at HSZ5 HNB HSZ3 HDB ⊢
      clear hp HOWN HB3 HSR HBN HAL1 HAL5
      obtain ⟨M, hM⟩ : ∃ M, M = W5.heap.size := ⟨_, rfl⟩
      have HM := Lib.hid hM
      rw [← hM] at HSZ5
      clear hM hz0 hz1
      go_loopw [6] (fun j wr => ∃ m : Nat, m ≤ l.ts.length ∧ j = .int .i64 m ∧ Hid (BoxY M p l.ds.length A3 c3 wr (l.ts.take m)) ∧ Hid (Gr (fun g => g = p ∨ M ≤ g) W5 wr)) (fun j _ => l.ts.length - (intOf j).toNat)
      case atStart => exact ⟨0, Nat.zero_le _, rfl, Lib.hid ⟨none, 0, HNB.out, RowTr.nil _ _⟩, Lib.hid (Gr.refl _ _)⟩
      case round =>
        obtain ⟨m, hm, rfl, HBT, HGR⟩ := hrel
        have HPW : Hid (p < W5.heap.size) := Lib.hid (by have := HSZ5.out; have := HM.out; omega)
        have HMW : Hid (M ≤ wr.heap.size) := Lib.hid (by rw [HM.out]; exact HGR.out.size)
        have HVr : Hid (Below V.heap.size V wr) := Lib.hid (HVW.out.trans (HGR.out.to_below' HVW.out.size (fun x hx => by have := HSZ3.out; have := HSZ5.out; omega)))
        have hw2 := (HVr.out.cell (p := ⟨(ad.add (k * 2)).block, (ad.add (k * 2)).off + 1, none⟩) hb1).trans HE2.out
        by_cases hlm : m < l.ts.length
        · have hm1 : (m : Int) < l.ts.length := by omega
          obtain ⟨B, b, hbx, hrow⟩ := HBT.out
          have hFV : ∀ g, g < w.heap.size → g < V.heap.size := fun g hg => Nat.lt_of_lt_of_le hg HB.out.size
          obtain ⟨ad2, A5, c5, rfl, hf2, t1, t2, t3, t4, t5, hcc, hkk⟩ := (HTS.out.below HVr.out hFV).at_term hlm
          obtain ⟨zs, hzs⟩ : ∃ zs, zs = l.ts.take m ++ [l.ts[m]] := ⟨_, rfl⟩
          have HZE : Hid (zs = l.ts.take (m + 1)) := Lib.hid (by rw [hzs, List.take_succ_eq_append_getElem hlm])
          have HZS := Lib.hid hzs
          have hxl : (l.ts.take m).length ≤ 2000000 := by rw [List.length_take]; omega
          generalize l.ts.take m = ts at *
          have HCP := Lib.hid (l3Copy_any l.ts[m] (HO3.out _ (List.getElem_mem hlm)) A5 c5 (fun g => g < w.heap.size))
          generalize hx : l.ts[m] = x at *
          have HXX := Lib.hid hx
          have HRW := Lib.hid hrow
          have HBX := Lib.hid hbx
          have HKK := Lib.hid hkk
          have HFL : Hid (∀ g, g < w.heap.size → g < wr.heap.size) := Lib.hid (fun g hg => Nat.lt_of_lt_of_le (hFV g hg) HVr.out.size)
          have z0 := Later.cell (cell_of_block HBX.out 1).1
          have z1 := Later.cell hw2
          have y0 := Later.cell t1
          have y1 := Later.cell t2
          have y2 := Later.cell t3
          have y3 := Later.cell t4
          have y4 := Later.cell t5
          clear hzs hkk hrow hbx t1 t2 t3 t4 t5 hx hFV hf2
          go_wp2
          clear hw2
          generalize wr = W1 at *
          refine wp_region_shares [[], [(0, 32)], [], [], [(2, 34), (3, 35)], [(4, 36)], [(5, 37)], [], [(6, 38), (7, 39)], [(8, 40)], [(9, 41)], [(10, 42)], [(1, 33), (11, 43)], [], [(13, 45), (12, 44)]]
            [.eq (.pointer (some ⟨p, 1, none⟩)), .eq (.slice B ts.length b), .eq (.slice (some ad) c.length q), .eq (.int .i64 (k : Int)), .eq (.pointer (some (ad.add (k * 2)))), .eq (.pointer (some ⟨(ad.add (k * 2)).block, (ad.add (k * 2)).off + 1, none⟩)), .eq (.slice (some ad2) l.ts.length c2), .eq (.int .i64 (m : Int)), .eq (.pointer (some (ad2.add (m * 5)))), .eq (.agg #[.int .i64 x.op, .int .i64 x.a, .int .i64 x.b, .string x.name, .slice A5 x.kids.length c5]), Fact.treeV M W1.heap.size x, Fact.treeL M W1.heap.size x, Fact.rowT M W1 (.slice B ts.length b) zs, .eq (.pointer (some ⟨p, 1, none⟩)), Fact.boxY M p l.ds.length A3 c3 W1 zs]
            [12, 14] [12, 14] [13, 14] [14] [(0, 32), (1, 33), (2, 34), (3, 35), (4, 36), (5, 37), (6, 38), (7, 39), (8, 40), (9, 41), (10, 42), (11, 43), (12, 44), (13, 45)] (by kernel_rfl) (by kernel_rfl) (by kernel_rfl) (by kernel_rfl)
            ⟨?_, ?_, ?_, ?_, ?_, ?_, ?_, ?_, ?_, ?_, ?_, ?_, ?_, ?_, ?_, trivial⟩ ?_
          · intro vals z hC hF
            simp only [putsD, Act.put, List.setIfInBounds_toArray, List.set_cons_zero, List.set_cons_succ]
            go_wp2
            exact ⟨rfl, rfl, .inr (Below.refl _ _), .inr (.inl (by simp))⟩
          · intro vals z hC hF
            have hC := hC.resolve_left (by simp)
            have hsz := hC.size
            have e1 : z.cell? _ = _ := z0 ⟨z, hC⟩
            simp only [factsD, List.getD_cons_zero, List.getD_cons_succ, Fact.eq, Fact.row, Fact.lit, Fact.lit0, Fact.of, and_true, Fact.treeV, Fact.treeL, Fact.rowT, Fact.boxY] at hF
            simp only [putsD, Act.put, List.setIfInBounds_toArray, List.set_cons_zero, List.set_cons_succ]
            simp only [hF]
            go_wp2
            exact ⟨rfl, rfl, .inr (Below.refl _ _), .inr (.inl (by simp))⟩
          · intro vals z hC hF
            simp only [putsD, Act.put, List.setIfInBounds_toArray, List.set_cons_zero, List.set_cons_succ]
            go_wp2
            exact ⟨rfl, rfl, .inr (Below.refl _ _), .inr (.inl (by simp))⟩
          · intro vals z hC hF
            simp only [putsD, Act.put, List.setIfInBounds_toArray, List.set_cons_zero, List.set_cons_succ]
            go_wp2
            exact ⟨rfl, rfl, .inr (Below.refl _ _), .inr (.inl (by simp))⟩
          · intro vals z hC hF
            simp only [factsD, List.getD_cons_zero, List.getD_cons_succ, Fact.eq, Fact.row, Fact.lit, Fact.lit0, Fact.of, and_true, Fact.treeV, Fact.treeL, Fact.rowT, Fact.boxY] at hF
            obtain ⟨e1, e2⟩ := hF
            simp only [putsD, Act.put, List.setIfInBounds_toArray, List.set_cons_zero, List.set_cons_succ]
            simp only [e1, e2]
            go_wp2
            exact ⟨rfl, rfl, .inr (Below.refl _ _), .inr (.inl (by simp))⟩
          · intro vals z hC hF
            simp only [factsD, List.getD_cons_zero, List.getD_cons_succ, Fact.eq, Fact.row, Fact.lit, Fact.lit0, Fact.of, and_true, Fact.treeV, Fact.treeL, Fact.rowT, Fact.boxY] at hF
            simp only [putsD, Act.put, List.setIfInBounds_toArray, List.set_cons_zero, List.set_cons_succ]
            simp only [hF]
            go_wp2
            exact ⟨rfl, rfl, .inr (Below.refl _ _), .inr (.inl (by simp))⟩
          · intro vals z hC hF
            have hC := hC.resolve_left (by simp)
            have hsz := hC.size
            have e1 : z.cell? _ = _ := z1 ⟨z, hC⟩
            simp only [factsD, List.getD_cons_zero, List.getD_cons_succ, Fact.eq, Fact.row, Fact.lit, Fact.lit0, Fact.of, and_true, Fact.treeV, Fact.treeL, Fact.rowT, Fact.boxY] at hF
            simp only [putsD, Act.put, List.setIfInBounds_toArray, List.set_cons_zero, List.set_cons_succ]
            simp only [hF]
            go_wp2
            exact ⟨rfl, rfl, .inr (Below.refl _ _), .inr (.inl (by simp))⟩
          · intro vals z hC hF
            simp only [putsD, Act.put, List.setIfInBounds_toArray, List.set_cons_zero, List.set_cons_succ]
            go_wp2
            exact ⟨rfl, rfl, .inr (Below.refl _ _), .inr (.inl (by simp))⟩
          · intro vals z hC hF
            simp only [factsD, List.getD_cons_zero, List.getD_cons_succ, Fact.eq, Fact.row, Fact.lit, Fact.lit0, Fact.of, and_true, Fact.treeV, Fact.treeL, Fact.rowT, Fact.boxY] at hF
            obtain ⟨e1, e2⟩ := hF
            simp only [putsD, Act.put, List.setIfInBounds_toArray, List.set_cons_zero, List.set_cons_succ]
            simp only [e1, e2]
            go_wp2
            exact ⟨rfl, rfl, .inr (Below.refl _ _), .inr (.inl (by simp))⟩
          · intro vals z hC hF
            have hC := hC.resolve_left (by simp)
            have hsz := hC.size
            have e1 : z.cell? _ = _ := y0 ⟨z, hC⟩
            have e2 : z.cell? _ = _ := y1 ⟨z, hC⟩
            have e3 : z.cell? _ = _ := y2 ⟨z, hC⟩
            have e4 : z.cell? _ = _ := y3 ⟨z, hC⟩
            have e5 : z.cell? _ = _ := y4 ⟨z, hC⟩
            simp only [factsD, List.getD_cons_zero, List.getD_cons_succ, Fact.eq, Fact.row, Fact.lit, Fact.lit0, Fact.of, and_true, Fact.treeV, Fact.treeL, Fact.rowT, Fact.boxY] at hF
            have e9 := hF
            simp only [putsD, Act.put, List.setIfInBounds_toArray, List.set_cons_zero, List.set_cons_succ]
            simp only [e9]
            go_wp2
            exact ⟨rfl, rfl, .inr (Below.refl _ _), .inr (.inl (by simp))⟩
          · intro vals z hC hF
            have hC := hC.resolve_left (by simp)
            have hsz := hC.size
            simp only [factsD, List.getD_cons_zero, List.getD_cons_succ, Fact.eq, Fact.row, Fact.lit, Fact.lit0, Fact.of, and_true, Fact.treeV, Fact.treeL, Fact.rowT, Fact.boxY] at hF
            have e1 := hF
            simp only [putsD, Act.put, List.setIfInBounds_toArray, List.set_cons_zero, List.set_cons_succ]
            simp only [e1]
            have HC9 := Lib.hid (HCP.out z (HKK.out.below hC HFL.out) (fun g hg => Nat.lt_of_lt_of_le (HFL.out g hg) hsz))
            go_wp2_with fail
            refine HC9.out.mono ?_
            rintro e w9 ⟨A9, c9, rfl, hc9, ht9, hb9⟩
            have HT9 : Hid (TrS w9 (fun g => W1.heap.size ≤ g ∧ OwnB9 M w9 g) A9 x.kids) := Lib.hid (TrT.mono ht9 fun g hg => ⟨Nat.le_trans hsz hg.1, hg.le (Nat.le_trans HMW.out hsz)⟩)
            clear ht9
            go_wp2
            exact ⟨rfl, ⟨A9, c9, rfl, hc9, HT9.out⟩, .inr hb9, .inr (.inl (by simp))⟩
          · intro vals z hC hF
            have hC := hC.resolve_left (by simp)
            have hsz := hC.size
            simp only [factsD, List.getD_cons_zero, List.getD_cons_succ, Fact.eq, Fact.row, Fact.lit, Fact.lit0, Fact.of, and_true, Fact.treeV, Fact.treeL, Fact.rowT, Fact.boxY] at hF
            obtain ⟨A9, c9, e1, hc9, ht9⟩ := hF
            have e1 : vals 10 = .agg #[.int .i64 x.op, .int .i64 x.a, .int .i64 x.b, .string x.name, .slice A9 x.kids.length c9] := e1
            simp only [putsD, Act.put, List.setIfInBounds_toArray, List.set_cons_zero, List.set_cons_succ]
            simp only [e1]
            have hal9 : Below z.heap.size z (z.alloc (.cells (tcells x A9 c9).toArray 48)) := (Below.refl _ _).alloc (Nat.le_refl _) _
            go_wp2
            exact ⟨rfl, ⟨_, A9, c9, rfl, heap_alloc_new _ _, hc9, TrS.up (F := fun _ => True) ht9 hal9⟩, .inr hal9, .inr (.inl (by simp))⟩
          · intro vals z hC hF
            have hC := hC.resolve_left (by simp)
            have hsz := hC.size
            simp only [factsD, List.getD_cons_zero, List.getD_cons_succ, Fact.eq, Fact.row, Fact.lit, Fact.lit0, Fact.of, and_true, Fact.treeV, Fact.treeL, Fact.rowT, Fact.boxY] at hF
            obtain ⟨e5, b5, A9, c9, e7, hb5, hc9, ht9⟩ := hF
            have hrz := HRW.out.up hC
            simp only [putsD, Act.put, List.setIfInBounds_toArray, List.set_cons_zero, List.set_cons_succ]
            simp only [e5, e7]
            refine wpList_append_tree (ys := zs) (by rfl) (.tmp 33) (.tmp 43) (by rfl) (by rfl) (by rfl) hrz (Nat.le_trans HMW.out hsz) hxl ht9 hc9 hb5 (fun g hg e9 => by have := (HRW.out.lt g e9).2; omega) ⟨W1, Nat.le_refl _, hC, HRW.out⟩ HZS.out ?_
            intro A8 c8 w8 hown8 hg8
            exact ⟨rfl, ⟨A8, c8, rfl, hown8, below_grown hC hg8⟩, .inl (by simp), .inl (by simp)⟩
          · intro vals z hC hF
            simp only [putsD, Act.put, List.setIfInBounds_toArray, List.set_cons_zero, List.set_cons_succ]
            go_wp2
            exact ⟨rfl, rfl, .inr (Below.refl _ _), .inr (.inl (by simp))⟩
          · intro vals z hC hF
            simp only [factsD, List.getD_cons_zero, List.getD_cons_succ, Fact.eq, Fact.row, Fact.lit, Fact.lit0, Fact.of, and_true, Fact.treeV, Fact.treeL, Fact.rowT, Fact.boxY] at hF
            obtain ⟨e11, A8, c8, e8, hown8, hg8⟩ := hF
            have hpx := (hg8.block p (lt_of_block HBX.out) (fun e => by have := (HRW.out.lt p e.symm).1; have := HSZ5.out; omega)).trans HBX.out
            have x1 := (cell_of_block hpx 1).1
            have x2 := (cell_of_block hpx 1).2
            have HRF := Lib.hid (hown8.far ⟨p, 1, none⟩ (.slice A8 zs.length c8) (by show p < M; have := HSZ5.out; omega))
            have HPX := Lib.hid (heap_set_same z p 1 (.slice A8 zs.length c8) _ _ hpx)
            have HGN : Hid (Gr (fun g => g = p ∨ M ≤ g) W1 (z.setCell ⟨p, 1, none⟩ (.slice A8 zs.length c8))) := Lib.hid (Gr.set (Gr.mono (S := fun g => M ≤ g) ⟨hg8.os, hg8.tape, hg8.output, hg8.size, fun i hi hn => hg8.block i hi (fun e => hn (HRW.out.lt i e.symm).1)⟩ fun _ h => .inr h) p 1 _ (.inl (.inl rfl)))
            clear hpx
            simp only [putsD, Act.put, List.setIfInBounds_toArray, List.set_cons_zero, List.set_cons_succ]
            simp only [e11, e8]
            go_wp2
            exact ⟨rfl, ⟨⟨A8, c8, HPX.out, HRF.out⟩, HGN.out, lt_of_block HBX.out⟩, .inl (by simp), .inl (by simp)⟩
          · intro vals z hF
            simp only [facts, List.getD_cons_zero, List.getD_cons_succ, Fact.eq, Fact.row, Fact.lit, Fact.lit0, Fact.of, and_true, Fact.treeV, Fact.treeL, Fact.rowT, Fact.boxY] at hF
            obtain ⟨hbt, hgn, hpl⟩ := hF
            simp only [putsD, Act.put, List.setIfInBounds_toArray, List.set_cons_zero, List.set_cons_succ]
            have HGN := Lib.hid (HGR.out.trans hgn)
            have HBN := Lib.hid hbt
            clear hbt hgn hpl z0 z1 y0 y1 y2 y3 y4
            go_wp2
            go_roundw
            case rel => exact ⟨m + 1, by omega, by go_num, by rw [← HZE.out]; exact HBN, HGN⟩
            case measure => simp [intOf]; omega
        · have hme : m = l.ts.length := by omega
          subst hme
          have HBE := HBT.out
          rw [List.take_length] at HBE
          obtain ⟨B, b, hbx, hrow⟩ := HBE
          have v0 := (cell_of_block hbx 0).1
          have v1 := (cell_of_block hbx 1).1
          have HPR : Hid (PR wr V.heap.size wr.heap.size (.slice A3 l.ds.length c3) (.slice B l.ts.length b) l) := Lib.hid ⟨M, A3, c3, B, b, rfl, rfl, by have := HSZ3.out; have := HSZ5.out; omega, HMW.out, fun g hg => by have := HDB.out g hg; have := HSZ5.out; omega,
            own_of_heap HDS.out fun g hg => HGR.out.block g (by have := HDB.out g hg; have := HPW.out; omega) (fun e => by have := HDB.out g hg; have := HSZ5.out; omega), RowU.of hrow⟩
          have hal7 : Below wr.heap.size wr (wr.alloc (.cells #[.slice A3 l.ds.length c3, .slice B l.ts.length b] 58)) := (Below.refl _ _).alloc (Nat.le_refl _) _
          have hn7 := heap_alloc_new wr (.cells #[.slice A3 l.ds.length c3, .slice B l.ts.length b] 58)
          have HP7 : Hid (PR (wr.alloc (.cells #[.slice A3 l.ds.length c3, .slice B l.ts.length b] 58)) V.heap.size wr.heap.size (.slice A3 l.ds.length c3) (.slice B l.ts.length b) l) := Lib.hid (stay_PR _ _ _ _ _ _ _ HPR.out hal7.size fun g _ h9 => hal7.block g h9)
          have HB7 := Lib.hid (bthen HB.out (bthen HVr.out hal7))
          have HV7 := Lib.hid (bthen HVr.out hal7)
          have HS7 := Lib.hid hal7.size
          have HN7 := Lib.hid hn7
          clear hal7 hn7 hbx hrow
          go_wp2_with (at_builtin; refine wpList_append_layer stay_PR (ys := ys) (S0 := V.heap.size) (E0 := wr.heap.size) (l := l) (lo := w.heap.size) (vd := .slice A3 l.ds.length c3) (vt := .slice B l.ts.length b) (by rfl) (.tmp 46) (.tmp 48) (by rfl) (by rfl) (by rfl) HB.out.size HXL.out HP7.out HVr.out.size HS7.out rfl rfl HN7.out ⟨V, Nat.le_refl _, HV7.out, HROW.out⟩ (by rw [HYS.out]) ?_; intro A8 c8 w8 hr8 hg8; have HR8 := Lib.hid hr8; have HB8 : Hid (Below w.heap.size w w8) := Lib.hid (HB7.out.grown hg8 (Nat.le_trans HB.out.size (Nat.le_trans HVr.out.size HS7.out)) (fun g e => (HROW.out.lt g e).1)); clear hr8 hg8)
          go_roundw
          case rel => exact ⟨k + 1, ys, A8, c8, by omega, rfl, by go_num, HR8, HB8.out, HYE⟩
          case measure => simp [intOf]; omega
    · have hke : k = c.length := by omega
      subst hke
      have HE : Hid (xs = c) := Lib.hid (by rw [HX.out, List.take_length])
      go_wp2
      go_ret
      rw [← HE.out]
      exact ⟨_, _, rfl, HROW.out, hb⟩
end Go.Proofs.YtiahmfpfimmbgaaGreatDoor

/-! What the reference hands back is only read; the reference's CtxTerms. -/
namespace Go.Proofs.YtiahmfpfimmbgaaGreatDoor
open Go Go.RowKit Go.ChangeShapes Go.WideShapes Go.ChangeAt Go.Deep

/-- It may be read. -/
def RdO {α : Type} (L : Lay α) (w : World) (A : Option Addr) (xs : List α) : Prop := L.Rd w A xs
/-- It may be read, and lay there when the heap was hi long. -/
def RdB {α : Type} (L : Lay α) (hi : Nat) (w : World) (A : Option Addr) (xs : List α) : Prop := hi ≤ w.heap.size ∧ L.Sl w (fun b => b < hi) A xs
section
variable {α : Type} {L : Lay α} {w w' : World} {hi : Nat} {A : Option Addr} {xs : List α}
theorem RdO.cp_of (h : RdO L w A xs) : RdB L w.heap.size w A xs := ⟨Nat.le_refl _, h⟩
theorem RdO.nil (L : Lay α) (w : World) (A : Option Addr) : RdO L w A [] := by unfold RdO; exact Lay.Sl.nil _ _ _ _
theorem RdB.cp_rd (h : RdB L hi w A xs) : L.Rd w A xs := h.2.mono fun _ h9 => Nat.lt_of_lt_of_le h9 h.1
end
theorem RowP.map {P P' : LyF} (hP : ∀ w S E vd vt l, P w S E vd vt l → P' w S E vd vt l) {lo : Nat} {w : World} {v : Value} {ls : List Ly} (h : RowP P lo w v ls) : RowP P' lo w v ls := by
  obtain ⟨cs, h1, S, E, Vd, Vt, h2, h3⟩ := h
  exact ⟨cs, h1, S, E, Vd, Vt, fun k l hl => by
    obtain ⟨g1, g2, g3, g6, g7⟩ := h2 k l hl
    exact ⟨g1, g2, g3, g6, hP _ _ _ _ _ _ g7⟩, h3⟩
theorem RowP.rdR {lo c : Nat} {w : World} {A : Option Addr} {ls : List Ly} (h : RowP PR lo w (.slice A ls.length c) ls) : Lay.layer.Rd w A ls := TrG.cp_rd (RowP.cp_of (RowP.map (fun _ _ _ _ _ _ => PR.pp) h))
theorem RowP.cap {P : LyF} {lo c n : Nat} {w : World} {A : Option Addr} {ls : List Ly} (h : RowP P lo w (.slice A n c) ls) : n = ls.length ∧ ls.length ≤ c := by
  obtain ⟨A', c', e, hl⟩ := h.form
  injection e with e1 e2 e3
  exact ⟨e2, by omega⟩
end Go.Proofs.YtiahmfpfimmbgaaGreatDoor

/-! Changed contexts as answers: comparisons, marks; CtxPush. -/
namespace Go.Proofs.YtiahmfpfimmbgaaGreatDoor
open Go Go.RowKit Go.ChangeShapes Go.WideShapes Go.ChangeAt Go.Deep

def ctxPush (c : List Ly) : List Ly × Bool := ctxCh c (c ++ [⟨[], []⟩])
set_option maxRecDepth 100000 in
set_option maxHeartbeats 2000000 in
theorem implCtxPush_c (c : List Ly) (A : Option Addr) (q : Nat) (w : World) (h : Lay.layer.Rd w A c) (_ : c.length ≤ q) (hs : okC c) :
    Calls Tryz.prog 22 #[.slice A c.length q] w (RetCh (ctxPush c) w) := by
  have HCH := Lib.hid (changed_Push A q c (c ++ [⟨[], []⟩]) w h hs (fun hk => hs.push hk) (fun hk z p hb hst => by
    obtain ⟨A1, A2, A3, c1, c2, c3, hS⟩ := hst
    refine (push_any w.heap.size p _ _ _ A1 A2 A3 c1 c2 c3 z hS (by rw [msAll_len]; have := (ctxOk_parts hk).2.1; omega)).mono ?_
    rintro e w' ⟨h1, h2, h3⟩
    refine ⟨h1, StkC.of ?_, h3⟩
    have e1 : dsAll (c ++ [⟨[], []⟩]) = dsAll c := by rw [dsAll_app, dsAll_one]; simp
    have e2 : tsAll (c ++ [⟨[], []⟩]) = tsAll c := by rw [tsAll_app, tsAll_one]; simp
    rw [msAll_app, e1, e2]
    exact h2))
  clear h hs
  go_enter Tryz.func22, Tryz.ntmps22
  go_wp2_with fail
  refine HCH.out.mono ?_
  rintro e w1 ⟨A1, c1, rfl, hc1, hr, hb⟩
  have HRR := Lib.hid (And.intro hc1 (And.intro hr hb))
  clear hc1 hr hb HCH
  show _
  go_wp2
  refine bodyPost_ret (v := .tuple #[.slice A1 (ctxCh c (c ++ [⟨[], []⟩])).1.length c1, .bool (ctxCh c (c ++ [⟨[], []⟩])).2]) (by simp [results, Tryz.results22, go_sem]) rfl ?_
  exact ⟨A1, c1, rfl, HRR.out.1, HRR.out.2.1, HRR.out.2.2⟩
/-- Layers and a yes or no are handed back that may be read. -/
def RetRd2 (r : List Ly × Bool) (w : World) (e : Ending) (w' : World) : Prop := ∃ A c, e = .returned (.tuple #[.slice A r.1.length c, .bool r.2]) ∧ r.1.length ≤ c ∧ RdO Lay.layer w' A r.1 ∧ Below w.heap.size w w'
set_option maxRecDepth 100000 in
set_option maxHeartbeats 2000000 in
theorem l10Now_any (c x : List Ly) (A B : Option Addr) (q b : Nat) (w : World) (h : Lay.layer.Rd w A c) (h' : Lay.layer.Rd w B x) (hb : x.length ≤ b) (hl : c.length ≤ 1048576) (ho : ∀ l ∈ c, okL2 l) (hx : okC x) :
    Calls Tryz.prog 60 #[.slice A c.length q, .slice B x.length b] w (RetRd2 (if ctxOk x = true then (x, true) else (c, false)) w) := by
  have HO := Lib.hid (specCtxOk_any B b x w h' hb hx)
  have HCP := Lib.hid (fun (z : World) (hz : Lay.layer.Rd z A c) => l10Copy_any A q c z hz hl ho)
  obtain ⟨r, hr⟩ : ∃ r, r = ctxOk x := ⟨_, rfl⟩
  rw [← hr] at HO ⊢
  have H := Lib.hid h
  have H' := Lib.hid h'
  have HBB := Lib.hid hb
  obtain ⟨s9, hs9⟩ : ∃ s9, s9 = if r = true then (x, true) else (c, false) := ⟨_, rfl⟩
  have HS9 := Lib.hid hs9
  rw [← hs9]
  clear hr h h' hb ho hx hs9
  go_enter Tryz.func60, Tryz.ntmps60
  go_wp2_with fail
  refine HO.out.mono ?_
  rintro e w2 ⟨rfl, hb2⟩
  have HB2 := Lib.hid hb2
  clear hb2
  cases r
  · have HLC := Lib.hid (HCP.out w2 (H.out.up HB2.out))
    go_wp2_with fail
    refine HLC.out.mono ?_
    rintro e w3 ⟨A3, c3, rfl, ho, hb3⟩
    have HB3 := Lib.hid (bthen HB2.out hb3)
    have HO3 := Lib.hid ho
    clear ho hb3
    go_wp2
    refine bodyPost_ret (v := .tuple #[.slice A3 c.length c3, .bool false]) (by simp [results, Tryz.results60, go_sem]) rfl ?_
    rw [show s9 = (c, false) from HS9.out]
    exact ⟨A3, c3, rfl, HO3.out.cap.2, HO3.out.rdR, HB3.out⟩
  · go_wp2
    refine bodyPost_ret (v := .tuple #[.slice B x.length b, .bool true]) (by simp [results, Tryz.results60, go_sem]) rfl ?_
    rw [show s9 = (x, true) from HS9.out]
    exact ⟨B, b, rfl, HBB.out, H'.out.up HB2.out, HB2.out⟩
theorem pr_none (w : World) : PR w w.heap.size w.heap.size (.slice none 0 0) (.slice none 0 0) ⟨[], []⟩ :=
  ⟨w.heap.size, none, 0, none, 0, rfl, rfl, Nat.le_refl _, Nat.le_refl _, fun g hg => (by cases hg), World.ownsRow_nil _ _ _ _, RowU.of (RowTr.nil _ _)⟩
set_option maxRecDepth 100000 in
set_option maxHeartbeats 4000000 in
theorem specCtxPush_c (c : List Ly) (A : Option Addr) (q : Nat) (w : World) (h : Lay.layer.Rd w A c) (hq : c.length ≤ q) (hs : okC c) :
    Calls Tryz.prog 21 #[.slice A c.length q] w (RetRd2 (ctxPush c) w) := by
  have hc := hs
  have HO := Lib.hid (specCtxOk_any A q c w h hq hc)
  have HCP := Lib.hid (fun (z : World) (hz : Lay.layer.Rd z A c) => l10Copy_any A q c z hz hc.len (okC_l2 hs))
  obtain ⟨r, hr⟩ : ∃ r, r = ctxOk c := ⟨_, rfl⟩
  rw [← hr] at HO
  obtain ⟨x, hx⟩ : ∃ x, x = c ++ [(⟨[], []⟩ : Ly)] := ⟨_, rfl⟩
  have HXX := Lib.hid hx
  have HX : Hid (ctxPush c = if r = true then (if ctxOk x = true then (x, true) else (c, false)) else ([], false)) := Lib.hid (by rw [hr, hx]; rfl)
  have HOX : Hid (r = true → okC x) := Lib.hid (fun e => by rw [hx]; exact hc.push (by rw [← hr]; exact e))
  have HN := Lib.hid (fun (B : Option Addr) (b : Nat) (z : World) (hz : Lay.layer.Rd z A c) (hz' : Lay.layer.Rd z B x) (hb : x.length ≤ b) (hr : r = true) => l10Now_any c x A B q b z hz hz' hb hc.len (okC_l2 hs) (HOX.out hr))
  have hcl := hc.len
  have H := Lib.hid h
  clear hc hr hs h hx
  go_enter Tryz.func21, Tryz.ntmps21
  go_wp2_with fail
  refine HO.out.mono ?_
  rintro e w2 ⟨rfl, hb2⟩
  have HB2 := Lib.hid hb2
  cases r
  · have hal := hb2.alloc hb2.size (.cells #[] 58)
    have HAL := Lib.hid hal
    clear hal hb2
    go_wp2
    refine bodyPost_ret (v := .tuple #[.slice (some ⟨w2.heap.size, 0, none⟩) 0 0, .bool false]) (by simp [results, Tryz.results21, go_sem]) rfl ?_
    rw [show ctxPush c = ([], false) from by rw [HX.out]; rfl]
    exact ⟨_, _, rfl, Nat.zero_le _, RdO.nil _ _ _, HAL.out⟩
  · have HLC := Lib.hid (HCP.out w2 (H.out.up HB2.out))
    clear hb2
    go_wp2_with fail
    refine HLC.out.mono ?_
    rintro e w3 ⟨A3, c3, rfl, ho, hb3⟩
    have HB3 := Lib.hid (bthen HB2.out hb3)
    have HO3 := Lib.hid ho
    have hal : Below w3.heap.size w3 (w3.alloc (.cells #[.slice none 0 0, .slice none 0 0] 58)) := (Below.refl _ _).alloc (Nat.le_refl _) _
    have hnb := heap_alloc_new w3 (.cells #[.slice none 0 0, .slice none 0 0] 58)
    have HPN : Hid (PR (w3.alloc (.cells #[.slice none 0 0, .slice none 0 0] 58)) w3.heap.size w3.heap.size (.slice none 0 0) (.slice none 0 0) ⟨[], []⟩) := Lib.hid (stay_PR _ _ _ _ _ _ _ (pr_none w3) hal.size fun g _ h9 => hal.block g h9)
    have HNB := Lib.hid hnb
    have HAL := Lib.hid hal
    have hsz := hal.size
    have hlo := hb3.size
    clear ho hb3 hal hnb HLC
    go_wp2_with (at_builtin; refine wpList_append_layer stay_PR (ys := x) (S0 := w3.heap.size) (E0 := w3.heap.size) (l := ⟨[], []⟩) (lo := w2.heap.size) (vd := .slice none 0 0) (vt := .slice none 0 0) (by rfl) (.tmp 10) (.tmp 12) (by rfl) (by rfl) (by rfl) hlo hcl HPN.out (Nat.le_refl _) hsz rfl rfl HNB.out ⟨w3, Nat.le_refl _, HAL.out, HO3.out⟩ HXX.out ?_; intro A8 c8 w8 hr8 hg8; have HR8 := Lib.hid hr8; have HB8 : Hid (Below w.heap.size w w8) := Lib.hid ((bthen HB3.out HAL.out).grown hg8 (Nat.le_trans HB3.out.size hsz) (fun g e => Nat.le_trans HB2.out.size (HO3.out.lt g e).1)); clear hr8 hg8 hsz hlo)
    refine (HN.out A8 c8 w8 (H.out.up HB8.out) HR8.out.rdR HR8.out.cap.2 trivial).mono ?_
    rintro e w9 ⟨A9, c9, rfl, hc9, hr9, hb9⟩
    have HRR := Lib.hid (And.intro hc9 (And.intro hr9 (bthen HB8.out hb9)))
    clear hc9 hr9 hb9
    have HXE : Hid (ctxPush c = if ctxOk x = true then (x, true) else (c, false)) := Lib.hid (by rw [HX.out]; rfl)
    clear HX
    generalize (if ctxOk x = true then (x, true) else (c, false)) = s9 at *
    go_wp2
    refine bodyPost_ret (v := .tuple #[.slice A9 s9.1.length c9, .bool s9.2]) (by simp [results, Tryz.results21, go_sem]) rfl ?_
    rw [HXE.out]
    exact ⟨A9, c9, rfl, HRR.out.1, HRR.out.2.1, HRR.out.2.2⟩
end Go.Proofs.YtiahmfpfimmbgaaGreatDoor

/-! CtxName and CtxAssert, the program's. -/
namespace Go.Proofs.YtiahmfpfimmbgaaGreatDoor
open Go Go.RowKit Go.ChangeShapes Go.WideShapes Go.ChangeAt Go.Deep

def ctxName (c : List Ly) (d : D) : List Ly × Bool := ctxCh c (addD c d)
def ctxAssert (c : List Ly) (t : T) : List Ly × Bool := ctxCh c (addT c t)
def smD (d : D) : Prop := d.name.size ≤ 1048576 ∧ okInt d.wide
theorem addD_app (xs : List Ly) (l : Ly) (d : D) : addD (xs ++ [l]) d = xs ++ [⟨l.ds ++ [d], l.ts⟩] := onLast_app _ xs l
theorem addT_app (xs : List Ly) (l : Ly) (t : T) : addT (xs ++ [l]) t = xs ++ [⟨l.ds, l.ts ++ [t]⟩] := onLast_app _ xs l
theorem okC_addD9 {c : List Ly} {d : D} (h : okC c) (hk : ctxOk c = true) (hd : smD d) : okC (addD c d) := by
  obtain ⟨xs, l, rfl⟩ := last_of (ctxOk_parts hk).1
  rw [addD_app]
  exact h.addD hk (by have := hd.1; omega)
theorem okC_addT9 {c : List Ly} {t : T} (h : okC c) (hk : ctxOk c = true) (ht : T.All okT3 t) : okC (addT c t) := by
  obtain ⟨xs, l, rfl⟩ := last_of (ctxOk_parts hk).1
  rw [addT_app]
  exact h.addT hk ht
theorem RetCh.low {r : List Ly × Bool} {w w0 : World} {e : Ending} {w' : World} (h : RetCh r w0 e w') (hb : Below w.heap.size w w0) : RetCh r w e w' := by
  obtain ⟨A, c, h1, h2, h3, h4⟩ := h
  exact ⟨A, c, h1, h2, h3.low hb.size, bthen hb h4⟩
set_option maxRecDepth 100000 in
set_option maxHeartbeats 2000000 in
theorem implCtxName_c (c : List Ly) (d : D) (A : Option Addr) (q : Nat) (w : World) (h : Lay.layer.Rd w A c) (_ : c.length ≤ q) (hs : okC c) (hd : smD d) :
    Calls Tryz.prog 27 #[.slice A c.length q, .agg #[.string d.name, .int .i64 d.wide]] w (RetCh (ctxName c d) w) := by
  have hal : Below w.heap.size w (w.alloc (.cells #[.string d.name, .int .i64 d.wide] 39)) := (Below.refl _ _).alloc (Nat.le_refl _) _
  have hbx := heap_alloc_new w (.cells #[.string d.name, .int .i64 d.wide] 39)
  have HCH := Lib.hid (changed_Name A q c (addD c d) w.heap.size (w.alloc (.cells #[.string d.name, .int .i64 d.wide] 39)) (h.up hal) hs (fun hk => okC_addD9 hs hk hd) (fun hk z p hb hst => by
    have h4 := declOk_len (ctxOk_parts hk).2.2.1
    have h6 := (ctxOk_parts hk).2.1
    obtain ⟨xs, l, rfl⟩ := last_of (ctxOk_parts hk).1
    rw [msAll_app] at hst
    refine (chgName_any _ p w.heap.size d _ _ (msAll xs) _ _ z hst ((hb.block _ (lt_of_block hbx)).trans hbx) (by omega) (by rw [msAll_len]; rw [List.length_append] at h6; omega) (by omega) (by omega)).mono ?_
    rintro e w' ⟨h1, h2, h3⟩
    refine ⟨h1, StkC.of ?_, h3⟩
    have e1 : dsAll (xs ++ [⟨l.ds ++ [d], l.ts⟩]) = dsAll (xs ++ [l]) ++ [d] := by rw [dsAll_app, dsAll_app, dsAll_one, dsAll_one, List.append_assoc]
    have e2 : tsAll (xs ++ [⟨l.ds ++ [d], l.ts⟩]) = tsAll (xs ++ [l]) := by rw [tsAll_app, tsAll_app, tsAll_one, tsAll_one]
    rw [addD_app, msAll_app, e1, e2]
    have e3 : ((dsAll (xs ++ [l]) ++ [d]).length : Int) = ((dsAll (xs ++ [l])).length : Int) + 1 := by simp
    rw [e3]
    exact h2))
  have HAL := Lib.hid hal
  clear h hs hal hbx
  go_enter Tryz.func27, Tryz.ntmps27
  go_wp2_with fail
  refine HCH.out.mono ?_
  rintro e w1 hret
  obtain ⟨A1, c1, rfl, hc1, hr, hb⟩ := hret.low HAL.out
  have HRR := Lib.hid (And.intro hc1 (And.intro hr hb))
  clear hc1 hr hb HCH hret
  obtain ⟨r9, hr9⟩ : ∃ r9, r9 = ctxCh c (addD c d) := ⟨_, rfl⟩
  have HR9 := Lib.hid hr9
  rw [← hr9] at HRR ⊢
  clear hr9
  go_wp2
  refine bodyPost_ret (v := .tuple #[.slice A1 r9.1.length c1, .bool r9.2]) (by simp [results, Tryz.results27, go_sem]) rfl ?_
  rw [show ctxName c d = r9 from HR9.out.symm]
  exact ⟨A1, c1, rfl, HRR.out.1, HRR.out.2.1, HRR.out.2.2⟩
set_option maxRecDepth 100000 in
set_option maxHeartbeats 2000000 in
theorem implCtxAssert_c (c : List Ly) (t : T) (A : Option Addr) (q : Nat) (A0 : Option Addr) (c0 : Nat) (w : World) (h : Lay.layer.Rd w A c) (_ : c.length ≤ q) (hs : okC c) (h0 : Lay.term.Rd w A0 t.kids) (hc0 : t.kids.length ≤ c0) (ht : T.All okT3 t) :
    Calls Tryz.prog 33 #[.slice A c.length q, .agg #[.int .i64 t.op, .int .i64 t.a, .int .i64 t.b, .string t.name, .slice A0 t.kids.length c0]] w (RetCh (ctxAssert c t) w) := by
  have hal : Below w.heap.size w (w.alloc (.cells #[.int .i64 t.op, .int .i64 t.a, .int .i64 t.b, .string t.name, .slice A0 t.kids.length c0] 48)) := (Below.refl _ _).alloc (Nat.le_refl _) _
  have hbx := heap_alloc_new w (.cells #[.int .i64 t.op, .int .i64 t.a, .int .i64 t.b, .string t.name, .slice A0 t.kids.length c0] 48)
  have HCH := Lib.hid (changed_Assert A q c (addT c t) w.heap.size (w.alloc (.cells #[.int .i64 t.op, .int .i64 t.a, .int .i64 t.b, .string t.name, .slice A0 t.kids.length c0] 48)) (h.up hal) hs (fun hk => okC_addT9 hs hk ht) (fun hk z p hb hst => by
    have h8 := (ctxOk_parts hk).2.2.2.1
    have h6 := (ctxOk_parts hk).2.1
    obtain ⟨xs, l, rfl⟩ := last_of (ctxOk_parts hk).1
    rw [msAll_app] at hst
    have hkz : Lay.term.Sl z (fun b => b < (w.alloc (.cells #[.int .i64 t.op, .int .i64 t.a, .int .i64 t.b, .string t.name, .slice A0 t.kids.length c0] 48)).heap.size) A0 t.kids := ((h0.up hal).keep fun b h9 => hb.block b h9)
    refine (chgAssert_any _ p w.heap.size t A0 c0 _ _ (msAll xs) _ _ z hst ((hb.block _ (lt_of_block hbx)).trans hbx) (lt_of_block hbx) hkz hc0 (by omega) (by rw [msAll_len]; rw [List.length_append] at h6; omega) (by omega) (by omega)).mono ?_
    rintro e w' ⟨h1, h2, h3⟩
    refine ⟨h1, StkC.of ?_, h3⟩
    have e1 : dsAll (xs ++ [⟨l.ds, l.ts ++ [t]⟩]) = dsAll (xs ++ [l]) := by rw [dsAll_app, dsAll_app, dsAll_one, dsAll_one]
    have e2 : tsAll (xs ++ [⟨l.ds, l.ts ++ [t]⟩]) = tsAll (xs ++ [l]) ++ [t] := by rw [tsAll_app, tsAll_app, tsAll_one, tsAll_one, List.append_assoc]
    rw [addT_app, msAll_app, e1, e2]
    have e3 : ((tsAll (xs ++ [l]) ++ [t]).length : Int) = ((tsAll (xs ++ [l])).length : Int) + 1 := by simp
    rw [e3]
    exact h2))
  have HAL := Lib.hid hal
  clear h hs hal hbx h0
  go_enter Tryz.func33, Tryz.ntmps33
  go_wp2_with fail
  refine HCH.out.mono ?_
  rintro e w1 hret
  obtain ⟨A1, c1, rfl, hc1, hr, hb⟩ := hret.low HAL.out
  have HRR := Lib.hid (And.intro hc1 (And.intro hr hb))
  clear hc1 hr hb HCH hret
  obtain ⟨r9, hr9⟩ : ∃ r9, r9 = ctxCh c (addT c t) := ⟨_, rfl⟩
  have HR9 := Lib.hid hr9
  rw [← hr9] at HRR ⊢
  clear hr9
  go_wp2
  refine bodyPost_ret (v := .tuple #[.slice A1 r9.1.length c1, .bool r9.2]) (by simp [results, Tryz.results33, go_sem]) rfl ?_
  rw [show ctxAssert c t = r9 from HR9.out.symm]
  exact ⟨A1, c1, rfl, HRR.out.1, HRR.out.2.1, HRR.out.2.2⟩
end Go.Proofs.YtiahmfpfimmbgaaGreatDoor

/-! The reference's CtxName. -/
namespace Go.Proofs.YtiahmfpfimmbgaaGreatDoor
open Go Go.RowKit Go.ChangeShapes Go.WideShapes Go.ChangeAt Go.Deep

/-- The last layer of copied layers, and what is so once its two rows have turned. -/
theorem RowP.lastPR {lo c' : Nat} {w : World} {A : Option Addr} {xs : List Ly} {l : Ly} (h : RowP PR lo w (.slice A (xs ++ [l]).length c') (xs ++ [l])) :
    ∃ g S M E Ad cd At ct, A = some ⟨g, 0, none⟩ ∧ (lo ≤ g ∧ g < w.heap.size) ∧ w.cell? ⟨g, xs.length * 2, none⟩ = some (.slice Ad l.ds.length cd) ∧ w.cell? ⟨g, xs.length * 2 + 1, none⟩ = some (.slice At l.ts.length ct) ∧ (∀ o, w.frozen? ⟨g, o, none⟩ = false) ∧ (∃ cs9, w.heap[g]? = some (.cells cs9 58 (0, 0))) ∧
      (lo ≤ S ∧ S ≤ M ∧ M ≤ E ∧ E ≤ w.heap.size ∧ ¬ (S ≤ g ∧ g < E)) ∧ (∀ b, (Value.slice Ad l.ds.length cd).ownBlock = some b → b < M) ∧ OwnDs w S (.slice Ad l.ds.length cd) l.ds ∧ RowU M E w (.slice At l.ts.length ct) l.ts ∧
      ∀ (w' : World) (l' : Ly) (u0 u1 : Value), w.heap.size ≤ w'.heap.size → (∀ b, b < w.heap.size → b ≠ g → ¬ (S ≤ b ∧ b < E) → w'.heap[b]? = w.heap[b]?) → (∀ o, o < xs.length * 2 → w'.cell? ⟨g, o, none⟩ = w.cell? ⟨g, o, none⟩) →
        w'.cell? ⟨g, xs.length * 2, none⟩ = some u0 → w'.cell? ⟨g, xs.length * 2 + 1, none⟩ = some u1 → Lay.layer.R w' (fun b => b < w'.heap.size) l' [u0, u1] → Lay.layer.Rd w' (some ⟨g, 0, none⟩) (xs ++ [l']) := by
  have hn : (xs ++ [l]).length = xs.length + 1 := by simp
  have hlt := h.lt
  obtain ⟨cs, h1, S, E, Vd, Vt, h2, h3⟩ := h
  have hcl : cs.length = (xs ++ [l]).length * 2 := h1.1
  rw [hn] at hcl
  have hA : ∃ g, A = some ⟨g, 0, none⟩ := by
    rcases h1.2 with ⟨_, e2⟩ | ⟨g, cap, cur, e1, _⟩
    · omega
    · injection e1 with e1; exact ⟨g, e1⟩
  obtain ⟨g, rfl⟩ := hA
  have hgl : ∃ cs9, w.heap[g]? = some (.cells cs9 58 (0, 0)) := by
    rcases h1.2 with ⟨e1, _⟩ | ⟨g9, cap, cur, e1, _, hg9, _⟩
    · cases e1
    · injection e1 with e1; injection e1 with e1; injection e1 with e1; subst e1; exact ⟨cur, hg9⟩
  have hcell : ∀ j u, cs[j]? = some u → w.cell? ⟨g, j, none⟩ = some u := fun j u hu => by
    have hj : j < cs.length := (List.getElem?_eq_some_iff.1 hu).1
    rw [World.ownsRow.cellAt h1 j (by rw [hn]; omega)]
    exact hu
  have hlast : (xs ++ [l])[xs.length]? = some l := by rw [List.getElem?_append_right (Nat.le_refl _)]; simp
  obtain ⟨g1, g2, ⟨g3, g4, g5⟩, g6, g7⟩ := h2 xs.length l hlast
  obtain ⟨M, Ad, cd, At, ct, e1, e2, k1, k2, k3, k4, k5⟩ := g7
  rw [e1] at g1 k3
  rw [e2] at g2
  refine ⟨g, S xs.length, M, E xs.length, Ad, cd, At, ct, rfl, hlt g rfl, hcell _ _ g1, hcell _ _ g2, fun o => World.ownsRow.frozenAt h1 o, hgl, ⟨g3, k1, k2, g5, g6 g rfl⟩, k3, k4, k5, fun w' l' u0 u1 hs hb hc c0 c1 hr => sl_two fun _ => ⟨_, rfl, ?_, fun k l9 hl9 => ?_⟩⟩
  · have := hlt g rfl; show g < _; omega
  · rw [add_zero9, add_zero9]
    by_cases hk : k = xs.length
    · subst hk
      rw [List.getElem?_append_right (Nat.le_refl _), Nat.sub_self] at hl9
      simp at hl9
      subst hl9
      exact ⟨u0, u1, hr, c0, c1⟩
    · have hkl : k < xs.length := by
        have := (List.getElem?_eq_some_iff.1 hl9).1
        rw [List.length_append, List.length_singleton] at this
        omega
      rw [List.getElem?_append_left hkl] at hl9
      obtain ⟨q1, q2, ⟨q3, q4, q5⟩, q6, q7⟩ := h2 k l9 (by rw [List.getElem?_append_left hkl]; exact hl9)
      have hkE := h3 k xs.length hkl (by rw [hn]; omega)
      have hP := stay_PR _ _ _ _ _ _ _ q7 hs fun b h8 h9 => hb b (by omega) (fun e => q6 g rfl ⟨by omega, by omega⟩) (by omega)
      exact ⟨Vd k, Vt k, Lay.layer.mono (fun b h9 => h9.lt) (hP.pp.layer (lo := 0) (Nat.zero_le _) (Nat.le_trans q5 hs) (Nat.le_refl _)), (hc _ (by omega)).trans (hcell _ _ q1), (hc _ (by omega)).trans (hcell _ _ q2)⟩
theorem OwnDs.at1 {w : World} {base c : Nat} {A : Option Addr} {xs : List D} (h : OwnDs w base (.slice A xs.length c) xs) : Lay.decl.Sl w (fun b => (Value.slice A xs.length c).ownBlock = some b ∧ b < w.heap.size) A xs := fun h0 => by
  obtain ⟨ad, e, hf, hc⟩ := h.rd h0
  subst e
  exact ⟨ad, rfl, ⟨rfl, hf⟩, fun k x hx => by
    obtain ⟨vs, hr, hcell⟩ := hc k x hx
    exact ⟨vs, hr, hcell⟩⟩
theorem OwnDs.blk {w : World} {base : Nat} {v : Value} {xs : List D} (h : OwnDs w base v xs) {b : Nat} (hb : v.ownBlock = some b) : ∃ cs, w.heap[b]? = some (.cells cs 39 (0, 0)) := by
  rcases h.2 with ⟨e1, _⟩ | ⟨g, cap, cur, e1, _, hg, _⟩
  · rw [e1] at hb; cases hb
  · rw [e1] at hb
    have : g = b := by simpa [Value.ownBlock] using hb
    subst this
    exact ⟨_, hg⟩
/-- Layers that may be read. -/
def Fact.rdL (lo : Nat) (W : World) (A : Option Addr) (ys : List Ly) : Fact := .of (fun _ z => Lay.layer.Rd z A ys ∧ Below lo W z ∧ lo ≤ z.heap.size) fun _ z z' ⟨h1, h2, h3⟩ hb => ⟨h1.up hb, h2.trans (hb.mono h3), Nat.le_trans h3 hb.size⟩
/-- A row of declarations has grown. -/
def Fact.rowD (S : Nat) (W : World) (v0 : Value) (ys : List D) : Fact := .of (fun v z => ∃ A c, v = .slice A ys.length c ∧ OwnDs z S (.slice A ys.length c) ys ∧ W.grownBy z v0.ownBlock) fun _ _ _ ⟨A, c, h1, h2, h3⟩ hb => ⟨A, c, h1, h2.up hb, grown_below h3 hb⟩
set_option maxRecDepth 100000 in
set_option maxHeartbeats 8000000 in
theorem specCtxName_c (c : List Ly) (d : D) (A : Option Addr) (q : Nat) (w : World) (h : Lay.layer.Rd w A c) (hq : c.length ≤ q) (hs : okC c) (hd : smD d) :
    Calls Tryz.prog 25 #[.slice A c.length q, .agg #[.string d.name, .int .i64 d.wide]] w (RetRd2 (ctxName c d) w) := by
  have hc := hs
  have hal0 : Below w.heap.size w (w.alloc (.cells #[.string d.name, .int .i64 d.wide] 39)) := (Below.refl _ _).alloc (Nat.le_refl _) _
  have hbx0 := heap_alloc_new w (.cells #[.string d.name, .int .i64 d.wide] 39)
  have HO := Lib.hid (specCtxOk_any A q c (w.alloc (.cells #[.string d.name, .int .i64 d.wide] 39)) (h.up hal0) hq hc)
  have HCP := Lib.hid (fun (z : World) (hz : Lay.layer.Rd z A c) => l10Copy_any A q c z hz hc.len (okC_l2 hs))
  obtain ⟨r, hr⟩ : ∃ r, r = ctxOk c := ⟨_, rfl⟩
  rw [← hr] at HO
  obtain ⟨x, hx⟩ : ∃ x, x = addD c d := ⟨_, rfl⟩
  have HXX := Lib.hid hx
  have HX : Hid (ctxName c d = if r = true then (if ctxOk x = true then (x, true) else (c, false)) else ([], false)) := Lib.hid (by rw [hr, hx]; rfl)
  have HOX : Hid (r = true → okC x) := Lib.hid (fun e => by rw [hx]; exact okC_addD9 hc (by rw [← hr]; exact e) hd)
  have HN := Lib.hid (fun (B : Option Addr) (b : Nat) (z : World) (hz : Lay.layer.Rd z A c) (hz' : Lay.layer.Rd z B x) (hb : x.length ≤ b) (hr : r = true) => l10Now_any c x A B q b z hz hz' hb hc.len (okC_l2 hs) (HOX.out hr))
  have HLS : Hid (r = true → ∃ xs l, c = xs ++ [l] ∧ x = xs ++ [⟨l.ds ++ [d], l.ts⟩] ∧ l.ds.length ≤ 4 ∧ xs.length ≤ 6) := Lib.hid (fun e => by
    have hk : ctxOk c = true := by rw [← hr]; exact e
    have h4 := declOk_len (ctxOk_parts hk).2.2.1
    have h6 := (ctxOk_parts hk).2.1
    obtain ⟨xs, l, rfl⟩ := last_of (ctxOk_parts hk).1
    rw [dsAll_app, dsAll_one, List.length_append] at h4
    rw [List.length_append] at h6
    exact ⟨xs, l, rfl, by rw [hx, addD_app], by omega, by omega⟩)
  have H := Lib.hid (h.up hal0)
  have H0 := Lib.hid h
  have HAL0 := Lib.hid hal0
  have HBX0 := Lib.hid hbx0
  clear hc hr hs h hx hal0 hbx0 hd hq
  go_enter Tryz.func25, Tryz.ntmps25
  go_wp2_with fail
  generalize w.alloc (.cells #[.string d.name, .int .i64 d.wide] 39) = W0 at *
  obtain ⟨bd, hbd⟩ : ∃ bd, bd = w.heap.size := ⟨_, rfl⟩
  have HBD := Lib.hid hbd
  rw [← hbd] at HBX0 ⊢
  clear hbd
  refine HO.out.mono ?_
  rintro e w2 ⟨rfl, hb2⟩
  have HB2 := Lib.hid (bthen HAL0.out hb2)
  have HBX2 := Lib.hid ((hb2.block _ (lt_of_block HBX0.out)).trans HBX0.out)
  have H2 := Lib.hid (H.out.up hb2)
  clear H HO
  cases r
  · have hal := HB2.out.alloc HB2.out.size (.cells #[] 58)
    have HAL := Lib.hid hal
    clear hal hb2
    go_wp2
    refine bodyPost_ret (v := .tuple #[.slice (some ⟨w2.heap.size, 0, none⟩) 0 0, .bool false]) (by simp [results, Tryz.results25, go_sem]) rfl ?_
    rw [show ctxName c d = ([], false) from by rw [HX.out]; rfl]
    exact ⟨_, _, rfl, Nat.zero_le _, RdO.nil _ _ _, HAL.out⟩
  · have HLC := Lib.hid (HCP.out w2 H2.out)
    clear hb2 HCP
    go_wp2_with fail
    refine HLC.out.mono ?_
    rintro e w3 ⟨A3, c3, rfl, ho, hb3⟩
    obtain ⟨xs, l, hcx, hxx, hl4, hx6⟩ := HLS.out trivial
    have HB3 := Lib.hid (bthen HB2.out hb3)
    have HBX3 := Lib.hid ((hb3.block _ (lt_of_block HBX2.out)).trans HBX2.out)
    have H3 := Lib.hid (H2.out.up hb3)
    have hoc := ho.cap.2
    have hcl : c.length = xs.length + 1 := by rw [hcx]; simp
    have ho : RowP PR w2.heap.size w3 (.slice A3 (xs ++ [l]).length c3) (xs ++ [l]) := by rw [← hcx]; exact ho
    obtain ⟨g, S, M, E, Ad, cd, At, ct, rfl, ⟨hg1, hg2⟩, e0, e1, hfz, hgl, ⟨s1, s2, s3, s4, s5⟩, hdm, hod, hru, hfin⟩ := ho.lastPR
    have HFIN := Lib.hid hfin
    have HGL := Lib.hid hgl
    have HRU := Lib.hid hru
    have HOD := Lib.hid hod
    have HDM := Lib.hid hdm
    have HE0 := Lib.hid e0
    have HE1 := Lib.hid e1
    have HFZ := Lib.hid hfz
    have HCX := Lib.hid hcx
    have HXE := Lib.hid hxx
    have HCL := Lib.hid hcl
    have HS5 := Lib.hid s5
    have HWZ := Lib.hid HB2.out.size
    have HZ3 := Lib.hid hb3.size
    obtain ⟨ys, hys⟩ : ∃ ys, ys = l.ds ++ [d] := ⟨_, rfl⟩
    have HYS := Lib.hid hys
    obtain ⟨i0, hi0, hz0, hz1, hz2⟩ := info_parts decl_info
    have HI := Lib.hid (And.intro hi0 (And.intro hz0 (And.intro hz1 hz2)))
    have hnk : ((c.length : Nat) : Int) - 1 = (xs.length : Int) := by omega
    have hk1 : (xs.length : Int) < (c.length : Int) := by omega
    have d0 := Later.cell HE0.out
    have q0 := Later.cell (cell_of_block HBX3.out 0).1
    have q1 := Later.cell (cell_of_block HBX3.out 1).1
    have hcb : c.length ≤ 1048576 := by omega
    clear hys hi0 hz0 hz1 hz2 hgl hfin hru hod hdm e0 e1 hfz hcx hxx hcl s5 ho hb3 HLC HLS
    go_wp2
    refine wp_region_shares [[], [], [], [], [(2, 19), (3, 20)], [(4, 21)], [(5, 22)], [], [(7, 24)], [(6, 23), (8, 25)], [(0, 17), (1, 18)], [(10, 27)], [(11, 28), (9, 26)]]
      [.eq (.slice (some ⟨g, 0, none⟩) c.length c3), .eq (.int .i64 (xs.length : Int)), .eq (.slice (some ⟨g, 0, none⟩) c.length c3), .eq (.int .i64 (xs.length : Int)), .eq (.pointer (some ⟨g, xs.length * 2, none⟩)), .eq (.pointer (some ⟨g, xs.length * 2, none⟩)), .eq (.slice Ad l.ds.length cd), .eq (.agg #[.string d.name, .int .i64 d.wide]), .lit 39 1 #[.string d.name, .int .i64 d.wide], Fact.rowD S w3 (.slice Ad l.ds.length cd) ys, .eq (.pointer (some ⟨g, xs.length * 2, none⟩)), .eq (.pointer (some ⟨g, xs.length * 2, none⟩)), Fact.rdL w.heap.size w3 (some ⟨g, 0, none⟩) x]
      [9, 12] [9, 12] [0, 1, 10, 11, 12] [12] [(0, 17), (1, 18), (2, 19), (3, 20), (4, 21), (5, 22), (6, 23), (7, 24), (8, 25), (9, 26), (10, 27), (11, 28)] (by kernel_rfl) (by kernel_rfl) (by kernel_rfl) (by kernel_rfl)
      ⟨?_, ?_, ?_, ?_, ?_, ?_, ?_, ?_, ?_, ?_, ?_, ?_, ?_, trivial⟩ ?_
    · intro vals z hC hF
      simp only [putsD, Act.put, List.setIfInBounds_toArray, List.set_cons_zero, List.set_cons_succ]
      go_wp2
      exact ⟨rfl, rfl, .inr (Below.refl _ _), .inr (.inl (by simp))⟩
    · intro vals z hC hF
      simp only [putsD, Act.put, List.setIfInBounds_toArray, List.set_cons_zero, List.set_cons_succ]
      go_wp2
      exact ⟨rfl, rfl, .inr (Below.refl _ _), .inr (.inl (by simp))⟩
    · intro vals z hC hF
      simp only [putsD, Act.put, List.setIfInBounds_toArray, List.set_cons_zero, List.set_cons_succ]
      go_wp2
      exact ⟨rfl, rfl, .inr (Below.refl _ _), .inr (.inl (by simp))⟩
    · intro vals z hC hF
      simp only [putsD, Act.put, List.setIfInBounds_toArray, List.set_cons_zero, List.set_cons_succ]
      go_wp2
      exact ⟨rfl, rfl, .inr (Below.refl _ _), .inr (.inl (by simp))⟩
    · intro vals z hC hF
      simp only [factsD, List.getD_cons_zero, List.getD_cons_succ, Fact.eq, Fact.row, Fact.lit, Fact.lit0, Fact.of, and_true, Fact.rowD, Fact.rdL] at hF
      obtain ⟨e1, e2⟩ := hF
      simp only [putsD, Act.put, List.setIfInBounds_toArray, List.set_cons_zero, List.set_cons_succ]
      simp only [e1, e2]
      go_wp2
      exact ⟨rfl, rfl, .inr (Below.refl _ _), .inr (.inl (by simp))⟩
    · intro vals z hC hF
      simp only [factsD, List.getD_cons_zero, List.getD_cons_succ, Fact.eq, Fact.row, Fact.lit, Fact.lit0, Fact.of, and_true, Fact.rowD, Fact.rdL] at hF
      simp only [putsD, Act.put, List.setIfInBounds_toArray, List.set_cons_zero, List.set_cons_succ]
      simp only [hF]
      go_wp2
      exact ⟨rfl, rfl, .inr (Below.refl _ _), .inr (.inl (by simp))⟩
    · intro vals z hC hF
      have hC := hC.resolve_left (by simp)
      have hsz := hC.size
      have e1 : z.cell? _ = _ := d0 ⟨z, hC⟩
      simp only [factsD, List.getD_cons_zero, List.getD_cons_succ, Fact.eq, Fact.row, Fact.lit, Fact.lit0, Fact.of, and_true, Fact.rowD, Fact.rdL] at hF
      simp only [putsD, Act.put, List.setIfInBounds_toArray, List.set_cons_zero, List.set_cons_succ]
      simp only [hF]
      go_wp2
      exact ⟨rfl, rfl, .inr (Below.refl _ _), .inr (.inl (by simp))⟩
    · intro vals z hC hF
      have hC := hC.resolve_left (by simp)
      have hsz := hC.size
      have e1 : z.cell? _ = _ := q0 ⟨z, hC⟩
      have e2 : z.cell? _ = _ := q1 ⟨z, hC⟩
      simp only [putsD, Act.put, List.setIfInBounds_toArray, List.set_cons_zero, List.set_cons_succ]
      go_wp2
      exact ⟨rfl, rfl, .inr (Below.refl _ _), .inr (.inl (by simp))⟩
    · intro vals z hC hF
      have hC := hC.resolve_left (by simp)
      have hsz := hC.size
      simp only [factsD, List.getD_cons_zero, List.getD_cons_succ, Fact.eq, Fact.row, Fact.lit, Fact.lit0, Fact.of, and_true, Fact.rowD, Fact.rdL] at hF
      simp only [putsD, Act.put, List.setIfInBounds_toArray, List.set_cons_zero, List.set_cons_succ]
      simp only [hF]
      go_wp2
      exact ⟨rfl, ⟨_, rfl, by simp, _, heap_alloc_new _ _⟩, .inr ((Below.refl _ _).alloc (Nat.le_refl _) _), .inr (.inl (by simp))⟩
    · intro vals z hC hF
      have hC := hC.resolve_left (by simp)
      have hsz := hC.size
      simp only [factsD, List.getD_cons_zero, List.getD_cons_succ, Fact.eq, Fact.row, Fact.lit, Fact.lit0, Fact.of, and_true, Fact.rowD, Fact.rdL] at hF
      obtain ⟨e5, b5, e7, hlt5, fr5, hb5⟩ := hF
      have HS9 := HOD.out.up hC
      have hsr := decl_src hb5
      simp only [putsD, Act.put, List.setIfInBounds_toArray, List.set_cons_zero, List.set_cons_succ]
      simp only [e5, e7]
      refine wpList_append_decls (xs := l.ds) (ys := ys) (zs := [d]) (by rfl) (.tmp 23) (.tmp 25) (by rfl) (by rfl) (by rfl) HS9 hsr (fun e => by cases e) (by omega) (by show 1 ≤ 2000000; omega) (by omega) HYS.out ?_
      intro A9 c9 w9 hown9 hb9 hg9
      exact ⟨rfl, ⟨A9, c9, rfl, hown9, below_grown hC hg9⟩, .inl (by simp), .inl (by simp)⟩
    · intro vals z hC hF
      simp only [factsD, List.getD_cons_zero, List.getD_cons_succ, Fact.eq, Fact.row, Fact.lit, Fact.lit0, Fact.of, and_true, Fact.rowD, Fact.rdL] at hF
      obtain ⟨e1, e2⟩ := hF
      simp only [putsD, Act.put, List.setIfInBounds_toArray, List.set_cons_zero, List.set_cons_succ]
      simp only [e1, e2]
      go_wp2
      exact ⟨rfl, rfl, .inr (Below.refl _ _), .inr (.inl (by simp))⟩
    · intro vals z hC hF
      simp only [factsD, List.getD_cons_zero, List.getD_cons_succ, Fact.eq, Fact.row, Fact.lit, Fact.lit0, Fact.of, and_true, Fact.rowD, Fact.rdL] at hF
      simp only [putsD, Act.put, List.setIfInBounds_toArray, List.set_cons_zero, List.set_cons_succ]
      simp only [hF]
      go_wp2
      exact ⟨rfl, rfl, .inr (Below.refl _ _), .inr (.inl (by simp))⟩
    · intro vals z hC hF
      simp only [factsD, List.getD_cons_zero, List.getD_cons_succ, Fact.eq, Fact.row, Fact.lit, Fact.lit0, Fact.of, and_true, Fact.rowD, Fact.rdL] at hF
      obtain ⟨e11, A9, c9, e8, hown9, hg9⟩ := hF
      have hgn : (Value.slice Ad l.ds.length cd).ownBlock ≠ some g := fun e => HS5.out ⟨(HOD.out.lt g e).1, by have := HDM.out g e; omega⟩
      have hgz : z.heap[g]? = w3.heap[g]? := hg9.block g hg2 (fun e => hgn e.symm)
      have x1 : z.cell? ⟨g, xs.length * 2, none⟩ = _ := (World.cell?_of_block (a := ⟨g, xs.length * 2, none⟩) hgz).trans HE0.out
      have x2 : z.frozen? ⟨g, xs.length * 2, none⟩ = false := (World.frozen?_of_block (a := ⟨g, xs.length * 2, none⟩) hgz).trans (HFZ.out _)
      have HRD : Hid (Lay.layer.Rd (z.setCell ⟨g, xs.length * 2, none⟩ (.slice A9 ys.length c9)) (some ⟨g, 0, none⟩) x) := Lib.hid (by
          rw [HXE.out, ← HYS.out]
          have hsz9 := hg9.size
          have hfar : ∀ b, b ≠ g → (z.setCell ⟨g, xs.length * 2, none⟩ (.slice A9 ys.length c9)).heap[b]? = z.heap[b]? := fun b hb => Below.heap_setCell z ⟨g, _, none⟩ _ b hb
          refine HFIN.out _ ⟨ys, l.ts⟩ (.slice A9 ys.length c9) (.slice At l.ts.length ct) (by rw [size_setCell]; exact hsz9) (fun b hb hne hn9 => (hfar b hne).trans (hg9.block b hb (fun e => hn9 ⟨(HOD.out.lt b e.symm).1, by have := HDM.out b e.symm; omega⟩))) (fun o ho9 => (World.cell?_setCell_other _ _ _ _ (fun e => by injection e with _ e _; omega)).trans (World.cell?_of_block (a := ⟨g, o, none⟩) hgz)) (World.cell?_setCell_same _ _ _ x1) ((World.cell?_setCell_other _ _ _ _ (fun e => by injection e with _ e _; omega)).trans ((World.cell?_of_block (a := ⟨g, xs.length * 2 + 1, none⟩) hgz).trans HE1.out)) ?_
          refine ⟨A9, c9, At, ct, rfl, (OwnDs.cap hown9).2, ?_, ?_, ?_⟩
          · obtain ⟨A8, c8, e8, h8⟩ := HRU.out.row.form
            injection e8 with _ _ e8
            show l.ts.length ≤ ct
            omega
          · have h8 := hown9.rd
            refine ((hown9.at1.keep fun b hb => hfar b (fun e => ?_)).mono fun b hb => by rw [size_setCell]; exact hb.2)
            obtain ⟨cs8, h7⟩ := hown9.blk hb.1
            obtain ⟨cs9, h6⟩ := HGL.out
            rw [e, hgz, h6] at h7
            injection h7 with h7
            injection h7 with _ h7 _
            exact absurd h7 neLD
          · refine ((TrT.sl HRU.out.tree).keep fun b hb => (hfar b (fun e => HS5.out ⟨by rw [← e]; have := hb.1; omega, by rw [← e]; exact hb.2.1⟩)).trans (hg9.block b (by have := hb.2.1; omega) (fun e => by have := HDM.out b e.symm; have := hb.1; omega))).mono fun b hb => by rw [size_setCell]; have := hb.2.1; omega)
      have HBL : Hid (Below w.heap.size w3 (z.setCell ⟨g, xs.length * 2, none⟩ (.slice A9 ys.length c9))) := Lib.hid (below_set9 (p := ⟨g, xs.length * 2, none⟩) ((Below.refl w.heap.size w3).grown hg9 (Nat.le_trans HWZ.out HZ3.out) (fun b e => by have := (HOD.out.lt b e).1; have := HWZ.out; omega)) (by show w.heap.size ≤ g; have := HWZ.out; omega) _)
      have HSZ := Lib.hid hg9.size
      simp only [putsD, Act.put, List.setIfInBounds_toArray, List.set_cons_zero, List.set_cons_succ]
      simp only [e11, e8]
      go_wp2
      exact ⟨rfl, ⟨HRD.out, HBL.out, by rw [size_setCell]; have := HSZ.out; have := HWZ.out; have := HZ3.out; omega⟩, .inl (by simp), .inl (by simp)⟩
    · intro vals z hF
      simp only [facts, List.getD_cons_zero, List.getD_cons_succ, Fact.eq, Fact.row, Fact.lit, Fact.lit0, Fact.of, and_true, Fact.rowD, Fact.rdL] at hF
      obtain ⟨hR9, hB9, _⟩ := hF
      simp only [putsD, Act.put, List.setIfInBounds_toArray, List.set_cons_zero, List.set_cons_succ]
      have hB8 := HB3.out.trans hB9
      have hxl : x.length ≤ c3 := by rw [HXE.out]; have := HCL.out; simp; omega
      have hxc : x.length = c.length := by rw [HXE.out]; have := HCL.out; simp; omega
      have HNN := Lib.hid (HN.out (some ⟨g, 0, none⟩) c3 z ((H0.out.keep fun b hb => hB8.block b hb).mono fun b hb => Nat.lt_of_lt_of_le hb hB8.size) hR9 hxl trivial)
      have HB8 := Lib.hid hB8
      rw [hxc] at HNN
      clear d0 q0 q1 hR9 hB9 hB8 hxl hxc
      go_wp2_with fail
      refine HNN.out.mono ?_
      rintro e w9 ⟨A9, c9, rfl, hc9, hr9, hb9⟩
      have HRR := Lib.hid (And.intro hc9 (And.intro hr9 (bthen HB8.out hb9)))
      clear hc9 hr9 hb9
      have HXF : Hid (ctxName c d = if ctxOk x = true then (x, true) else (c, false)) := Lib.hid (by rw [HX.out]; rfl)
      clear HX
      generalize (if ctxOk x = true then (x, true) else (c, false)) = s9 at *
      go_wp2
      refine bodyPost_ret (v := .tuple #[.slice A9 s9.1.length c9, .bool s9.2]) (by simp [results, Tryz.results25, go_sem]) rfl ?_
      rw [HXF.out]
      exact ⟨A9, c9, rfl, HRR.out.1, HRR.out.2.1, HRR.out.2.2⟩
end Go.Proofs.YtiahmfpfimmbgaaGreatDoor
