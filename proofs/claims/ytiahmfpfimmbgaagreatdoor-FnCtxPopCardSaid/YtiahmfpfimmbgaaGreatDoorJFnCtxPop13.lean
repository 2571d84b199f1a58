/- The reference's l10Copy. What the reference hands back is only read; the reference's CtxTerms. Changed contexts as answers: comparisons, marks; CtxPush. CtxName and CtxAssert, the program's. A drawn region whose operations write old memory: each operation once, in whatever world its turn comes; a relation that all keep, and an invariant. No program is named here. A drawn region, each operation once, what memory does told of each. No program is named here. -/
import Derived.Test.YtiahmfpfimmbgaaGreatDoorJFnCtxPop6
import Derived.Test.YtiahmfpfimmbgaaGreatDoorJFnCtxPop10
import Derived.Test.YtiahmfpfimmbgaaGreatDoorJFnCtxPop12
/-! The reference's l10Copy. -/
namespace Go.Proofs.YtiahmfpfimmbgaaGreatDoor
open Go Go.RowKit

/-- The box of a layer that is being copied: its row of terms grows. -/
def BoxY (lo p n : Nat) (A : Option Addr) (c : Nat) (z : World) (ts : List T) : Prop :=
  ∃ B b, z.heap[p]? = some (.cells #[.slice A n c, .slice B ts.length b] 58 (0, 0)) ∧ RowTr lo z (.slice B ts.length b) ts
def Fact.boxY (lo p n : Nat) (A : Option Addr) (c : Nat) (W : World) (ts : List T) : Fact :=
  .of (fun _ z => BoxY lo p n A c z ts ∧ Gr (fun g => g = p ∨ lo ≤ g) W z ∧ p < W.heap.size) fun _ z z' ⟨⟨B, b, h1, h2⟩, h3, h4⟩ hb =>
    ⟨⟨B, b, (hb.block p (lt_of_block h1)).trans h1, h2.up hb⟩, h3.up hb, h4⟩
set_option maxRecDepth 100000 in
set_option maxHeartbeats 8000000 in
theorem l10Copy_any (A : Option Addr) (q : Nat) (c : List Ly) (w : World) (h : Lay.layer.Rd w A c) (hl : c.length ≤ 1048576) (ho : ∀ l ∈ c, okL2 l) :
    Calls Tryz.prog 52 #[.slice A c.length q] w fun e w' => ∃ A' c', e = .returned (.slice A' c.length c') ∧ RowP PR w.heap.size w' (.slice A' c.length c') c ∧ Below w.heap.size w w' := by
  have hal : Below w.heap.size w (w.alloc (.cells #[] 58)) := (Below.refl _ _).alloc (Nat.le_refl _) _
  have hlit := RowP.lit PR w
  have HH := Lib.hid h
  have HO := Lib.hid ho
  clear h ho
  go_enter Tryz.func52, Tryz.ntmps52
  go_wp2
  go_loopw [3, 4] (fun a i wr => ∃ (k : Nat) (xs : List Ly) (A' : Option Addr) (c' : Nat), k ≤ c.length ∧ a = .slice A' xs.length c' ∧ i = .int .i64 k ∧ Hid (RowP PR w.heap.size wr (.slice A' xs.length c') xs) ∧ Below w.heap.size w wr ∧ Hid (xs = c.take k)) (fun _ i _ => c.length - (intOf i).toNat)
  case atStart => exact ⟨0, [], _, _, Nat.zero_le _, rfl, rfl, Lib.hid hlit, hal, Lib.hid (by simp)⟩
  case round =>
    obtain ⟨k, xs, A', c', hk, rfl, rfl, HROW, hb, HX⟩ := hrel
    clear hal hlit
    by_cases hlt : k < c.length
    · have hk1 : (k : Int) < c.length := by omega
      obtain ⟨ad, A1, c1, A2, c2, rfl, hf, e1, e2, hc1, hc2, hds, hts⟩ := (Lay.Sl.below HH.out hb (fun _ h => h)).at_layer hlt
      obtain ⟨ys, hys⟩ : ∃ ys, ys = xs ++ [c[k]] := ⟨_, rfl⟩
      have HYE : Hid (ys = c.take (k + 1)) := Lib.hid (by rw [hys, HX.out, List.take_succ_eq_append_getElem hlt])
      have HYS := Lib.hid hys
      have HXL : Hid (xs.length ≤ 1048576) := Lib.hid (by rw [HX.out, List.length_take]; omega)
      obtain ⟨ol1, ol2, ol3⟩ := HO.out _ (List.getElem_mem hlt)
      have HO3 := Lib.hid ol3
      have hB : A1 = none → c[k].ds.length = 0 := fun e => by
        rcases Nat.eq_zero_or_pos c[k].ds.length with h9 | h9
        · exact h9
        · obtain ⟨a9, e9, _⟩ := hds h9
          rw [e] at e9; cases e9
      have HBN := Lib.hid hB
      have HTS := Lib.hid hts
      generalize hll : c[k] = l at *
      have HLL := Lib.hid hll
      generalize wr = V at *
      have hal1 : Below V.heap.size V (V.alloc (.cells #[] 39)) := (Below.refl _ _).alloc (Nat.le_refl _) _
      have hown := own_lit0D V
      have hbV := Nat.lt_of_lt_of_le hf hb.size
      have hb1 : (ad.add (k * 2)).block < V.heap.size := by rw [block_of_add]; exact hbV
      have f1 := (hal1.cell (p := ad.add (k * 2)) hb1).trans e1
      have HE2 := Lib.hid e2
      have HSR := Lib.hid (src_decls (hds.below hal1 (fun b hb9 => Nat.lt_of_lt_of_le hb9 hb.size)))
      have hsz1 := hal1.size
      have HAL1 := Lib.hid hal1
      have HB := Lib.hid hb
      have hz0 : ([] : List D).length ≤ 2000000 := by simp
      have hz1 : l.ds.length ≤ 2000000 := by omega
      clear hys hB hds hts hll e1 e2 ol3 hal1 hb hf
      go_wp2_with (at_builtin; refine wpList_append_decls (xs := []) (ys := l.ds) (by rfl) (.tmp 14) (.tmp 19) (by rfl) (by rfl) (by rfl) hown HSR.out HBN.out hz0 hz1 hsz1 rfl ?_; intro A3 c3 w3 hown3 hb3 hg3; have HOWN := Lib.hid hown3; have HB3 := Lib.hid hb3; have HSZ3 := Lib.hid (Nat.le_trans hsz1 hb3.size); clear hown hown3 hb3 hg3 f1 hsz1)
      have hnb := heap_alloc_new w3 (.cells #[.slice A3 l.ds.length c3, .slice none 0 0] 58)
      have hal5 : Below w3.heap.size w3 (w3.alloc (.cells #[.slice A3 l.ds.length c3, .slice none 0 0] 58)) := (Below.refl _ _).alloc (Nat.le_refl _) _
      have HSZ5 : Hid ((w3.alloc (.cells #[.slice A3 l.ds.length c3, .slice none 0 0] 58)).heap.size = w3.heap.size + 1) := Lib.hid (by simp)
      have HNB := Lib.hid hnb
      have HAL5 := Lib.hid hal5
      clear hnb hal5
      generalize w3.alloc (.cells #[.slice A3 l.ds.length c3, .slice none 0 0] 58) = W5 at *
      have HVW : Hid (Below V.heap.size V W5) := Lib.hid ((HAL1.out.trans HB3.out).trans (HAL5.out.mono HSZ3.out))
      have HDS : Hid (OwnDs W5 V.heap.size (.slice A3 l.ds.length c3) l.ds) := Lib.hid (HOWN.out.up HAL5.out)
      have HDB : Hid (∀ g, (Value.slice A3 l.ds.length c3).ownBlock = some g → g < w3.heap.size) := Lib.hid (fun g hg => (HOWN.out.lt g hg).2)
      obtain ⟨p, hp⟩ : ∃ p, p = w3.heap.size := ⟨_, rfl⟩
      rw [← hp] at HSZ5 HNB HSZ3 HDB ⊢
      clear hp HOWN HB3 HSR HBN HAL1 HAL5
      obtain ⟨M, hM⟩ : ∃ M, M = W5.heap.size := ⟨_, rfl⟩
      have HM := Lib.hid hM
      rw [← hM] at HSZ5
      clear hM hz0 hz1
      go_loopw [6] (fun j wr => ∃ m : Nat, m ≤ l.ts.length ∧ j = .int .i64 m ∧ Hid (BoxY M p l.ds.length A3 c3 wr (l.ts.take m)) ∧ Hid (Gr (fun g => g = p ∨ M ≤ g) W5 wr)) (fun j _ => l.ts.length - (intOf j).toNat)
      case atStart => exact ⟨0, Nat.zero_le _, rfl, Lib.hid ⟨none, 0, HNB.out, RowTr.nil _ _⟩, Lib.hid (Gr.refl _ _)⟩
      case round =>
        obtain ⟨m, hm, rfl, HBT, HGR⟩ := hrel
        have HPW : Hid (p < W5.heap.size) := Lib.hid (by have := HSZ5.out; have := HM.out; omega)
        have HMW : Hid (M ≤ wr.heap.size) := Lib.hid (by rw [HM.out]; exact HGR.out.size)
        have HVr : Hid (Below V.heap.size V wr) := Lib.hid (HVW.out.trans (HGR.out.to_below' HVW.out.size (fun x hx => by have := HSZ3.out; have := HSZ5.out; omega)))
        have hw2 := (HVr.out.cell (p := ⟨(ad.add (k * 2)).block, (ad.add (k * 2)).off + 1, none⟩) hb1).trans HE2.out
        by_cases hlm : m < l.ts.length
        · have hm1 : (m : Int) < l.ts.length := by omega
          obtain ⟨B, b, hbx, hrow⟩ := HBT.out
          have hFV : ∀ g, g < w.heap.size → g < V.heap.size := fun g hg => Nat.lt_of_lt_of_le hg HB.out.size
          obtain ⟨ad2, A5, c5, rfl, hf2, t1, t2, t3, t4, t5, hcc, hkk⟩ := (HTS.out.below HVr.out hFV).at_term hlm
          obtain ⟨zs, hzs⟩ : ∃ zs, zs = l.ts.take m ++ [l.ts[m]] := ⟨_, rfl⟩
          have HZE : Hid (zs = l.ts.take (m + 1)) := Lib.hid (by rw [hzs, List.take_succ_eq_append_getElem hlm])
          have HZS := Lib.hid hzs
          have hxl : (l.ts.take m).length ≤ 2000000 := by rw [List.length_take]; omega
          generalize l.ts.take m = ts at *
          have HCP := Lib.hid (l3Copy_any l.ts[m] (HO3.out _ (List.getElem_mem hlm)) A5 c5 (fun g => g < w.heap.size))
          generalize hx : l.ts[m] = x at *
          have HXX := Lib.hid hx
          have HRW := Lib.hid hrow
          have HBX := Lib.hid hbx
          have HKK := Lib.hid hkk
          have HFL : Hid (∀ g, g < w.heap.size → g < wr.heap.size) := Lib.hid (fun g hg => Nat.lt_of_lt_of_le (hFV g hg) HVr.out.size)
          have z0 := Later.cell (cell_of_block HBX.out 1).1
          have z1 := Later.cell hw2
          have y0 := Later.cell t1
          have y1 := Later.cell t2
          have y2 := Later.cell t3
          have y3 := Later.cell t4
          have y4 := Later.cell t5
          clear hzs hkk hrow hbx t1 t2 t3 t4 t5 hx hFV hf2
          go_wp2
          clear hw2
          generalize wr = W1 at *
          refine wp_region_shares [[], [(0, 32)], [], [], [(2, 34), (3, 35)], [(4, 36)], [(5, 37)], [], [(6, 38), (7, 39)], [(8, 40)], [(9, 41)], [(10, 42)], [(1, 33), (11, 43)], [], [(13, 45), (12, 44)]]
            [.eq (.pointer (some ⟨p, 1, none⟩)), .eq (.slice B ts.length b), .eq (.slice (some ad) c.length q), .eq (.int .i64 (k : Int)), .eq (.pointer (some (ad.add (k * 2)))), .eq (.pointer (some ⟨(ad.add (k * 2)).block, (ad.add (k * 2)).off + 1, none⟩)), .eq (.slice (some ad2) l.ts.length c2), .eq (.int .i64 (m : Int)), .eq (.pointer (some (ad2.add (m * 5)))), .eq (.agg #[.int .i64 x.op, .int .i64 x.a, .int .i64 x.b, .string x.name, .slice A5 x.kids.length c5]), Fact.treeV M W1.heap.size x, Fact.treeL M W1.heap.size x, Fact.rowT M W1 (.slice B ts.length b) zs, .eq (.pointer (some ⟨p, 1, none⟩)), Fact.boxY M p l.ds.length A3 c3 W1 zs]
            [12, 14] [12, 14] [13, 14] [14] [(0, 32), (1, 33), (2, 34), (3, 35), (4, 36), (5, 37), (6, 38), (7, 39), (8, 40), (9, 41), (10, 42), (11, 43), (12, 44), (13, 45)] (by kernel_rfl) (by kernel_rfl) (by kernel_rfl) (by kernel_rfl)
            ⟨?_, ?_, ?_, ?_, ?_, ?_, ?_, ?_, ?_, ?_, ?_, ?_, ?_, ?_, ?_, trivial⟩ ?_
          · intro vals z hC hF
            simp only [putsD, Act.put, List.setIfInBounds_toArray, List.set_cons_zero, List.set_cons_succ]
            go_wp2
            exact ⟨rfl, rfl, .inr (Below.refl _ _), .inr (.inl (by simp))⟩
          · intro vals z hC hF
            have hC := hC.resolve_left (by simp)
            have hsz := hC.size
            have e1 : z.cell? _ = _ := z0 ⟨z, hC⟩
            simp only [factsD, List.getD_cons_zero, List.getD_cons_succ, Fact.eq, Fact.row, Fact.lit, Fact.lit0, Fact.of, and_true, Fact.treeV, Fact.treeL, Fact.rowT, Fact.boxY] at hF
            simp only [putsD, Act.put, List.setIfInBounds_toArray, List.set_cons_zero, List.set_cons_succ]
            simp only [hF]
            go_wp2
            exact ⟨rfl, rfl, .inr (Below.refl _ _), .inr (.inl (by simp))⟩
          · intro vals z hC hF
            simp only [putsD, Act.put, List.setIfInBounds_toArray, List.set_cons_zero, List.set_cons_succ]
            go_wp2
            exact ⟨rfl, rfl, .inr (Below.refl _ _), .inr (.inl (by simp))⟩
          · intro vals z hC hF
            simp only [putsD, Act.put, List.setIfInBounds_toArray, List.set_cons_zero, List.set_cons_succ]
            go_wp2
            exact ⟨rfl, rfl, .inr (Below.refl _ _), .inr (.inl (by simp))⟩
          · intro vals z hC hF
            simp only [factsD, List.getD_cons_zero, List.getD_cons_succ, Fact.eq, Fact.row, Fact.lit, Fact.lit0, Fact.of, and_true, Fact.treeV, Fact.treeL, Fact.rowT, Fact.boxY] at hF
            obtain ⟨e1, e2⟩ := hF
            simp only [putsD, Act.put, List.setIfInBounds_toArray, List.set_cons_zero, List.set_cons_succ]
            simp only [e1, e2]
            go_wp2
            exact ⟨rfl, rfl, .inr (Below.refl _ _), .inr (.inl (by simp))⟩
          · intro vals z hC hF
            simp only [factsD, List.getD_cons_zero, List.getD_cons_succ, Fact.eq, Fact.row, Fact.lit, Fact.lit0, Fact.of, and_true, Fact.treeV, Fact.treeL, Fact.rowT, Fact.boxY] at hF
            simp only [putsD, Act.put, List.setIfInBounds_toArray, List.set_cons_zero, List.set_cons_succ]
            simp only [hF]
            go_wp2
            exact ⟨rfl, rfl, .inr (Below.refl _ _), .inr (.inl (by simp))⟩
          · intro vals z hC hF
            have hC := hC.resolve_left (by simp)
            have hsz := hC.size
            have e1 : z.cell? _ = _ := z1 ⟨z, hC⟩
            simp only [factsD, List.getD_cons_zero, List.getD_cons_succ, Fact.eq, Fact.row, Fact.lit, Fact.lit0, Fact.of, and_true, Fact.treeV, Fact.treeL, Fact.rowT, Fact.boxY] at hF
            simp only [putsD, Act.put, List.setIfInBounds_toArray, List.set_cons_zero, List.set_cons_succ]
            simp only [hF]
            go_wp2
            exact ⟨rfl, rfl, .inr (Below.refl _ _), .inr (.inl (by simp))⟩
          · intro vals z hC hF
            simp only [putsD, Act.put, List.setIfInBounds_toArray, List.set_cons_zero, List.set_cons_succ]
            go_wp2
            exact ⟨rfl, rfl, .inr (Below.refl _ _), .inr (.inl (by simp))⟩
          · intro vals z hC hF
            simp only [factsD, List.getD_cons_zero, List.getD_cons_succ, Fact.eq, Fact.row, Fact.lit, Fact.lit0, Fact.of, and_true, Fact.treeV, Fact.treeL, Fact.rowT, Fact.boxY] at hF
            obtain ⟨e1, e2⟩ := hF
            simp only [putsD, Act.put, List.setIfInBounds_toArray, List.set_cons_zero, List.set_cons_succ]
            simp only [e1, e2]
            go_wp2
            exact ⟨rfl, rfl, .inr (Below.refl _ _), .inr (.inl (by simp))⟩
          · intro vals z hC hF
            have hC := hC.resolve_left (by simp)
            have hsz := hC.size
            have e1 : z.cell? _ = _ := y0 ⟨z, hC⟩
            have e2 : z.cell? _ = _ := y1 ⟨z, hC⟩
            have e3 : z.cell? _ = _ := y2 ⟨z, hC⟩
            have e4 : z.cell? _ = _ := y3 ⟨z, hC⟩
            have e5 : z.cell? _ = _ := y4 ⟨z, hC⟩
            simp only [factsD, List.getD_cons_zero, List.getD_cons_succ, Fact.eq, Fact.row, Fact.lit, Fact.lit0, Fact.of, and_true, Fact.treeV, Fact.treeL, Fact.rowT, Fact.boxY] at hF
            have e9 := hF
            simp only [putsD, Act.put, List.setIfInBounds_toArray, List.set_cons_zero, List.set_cons_succ]
            simp only [e9]
            go_wp2
            exact ⟨rfl, rfl, .inr (Below.refl _ _), .inr (.inl (by simp))⟩
          · intro vals z hC hF
            have hC := hC.resolve_left (by simp)
            have hsz := hC.size
            simp only [factsD, List.getD_cons_zero, List.getD_cons_succ, Fact.eq, Fact.row, Fact.lit, Fact.lit0, Fact.of, and_true, Fact.treeV, Fact.treeL, Fact.rowT, Fact.boxY] at hF
            have e1 := hF
            simp only [putsD, Act.put, List.setIfInBounds_toArray, List.set_cons_zero, List.set_cons_succ]
            simp only [e1]
            have HC9 := Lib.hid (HCP.out z (HKK.out.below hC HFL.out) (fun g hg => Nat.lt_of_lt_of_le (HFL.out g hg) hsz))
            go_wp2_with fail
            refine HC9.out.mono ?_
            rintro e w9 ⟨A9, c9, rfl, hc9, ht9, hb9⟩
            have HT9 : Hid (TrS w9 (fun g => W1.heap.size ≤ g ∧ OwnB9 M w9 g) A9 x.kids) := Lib.hid (TrT.mono ht9 fun g hg => ⟨Nat.le_trans hsz hg.1, hg.le (Nat.le_trans HMW.out hsz)⟩)
            clear ht9
            go_wp2
            exact ⟨rfl, ⟨A9, c9, rfl, hc9, HT9.out⟩, .inr hb9, .inr (.inl (by simp))⟩
          · intro vals z hC hF
            have hC := hC.resolve_left (by simp)
            have hsz := hC.size
            simp only [factsD, List.getD_cons_zero, List.getD_cons_succ, Fact.eq, Fact.row, Fact.lit, Fact.lit0, Fact.of, and_true, Fact.treeV, Fact.treeL, Fact.rowT, Fact.boxY] at hF
            obtain ⟨A9, c9, e1, hc9, ht9⟩ := hF
            have e1 : vals 10 = .agg #[.int .i64 x.op, .int .i64 x.a, .int .i64 x.b, .string x.name, .slice A9 x.kids.length c9] := e1
            simp only [putsD, Act.put, List.setIfInBounds_toArray, List.set_cons_zero, List.set_cons_succ]
            simp only [e1]
            have hal9 : Below z.heap.size z (z.alloc (.cells (tcells x A9 c9).toArray 48)) := (Below.refl _ _).alloc (Nat.le_refl _) _
            go_wp2
            exact ⟨rfl, ⟨_, A9, c9, rfl, heap_alloc_new _ _, hc9, TrS.up (F := fun _ => True) ht9 hal9⟩, .inr hal9, .inr (.inl (by simp))⟩
          · intro vals z hC hF
            have hC := hC.resolve_left (by simp)
            have hsz := hC.size
            simp only [factsD, List.getD_cons_zero, List.getD_cons_succ, Fact.eq, Fact.row, Fact.lit, Fact.lit0, Fact.of, and_true, Fact.treeV, Fact.treeL, Fact.rowT, Fact.boxY] at hF
            obtain ⟨e5, b5, A9, c9, e7, hb5, hc9, ht9⟩ := hF
            have hrz := HRW.out.up hC
            simp only [putsD, Act.put, List.setIfInBounds_toArray, List.set_cons_zero, List.set_cons_succ]
            simp only [e5, e7]
            refine wpList_append_tree (ys := zs) (by rfl) (.tmp 33) (.tmp 43) (by rfl) (by rfl) (by rfl) hrz (Nat.le_trans HMW.out hsz) hxl ht9 hc9 hb5 (fun g hg e9 => by have := (HRW.out.lt g e9).2; omega) ⟨W1, Nat.le_refl _, hC, HRW.out⟩ HZS.out ?_
            intro A8 c8 w8 hown8 hg8
            exact ⟨rfl, ⟨A8, c8, rfl, hown8, below_grown hC hg8⟩, .inl (by simp), .inl (by simp)⟩
          · intro vals z hC hF
            simp only [putsD, Act.put, List.setIfInBounds_toArray, List.set_cons_zero, List.set_cons_succ]
            go_wp2
            exact ⟨rfl, rfl, .inr (Below.refl _ _), .inr (.inl (by simp))⟩
          · intro vals z hC hF
            simp only [factsD, List.getD_cons_zero, List.getD_cons_succ, Fact.eq, Fact.row, Fact.lit, Fact.lit0, Fact.of, and_true, Fact.treeV, Fact.treeL, Fact.rowT, Fact.boxY] at hF
            obtain ⟨e11, A8, c8, e8, hown8, hg8⟩ := hF
            have hpx := (hg8.block p (lt_of_block HBX.out) (fun e => by have := (HRW.out.lt p e.symm).1; have := HSZ5.out; omega)).trans HBX.out
            have x1 := (cell_of_block hpx 1).1
            have x2 := (cell_of_block hpx 1).2
            have HRF := Lib.hid (hown8.far ⟨p, 1, none⟩ (.slice A8 zs.length c8) (by show p < M; have := HSZ5.out; omega))
            have HPX := Lib.hid (heap_set_same z p 1 (.slice A8 zs.length c8) _ _ hpx)
            have HGN : Hid (Gr (fun g => g = p ∨ M ≤ g) W1 (z.setCell ⟨p, 1, none⟩ (.slice A8 zs.length c8))) := Lib.hid (Gr.set (Gr.mono (S := fun g => M ≤ g) ⟨hg8.os, hg8.tape, hg8.output, hg8.size, fun i hi hn => hg8.block i hi (fun e => hn (HRW.out.lt i e.symm).1)⟩ fun _ h => .inr h) p 1 _ (.inl (.inl rfl)))
            clear hpx
            simp only [putsD, Act.put, List.setIfInBounds_toArray, List.set_cons_zero, List.set_cons_succ]
            simp only [e11, e8]
            go_wp2
            exact ⟨rfl, ⟨⟨A8, c8, HPX.out, HRF.out⟩, HGN.out, lt_of_block HBX.out⟩, .inl (by simp), .inl (by simp)⟩
          · intro vals z hF
            simp only [facts, List.getD_cons_zero, List.getD_cons_succ, Fact.eq, Fact.row, Fact.lit, Fact.lit0, Fact.of, and_true, Fact.treeV, Fact.treeL, Fact.rowT, Fact.boxY] at hF
            obtain ⟨hbt, hgn, hpl⟩ := hF
            simp only [putsD, Act.put, List.setIfInBounds_toArray, List.set_cons_zero, List.set_cons_succ]
            have HGN := Lib.hid (HGR.out.trans hgn)
            have HBN := Lib.hid hbt
            clear hbt hgn hpl z0 z1 y0 y1 y2 y3 y4
            go_wp2
            go_roundw
            case rel => exact ⟨m + 1, by omega, by go_num, by rw [← HZE.out]; exact HBN, HGN⟩
            case measure => simp [intOf]; omega
        · have hme : m = l.ts.length := by omega
          subst hme
          have HBE := HBT.out
          rw [List.take_length] at HBE
          obtain ⟨B, b, hbx, hrow⟩ := HBE
          have v0 := (cell_of_block hbx 0).1
          have v1 := (cell_of_block hbx 1).1
          have HPR : Hid (PR wr V.heap.size wr.heap.size (.slice A3 l.ds.length c3) (.slice B l.ts.length b) l) := Lib.hid ⟨M, A3, c3, B, b, rfl, rfl, by have := HSZ3.out; have := HSZ5.out; omega, HMW.out, fun g hg => by have := HDB.out g hg; have := HSZ5.out; omega,
            own_of_heap HDS.out fun g hg => HGR.out.block g (by have := HDB.out g hg; have := HPW.out; omega) (fun e => by have := HDB.out g hg; have := HSZ5.out; omega), RowU.of hrow⟩
          have hal7 : Below wr.heap.size wr (wr.alloc (.cells #[.slice A3 l.ds.length c3, .slice B l.ts.length b] 58)) := (Below.refl _ _).alloc (Nat.le_refl _) _
          have hn7 := heap_alloc_new wr (.cells #[.slice A3 l.ds.length c3, .slice B l.ts.length b] 58)
          have HP7 : Hid (PR (wr.alloc (.cells #[.slice A3 l.ds.length c3, .slice B l.ts.length b] 58)) V.heap.size wr.heap.size (.slice A3 l.ds.length c3) (.slice B l.ts.length b) l) := Lib.hid (stay_PR _ _ _ _ _ _ _ HPR.out hal7.size fun g _ h9 => hal7.block g h9)
          have HB7 := Lib.hid (bthen HB.out (bthen HVr.out hal7))
          have HV7 := Lib.hid (bthen HVr.out hal7)
          have HS7 := Lib.hid hal7.size
          have HN7 := Lib.hid hn7
          clear hal7 hn7 hbx hrow
          go_wp2_with (at_builtin; refine wpList_append_layer stay_PR (ys := ys) (S0 := V.heap.size) (E0 := wr.heap.size) (l := l) (lo := w.heap.size) (vd := .slice A3 l.ds.length c3) (vt := .slice B l.ts.length b) (by rfl) (.tmp 46) (.tmp 48) (by rfl) (by rfl) (by rfl) HB.out.size HXL.out HP7.out HVr.out.size HS7.out rfl rfl HN7.out ⟨V, Nat.le_refl _, HV7.out, HROW.out⟩ (by rw [HYS.out]) ?_; intro A8 c8 w8 hr8 hg8; have HR8 := Lib.hid hr8; have HB8 : Hid (Below w.heap.size w w8) := Lib.hid (HB7.out.grown hg8 (Nat.le_trans HB.out.size (Nat.le_trans HVr.out.size HS7.out)) (fun g e => (HROW.out.lt g e).1)); clear hr8 hg8)
          go_roundw
          case rel => exact ⟨k + 1, ys, A8, c8, by omega, rfl, by go_num, HR8, HB8.out, HYE⟩
          case measure => simp [intOf]; omega
    · have hke : k = c.length := by omega
      subst hke
      have HE : Hid (xs = c) := Lib.hid (by rw [HX.out, List.take_length])
      go_wp2
      go_ret
      rw [← HE.out]
      exact ⟨_, _, rfl, HROW.out, hb⟩
end Go.Proofs.YtiahmfpfimmbgaaGreatDoor

/-! What the reference hands back is only read; the reference's CtxTerms. -/
namespace Go.Proofs.YtiahmfpfimmbgaaGreatDoor
open Go Go.RowKit Go.ChangeShapes Go.WideShapes Go.ChangeAt Go.Deep

/-- It may be read. -/
def RdO {α : Type} (L : Lay α) (w : World) (A : Option Addr) (xs : List α) : Prop := L.Rd w A xs
/-- It may be read, and lay there when the heap was hi long. -/
def RdB {α : Type} (L : Lay α) (hi : Nat) (w : World) (A : Option Addr) (xs : List α) : Prop := hi ≤ w.heap.size ∧ L.Sl w (fun b => b < hi) A xs
section
variable {α : Type} {L : Lay α} {w w' : World} {hi : Nat} {A : Option Addr} {xs : List α}
theorem RdO.cp_of (h : RdO L w A xs) : RdB L w.heap.size w A xs := ⟨Nat.le_refl _, h⟩
theorem RdO.nil (L : Lay α) (w : World) (A : Option Addr) : RdO L w A [] := by unfold RdO; exact Lay.Sl.nil _ _ _ _
theorem RdB.cp_rd (h : RdB L hi w A xs) : L.Rd w A xs := h.2.mono fun _ h9 => Nat.lt_of_lt_of_le h9 h.1
end
theorem RowP.map {P P' : LyF} (hP : ∀ w S E vd vt l, P w S E vd vt l → P' w S E vd vt l) {lo : Nat} {w : World} {v : Value} {ls : List Ly} (h : RowP P lo w v ls) : RowP P' lo w v ls := by
  obtain ⟨cs, h1, S, E, Vd, Vt, h2, h3⟩ := h
  exact ⟨cs, h1, S, E, Vd, Vt, fun k l hl => by
    obtain ⟨g1, g2, g3, g6, g7⟩ := h2 k l hl
    exact ⟨g1, g2, g3, g6, hP _ _ _ _ _ _ g7⟩, h3⟩
theorem RowP.rdR {lo c : Nat} {w : World} {A : Option Addr} {ls : List Ly} (h : RowP PR lo w (.slice A ls.length c) ls) : Lay.layer.Rd w A ls := TrG.cp_rd (RowP.cp_of (RowP.map (fun _ _ _ _ _ _ => PR.pp) h))
theorem RowP.cap {P : LyF} {lo c n : Nat} {w : World} {A : Option Addr} {ls : List Ly} (h : RowP P lo w (.slice A n c) ls) : n = ls.length ∧ ls.length ≤ c := by
  obtain ⟨A', c', e, hl⟩ := h.form
  injection e with e1 e2 e3
  exact ⟨e2, by omega⟩
end Go.Proofs.YtiahmfpfimmbgaaGreatDoor

/-! Changed contexts as answers: comparisons, marks; CtxPush. -/
namespace Go.Proofs.YtiahmfpfimmbgaaGreatDoor
open Go Go.RowKit Go.ChangeShapes Go.WideShapes Go.ChangeAt Go.Deep

def ctxPush (c : List Ly) : List Ly × Bool := ctxCh c (c ++ [⟨[], []⟩])
set_option maxRecDepth 100000 in
set_option maxHeartbeats 2000000 in
theorem implCtxPush_c (c : List Ly) (A : Option Addr) (q : Nat) (w : World) (h : Lay.layer.Rd w A c) (_ : c.length ≤ q) (hs : okC c) :
    Calls Tryz.prog 22 #[.slice A c.length q] w (RetCh (ctxPush c) w) := by
  have HCH := Lib.hid (changed_Push A q c (c ++ [⟨[], []⟩]) w h hs (fun hk => hs.push hk) (fun hk z p hb hst => by
    obtain ⟨A1, A2, A3, c1, c2, c3, hS⟩ := hst
    refine (push_any w.heap.size p _ _ _ A1 A2 A3 c1 c2 c3 z hS (by rw [msAll_len]; have := (ctxOk_parts hk).2.1; omega)).mono ?_
    rintro e w' ⟨h1, h2, h3⟩
    refine ⟨h1, StkC.of ?_, h3⟩
    have e1 : dsAll (c ++ [⟨[], []⟩]) = dsAll c := by rw [dsAll_app, dsAll_one]; simp
    have e2 : tsAll (c ++ [⟨[], []⟩]) = tsAll c := by rw [tsAll_app, tsAll_one]; simp
    rw [msAll_app, e1, e2]
    exact h2))
  clear h hs
  go_enter Tryz.func22, Tryz.ntmps22
  go_wp2_with fail
  refine HCH.out.mono ?_
  rintro e w1 ⟨A1, c1, rfl, hc1, hr, hb⟩
  have HRR := Lib.hid (And.intro hc1 (And.intro hr hb))
  clear hc1 hr hb HCH
  show _
  go_wp2
  refine bodyPost_ret (v := .tuple #[.slice A1 (ctxCh c (c ++ [⟨[], []⟩])).1.length c1, .bool (ctxCh c (c ++ [⟨[], []⟩])).2]) (by simp [results, Tryz.results22, go_sem]) rfl ?_
  exact ⟨A1, c1, rfl, HRR.out.1, HRR.out.2.1, HRR.out.2.2⟩
/-- Layers and a yes or no are handed back that may be read. -/
def RetRd2 (r : List Ly × Bool) (w : World) (e : Ending) (w' : World) : Prop := ∃ A c, e = .returned (.tuple #[.slice A r.1.length c, .bool r.2]) ∧ r.1.length ≤ c ∧ RdO Lay.layer w' A r.1 ∧ Below w.heap.size w w'
set_option maxRecDepth 100000 in
set_option maxHeartbeats 2000000 in
theorem l10Now_any (c x : List Ly) (A B : Option Addr) (q b : Nat) (w : World) (h : Lay.layer.Rd w A c) (h' : Lay.layer.Rd w B x) (hb : x.length ≤ b) (hl : c.length ≤ 1048576) (ho : ∀ l ∈ c, okL2 l) (hx : okC x) :
    Calls Tryz.prog 60 #[.slice A c.length q, .slice B x.length b] w (RetRd2 (if ctxOk x = true then (x, true) else (c, false)) w) := by
  have HO := Lib.hid (specCtxOk_any B b x w h' hb hx)
  have HCP := Lib.hid (fun (z : World) (hz : Lay.layer.Rd z A c) => l10Copy_any A q c z hz hl ho)
  obtain ⟨r, hr⟩ : ∃ r, r = ctxOk x := ⟨_, rfl⟩
  rw [← hr] at HO ⊢
  have H := Lib.hid h
  have H' := Lib.hid h'
  have HBB := Lib.hid hb
  obtain ⟨s9, hs9⟩ : ∃ s9, s9 = if r = true then (x, true) else (c, false) := ⟨_, rfl⟩
  have HS9 := Lib.hid hs9
  rw [← hs9]
  clear hr h h' hb ho hx hs9
  go_enter Tryz.func60, Tryz.ntmps60
  go_wp2_with fail
  refine HO.out.mono ?_
  rintro e w2 ⟨rfl, hb2⟩
  have HB2 := Lib.hid hb2
  clear hb2
  cases r
  · have HLC := Lib.hid (HCP.out w2 (H.out.up HB2.out))
    go_wp2_with fail
    refine HLC.out.mono ?_
    rintro e w3 ⟨A3, c3, rfl, ho, hb3⟩
    have HB3 := Lib.hid (bthen HB2.out hb3)
    have HO3 := Lib.hid ho
    clear ho hb3
    go_wp2
    refine bodyPost_ret (v := .tuple #[.slice A3 c.length c3, .bool false]) (by simp [results, Tryz.results60, go_sem]) rfl ?_
    rw [show s9 = (c, false) from HS9.out]
    exact ⟨A3, c3, rfl, HO3.out.cap.2, HO3.out.rdR, HB3.out⟩
  · go_wp2
    refine bodyPost_ret (v := .tuple #[.slice B x.length b, .bool true]) (by simp [results, Tryz.results60, go_sem]) rfl ?_
    rw [show s9 = (x, true) from HS9.out]
    exact ⟨B, b, rfl, HBB.out, H'.out.up HB2.out, HB2.out⟩
theorem pr_none (w : World) : PR w w.heap.size w.heap.size (.slice none 0 0) (.slice none 0 0) ⟨[], []⟩ :=
  ⟨w.heap.size, none, 0, none, 0, rfl, rfl, Nat.le_refl _, Nat.le_refl _, fun g hg => (by cases hg), World.ownsRow_nil _ _ _ _, RowU.of (RowTr.nil _ _)⟩
set_option maxRecDepth 100000 in
set_option maxHeartbeats 4000000 in
theorem specCtxPush_c (c : List Ly) (A : Option Addr) (q : Nat) (w : World) (h : Lay.layer.Rd w A c) (hq : c.length ≤ q) (hs : okC c) :
    Calls Tryz.prog 21 #[.slice A c.length q] w (RetRd2 (ctxPush c) w) := by
  have hc := hs
  have HO := Lib.hid (specCtxOk_any A q c w h hq hc)
  have HCP := Lib.hid (fun (z : World) (hz : Lay.layer.Rd z A c) => l10Copy_any A q c z hz hc.len (okC_l2 hs))
  obtain ⟨r, hr⟩ : ∃ r, r = ctxOk c := ⟨_, rfl⟩
  rw [← hr] at HO
  obtain ⟨x, hx⟩ : ∃ x, x = c ++ [(⟨[], []⟩ : Ly)] := ⟨_, rfl⟩
  have HXX := Lib.hid hx
  have HX : Hid (ctxPush c = if r = true then (if ctxOk x = true then (x, true) else (c, false)) else ([], false)) := Lib.hid (by rw [hr, hx]; rfl)
  have HOX : Hid (r = true → okC x) := Lib.hid (fun e => by rw [hx]; exact hc.push (by rw [← hr]; exact e))
  have HN := Lib.hid (fun (B : Option Addr) (b : Nat) (z : World) (hz : Lay.layer.Rd z A c) (hz' : Lay.layer.Rd z B x) (hb : x.length ≤ b) (hr : r = true) => l10Now_any c x A B q b z hz hz' hb hc.len (okC_l2 hs) (HOX.out hr))
  have hcl := hc.len
  have H := Lib.hid h
  clear hc hr hs h hx
  go_enter Tryz.func21, Tryz.ntmps21
  go_wp2_with fail
  refine HO.out.mono ?_
  rintro e w2 ⟨rfl, hb2⟩
  have HB2 := Lib.hid hb2
  cases r
  · have hal := hb2.alloc hb2.size (.cells #[] 58)
    have HAL := Lib.hid hal
    clear hal hb2
    go_wp2
    refine bodyPost_ret (v := .tuple #[.slice (some ⟨w2.heap.size, 0, none⟩) 0 0, .bool false]) (by simp [results, Tryz.results21, go_sem]) rfl ?_
    rw [show ctxPush c = ([], false) from by rw [HX.out]; rfl]
    exact ⟨_, _, rfl, Nat.zero_le _, RdO.nil _ _ _, HAL.out⟩
  · have HLC := Lib.hid (HCP.out w2 (H.out.up HB2.out))
    clear hb2
    go_wp2_with fail
    refine HLC.out.mono ?_
    rintro e w3 ⟨A3, c3, rfl, ho, hb3⟩
    have HB3 := Lib.hid (bthen HB2.out hb3)
    have HO3 := Lib.hid ho
    have hal : Below w3.heap.size w3 (w3.alloc (.cells #[.slice none 0 0, .slice none 0 0] 58)) := (Below.refl _ _).alloc (Nat.le_refl _) _
    have hnb := heap_alloc_new w3 (.cells #[.slice none 0 0, .slice none 0 0] 58)
    have HPN : Hid (PR (w3.alloc (.cells #[.slice none 0 0, .slice none 0 0] 58)) w3.heap.size w3.heap.size (.slice none 0 0) (.slice none 0 0) ⟨[], []⟩) := Lib.hid (stay_PR _ _ _ _ _ _ _ (pr_none w3) hal.size fun g _ h9 => hal.block g h9)
    have HNB := Lib.hid hnb
    have HAL := Lib.hid hal
    have hsz := hal.size
    have hlo := hb3.size
    clear ho hb3 hal hnb HLC
    go_wp2_with (at_builtin; refine wpList_append_layer stay_PR (ys := x) (S0 := w3.heap.size) (E0 := w3.heap.size) (l := ⟨[], []⟩) (lo := w2.heap.size) (vd := .slice none 0 0) (vt := .slice none 0 0) (by rfl) (.tmp 10) (.tmp 12) (by rfl) (by rfl) (by rfl) hlo hcl HPN.out (Nat.le_refl _) hsz rfl rfl HNB.out ⟨w3, Nat.le_refl _, HAL.out, HO3.out⟩ HXX.out ?_; intro A8 c8 w8 hr8 hg8; have HR8 := Lib.hid hr8; have HB8 : Hid (Below w.heap.size w w8) := Lib.hid ((bthen HB3.out HAL.out).grown hg8 (Nat.le_trans HB3.out.size hsz) (fun g e => Nat.le_trans HB2.out.size (HO3.out.lt g e).1)); clear hr8 hg8 hsz hlo)
    refine (HN.out A8 c8 w8 (H.out.up HB8.out) HR8.out.rdR HR8.out.cap.2 trivial).mono ?_
    rintro e w9 ⟨A9, c9, rfl, hc9, hr9, hb9⟩
    have HRR := Lib.hid (And.intro hc9 (And.intro hr9 (bthen HB8.out hb9)))
    clear hc9 hr9 hb9
    have HXE : Hid (ctxPush c = if ctxOk x = true then (x, true) else (c, false)) := Lib.hid (by rw [HX.out]; rfl)
    clear HX
    generalize (if ctxOk x = true then (x, true) else (c, false)) = s9 at *
    go_wp2
    refine bodyPost_ret (v := .tuple #[.slice A9 s9.1.length c9, .bool s9.2]) (by simp [results, Tryz.results21, go_sem]) rfl ?_
    rw [HXE.out]
    exact ⟨A9, c9, rfl, HRR.out.1, HRR.out.2.1, HRR.out.2.2⟩
end Go.Proofs.YtiahmfpfimmbgaaGreatDoor

/-! CtxName and CtxAssert, the program's. -/
namespace Go.Proofs.YtiahmfpfimmbgaaGreatDoor
open Go Go.RowKit Go.ChangeShapes Go.WideShapes Go.ChangeAt Go.Deep

def ctxName (c : List Ly) (d : D) : List Ly × Bool := ctxCh c (addD c d)
def ctxAssert (c : List Ly) (t : T) : List Ly × Bool := ctxCh c (addT c t)
def smD (d : D) : Prop := d.name.size ≤ 1048576 ∧ okInt d.wide
theorem addD_app (xs : List Ly) (l : Ly) (d : D) : addD (xs ++ [l]) d = xs ++ [⟨l.ds ++ [d], l.ts⟩] := onLast_app _ xs l
theorem addT_app (xs : List Ly) (l : Ly) (t : T) : addT (xs ++ [l]) t = xs ++ [⟨l.ds, l.ts ++ [t]⟩] := onLast_app _ xs l
theorem okC_addD9 {c : List Ly} {d : D} (h : okC c) (hk : ctxOk c = true) (hd : smD d) : okC (addD c d) := by
  obtain ⟨xs, l, rfl⟩ := last_of (ctxOk_parts hk).1
  rw [addD_app]
  exact h.addD hk (by have := hd.1; omega)
theorem okC_addT9 {c : List Ly} {t : T} (h : okC c) (hk : ctxOk c = true) (ht : T.All okT3 t) : okC (addT c t) := by
  obtain ⟨xs, l, rfl⟩ := last_of (ctxOk_parts hk).1
  rw [addT_app]
  exact h.addT hk ht
theorem RetCh.low {r : List Ly × Bool} {w w0 : World} {e : Ending} {w' : World} (h : RetCh r w0 e w') (hb : Below w.heap.size w w0) : RetCh r w e w' := by
  obtain ⟨A, c, h1, h2, h3, h4⟩ := h
  exact ⟨A, c, h1, h2, h3.low hb.size, bthen hb h4⟩
set_option maxRecDepth 100000 in
set_option maxHeartbeats 2000000 in
theorem implCtxName_c (c : List Ly) (d : D) (A : Option Addr) (q : Nat) (w : World) (h : Lay.layer.Rd w A c) (_ : c.length ≤ q) (hs : okC c) (hd : smD d) :
    Calls Tryz.prog 27 #[.slice A c.length q, .agg #[.string d.name, .int .i64 d.wide]] w (RetCh (ctxName c d) w) := by
  have hal : Below w.heap.size w (w.alloc (.cells #[.string d.name, .int .i64 d.wide] 39)) := (Below.refl _ _).alloc (Nat.le_refl _) _
  have hbx := heap_alloc_new w (.cells #[.string d.name, .int .i64 d.wide] 39)
  have HCH := Lib.hid (changed_Name A q c (addD c d) w.heap.size (w.alloc (.cells #[.string d.name, .int .i64 d.wide] 39)) (h.up hal) hs (fun hk => okC_addD9 hs hk hd) (fun hk z p hb hst => by
    have h4 := declOk_len (ctxOk_parts hk).2.2.1
    have h6 := (ctxOk_parts hk).2.1
    obtain ⟨xs, l, rfl⟩ := last_of (ctxOk_parts hk).1
    rw [msAll_app] at hst
    refine (chgName_any _ p w.heap.size d _ _ (msAll xs) _ _ z hst ((hb.block _ (lt_of_block hbx)).trans hbx) (by omega) (by rw [msAll_len]; rw [List.length_append] at h6; omega) (by omega) (by omega)).mono ?_
    rintro e w' ⟨h1, h2, h3⟩
    refine ⟨h1, StkC.of ?_, h3⟩
    have e1 : dsAll (xs ++ [⟨l.ds ++ [d], l.ts⟩]) = dsAll (xs ++ [l]) ++ [d] := by rw [dsAll_app, dsAll_app, dsAll_one, dsAll_one, List.append_assoc]
    have e2 : tsAll (xs ++ [⟨l.ds ++ [d], l.ts⟩]) = tsAll (xs ++ [l]) := by rw [tsAll_app, tsAll_app, tsAll_one, tsAll_one]
    rw [addD_app, msAll_app, e1, e2]
    have e3 : ((dsAll (xs ++ [l]) ++ [d]).length : Int) = ((dsAll (xs ++ [l])).length : Int) + 1 := by simp
    rw [e3]
    exact h2))
  have HAL := Lib.hid hal
  clear h hs hal hbx
  go_enter Tryz.func27, Tryz.ntmps27
  go_wp2_with fail
  refine HCH.out.mono ?_
  rintro e w1 hret
  obtain ⟨A1, c1, rfl, hc1, hr, hb⟩ := hret.low HAL.out
  have HRR := Lib.hid (And.intro hc1 (And.intro hr hb))
  clear hc1 hr hb HCH hret
  obtain ⟨r9, hr9⟩ : ∃ r9, r9 = ctxCh c (addD c d) := ⟨_, rfl⟩
  have HR9 := Lib.hid hr9
  rw [← hr9] at HRR ⊢
  clear hr9
  go_wp2
  refine bodyPost_ret (v := .tuple #[.slice A1 r9.1.length c1, .bool r9.2]) (by simp [results, Tryz.results27, go_sem]) rfl ?_
  rw [show ctxName c d = r9 from HR9.out.symm]
  exact ⟨A1, c1, rfl, HRR.out.1, HRR.out.2.1, HRR.out.2.2⟩
set_option maxRecDepth 100000 in
set_option maxHeartbeats 2000000 in
theorem implCtxAssert_c (c : List Ly) (t : T) (A : Option Addr) (q : Nat) (A0 : Option Addr) (c0 : Nat) (w : World) (h : Lay.layer.Rd w A c) (_ : c.length ≤ q) (hs : okC c) (h0 : Lay.term.Rd w A0 t.kids) (hc0 : t.kids.length ≤ c0) (ht : T.All okT3 t) :
    Calls Tryz.prog 33 #[.slice A c.length q, .agg #[.int .i64 t.op, .int .i64 t.a, .int .i64 t.b, .string t.name, .slice A0 t.kids.length c0]] w (RetCh (ctxAssert c t) w) := by
  have hal : Below w.heap.size w (w.alloc (.cells #[.int .i64 t.op, .int .i64 t.a, .int .i64 t.b, .string t.name, .slice A0 t.kids.length c0] 48)) := (Below.refl _ _).alloc (Nat.le_refl _) _
  have hbx := heap_alloc_new w (.cells #[.int .i64 t.op, .int .i64 t.a, .int .i64 t.b, .string t.name, .slice A0 t.kids.length c0] 48)
  have HCH := Lib.hid (changed_Assert A q c (addT c t) w.heap.size (w.alloc (.cells #[.int .i64 t.op, .int .i64 t.a, .int .i64 t.b, .string t.name, .slice A0 t.kids.length c0] 48)) (h.up hal) hs (fun hk => okC_addT9 hs hk ht) (fun hk z p hb hst => by
    have h8 := (ctxOk_parts hk).2.2.2.1
    have h6 := (ctxOk_parts hk).2.1
    obtain ⟨xs, l, rfl⟩ := last_of (ctxOk_parts hk).1
    rw [msAll_app] at hst
    have hkz : Lay.term.Sl z (fun b => b < (w.alloc (.cells #[.int .i64 t.op, .int .i64 t.a, .int .i64 t.b, .string t.name, .slice A0 t.kids.length c0] 48)).heap.size) A0 t.kids := ((h0.up hal).keep fun b h9 => hb.block b h9)
    refine (chgAssert_any _ p w.heap.size t A0 c0 _ _ (msAll xs) _ _ z hst ((hb.block _ (lt_of_block hbx)).trans hbx) (lt_of_block hbx) hkz hc0 (by omega) (by rw [msAll_len]; rw [List.length_append] at h6; omega) (by omega) (by omega)).mono ?_
    rintro e w' ⟨h1, h2, h3⟩
    refine ⟨h1, StkC.of ?_, h3⟩
    have e1 : dsAll (xs ++ [⟨l.ds, l.ts ++ [t]⟩]) = dsAll (xs ++ [l]) := by rw [dsAll_app, dsAll_app, dsAll_one, dsAll_one]
    have e2 : tsAll (xs ++ [⟨l.ds, l.ts ++ [t]⟩]) = tsAll (xs ++ [l]) ++ [t] := by rw [tsAll_app, tsAll_app, tsAll_one, tsAll_one, List.append_assoc]
    rw [addT_app, msAll_app, e1, e2]
    have e3 : ((tsAll (xs ++ [l]) ++ [t]).length : Int) = ((tsAll (xs ++ [l])).length : Int) + 1 := by simp
    rw [e3]
    exact h2))
  have HAL := Lib.hid hal
  clear h hs hal hbx h0
  go_enter Tryz.func33, Tryz.ntmps33
  go_wp2_with fail
  refine HCH.out.mono ?_
  rintro e w1 hret
  obtain ⟨A1, c1, rfl, hc1, hr, hb⟩ := hret.low HAL.out
  have HRR := Lib.hid (And.intro hc1 (And.intro hr hb))
  clear hc1 hr hb HCH hret
  obtain ⟨r9, hr9⟩ : ∃ r9, r9 = ctxCh c (addT c t) := ⟨_, rfl⟩
  have HR9 := Lib.hid hr9
  rw [← hr9] at HRR ⊢
  clear hr9
  go_wp2
  refine bodyPost_ret (v := .tuple #[.slice A1 r9.1.length c1, .bool r9.2]) (by simp [results, Tryz.results33, go_sem]) rfl ?_
  rw [show ctxAssert c t = r9 from HR9.out.symm]
  exact ⟨A1, c1, rfl, HRR.out.1, HRR.out.2.1, HRR.out.2.2⟩
end Go.Proofs.YtiahmfpfimmbgaaGreatDoor

/-! A drawn region whose operations write old memory: each operation once, in whatever world its turn comes; a relation that all keep, and an invariant. No program is named here. -/
namespace Go.Proofs.YtiahmfpfimmbgaaGreatDoor
open Go Go.RowKit

/-- The operation without its guard. -/
def bare (o : Oper) : Oper := { o with guard := none }
abbrev Say := (Nat → Value) → World → Prop
def says (L : List Say) (vals : Nat → Value) (x : World) : List Nat → Prop
  | [] => True
  | i :: l => L.getD i (fun _ _ => True) vals x ∧ says L vals x l
/-- It waits for all others. -/
def isLast (ops : List Oper) (k : Nat) : Bool := (List.range ops.length).all fun r => r == k || reach ops ops.length k r
/-- Each stays over the relation, or is the last. -/
def Stabs (ops : List Oper) (R : World → World → Prop) : Nat → List Say → Prop
  | _, [] => True
  | k, V :: l => (isLast ops k = true ∨ ∀ vs x x', V vs x → R x x' → V vs x') ∧ Stabs ops R (k + 1) l
theorem Stabs.get {ops : List Oper} {R : World → World → Prop} : ∀ {L : List Say} {k : Nat}, Stabs ops R k L → ∀ i vs x x', isLast ops (k + i) = false → L.getD i (fun _ _ => True) vs x → R x x' → L.getD i (fun _ _ => True) vs x'
  | [], _, _, i, vs, x, x', _, _, _ => by simp
  | V :: l, k, h, 0, vs, x, x', hl, hv, hr => by
    rcases h.1 with h1 | h1
    · rw [Nat.add_zero] at hl; rw [hl] at h1; cases h1
    · simpa using h1 vs x x' (by simpa using hv) hr
  | V :: l, k, h, i + 1, vs, x, x', hl, hv, hr => by simpa using Stabs.get h.2 i vs x x' (by rw [← hl]; congr 1; omega) (by simpa using hv) hr
/-- Each looks at its own value and those of the ones that it looks at. -/
def Locals (D : List (List Nat)) : Nat → List Say → Prop
  | _, [] => True
  | k, V :: l => (∀ vs vs' x, vs k = vs' k → (∀ i ∈ D.getD k [], vs i = vs' i) → V vs x → V vs' x) ∧ Locals D (k + 1) l
theorem Locals.get {D : List (List Nat)} : ∀ {L : List Say} {k : Nat}, Locals D k L → ∀ i vs vs' x, vs (k + i) = vs' (k + i) → (∀ m ∈ D.getD (k + i) [], vs m = vs' m) → L.getD i (fun _ _ => True) vs x → L.getD i (fun _ _ => True) vs' x
  | [], _, _, i, vs, vs', x, _, _, _ => by simp
  | V :: l, k, h, 0, vs, vs', x, h1, h2, hv => by simpa using h.1 vs vs' x (by simpa using h1) (by simpa using h2) (by simpa using hv)
  | V :: l, k, h, i + 1, vs, vs', x, h1, h2, hv => by
    have e : k + (i + 1) = k + 1 + i := by omega
    rw [e] at h1 h2
    simpa using Locals.get h.2 i vs vs' x h1 h2 (by simpa using hv)
def upd (vs : Nat → Value) (k : Nat) (v : Value) : Nat → Value := fun j => if j = k then v else vs j
variable {P : Program} {Q : Exit → Act → World → Prop}
theorem says_iff {L : List Say} {vals : Nat → Value} {x : World} : ∀ {l : List Nat}, says L vals x l ↔ ∀ i ∈ l, L.getD i (fun _ _ => True) vals x
  | [] => by simp [says]
  | i :: l => by simp [says, says_iff (l := l)]
def idxs (D : List (List (Nat × Tmp))) : List (List Nat) := D.map fun l => l.map fun p => p.1
def saysD (L : List Say) (vals : Nat → Value) (x : World) : List (Nat × Tmp) → Prop
  | [] => True
  | (i, _) :: l => L.getD i (fun _ _ => True) vals x ∧ saysD L vals x l
theorem says_saysD {L : List Say} {vals : Nat → Value} {x : World} : ∀ {l : List (Nat × Tmp)}, says L vals x (l.map (·.1)) = saysD L vals x l
  | [] => rfl
  | (i, t) :: l => by simp only [List.map_cons, says, saysD, says_saysD (l := l)]
theorem bare_wp (o : Oper) (a : Act) (w : World) (K : Act → World → Prop) : Oper.wp P (bare o) a w K Q = Oper.wp P o a w K Q := by cases o; rfl
theorem wpList_bare {o : Oper} {a : Act} {w : World} (h : wpList P #[] Q [bare o] a w) : Oper.wp P o a w (Q .normal) Q ∨ LetsOut Q := by
  have hg : (bare o).guard = none := rfl
  unfold wpList at h
  rw [if_pos (by unfold Region.wanted; rw [hg])] at h
  rcases h with h | ⟨_, h⟩
  · rw [← bare_wp]; exact .inl h
  · exact .inr h
end Go.Proofs.YtiahmfpfimmbgaaGreatDoor

/-! A drawn region, each operation once, what memory does told of each. No program is named here. -/
namespace Go.Proofs.YtiahmfpfimmbgaaGreatDoor
open Go Go.RowKit
variable {P : Program} {Q : Exit → Act → World → Prop}

/-- What the operation does to memory: R0, or what is told of it. -/
def relOf (R0 : World → World → Prop) : List (Nat × (World → World → Prop)) → Nat → World → World → Prop
  | [], _ => R0
  | p :: l, k => fun x x' => (k = p.1 → p.2 x x') ∧ (k ≠ p.1 → relOf R0 l k x x')
def Refls : List (Nat × (World → World → Prop)) → Prop
  | [] => True
  | p :: l => (∀ x, p.2 x x) ∧ Refls l
theorem relOf_refl {R0 : World → World → Prop} (h0 : ∀ x, R0 x x) : ∀ {l : List (Nat × (World → World → Prop))}, Refls l → ∀ k x, relOf R0 l k x x
  | [], _, _, x => h0 x
  | _ :: _, h, k, x => ⟨fun _ => h.1 x, fun _ => relOf_refl h0 h.2 k x⟩
def StabS (ops : List Oper) (V : Say) (i : Nat) : List (Nat × (World → World → Prop)) → Prop
  | [] => True
  | p :: l => (reach ops ops.length i p.1 = true ∨ i = p.1 ∨ ∀ vs x x', V vs x → p.2 x x' → V vs x') ∧ StabS ops V i l
def Stabs3 (ops : List Oper) (R0 : World → World → Prop) (Rs : List (Nat × (World → World → Prop))) : Nat → List Say → Prop
  | _, [] => True
  | i, V :: l => ((isLast ops i = true ∨ ∀ vs x x', V vs x → R0 x x' → V vs x') ∧ StabS ops V i Rs) ∧ Stabs3 ops R0 Rs (i + 1) l
theorem relOf_stab {ops : List Oper} {R0 : World → World → Prop} {V : Say} {i k : Nat} (hik : i ≠ k) (hr : reach ops ops.length i k = false) (h0 : ∀ vs x x', V vs x → R0 x x' → V vs x') : ∀ {l : List (Nat × (World → World → Prop))}, StabS ops V i l → ∀ vs x x', V vs x → relOf R0 l k x x' → V vs x'
  | [], _, vs, x, x', hv, h => h0 vs x x' hv h
  | p :: l, hs, vs, x, x', hv, h => by
    by_cases e : k = p.1
    · rcases hs.1 with h1 | h1 | h1
      · rw [e, h1] at hr; cases hr
      · exact absurd (h1.trans e.symm) hik
      · exact h1 vs x x' hv (h.1 e)
    · exact relOf_stab hik hr h0 hs.2 vs x x' hv (h.2 e)
theorem relOf_last {ops : List Oper} {R0 : World → World → Prop} {V : Say} {i k : Nat} (hik : i ≠ k) (hr : reach ops ops.length i k = false) (hk : k < ops.length) (hl : isLast ops i = true) : False := by
  unfold isLast at hl
  have h1 := List.all_eq_true.1 hl k (List.mem_range.2 hk)
  rw [Bool.or_eq_true, hr] at h1
  rcases h1 with h1 | h1
  · exact hik (by simpa using Eq.symm (by simpa using h1 : k = i))
  · cases h1
theorem Stabs3.get {ops : List Oper} {R0 : World → World → Prop} {Rs : List (Nat × (World → World → Prop))} {k : Nat} (hk : k < ops.length) : ∀ {L : List Say} {m : Nat}, Stabs3 ops R0 Rs m L → ∀ i, m + i ≠ k → reach ops ops.length (m + i) k = false → ∀ vs x x', L.getD i (fun _ _ => True) vs x → relOf R0 Rs k x x' → L.getD i (fun _ _ => True) vs x'
  | [], _, _, i, _, _, vs, x, x', _, _ => by simp
  | V :: l, m, h, 0, hik, hr, vs, x, x', hv, hR => by
    rcases h.1.1 with h1 | h1
    · exact (relOf_last (R0 := R0) (V := V) hik hr hk h1).elim
    · simpa using relOf_stab hik hr h1 h.1.2 vs x x' (by simpa using hv) hR
  | V :: l, m, h, i + 1, hik, hr, vs, x, x', hv, hR => by
    have e : m + (i + 1) = m + 1 + i := by omega
    rw [e] at hik hr
    simpa using Stabs3.get hk h.2 i hik hr vs x x' (by simpa using hv) hR
end Go.Proofs.YtiahmfpfimmbgaaGreatDoor
