/- The reference's l10Copy. What the reference hands back is only read; the reference's CtxTerms. Changed contexts as answers: comparisons, marks; CtxPush. CtxName and CtxAssert, the program's. A drawn region whose operations write old memory: each operation once, in whatever world its turn comes; a relation that all keep, and an invariant. No program is named here. A drawn region, each operation once, what memory does told of each. No program is named here. A drawn region, each operation once: what is so all along may look at which operations have been done. No program is named here. -/
import Derived.Test.YtiahmfpfimmbgaaGreatDoorJExCtxPop7
import Derived.Test.YtiahmfpfimmbgaaGreatDoorJExCtxPop12
import Derived.Test.YtiahmfpfimmbgaaGreatDoorJExCtxPop13
/-! The reference's l10Copy. -/
namespace Go.Proofs.YtiahmfpfimmbgaaGreatDoor
open Go Go.RowKit

/-- The box of a layer that is being copied: its row of terms grows. -/
def BoxY (lo p n : Nat) (A : Option Addr) (c : Nat) (z : World) (ts : List T) : Prop :=
  ∃ B b, z.heap[p]? = some (.cells #[.slice A n c, .slice B ts.length b] 58 (0, 0)) ∧ RowTr lo z (.slice B ts.length b) ts
def Fact.boxY (lo p n : Nat) (A : Option Addr) (c : Nat) (W : World) (ts : List T) : Fact :=
  .of (fun _ z => BoxY lo p n A c z ts ∧ Gr (fun g => g = p ∨ lo ≤ g) W z ∧ p < W.heap.size) fun _ z z' ⟨⟨B, b, h1, h2⟩, h3, h4⟩ hb =>
    ⟨⟨B, b, (hb.block p (lt_of_block h1)).trans h1, h2.up hb⟩, h3.up hb, h4⟩
set_option maxRecDepth 100000 in
set_option maxHeartbeats 8000000 in
theorem l10Copy_any (A : Option Addr) (q : Nat) (c : List Ly) (w : World) (h : Lay.layer.Rd w A c) (hl : c.length ≤ 1048576) (ho : ∀ l ∈ c, okL2 l) :
    Calls Tryz.prog 52 #[.slice A c.length q] w fun e w' => ∃ A' c', e = .returned (.slice A' c.length c') ∧ RowP PR w.heap.size w' (.slice A' c.length c') c ∧ Below w.heap.size w w' := by
  have hal : Below w.heap.size w (w.alloc (.cells #[] 58)) := (Below.refl _ _).alloc (Nat.le_refl _) _
  have hlit := RowP.lit PR w
  have HH := Lib.hid h
  have HO := Lib.hid ho
  clear h ho
  go_enter Tryz.func52, Tryz.ntmps52
  go_wp2
  go_loopw [3, 4] (fun a i wr => ∃ (k : Nat) (xs : List Ly) (A' : Option Addr) (c' : Nat), k ≤ c.length ∧ a = .slice A' xs.length c' ∧ i = .int .i64 k ∧ Hid (RowP PR w.heap.size wr (.slice A' xs.length c') xs) ∧ Below w.heap.size w wr ∧ Hid (xs = c.take k)) (fun _ i _ => c.length - (intOf i).toNat)
  case atStart => exact ⟨0, [], _, _, Nat.zero_le _, rfl, rfl, Lib.hid hlit, hal, Lib.hid (by simp)⟩
  case round =>
    obtain ⟨k, xs, A', c', hk, rfl, rfl, HROW, hb, HX⟩ := hrel
    clear hal hlit
    by_cases hlt : k < c.length
    · have hk1 : (k : Int) < c.length := by omega
      obtain ⟨ad, A1, c1, A2, c2, rfl, hf, e1, e2, hc1, hc2, hds, hts⟩ := (Lay.Sl.below HH.out hb (fun _ h => h)).at_layer hlt
      obtain ⟨ys, hys⟩ : ∃ ys, ys = xs ++ [c[k]] := ⟨_, rfl⟩
      have HYE : Hid (ys = c.take (k + 1)) := Lib.hid (by rw [hys, HX.out, List.take_succ_eq_append_getElem hlt])
      have HYS := Lib.hid hys
      have HXL : Hid (xs.length ≤ 1048576) := Lib.hid (by rw [HX.out, List.length_take]; omega)
      obtain ⟨ol1, ol2, ol3⟩ := HO.out _ (List.getElem_mem hlt)
      have HO3 := Lib.hid ol3
      have hB : A1 = none → c[k].ds.length = 0 := fun e => by
        rcases Nat.eq_zero_or_pos c[k].ds.length with h9 | h9
        · exact h9
        · obtain ⟨a9, e9, _⟩ := hds h9
          rw [e] at e9; cases e9
      have HBN := Lib.hid hB
      have HTS := Lib.hid hts
      generalize hll : c[k] = l at *
      have HLL := Lib.hid hll
      generalize wr = V at *
      have hal1 : Below V.heap.size V (V.alloc (.cells #[] 39)) := (Below.refl _ _).alloc (Nat.le_refl _) _
      have hown := own_lit0D V
      have hbV := Nat.lt_of_lt_of_le hf hb.size
      have hb1 : (ad.add (k * 2)).block < V.heap.size := by rw [block_of_add]; exact hbV
      have f1 := (hal1.cell (p := ad.add (k * 2)) hb1).trans e1
      have HE2 := Lib.hid e2
      have HSR := Lib.hid (src_decls (hds.below hal1 (fun b hb9 => Nat.lt_of_lt_of_le hb9 hb.size)))
      have hsz1 := hal1.size
      have HAL1 := Lib.hid hal1
      have HB := Lib.hid hb
      have hz0 : ([] : List D).length ≤ 2000000 := by simp
      have hz1 : l.ds.length ≤ 2000000 := by omega
      clear hys hB hds hts hll e1 e2 ol3 hal1 hb hf
      go_wp2_with (at_builtin; refine wpList_append_decls (xs := []) (ys := l.ds) (by rfl) (.tmp 14) (.tmp 19) (by rfl) (by rfl) (by rfl) hown HSR.out HBN.out hz0 hz1 hsz1 rfl ?_; intro A3 c3 w3 hown3 hb3 hg3; have HOWN := Lib.hid hown3; have HB3 := Lib.hid hb3; have HSZ3 := Lib.hid (Nat.le_trans hsz1 hb3.size); clear hown hown3 hb3 hg3 f1 hsz1)
      have hnb := heap_alloc_new w3 (.cells #[.slice A3 l.ds.length c3, .slice none 0 0] 58)
      have hal5 : Below w3.heap.size w3 (w3.alloc (.cells #[.slice A3 l.ds.length c3, .slice none 0 0] 58)) := (Below.refl _ _).alloc (Nat.le_refl _) _
      have HSZ5 : Hid ((w3.alloc (.cells #[.slice A3 l.ds.length c3, .slice none 0 0] 58)).heap.size = w3.heap.size + 1) := Lib.hid (by simp)
      have HNB := Lib.hid hnb
      have HAL5 := Lib.hid hal5
      clear hnb hal5
      generalize w3.alloc (.cells #[.slice A3 l.ds.length c3, .slice none 0 0] 58) = W5 at *
      have HVW : Hid (Below V.heap.size V W5) := Lib.hid ((HAL1.out.trans HB3.out).trans (HAL5.out.mono HSZ3.out))
      have HDS : Hid (OwnDs W5 V.heap.size (.slice A3 l.ds.length c3) l.ds) := Lib.hid (HOWN.out.up HAL5.out)
      have HDB : Hid (∀ g, (Value.slice A3 l.ds.length c3).ownBlock = some g → g < w3.heap.size) := Lib.hid (fun g hg => (HOWN.out.lt g hg).2)
      obtain ⟨p, hp⟩ : ∃ p, p = w3.heap.size := ⟨_, rfl⟩
      rw [← hp] at HSZ5 HNB HSZ3 HDB ⊢
      clear hp HOWN HB3 HSR HBN HAL1 HAL5
      obtain ⟨M, hM⟩ : ∃ M, M = W5.heap.size := ⟨_, rfl⟩
      have HM := Lib.hid hM
      rw [← hM] at HSZ5
      clear hM hz0 hz1
      go_loopw [6] (fun j wr => ∃ m : Nat, m ≤ l.ts.length ∧ j = .int .i64 m ∧ Hid (BoxY M p l.ds.length A3 c3 wr (l.ts.take m)) ∧ Hid (Gr (fun g => g = p ∨ M ≤ g) W5 wr)) (fun j _ => l.ts.length - (intOf j).toNat)
      case atStart => exact ⟨0, Nat.zero_le _, rfl, Lib.hid ⟨none, 0, HNB.out, RowTr.nil _ _⟩, Lib.hid (Gr.refl _ _)⟩
      case round =>
        obtain ⟨m, hm, rfl, HBT, HGR⟩ := hrel
        have HPW : Hid (p < W5.heap.size) := Lib.hid (by have := HSZ5.out; have := HM.out; omega)
        have HMW : Hid (M ≤ wr.heap.size) := Lib.hid (by rw [HM.out]; exact HGR.out.size)
        have HVr : Hid (Below V.heap.size V wr) := Lib.hid (HVW.out.trans (HGR.out.to_below' HVW.out.size (fun x hx => by have := HSZ3.out; have := HSZ5.out; omega)))
        have hw2 := (HVr.out.cell (p := ⟨(ad.add (k * 2)).block, (ad.add (k * 2)).off + 1, none⟩) hb1).trans HE2.out
        by_cases hlm : m < l.ts.length
        · have hm1 : (m : Int) < l.ts.length := by omega
          obtain ⟨B, b, hbx, hrow⟩ := HBT.out
          have hFV : ∀ g, g < w.heap.size → g < V.heap.size := fun g hg => Nat.lt_of_lt_of_le hg HB.out.size
          obtain ⟨ad2, A5, c5, rfl, hf2, t1, t2, t3, t4, t5, hcc, hkk⟩ := (HTS.out.below HVr.out hFV).at_term hlm
          obtain ⟨zs, hzs⟩ : ∃ zs, zs = l.ts.take m ++ [l.ts[m]] := ⟨_, rfl⟩
          have HZE : Hid (zs = l.ts.take (m + 1)) := Lib.hid (by rw [hzs, List.take_succ_eq_append_getElem hlm])
          have HZS := Lib.hid hzs
          have hxl : (l.ts.take m).length ≤ 2000000 := by rw [List.length_take]; omega
          generalize l.ts.take m = ts at *
          have HCP := Lib.hid (l3Copy_any l.ts[m] (HO3.out _ (List.getElem_mem hlm)) A5 c5 (fun g => g < w.heap.size))
          generalize hx : l.ts[m] = x at *
          have HXX := Lib.hid hx
          have HRW := Lib.hid hrow
          have HBX := Lib.hid hbx
          have HKK := Lib.hid hkk
          have HFL : Hid (∀ g, g < w.heap.size → g < wr.heap.size) := Lib.hid (fun g hg => Nat.lt_of_lt_of_le (hFV g hg) HVr.out.size)
          have z0 := Later.cell (cell_of_block HBX.out 1).1
          have z1 := Later.cell hw2
          have y0 := Later.cell t1
          have y1 := Later.cell t2
          have y2 := Later.cell t3
          have y3 := Later.cell t4
          have y4 := Later.cell t5
          clear hzs hkk hrow hbx t1 t2 t3 t4 t5 hx hFV hf2
          go_wp2
          clear hw2
          generalize wr = W1 at *
          refine wp_region_shares [[], [(0, 32)], [], [], [(2, 34), (3, 35)], [(4, 36)], [(5, 37)], [], [(6, 38), (7, 39)], [(8, 40)], [(9, 41)], [(10, 42)], [(1, 33), (11, 43)], [], [(13, 45), (12, 44)]]
            [.eq (.pointer (some ⟨p, 1, none⟩)), .eq (.slice B ts.length b), .eq (.slice (some ad) c.length q), .eq (.int .i64 (k : Int)), .eq (.pointer (some (ad.add (k * 2)))), .eq (.pointer (some ⟨(ad.add (k * 2)).block, (ad.add (k * 2)).off + 1, none⟩)), .eq (.slice (some ad2) l.ts.length c2), .eq (.int .i64 (m : Int)), .eq (.pointer (some (ad2.add (m * 5)))), .eq (.agg #[.int .i64 x.op, .int .i64 x.a, .int .i64 x.b, .string x.name, .slice A5 x.kids.length c5]), Fact.treeV M W1.heap.size x, Fact.treeL M W1.heap.size x, Fact.rowT M W1 (.slice B ts.length b) zs, .eq (.pointer (some ⟨p, 1, none⟩)), Fact.boxY M p l.ds.length A3 c3 W1 zs]
            [12, 14] [12, 14] [13, 14] [14] [(0, 32), (1, 33), (2, 34), (3, 35), (4, 36), (5, 37), (6, 38), (7, 39), (8, 40), (9, 41), (10, 42), (11, 43), (12, 44), (13, 45)] (by kernel_rfl) (by kernel_rfl) (by kernel_rfl) (by kernel_rfl)
            ⟨?_, ?_, ?_, ?_, ?_, ?_, ?_, ?_, ?_, ?_, ?_, ?_, ?_, ?_, ?_, trivial⟩ ?_
          · intro vals z hC hF
            simp only [putsD, Act.put, List.setIfInBounds_toArray, List.set_cons_zero, List.set_cons_succ]
            go_wp2
            exact ⟨rfl, rfl, .inr (Below.refl _ _), .inr (.inl (by simp))⟩
          · intro vals z hC hF
            have hC := hC.resolve_left (by simp)
            have hsz := hC.size
            have e1 : z.cell? _ = _ := z0 ⟨z, hC⟩
            simp only [factsD, List.getD_cons_zero, List.getD_cons_succ, Fact.eq, Fact.row, Fact.lit, Fact.lit0, Fact.of, and_true, Fact.treeV, Fact.treeL, Fact.rowT, Fact.boxY] at hF
            simp only [putsD, Act.put, List.setIfInBounds_toArray, List.set_cons_zero, List.set_cons_succ]
            simp only [hF]
            go_wp2
            exact ⟨rfl, rfl, .inr (Below.refl _ _), .inr (.inl (by simp))⟩
          · intro vals z hC hF
            simp only [putsD, Act.put, List.setIfInBounds_toArray, List.set_cons_zero, List.set_cons_succ]
            go_wp2
            exact ⟨rfl, rfl, .inr (Below.refl _ _), .inr (.inl (by simp))⟩
          · intro vals z hC hF
            simp only [putsD, Act.put, List.setIfInBounds_toArray, List.set_cons_zero, List.set_cons_succ]
            go_wp2
            exact ⟨rfl, rfl, .inr (Below.refl _ _), .inr (.inl (by simp))⟩
          · intro vals z hC hF
            simp only [factsD, List.getD_cons_zero, List.getD_cons_succ, Fact.eq, Fact.row, Fact.lit, Fact.lit0, Fact.of, and_true, Fact.treeV, Fact.treeL, Fact.rowT, Fact.boxY] at hF
            obtain ⟨e1, e2⟩ := hF
            simp only [putsD, Act.put, List.setIfInBounds_toArray, List.set_cons_zero, List.set_cons_succ]
            simp only [e1, e2]
            go_wp2
            exact ⟨rfl, rfl, .inr (Below.refl _ _), .inr (.inl (by simp))⟩
          · intro vals z hC hF
            simp only [factsD, List.getD_cons_zero, List.getD_cons_succ, Fact.eq, Fact.row, Fact.lit, Fact.lit0, Fact.of, and_true, Fact.treeV, Fact.treeL, Fact.rowT, Fact.boxY] at hF
            simp only [putsD, Act.put, List.setIfInBounds_toArray, List.set_cons_zero, List.set_cons_succ]
            simp only [hF]
            go_wp2
            exact ⟨rfl, rfl, .inr (Below.refl _ _), .inr (.inl (by simp))⟩
          · intro vals z hC hF
            have hC := hC.resolve_left (by simp)
            have hsz := hC.size
            have e1 : z.cell? _ = _ := z1 ⟨z, hC⟩
            simp only [factsD, List.getD_cons_zero, List.getD_cons_succ, Fact.eq, Fact.row, Fact.lit, Fact.lit0, Fact.of, and_true, Fact.treeV, Fact.treeL, Fact.rowT, Fact.boxY] at hF
            simp only [putsD, Act.put, List.setIfInBounds_toArray, List.set_cons_zero, List.set_cons_succ]
            simp only [hF]
            go_wp2
            exact ⟨rfl, rfl, .inr (Below.refl _ _), .inr (.inl (by simp))⟩
          · intro vals z hC hF
            simp only [putsD, Act.put, List.setIfInBounds_toArray, List.set_cons_zero, List.set_cons_succ]
            go_wp2
            exact ⟨rfl, rfl, .inr (Below.refl _ _), .inr (.inl (by simp))⟩
          · intro vals z hC hF
            simp only [factsD, List.getD_cons_zero, List.getD_cons_succ, Fact.eq, Fact.row, Fact.lit, Fact.lit0, Fact.of, and_true, Fact.treeV, Fact.treeL, Fact.rowT, Fact.boxY] at hF
            obtain ⟨e1, e2⟩ := hF
            simp only [putsD, Act.put, List.setIfInBounds_toArray, List.set_cons_zero, List.set_cons_succ]
            simp only [e1, e2]
            go_wp2
            exact ⟨rfl, rfl, .inr (Below.refl _ _), .inr (.inl (by simp))⟩
          · intro vals z hC hF
            have hC := hC.resolve_left (by simp)
            have hsz := hC.size
            have e1 : z.cell? _ = _ := y0 ⟨z, hC⟩
            have e2 : z.cell? _ = _ := y1 ⟨z, hC⟩
            have e3 : z.cell? _ = _ := y2 ⟨z, hC⟩
            have e4 : z.cell? _ = _ := y3 ⟨z, hC⟩
            have e5 : z.cell? _ = _ := y4 ⟨z, hC⟩
            simp only [factsD, List.getD_cons_zero, List.getD_cons_succ, Fact.eq, Fact.row, Fact.lit, Fact.lit0, Fact.of, and_true, Fact.treeV, Fact.treeL, Fact.rowT, Fact.boxY] at hF
            have e9 := hF
            simp only [putsD, Act.put, List.setIfInBounds_toArray, List.set_cons_zero, List.set_cons_succ]
            simp only [e9]
            go_wp2
            exact ⟨rfl, rfl, .inr (Below.refl _ _), .inr (.inl (by simp))⟩
          · intro vals z hC hF
            have hC := hC.resolve_left (by simp)
            have hsz := hC.size
            simp only [factsD, List.getD_cons_zero, List.getD_cons_succ, Fact.eq, Fact.row, Fact.lit, Fact.lit0, Fact.of, and_true, Fact.treeV, Fact.treeL, Fact.rowT, Fact.boxY] at hF
            have e1 := hF
            simp only [putsD, Act.put, List.setIfInBounds_toArray, List.set_cons_zero, List.set_cons_succ]
            simp only [e1]
            have HC9 := Lib.hid (HCP.out z (HKK.out.below hC HFL.out) (fun g hg => Nat.lt_of_lt_of_le (HFL.out g hg) hsz))
            go_wp2_with fail
            refine HC9.out.mono ?_
            rintro e w9 ⟨A9, c9, rfl, hc9, ht9, hb9⟩
            have HT9 : Hid (TrS w9 (fun g => W1.heap.size ≤ g ∧ OwnB9 M w9 g) A9 x.kids) := Lib.hid (TrT.mono ht9 fun g hg => ⟨Nat.le_trans hsz hg.1, hg.le (Nat.le_trans HMW.out hsz)⟩)
            clear ht9
            go_wp2
            exact ⟨rfl, ⟨A9, c9, rfl, hc9, HT9.out⟩, .inr hb9, .inr (.inl (by simp))⟩
          · intro vals z hC hF
            have hC := hC.resolve_left (by simp)
            have hsz := hC.size
            simp only [factsD, List.getD_cons_zero, List.getD_cons_succ, Fact.eq, Fact.row, Fact.lit, Fact.lit0, Fact.of, and_true, Fact.treeV, Fact.treeL, Fact.rowT, Fact.boxY] at hF
            obtain ⟨A9, c9, e1, hc9, ht9⟩ := hF
            have e1 : vals 10 = .agg #[.int .i64 x.op, .int .i64 x.a, .int .i64 x.b, .string x.name, .slice A9 x.kids.length c9] := e1
            simp only [putsD, Act.put, List.setIfInBounds_toArray, List.set_cons_zero, List.set_cons_succ]
            simp only [e1]
            have hal9 : Below z.heap.size z (z.alloc (.cells (tcells x A9 c9).toArray 48)) := (Below.refl _ _).alloc (Nat.le_refl _) _
            go_wp2
            exact ⟨rfl, ⟨_, A9, c9, rfl, heap_alloc_new _ _, hc9, TrS.up (F := fun _ => True) ht9 hal9⟩, .inr hal9, .inr (.inl (by simp))⟩
          · intro vals z hC hF
            have hC := hC.resolve_left (by simp)
            have hsz := hC.size
            simp only [factsD, List.getD_cons_zero, List.getD_cons_succ, Fact.eq, Fact.row, Fact.lit, Fact.lit0, Fact.of, and_true, Fact.treeV, Fact.treeL, Fact.rowT, Fact.boxY] at hF
            obtain ⟨e5, b5, A9, c9, e7, hb5, hc9, ht9⟩ := hF
            have hrz := HRW.out.up hC
            simp only [putsD, Act.put, List.setIfInBounds_toArray, List.set_cons_zero, List.set_cons_succ]
            simp only [e5, e7]
            refine wpList_append_tree (ys := zs) (by rfl) (.tmp 33) (.tmp 43) (by rfl) (by rfl) (by rfl) hrz (Nat.le_trans HMW.out hsz) hxl ht9 hc9 hb5 (fun g hg e9 => by have := (HRW.out.lt g e9).2; omega) ⟨W1, Nat.le_refl _, hC, HRW.out⟩ HZS.out ?_
            intro A8 c8 w8 hown8 hg8
            exact ⟨rfl, ⟨A8, c8, rfl, hown8, below_grown hC hg8⟩, .inl (by simp), .inl (by simp)⟩
          · intro vals z hC hF
            simp only [putsD, Act.put, List.setIfInBounds_toArray, List.set_cons_zero, List.set_cons_succ]
            go_wp2
            exact ⟨rfl, rfl, .inr (Below.refl _ _), .inr (.inl (by simp))⟩
          · intro vals z hC hF
            simp only [factsD, List.getD_cons_zero, List.getD_cons_succ, Fact.eq, Fact.row, Fact.lit, Fact.lit0, Fact.of, and_true, Fact.treeV, Fact.treeL, Fact.rowT, Fact.boxY] at hF
            obtain ⟨e11, A8, c8, e8, hown8, hg8⟩ := hF
            have hpx := (hg8.block p (lt_of_block HBX.out) (fun e => by have := (HRW.out.lt p e.symm).1; have := HSZ5.out; omega)).trans HBX.out
            have x1 := (cell_of_block hpx 1).1
            have x2 := (cell_of_block hpx 1).2
            have HRF := Lib.hid (hown8.far ⟨p, 1, none⟩ (.slice A8 zs.length c8) (by show p < M; have := HSZ5.out; omega))
            have HPX := Lib.hid (heap_set_same z p 1 (.slice A8 zs.length c8) _ _ hpx)
            have HGN : Hid (Gr (fun g => g = p ∨ M ≤ g) W1 (z.setCell ⟨p, 1, none⟩ (.slice A8 zs.length c8))) := Lib.hid (Gr.set (Gr.mono (S := fun g => M ≤ g) ⟨hg8.os, hg8.tape, hg8.output, hg8.size, fun i hi hn => hg8.block i hi (fun e => hn (HRW.out.lt i e.symm).1)⟩ fun _ h => .inr h) p 1 _ (.inl (.inl rfl)))
            clear hpx
            simp only [putsD, Act.put, List.setIfInBounds_toArray, List.set_cons_zero, List.set_cons_succ]
            simp only [e11, e8]
            go_wp2
            exact ⟨rfl, ⟨⟨A8, c8, HPX.out, HRF.out⟩, HGN.out, lt_of_block HBX.out⟩, .inl (by simp), .inl (by simp)⟩
          · intro vals z hF
            simp only [facts, List.getD_cons_zero, List.getD_cons_succ, Fact.eq, Fact.row, Fact.lit, Fact.lit0, Fact.of, and_true, Fact.treeV, Fact.treeL, Fact.rowT, Fact.boxY] at hF
            obtain ⟨hbt, hgn, hpl⟩ := hF
            simp only [putsD, Act.put, List.setIfInBounds_toArray, List.set_cons_zero, List.set_cons_succ]
            have HGN := Lib.hid (HGR.out.trans hgn)
            have HBN := Lib.hid hbt
            clear hbt hgn hpl z0 z1 y0 y1 y2 y3 y4
            go_wp2
            go_roundw
            case rel => exact ⟨m + 1, by omega, by go_num, by rw [← HZE.out]; exact HBN, HGN⟩
            case measure => simp [intOf]; omega
        · have hme : m = l.ts.length := by omega
          subst hme
          have HBE := HBT.out
          rw [List.take_length] at HBE
          obtain ⟨B, b, hbx, hrow⟩ := HBE
          have v0 := (cell_of_block hbx 0).1
          have v1 := (cell_of_block hbx 1).1
          have HPR : Hid (PR wr V.heap.size wr.heap.size (.slice A3 l.ds.length c3) (.slice B l.ts.length b) l) := Lib.hid ⟨M, A3, c3, B, b, rfl, rfl, by have := HSZ3.out; have := HSZ5.out; omega, HMW.out, fun g hg => by have := HDB.out g hg; have := HSZ5.out; omega,
            own_of_heap HDS.out fun g hg => HGR.out.block g (by have := HDB.out g hg; have := HPW.out; omega) (fun e => by have := HDB.out g hg; have := HSZ5.out; omega), RowU.of hrow⟩
          have hal7 : Below wr.heap.size wr (wr.alloc (.cells #[.slice A3 l.ds.length c3, .slice B l.ts.length b] 58)) := (Below.refl _ _).alloc (Nat.le_refl _) _
          have hn7 := heap_alloc_new wr (.cells #[.slice A3 l.ds.length c3, .slice B l.ts.length b] 58)
          have HP7 : Hid (PR (wr.alloc (.cells #[.slice A3 l.ds.length c3, .slice B l.ts.length b] 58)) V.heap.size wr.heap.size (.slice A3 l.ds.length c3) (.slice B l.ts.length b) l) := Lib.hid (stay_PR _ _ _ _ _ _ _ HPR.out hal7.size fun g _ h9 => hal7.block g h9)
          have HB7 := Lib.hid (bthen HB.out (bthen HVr.out hal7))
          have HV7 := Lib.hid (bthen HVr.out hal7)
          have HS7 := Lib.hid hal7.size
          have HN7 := Lib.hid hn7
          clear hal7 hn7 hbx hrow
          go_wp2_with (at_builtin; refine wpList_append_layer stay_PR (ys := ys) (S0 := V.heap.size) (E0 := wr.heap.size) (l := l) (lo := w.heap.size) (vd := .slice A3 l.ds.length c3) (vt := .slice B l.ts.length b) (by rfl) (.tmp 46) (.tmp 48) (by rfl) (by rfl) (by rfl) HB.out.size HXL.out HP7.out HVr.out.size HS7.out rfl rfl HN7.out ⟨V, Nat.le_refl _, HV7.out, HROW.out⟩ (by rw [HYS.out]) ?_; intro A8 c8 w8 hr8 hg8; have HR8 := Lib.hid hr8; have HB8 : Hid (Below w.heap.size w w8) := Lib.hid (HB7.out.grown hg8 (Nat.le_trans HB.out.size (Nat.le_trans HVr.out.size HS7.out)) (fun g e => (HROW.out.lt g e).1)); clear hr8 hg8)
          go_roundw
          case rel => exact ⟨k + 1, ys, A8, c8, by omega, rfl, by go_num, HR8, HB8.out, HYE⟩
          case measure => simp [intOf]; omega
    · have hke : k = c.length := by omega
      subst hke
      have HE : Hid (xs = c) := Lib.hid (by rw [HX.out, List.take_length])
      go_wp2
      go_ret
      rw [← HE.out]
      exact ⟨_, _, rfl, HROW.out, hb⟩
end Go.Proofs.YtiahmfpfimmbgaaGreatDoor

/-! What the reference hands back is only read; the reference's CtxTerms. -/
namespace Go.Proofs.YtiahmfpfimmbgaaGreatDoor
open Go Go.RowKit Go.ChangeShapes Go.WideShapes Go.ChangeAt Go.Deep

/-- It may be read. -/
def RdO {α : Type} (L : Lay α) (w : World) (A : Option Addr) (xs : List α) : Prop := L.Rd w A xs
/-- It may be read, and lay there when the heap was hi long. -/
def RdB {α : Type} (L : Lay α) (hi : Nat) (w : World) (A : Option Addr) (xs : List α) : Prop := hi ≤ w.heap.size ∧ L.Sl w (fun b => b < hi) A xs
section
variable {α : Type} {L : Lay α} {w w' : World} {hi : Nat} {A : Option Addr} {xs : List α}
theorem RdO.cp_of (h : RdO L w A xs) : RdB L w.heap.size w A xs := ⟨Nat.le_refl _, h⟩
theorem RdO.nil (L : Lay α) (w : World) (A : Option Addr) : RdO L w A [] := by unfold RdO; exact Lay.Sl.nil _ _ _ _
theorem RdB.cp_up (h : RdB L hi w A xs) (hb : Below w.heap.size w w') : RdB L hi w' A xs := ⟨Nat.le_trans h.1 hb.size, h.2.keep fun b h9 => hb.block b (by have := h.1; omega)⟩
theorem RdB.cp_dab {G : Nat → Prop} (h : RdB L hi w A xs) (hd : Dab G w w') (hG : ∀ b, 0 ≤ b → b < hi → ¬ G b) : RdB L hi w' A xs := ⟨Nat.le_trans h.1 hd.size, h.2.keep fun b h9 => hd.block b (by have := h.1; omega) (hG b (Nat.zero_le _) h9)⟩
theorem RdB.cp_rd (h : RdB L hi w A xs) : L.Rd w A xs := h.2.mono fun _ h9 => Nat.lt_of_lt_of_le h9 h.1
end
theorem RowP.map {P P' : LyF} (hP : ∀ w S E vd vt l, P w S E vd vt l → P' w S E vd vt l) {lo : Nat} {w : World} {v : Value} {ls : List Ly} (h : RowP P lo w v ls) : RowP P' lo w v ls := by
  obtain ⟨cs, h1, S, E, Vd, Vt, h2, h3⟩ := h
  exact ⟨cs, h1, S, E, Vd, Vt, fun k l hl => by
    obtain ⟨g1, g2, g3, g6, g7⟩ := h2 k l hl
    exact ⟨g1, g2, g3, g6, hP _ _ _ _ _ _ g7⟩, h3⟩
theorem RowP.rdR {lo c : Nat} {w : World} {A : Option Addr} {ls : List Ly} (h : RowP PR lo w (.slice A ls.length c) ls) : Lay.layer.Rd w A ls := TrG.cp_rd (RowP.cp_of (RowP.map (fun _ _ _ _ _ _ => PR.pp) h))
theorem RowP.cap {P : LyF} {lo c n : Nat} {w : World} {A : Option Addr} {ls : List Ly} (h : RowP P lo w (.slice A n c) ls) : n = ls.length ∧ ls.length ≤ c := by
  obtain ⟨A', c', e, hl⟩ := h.form
  injection e with e1 e2 e3
  exact ⟨e2, by omega⟩
end Go.Proofs.YtiahmfpfimmbgaaGreatDoor

/-! Changed contexts as answers: comparisons, marks; CtxPush. -/
namespace Go.Proofs.YtiahmfpfimmbgaaGreatDoor
open Go Go.RowKit Go.ChangeShapes Go.WideShapes Go.ChangeAt Go.Deep

/-- Layers that are small enough for every count. -/
def smR (c : List Ly) : Prop := c.length ≤ 1048576 ∧ (∀ l ∈ c, okL2 l) ∧ mwL c ≤ 100000000
theorem eqLayersR_u (xs : List Ly) (A B : Option Addr) (c d : Nat) (w : World) (h : Lay.layer.Rd w A xs) (h' : Lay.layer.Rd w B xs) (hs : smR xs) :
    Calls Tryz.prog 17 #[.slice A xs.length c, .slice B xs.length d] w (RetB w true) := by
  have := eqLayerS_any A B c d xs xs _ _ w h h' (fun _ h => h) (fun _ h => h) hs.1 hs.1 hs.2.1 hs.2.1
  rw [allSame_self Ly.same_self] at this
  exact this
theorem markLayersR_u (c : List Ly) (A : Option Addr) (q lo hi : Nat) (k0 : Int) (w : World) (h : TrY lo hi w A c) (hs : smR c) (h0 : 1 ≤ k0) (h1 : k0 ≤ 500000000) :
    Calls Tryz.prog 18 #[.slice A c.length q, .int .i64 k0] w fun e w' => e = .returned (.int .i64 (k0 + (mwL c : Nat))) ∧ Dab (Rng lo hi) w w' ∧ Lay.layer.Sl w' (Cp lo hi w') A (upLs c k0) :=
  markLayerT_any c hs.2.1 A q lo hi k0 w h h0 (by have := hs.2.2; omega) hs.1
theorem heldLayersR_u (c : List Ly) (A : Option Addr) (q : Nat) (k0 : Int) (w : World) (h : Lay.layer.Rd w A (upLs c k0)) (hs : smR c) (h0 : 1 ≤ k0) (h1 : k0 ≤ 500000000) :
    Calls Tryz.prog 23 #[.slice A c.length q, .int .i64 k0] w (RetZ (k0 + (mwL c : Nat)) w) :=
  heldLayerS_any c hs.2.1 A q k0 _ w h (fun _ h => h) h0 (by have := hs.2.2; omega) hs.1
theorem ctxCh_sm {c x : List Ly} (h : smLayers c) (hx : ctxOk c = true → smR x) : smR (ctxCh c x).1 := by
  unfold ctxCh
  by_cases hk : ctxOk c = true
  · rw [if_pos hk]
    split
    · exact hx hk
    · exact ⟨h.1, h.2.1, by have := h.2.2.1; show mwL c ≤ _; omega⟩
  · rw [if_neg hk]
    exact ⟨by simp, fun l hl => (by simp at hl), by simp [mwL]⟩
/-- Layers and a yes or no are handed back that may be read. -/
def RetRd2 (r : List Ly × Bool) (w : World) (e : Ending) (w' : World) : Prop := ∃ A c, e = .returned (.tuple #[.slice A r.1.length c, .bool r.2]) ∧ r.1.length ≤ c ∧ RdO Lay.layer w' A r.1 ∧ Below w.heap.size w w'
set_option maxRecDepth 100000 in
set_option maxHeartbeats 2000000 in
theorem l10Now_any (c x : List Ly) (A B : Option Addr) (q b : Nat) (w : World) (h : Lay.layer.Rd w A c) (h' : Lay.layer.Rd w B x) (hb : x.length ≤ b) (hl : c.length ≤ 1048576) (ho : ∀ l ∈ c, okL2 l) (hx : okC x) :
    Calls Tryz.prog 60 #[.slice A c.length q, .slice B x.length b] w (RetRd2 (if ctxOk x = true then (x, true) else (c, false)) w) := by
  have HO := Lib.hid (specCtxOk_any B b x w h' hb hx)
  have HCP := Lib.hid (fun (z : World) (hz : Lay.layer.Rd z A c) => l10Copy_any A q c z hz hl ho)
  obtain ⟨r, hr⟩ : ∃ r, r = ctxOk x := ⟨_, rfl⟩
  rw [← hr] at HO ⊢
  have H := Lib.hid h
  have H' := Lib.hid h'
  have HBB := Lib.hid hb
  obtain ⟨s9, hs9⟩ : ∃ s9, s9 = if r = true then (x, true) else (c, false) := ⟨_, rfl⟩
  have HS9 := Lib.hid hs9
  rw [← hs9]
  clear hr h h' hb ho hx hs9
  go_enter Tryz.func60, Tryz.ntmps60
  go_wp2_with fail
  refine HO.out.mono ?_
  rintro e w2 ⟨rfl, hb2⟩
  have HB2 := Lib.hid hb2
  clear hb2
  cases r
  · have HLC := Lib.hid (HCP.out w2 (H.out.up HB2.out))
    go_wp2_with fail
    refine HLC.out.mono ?_
    rintro e w3 ⟨A3, c3, rfl, ho, hb3⟩
    have HB3 := Lib.hid (bthen HB2.out hb3)
    have HO3 := Lib.hid ho
    clear ho hb3
    go_wp2
    refine bodyPost_ret (v := .tuple #[.slice A3 c.length c3, .bool false]) (by simp [results, Tryz.results60, go_sem]) rfl ?_
    rw [show s9 = (c, false) from HS9.out]
    exact ⟨A3, c3, rfl, HO3.out.cap.2, HO3.out.rdR, HB3.out⟩
  · go_wp2
    refine bodyPost_ret (v := .tuple #[.slice B x.length b, .bool true]) (by simp [results, Tryz.results60, go_sem]) rfl ?_
    rw [show s9 = (x, true) from HS9.out]
    exact ⟨B, b, rfl, HBB.out, H'.out.up HB2.out, HB2.out⟩
end Go.Proofs.YtiahmfpfimmbgaaGreatDoor

/-! CtxName and CtxAssert, the program's. -/
namespace Go.Proofs.YtiahmfpfimmbgaaGreatDoor
open Go Go.RowKit Go.ChangeShapes Go.WideShapes Go.ChangeAt Go.Deep

theorem RetCh.low {r : List Ly × Bool} {w w0 : World} {e : Ending} {w' : World} (h : RetCh r w0 e w') (hb : Below w.heap.size w w0) : RetCh r w e w' := by
  obtain ⟨A, c, h1, h2, h3, h4⟩ := h
  exact ⟨A, c, h1, h2, h3.low hb.size, bthen hb h4⟩
end Go.Proofs.YtiahmfpfimmbgaaGreatDoor

/-! A drawn region whose operations write old memory: each operation once, in whatever world its turn comes; a relation that all keep, and an invariant. No program is named here. -/
namespace Go.Proofs.YtiahmfpfimmbgaaGreatDoor
open Go Go.RowKit

/-- The operation without its guard. -/
def bare (o : Oper) : Oper := { o with guard := none }
abbrev Say := (Nat → Value) → World → Prop
def says (L : List Say) (vals : Nat → Value) (x : World) : List Nat → Prop
  | [] => True
  | i :: l => L.getD i (fun _ _ => True) vals x ∧ says L vals x l
/-- It waits for all others. -/
def isLast (ops : List Oper) (k : Nat) : Bool := (List.range ops.length).all fun r => r == k || reach ops ops.length k r
/-- Each stays over the relation, or is the last. -/
def Stabs (ops : List Oper) (R : World → World → Prop) : Nat → List Say → Prop
  | _, [] => True
  | k, V :: l => (isLast ops k = true ∨ ∀ vs x x', V vs x → R x x' → V vs x') ∧ Stabs ops R (k + 1) l
theorem Stabs.get {ops : List Oper} {R : World → World → Prop} : ∀ {L : List Say} {k : Nat}, Stabs ops R k L → ∀ i vs x x', isLast ops (k + i) = false → L.getD i (fun _ _ => True) vs x → R x x' → L.getD i (fun _ _ => True) vs x'
  | [], _, _, i, vs, x, x', _, _, _ => by simp
  | V :: l, k, h, 0, vs, x, x', hl, hv, hr => by
    rcases h.1 with h1 | h1
    · rw [Nat.add_zero] at hl; rw [hl] at h1; cases h1
    · simpa using h1 vs x x' (by simpa using hv) hr
  | V :: l, k, h, i + 1, vs, x, x', hl, hv, hr => by simpa using Stabs.get h.2 i vs x x' (by rw [← hl]; congr 1; omega) (by simpa using hv) hr
/-- Each looks at its own value and those of the ones that it looks at. -/
def Locals (D : List (List Nat)) : Nat → List Say → Prop
  | _, [] => True
  | k, V :: l => (∀ vs vs' x, vs k = vs' k → (∀ i ∈ D.getD k [], vs i = vs' i) → V vs x → V vs' x) ∧ Locals D (k + 1) l
theorem Locals.get {D : List (List Nat)} : ∀ {L : List Say} {k : Nat}, Locals D k L → ∀ i vs vs' x, vs (k + i) = vs' (k + i) → (∀ m ∈ D.getD (k + i) [], vs m = vs' m) → L.getD i (fun _ _ => True) vs x → L.getD i (fun _ _ => True) vs' x
  | [], _, _, i, vs, vs', x, _, _, _ => by simp
  | V :: l, k, h, 0, vs, vs', x, h1, h2, hv => by simpa using h.1 vs vs' x (by simpa using h1) (by simpa using h2) (by simpa using hv)
  | V :: l, k, h, i + 1, vs, vs', x, h1, h2, hv => by
    have e : k + (i + 1) = k + 1 + i := by omega
    rw [e] at h1 h2
    simpa using Locals.get h.2 i vs vs' x h1 h2 (by simpa using hv)
def upd (vs : Nat → Value) (k : Nat) (v : Value) : Nat → Value := fun j => if j = k then v else vs j
variable {P : Program} {Q : Exit → Act → World → Prop}
theorem says_iff {L : List Say} {vals : Nat → Value} {x : World} : ∀ {l : List Nat}, says L vals x l ↔ ∀ i ∈ l, L.getD i (fun _ _ => True) vals x
  | [] => by simp [says]
  | i :: l => by simp [says, says_iff (l := l)]
def idxs (D : List (List (Nat × Tmp))) : List (List Nat) := D.map fun l => l.map fun p => p.1
def saysD (L : List Say) (vals : Nat → Value) (x : World) : List (Nat × Tmp) → Prop
  | [] => True
  | (i, _) :: l => L.getD i (fun _ _ => True) vals x ∧ saysD L vals x l
theorem says_saysD {L : List Say} {vals : Nat → Value} {x : World} : ∀ {l : List (Nat × Tmp)}, says L vals x (l.map (·.1)) = saysD L vals x l
  | [] => rfl
  | (i, t) :: l => by simp only [List.map_cons, says, saysD, says_saysD (l := l)]
theorem bare_wp (o : Oper) (a : Act) (w : World) (K : Act → World → Prop) : Oper.wp P (bare o) a w K Q = Oper.wp P o a w K Q := by cases o; rfl
theorem wpList_bare {o : Oper} {a : Act} {w : World} (h : wpList P #[] Q [bare o] a w) : Oper.wp P o a w (Q .normal) Q ∨ LetsOut Q := by
  have hg : (bare o).guard = none := rfl
  unfold wpList at h
  rw [if_pos (by unfold Region.wanted; rw [hg])] at h
  rcases h with h | ⟨_, h⟩
  · rw [← bare_wp]; exact .inl h
  · exact .inr h
end Go.Proofs.YtiahmfpfimmbgaaGreatDoor

/-! A drawn region, each operation once, what memory does told of each. No program is named here. -/
namespace Go.Proofs.YtiahmfpfimmbgaaGreatDoor
open Go Go.RowKit
variable {P : Program} {Q : Exit → Act → World → Prop}

/-- What the operation does to memory: R0, or what is told of it. -/
def relOf (R0 : World → World → Prop) : List (Nat × (World → World → Prop)) → Nat → World → World → Prop
  | [], _ => R0
  | p :: l, k => fun x x' => (k = p.1 → p.2 x x') ∧ (k ≠ p.1 → relOf R0 l k x x')
def Refls : List (Nat × (World → World → Prop)) → Prop
  | [] => True
  | p :: l => (∀ x, p.2 x x) ∧ Refls l
theorem relOf_refl {R0 : World → World → Prop} (h0 : ∀ x, R0 x x) : ∀ {l : List (Nat × (World → World → Prop))}, Refls l → ∀ k x, relOf R0 l k x x
  | [], _, _, x => h0 x
  | _ :: _, h, k, x => ⟨fun _ => h.1 x, fun _ => relOf_refl h0 h.2 k x⟩
def StabS (ops : List Oper) (V : Say) (i : Nat) : List (Nat × (World → World → Prop)) → Prop
  | [] => True
  | p :: l => (reach ops ops.length i p.1 = true ∨ i = p.1 ∨ ∀ vs x x', V vs x → p.2 x x' → V vs x') ∧ StabS ops V i l
def Stabs3 (ops : List Oper) (R0 : World → World → Prop) (Rs : List (Nat × (World → World → Prop))) : Nat → List Say → Prop
  | _, [] => True
  | i, V :: l => ((isLast ops i = true ∨ ∀ vs x x', V vs x → R0 x x' → V vs x') ∧ StabS ops V i Rs) ∧ Stabs3 ops R0 Rs (i + 1) l
theorem relOf_stab {ops : List Oper} {R0 : World → World → Prop} {V : Say} {i k : Nat} (hik : i ≠ k) (hr : reach ops ops.length i k = false) (h0 : ∀ vs x x', V vs x → R0 x x' → V vs x') : ∀ {l : List (Nat × (World → World → Prop))}, StabS ops V i l → ∀ vs x x', V vs x → relOf R0 l k x x' → V vs x'
  | [], _, vs, x, x', hv, h => h0 vs x x' hv h
  | p :: l, hs, vs, x, x', hv, h => by
    by_cases e : k = p.1
    · rcases hs.1 with h1 | h1 | h1
      · rw [e, h1] at hr; cases hr
      · exact absurd (h1.trans e.symm) hik
      · exact h1 vs x x' hv (h.1 e)
    · exact relOf_stab hik hr h0 hs.2 vs x x' hv (h.2 e)
theorem relOf_last {ops : List Oper} {R0 : World → World → Prop} {V : Say} {i k : Nat} (hik : i ≠ k) (hr : reach ops ops.length i k = false) (hk : k < ops.length) (hl : isLast ops i = true) : False := by
  unfold isLast at hl
  have h1 := List.all_eq_true.1 hl k (List.mem_range.2 hk)
  rw [Bool.or_eq_true, hr] at h1
  rcases h1 with h1 | h1
  · exact hik (by simpa using Eq.symm (by simpa using h1 : k = i))
  · cases h1
theorem Stabs3.get {ops : List Oper} {R0 : World → World → Prop} {Rs : List (Nat × (World → World → Prop))} {k : Nat} (hk : k < ops.length) : ∀ {L : List Say} {m : Nat}, Stabs3 ops R0 Rs m L → ∀ i, m + i ≠ k → reach ops ops.length (m + i) k = false → ∀ vs x x', L.getD i (fun _ _ => True) vs x → relOf R0 Rs k x x' → L.getD i (fun _ _ => True) vs x'
  | [], _, _, i, _, _, vs, x, x', _, _ => by simp
  | V :: l, m, h, 0, hik, hr, vs, x, x', hv, hR => by
    rcases h.1.1 with h1 | h1
    · exact (relOf_last (R0 := R0) (V := V) hik hr hk h1).elim
    · simpa using relOf_stab hik hr h1 h.1.2 vs x x' (by simpa using hv) hR
  | V :: l, m, h, i + 1, hik, hr, vs, x, x', hv, hR => by
    have e : m + (i + 1) = m + 1 + i := by omega
    rw [e] at hik hr
    simpa using Stabs3.get hk h.2 i hik hr vs x x' (by simpa using hv) hR
end Go.Proofs.YtiahmfpfimmbgaaGreatDoor

/-! A drawn region, each operation once: what is so all along may look at which operations have been done. No program is named here. -/
namespace Go.Proofs.YtiahmfpfimmbgaaGreatDoor
open Go Go.RowKit
variable {P : Program} {Q : Exit → Act → World → Prop}

/-- It has been done too. -/
def did (f : Nat → Bool) (k : Nat) : Nat → Bool := fun j => if j = k then true else f j
def relQ4 (R : World → World → Prop) (I : (Nat → Bool) → World → Prop) (L : List Say) (vals : Nat → Value) (f : Nat → Bool) (k : Nat) (o : Oper) (a : Act) (x : World) : Exit → Act → World → Prop
  | .normal, a', x' => a'.defers = a.defers ∧ L.getD k (fun _ _ => True) (upd vals k (got o a')) x' ∧ R x x' ∧ I (did f k) x'
  | _, _, _ => False
def obligR4 (P : Program) (ops : List Oper) (D : List (List Nat)) (R : World → World → Prop) (I : (Nat → Bool) → World → Prop) (L : List Say) (a : Act) (k : Nat) (o : Oper) : Prop :=
  ∀ (vals : Nat → Value) (x : World) (f : Nat → Bool), f k = false → (∀ j, reach ops ops.length k j = true → f j = true) → (∀ j, reach ops ops.length j k = true → f j = false) → I f x → says L vals x (D.getD k []) →
    ((∀ g b, o.guard = some (g, b) → vals g = .bool b) → o.wp P (puts ops vals (D.getD k []) a) x (relQ4 R I L vals f k o (puts ops vals (D.getD k []) a) x .normal) (relQ4 R I L vals f k o (puts ops vals (D.getD k []) a) x)) ∧
    (∀ g b, o.guard = some (g, b) → vals g ≠ .bool b → L.getD k (fun _ _ => True) (upd vals k undef) x ∧ I (did f k) x)
structure RelInv4 (ops : List Oper) (I : (Nat → Bool) → World → Prop) (L : List Say) (a : Act) (listed : Array Bool) (a' : Act) (x : World) (vals : Nat → Value) : Prop where
  size : listed.size = ops.length
  closed : ∀ j k, waits ops k j = true → listed.getD k false = true → listed.getD j false = true
  tsize : a'.tmps.size = a.tmps.size
  defers : a'.defers = a.defers
  old : ∀ t, (∀ j, listed.getD j false = true → dstOf ops j ≠ some t) → a'.tmps[t]? = a.tmps[t]?
  new : ∀ j t, listed.getD j false = true → dstOf ops j = some t → a'.tmps[t]? = some (vals j)
  inv : I (fun i => listed.getD i false) x
  fact : ∀ j, listed.getD j false = true → L.getD j (fun _ _ => True) vals x
def owes4 (P : Program) (R : World → World → Prop) (I : (Nat → Bool) → World → Prop) (L : List Say) (vals : Nat → Value) (a : Act) (x : World) (f : Nat → Bool) (k : Nat) (o : Oper) (gd : Option (Nat × Bool)) : Prop :=
  match gd with
  | none => wpList P #[] (relQ4 R I L vals f k o a x) [bare o] a x
  | some (g, b) => (vals g = .bool b → wpList P #[] (relQ4 R I L vals f k o a x) [bare o] a x) ∧ (vals g ≠ .bool b → L.getD k (fun _ _ => True) (upd vals k undef) x ∧ I (did f k) x)
/-- As 'relOk'; an operation may look at a slot that a later one writes, if that one waits for it. -/
def relOk4 (ops : List Oper) (D : List (List Nat)) (size : Nat) : Bool :=
  (List.range ops.length).all fun k =>
    (match ops[k]? with
      | some o => (match o.guard with | none => true | some (g, _) => (D.getD k []).contains g && (dstOf ops g).isSome) && (match o.op with | .select .. => false | _ => true) && (o.after.all fun e => !Region.binds .any e || decide (e.on < k)) && (match o.dst with | some d => decide (d < size) | none => true)
      | none => false) &&
    ((D.getD k []).all fun j => waits ops k j && decide (j < ops.length)) &&
    (decide ((D.getD k []).Nodup)) &&
    (List.range ops.length).all fun j =>
      (!looks ops k j || (D.getD k []).contains j || reach ops ops.length j k) &&
      (decide (j = k) || (match dstOf ops j, dstOf ops k with | some d, some e => d != e | _, _ => true))
theorem relOk4_spec {ops : List Oper} {D : List (List Nat)} {size : Nat} (h : relOk4 ops D size = true) (k : Nat) (o : Oper) (hk : ops[k]? = some o) :
    (∀ g b, o.guard = some (g, b) → g ∈ D.getD k [] ∧ ∃ d, dstOf ops g = some d) ∧ (∀ cs b, o.op ≠ .select cs b) ∧ (∀ e ∈ o.after, Region.binds .any e = true → e.on < k) ∧ (∀ d, o.dst = some d → d < size) ∧
    (∀ j ∈ D.getD k [], waits ops k j = true ∧ j < ops.length) ∧ (∀ j, j < ops.length → looks ops k j = true → j ∈ D.getD k [] ∨ reach ops ops.length j k = true) ∧
    (∀ j d, j < ops.length → dstOf ops j = some d → o.dst = some d → j = k) := by
  have hlt : k < ops.length := (List.getElem?_eq_some_iff.1 hk).1
  unfold relOk4 at h
  have h := List.all_eq_true.1 h k (List.mem_range.2 hlt)
  have hdk : dstOf ops k = o.dst := by simp [dstOf, hk]
  simp only [hk, Bool.and_eq_true, hdk] at h
  obtain ⟨⟨⟨⟨⟨⟨h1, h2⟩, h3⟩, h4⟩, h5⟩, _⟩, h6⟩ := h
  have h6 : ∀ j, j < ops.length → _ := fun j hj => List.all_eq_true.1 h6 j (List.mem_range.2 hj)
  refine ⟨fun g b hg => ?_, fun cs b e => (by rw [e] at h2; cases h2), fun e he hb => ?_, fun d hd => by rw [hd] at h4; simpa using h4, fun j hj => ?_, fun j hj hl => ?_, fun j d hj hd hd' => ?_⟩
  · rw [hg] at h1
    simp only [Bool.and_eq_true, List.contains_iff_mem] at h1
    exact ⟨h1.1, Option.isSome_iff_exists.1 h1.2⟩
  · have := (Array.all_eq_true_iff_forall_mem.1 h3) e he
    simpa [hb] using this
  · have := List.all_eq_true.1 h5 j hj
    simpa using this
  · have := h6 j hj
    simp only [Bool.and_eq_true, hl] at this
    simpa using this.1
  · have := h6 j hj
    simp only [Bool.and_eq_true, hd, hd'] at this
    simpa using this.2
theorem rel4_any {ops : List Oper} {D : List (List Nat)} {R : Nat → World → World → Prop} {I : (Nat → Bool) → World → Prop} {L : List Say} {a : Act} (hRr : ∀ k x, R k x x) (hL : ∀ j k, k < ops.length → j ≠ k → reach ops ops.length j k = false → ∀ vs x x', L.getD j (fun _ _ => True) vs x → R k x x' → L.getD j (fun _ _ => True) vs x') (hLo : Locals D 0 L) (hB : relOk4 ops D a.tmps.size = true)
    (hs : ∀ k o, ops[k]? = some o → obligR4 P ops D (R k) I L a k o)
    (hfin : ∀ vals x f, (∀ i, i < ops.length → f i = true) → I f x → says L vals x (List.range ops.length) → Q .normal (puts ops vals (List.range ops.length) a) x) :
    ∀ (fuel : Nat) (listed : Array Bool) (a' : Act) (x : World) (vals : Nat → Value), cnt (fun i => listed.getD i false) ops.length ≤ fuel →
      RelInv4 ops I L a listed a' x vals → wpAny P .any ops.toArray Q fuel listed a' x := by
  have hdd : ∀ i j t, dstOf ops i = some t → dstOf ops j = some t → i = j := fun i j t hi hj => by
    have hjl : j < ops.length := dst_lt hj
    have ho : ops[j]? = some ops[j] := List.getElem?_eq_getElem hjl
    exact (relOk4_spec hB j _ ho).2.2.2.2.2.2 i t (dst_lt hi) hi (by simpa [dstOf, ho] using hj)
  have hds : ∀ j t, dstOf ops j = some t → t < a.tmps.size := fun j t hj => by
    have hjl : j < ops.length := dst_lt hj
    have ho : ops[j]? = some ops[j] := List.getElem?_eq_getElem hjl
    exact (relOk4_spec hB j _ ho).2.2.2.1 t (by simpa [dstOf, ho] using hj)
  have hdone : ∀ (listed : Array Bool) (a' : Act) (x : World) (vals : Nat → Value), (∀ i, i < ops.length → listed.getD i false = true) → RelInv4 ops I L a listed a' x vals → Q .normal a' x := by
    intro listed a' x vals hall inv
    have ha : a' = puts ops vals (List.range ops.length) a := by
      have ht : a'.tmps = (puts ops vals (List.range ops.length) a).tmps := by
        apply Array.ext_getElem?
        intro t
        by_cases h : ∃ j, dstOf ops j = some t
        · obtain ⟨j, hj⟩ := h
          rw [inv.new j t (hall j (dst_lt hj)) hj, puts_get (fun i j => hdd i j t) _ _ j (List.mem_range.2 (dst_lt hj)) hj (hds j t hj)]
        · rw [inv.old t (fun j _ e => h ⟨j, e⟩), puts_ne _ _ (fun i _ e => h ⟨i, e⟩)]
      have hdf : a'.defers = (puts ops vals (List.range ops.length) a).defers := by rw [puts_defers]; exact inv.defers
      cases a'
      cases hp : puts ops vals (List.range ops.length) a
      rw [hp] at ht hdf
      simp only at ht hdf
      rw [ht, hdf]
    rw [ha]
    exact hfin vals x _ hall inv.inv (says_iff.2 fun i hi => inv.fact i (hall i (List.mem_range.1 hi)))
  have hmin : ∀ (listed : Array Bool), listed.size = ops.length → ∀ i, i < ops.length → listed.getD i false = false → Region.ready .any ops.toArray listed ≠ [] := by
    intro listed hsz i
    induction i using Nat.strongRecOn with
    | _ i ih =>
      intro hi hun hr
      have ho : ops[i]? = some ops[i] := List.getElem?_eq_getElem hi
      by_cases h : ∀ e ∈ ops[i].after, Region.binds .any e = true → listed.getD e.on false = true
      · have : i ∈ Region.ready .any ops.toArray listed := mem_ready.2 ⟨getD_in (by omega) hun, ops[i], by simp [ho], h⟩
        rw [hr] at this; cases this
      · simp only [Classical.not_forall] at h
        obtain ⟨e, he, hb, hl⟩ := h
        have hlt := (relOk4_spec hB i _ ho).2.2.1 e he hb
        exact ih e.on hlt (by omega) (by simpa using hl) hr
  intro fuel
  induction fuel with
  | zero =>
    intro listed a' x vals hc inv
    have hall := cnt_zero (f := fun i => listed.getD i false) (Nat.le_zero.1 hc)
    refine ⟨?_, hdone _ _ _ _ hall inv⟩
    cases hr : Region.ready .any ops.toArray listed with
    | nil => rfl
    | cons k rs =>
      exfalso
      have hk : k ∈ Region.ready .any ops.toArray listed := by rw [hr]; simp
      obtain ⟨h0, o, ho, _⟩ := mem_ready.1 hk
      have hlt : k < ops.length := by
        have := (Array.getElem?_eq_some_iff.1 ho).1; simpa using this
      have h1 : listed.getD k false = true := hall k hlt
      rw [getD_both h0] at h1; cases h1
  | succ fuel ih =>
    intro listed a' x vals hc inv
    refine ⟨fun hr => ?_, fun k hk => ?_⟩
    · refine hdone _ _ _ _ (fun i hi => ?_) inv
      cases h : listed.getD i false with
      | true => rfl
      | false => exact absurd hr (hmin listed inv.size i hi h)
    · obtain ⟨h0, o, hoA, hwait⟩ := mem_ready.1 hk
      have ho : ops[k]? = some o := by simpa using hoA
      have hkl : k < ops.length := (List.getElem?_eq_some_iff.1 ho).1
      have h0f : listed.getD k false = false := getD_both h0
      have hsz : k < listed.size := by rw [inv.size]; exact hkl
      obtain ⟨hg, hsel, _, hdsz, hD, hlook, hdist⟩ := relOk4_spec hB k o ho
      have hw : ∀ m, waits ops k m = true → listed.getD m false = true := fun m hm => by
        obtain ⟨o', ho', e, he, hb, rfl⟩ := waits_spec.1 hm
        have : o' = o := Option.some.inj (ho'.symm.trans ho)
        subst this
        exact hwait e he hb
      have hDl : ∀ j ∈ D.getD k [], listed.getD j false = true := fun j hj => hw j (hD j hj).1
      have hdk : dstOf ops k = o.dst := by simp [dstOf, ho]
      -- the operation runs as it does in the small state
      have hexec : execOp a'.eval o = execOp (puts ops vals (D.getD k []) a).eval o := execOp_congr o hsel fun y hy => by
        cases y with
        | tmp t =>
          have ht : a'.tmps[t]? = (puts ops vals (D.getD k []) a).tmps[t]? := by
            by_cases h : ∃ j, dstOf ops j = some t
            · obtain ⟨j, hj⟩ := h
              rcases hlook j (dst_lt hj) (looks_spec ho hj hy) with hm | hm
              · rw [inv.new j t (hDl j hm) hj, puts_get (fun i j => hdd i j t) _ _ j hm hj (hds j t hj)]
              · have hjf : listed.getD j false = true → False := fun hjl => by
                  have := reach_listed inv.closed _ j k (fun m hm => inv.closed m j hm hjl) hm
                  rw [this] at h0f; cases h0f
                rw [inv.old t (fun i hi e => by have := hdd i j t e hj; subst this; exact hjf hi), puts_ne _ _ (fun i hi e => by have := hdd i j t e hj; subst this; exact hjf (hDl i hi))]
            · rw [inv.old t (fun j _ e => h ⟨j, e⟩), puts_ne _ _ (fun i _ e => h ⟨i, e⟩)]
          show a'.tmps.getD t undef = (puts ops vals (D.getD k []) a).tmps.getD t undef
          rw [Array.getD_eq_getD_getElem?, Array.getD_eq_getD_getElem?, ht]
        | _ => rfl
      have hcs := (cnt_set (f := fun i => listed.getD i false) (g := fun i => (listed.setIfInBounds k true).getD i false) h0f (getD_set (listed := listed) hsz) (n := ops.length)).2 hkl
      have hob := hs k o ho vals x (fun i => listed.getD i false) h0f (fun r h => reach_listed inv.closed _ k r (fun m hm => hw m hm) h) (fun r hr => by
        cases h : listed.getD r false with
        | false => rfl
        | true => exact absurd ((reach_listed inv.closed _ r k (fun m hm => inv.closed m r hm h) hr).symm.trans h0f) (by simp)) inv.inv (says_iff.2 fun j hj => inv.fact j (hDl j hj))
      have hbs : (puts ops vals (D.getD k []) a).tmps.size = a.tmps.size := puts_size _ _
      have hbd : (puts ops vals (D.getD k []) a).defers = a.defers := puts_defers _ _
      have next : ∀ v x', (L.getD k (fun _ _ => True) (upd vals k (got o ((puts ops vals (D.getD k []) a).put o.dst v))) x' ∧ R k x x' ∧ I (did (fun i => listed.getD i false) k) x') →
          wpAny P .any ops.toArray Q fuel (listed.setIfInBounds k true) (a'.put o.dst v) x' := by
        intro v x' hq
        obtain ⟨hV, hR, hI'⟩ := hq
        have hgs := getD_set (listed := listed) hsz
        have hold : ∀ j, (listed.setIfInBounds k true).getD j false = true → j ≠ k → listed.getD j false = true := fun j hj hne => by
          rw [hgs, if_neg hne] at hj; exact hj
        refine ih _ _ x' (fun j => if j = k then got o ((puts ops vals (D.getD k []) a).put o.dst v) else vals j) ?_ ⟨by simp [inv.size], fun j m hm hl => ?_, by rw [put_size]; exact inv.tsize, by rw [put_defers]; exact inv.defers, fun t ht => ?_, fun j t hj hdj => ?_, by rw [show (fun i => (listed.setIfInBounds k true).getD i false) = fun j => if j = k then true else listed.getD j false from funext hgs]; exact hI', fun j hj => ?_⟩
        · omega
        · rw [hgs]
          by_cases e : j = k
          · rw [if_pos e]
          · rw [if_neg e]
            by_cases e' : m = k
            · subst e'; exact hw j hm
            · exact inv.closed j m hm (hold m hl e')
        · rw [put_get_ne _ _ _ _ (by
            have := ht k (by rw [hgs, if_pos rfl])
            rwa [hdk] at this)]
          refine inv.old t fun j hj => ht j ?_
          rw [hgs]; split <;> first | rfl | exact hj
        · by_cases e : j = k
          · subst e
            rw [hdk] at hdj
            have htl := hdsz t hdj
            rw [if_pos rfl, hdj, put_get _ _ _ (by rw [inv.tsize]; exact htl)]
            simp only [got, hdj]
            rw [Array.getD_eq_getD_getElem?, put_get _ _ _ (by rw [hbs]; exact htl)]
            rfl
          · rw [if_neg e, put_get_ne _ _ _ _ (fun e' => e (hdist j t (dst_lt hdj) hdj e'))]
            exact inv.new j t (hold j hj e) hdj
        · by_cases e : j = k
          · subst e; exact hV
          · have hjl := hold j hj e
            have hrj : reach ops ops.length j k = false := by
              cases h : reach ops ops.length j k with
              | false => rfl
              | true => rw [reach_listed inv.closed _ j k (fun m hm => inv.closed m j hm hjl) h] at h0f; cases h0f
            have hfj := hL j k hkl e hrj vals x x' (inv.fact j hjl) hR
            refine hLo.get j vals _ x' (by simp [upd, e]) (fun m hm => ?_) hfj
            have hmk : m ≠ k := fun e' => by
              have hjlt := listed_lt inv.size hjl
              have hw' := ((relOk4_spec hB j ops[j] (List.getElem?_eq_getElem hjlt)).2.2.2.2.1 m (by simpa using hm)).1
              rw [e'] at hw'
              rw [inv.closed k j hw' hjl] at h0f; cases h0f
            simp [upd, hmk]
      unfold wpOp
      rw [hoA]
      dsimp only
      have hgv : ∀ g b, o.guard = some (g, b) → ∃ d, dstOf ops g = some d ∧ a'.tmps[d]? = some (vals g) := fun g b hgb => by
        obtain ⟨h1, d, h2⟩ := hg g b hgb
        exact ⟨d, h2, inv.new g d (hDl g h1) h2⟩
      have hyield : ∀ g b, o.guard = some (g, b) → (Region.wanted o (yielded ops.toArray a'.tmps) = true ↔ vals g = .bool b) := fun g b hgb => by
        obtain ⟨d, h1, h2⟩ := hgv g b hgb
        have hy : yielded ops.toArray a'.tmps g = match some (vals g) with | some (.bool b) => some b | _ => none := by
          unfold yielded
          rw [show (ops.toArray[g]?).bind (·.dst) = some d from by simpa [dstOf] using h1]
          simp only [Option.bind_some, h2]
          cases vals g <;> rfl
        unfold Region.wanted
        rw [hgb]
        simp only [hy]
        constructor
        · intro h
          split at h
          · rename_i b' he
            injection he with he
            rw [he]
            have : b' = b := by simpa using h
            rw [this]
          · cases h
        · intro h
          rw [h]; simp
      have hskip : Region.wanted o (yielded ops.toArray a'.tmps) = false → wpAny P .any ops.toArray Q fuel (listed.setIfInBounds k true) (a'.put o.dst undef) x := fun hw0 => by
        cases hgd : o.guard with
        | none => unfold Region.wanted at hw0; rw [hgd] at hw0; cases hw0
        | some p =>
          obtain ⟨g, b⟩ := p
          have hne : vals g ≠ .bool b := fun e => by rw [(hyield g b hgd).2 e] at hw0; cases hw0
          obtain ⟨h1, h2⟩ := hob.2 g b hgd hne
          refine next undef x ⟨?_, hRr k x, h2⟩
          have : got o ((puts ops vals (D.getD k []) a).put o.dst undef) = undef := by
            unfold got
            cases hd : o.dst with
            | none => rfl
            | some d =>
              simp only
              rw [Array.getD_eq_getD_getElem?, put_get _ _ _ (by rw [hbs]; exact hdsz d hd)]
              rfl
          rw [this]; exact h1
      by_cases hwant : Region.wanted o (yielded ops.toArray a'.tmps) = true
      rotate_left
      · rw [if_neg hwant]
        exact hskip (by simpa using hwant)
      rw [if_pos hwant]
      have hob := hob.1 fun g b hgd => (hyield g b hgd).1 hwant
      refine .inl ?_
      unfold Oper.wp at hob ⊢
      rw [hexec]
      generalize (execOp (puts ops vals (D.getD k []) a).eval o).run P x = r at hob ⊢
      cases r with
      | ok n w' =>
        cases n <;> simp only [Oper.upon] at hob ⊢
        case value v => exact next v w' hob.2
        case skip => exact next _ w' hob.2
        case defer d =>
          have := hob.1
          rw [put_defers] at this
          exact absurd (congrArg List.length this) (by simp)
        case enter f args =>
          refine Calls.mono hob fun e w'' he => ?_
          cases e with
          | returned u => exact next u w'' he.2
          | panicked c => exact he.elim
          | outgrown => obtain ⟨_, _, h⟩ := he; exact h.elim
        case row row args => exact Rows.mono hob fun u w'' he => next u w'' he.2
      | halt e w' =>
        cases e <;> simp only [Oper.upon] at hob ⊢ <;> exact hob.elim


def shareR4 (P : Program) (ops : List Oper) (R : World → World → Prop) (I : (Nat → Bool) → World → Prop) (L : List Say) (a : Act) (k : Nat) (o : Oper) (d : List (Nat × Tmp)) : Prop :=
  ∀ (vals : Nat → Value) (x : World) (f : Nat → Bool), f k = false → (∀ j, reach ops ops.length k j = true → f j = true) → (∀ j, reach ops ops.length j k = true → f j = false) → I f x → saysD L vals x d →
    owes4 P R I L vals (putsD vals d a) x f k o o.guard
def sharesR4 (P : Program) (ops : List Oper) (R : Nat → World → World → Prop) (I : (Nat → Bool) → World → Prop) (L : List Say) (a : Act) : Nat → List Oper → List (List (Nat × Tmp)) → Prop
  | _, [], _ => True
  | _, _ :: _, [] => False
  | k, o :: l, d :: ds => shareR4 P ops (R k) I L a k o d ∧ sharesR4 P ops R I L a (k + 1) l ds
theorem sharesR4_get {ops : List Oper} {R : Nat → World → World → Prop} {I : (Nat → Bool) → World → Prop} {L : List Say} {a : Act} : ∀ {l : List Oper} {ds : List (List (Nat × Tmp))} {k : Nat}, sharesR4 P ops R I L a k l ds →
    ∀ i o, l[i]? = some o → shareR4 P ops (R (k + i)) I L a (k + i) o (ds.getD i [])
  | [], _, _, _, i, o, h => by simp at h
  | _ :: _, [], _, h, _, _, _ => h.elim
  | o' :: l, d :: ds, k, h, 0, o, ho => by
    simp only [List.getElem?_cons_zero, Option.some.injEq] at ho
    subst ho; exact h.1
  | o' :: l, d :: ds, k, h, i + 1, o, ho => by
    simp only [List.getElem?_cons_succ] at ho
    have := sharesR4_get h.2 i o ho
    rw [show k + (i + 1) = k + 1 + i by omega]
    simpa using this
/-- A drawn region, each operation once. D: of each operation the ones that it looks at, with their slots; L: what is said of each one's value; R: what every operation does to memory; I: what is so all along, by which have been done. -/
theorem wp_region_rel4 {id : Nat} {ops : List Oper} {a : Act} {w : World} (D : List (List (Nat × Tmp))) (R0 : World → World → Prop) (Rs : List (Nat × (World → World → Prop))) (I : (Nat → Bool) → World → Prop) (L : List Say) (all : List (Nat × Tmp)) (hm : P.follows .mixedOrders = true)
    (hB : relOk4 ops (idxs D) a.tmps.size = true) (hD : D.all (fitsD ops) = true)
    (hall : (List.range ops.length).filterMap (fun i => (dstOf ops i).map fun t => (i, t)) = all)
    (hRr : ∀ x, R0 x x) (hRs : Refls Rs) (hL : Stabs3 ops R0 Rs 0 L) (hLo : Locals (idxs D) 0 L) (h0 : I (fun _ => false) (w.drewN 1))
    (hs : sharesR4 P ops (relOf R0 Rs) I L a 0 ops D)
    (hfin : ∀ vals x f, (∀ i, i < ops.length → f i = true) → I f x → says L vals x (List.range ops.length) → Q .normal (putsD vals all a) x) : (Code.region id ops.toArray true).wp P Q a w := by
  refine wp_region_any hm ?_
  have z0 : ∀ j, (Array.replicate ops.toArray.size false).getD j false = false := fun j => getD_replicate_false _ _
  have hle : ∀ (f : Nat → Bool) (n : Nat), cnt f n ≤ n := fun f n => by
    induction n with
    | zero => exact Nat.le_refl _
    | succ n ih => simp only [cnt]; split <;> omega
  have hrel := rel4_any (P := P) (Q := Q) (ops := ops) (a := a) (D := idxs D) (R := relOf R0 Rs) (I := I) (L := L) (relOf_refl hRr hRs) (fun j k hk hjk hr vs x x' => Stabs3.get hk hL j (by rw [Nat.zero_add]; exact hjk) (by rw [Nat.zero_add]; exact hr) vs x x') hLo hB
  refine hrel (fun k o hk => ?_) (fun vals x f hn hI hf => ?_) _ _ _ _ (fun _ => undef) (Nat.le_trans (hle _ _) (by simp)) ?_
  rotate_left
  · rw [puts_all, hall]; exact hfin vals x f hn hI hf
  · exact ⟨by simp, fun j k _ hl => (by rw [z0] at hl; cases hl), rfl, rfl, fun _ _ => rfl, fun j t hj => (by rw [z0] at hj; cases hj), by rw [show (fun i => (Array.replicate ops.toArray.size false).getD i false) = fun _ => false from funext z0]; exact h0, fun j hj => (by rw [z0] at hj; cases hj)⟩
  · have hsh := sharesR4_get hs k o hk
    rw [Nat.zero_add] at hsh
    have hfit : fitsD ops (D.getD k []) = true := by
      rcases Nat.lt_or_ge k D.length with h | h
      · rw [show D.getD k [] = D[k] by simp [h]]; exact List.all_eq_true.1 hD _ (List.getElem_mem h)
      · rw [show D.getD k [] = [] by simp [h]]; rfl
    have hDk : (idxs D).getD k [] = (D.getD k []).map (·.1) := by
      unfold idxs
      rcases Nat.lt_or_ge k D.length with h | h
      · simp [h]
      · simp [h]
    intro vals x f hn hl hl2 hI hf
    rw [hDk, says_saysD] at hf
    have h := hsh vals x f hn hl hl2 hI hf
    rw [hDk, puts_putsD hfit]
    have hun : wpList P #[] (relQ4 (relOf R0 Rs k) I L vals f k o (putsD vals (D.getD k []) a) x) [bare o] (putsD vals (D.getD k []) a) x → o.wp P (putsD vals (D.getD k []) a) x (relQ4 (relOf R0 Rs k) I L vals f k o (putsD vals (D.getD k []) a) x .normal) (relQ4 (relOf R0 Rs k) I L vals f k o (putsD vals (D.getD k []) a) x) := fun h => by
      rcases wpList_bare h with h | ⟨_, _, h⟩
      · exact h
      · exact h.elim
    generalize o.guard = gd at h ⊢
    cases gd with
    | none => exact ⟨fun _ => hun h, fun g b e => by cases e⟩
    | some p =>
      obtain ⟨g, b⟩ := p
      exact ⟨fun e => hun (h.1 (e g b rfl)), fun g' b' e hne => by injection e with e; injection e with e1 e2; subst e1; subst e2; exact h.2 hne⟩
end Go.Proofs.YtiahmfpfimmbgaaGreatDoor
