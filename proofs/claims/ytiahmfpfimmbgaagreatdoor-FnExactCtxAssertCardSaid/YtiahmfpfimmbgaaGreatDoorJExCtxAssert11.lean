/- The program's copyTerms. CtxTerms, the program's. Marks on trees. Marked terms are held. Trees of terms as the answer of a law: copies, comparisons, marks. The reference's l3Copy. -/
import Derived.Test.YtiahmfpfimmbgaaGreatDoorJExCtxAssert10
/-! The program's copyTerms. -/
namespace Go.Proofs.YtiahmfpfimmbgaaGreatDoor
open Go Go.RowKit

/-- A row of trees of the call's own is handed back. -/
def RetTrS (ts : List T) (w : World) (e : Ending) (w' : World) : Prop := ∃ A c, e = .returned (.slice A ts.length c) ∧ ts.length ≤ c ∧ TrS w' (OwnB9 w.heap.size w') A ts ∧ Below w.heap.size w w'
set_option maxRecDepth 100000 in
set_option maxHeartbeats 8000000 in
theorem copyTerms_any (ts : List T) (ho : ∀ t ∈ ts, T.All okT2 t) (A : Option Addr) (c : Nat) (F : Nat → Prop) (w : World) (h : Lay.term.Sl w F A ts) (hF : ∀ b, F b → b < w.heap.size) (hn : ts.length ≤ 1048576) :
    Calls Tryz.prog 56 #[.slice A ts.length c] w (RetTrS ts w) := by
  have H := Lib.hid h
  have HF := Lib.hid hF
  have HO := Lib.hid ho
  clear h hF ho
  go_enter Tryz.func56, Tryz.ntmps56
  go_wp2
  go_loopw [3, 8] (fun a i wr => ∃ (k : Nat) (xs : List T) (B : Option Addr) (b : Nat), k ≤ ts.length ∧ a = .slice B xs.length b ∧ i = .int .i64 k ∧ RowTr w.heap.size wr (.slice B xs.length b) xs ∧ Below w.heap.size w wr ∧ Hid (xs = ts.take k)) (fun _ i _ => ts.length - (intOf i).toNat)
  case atStart => exact ⟨0, [], none, 0, Nat.zero_le _, rfl, rfl, RowTr.nil _ _, Below.refl _ _, Lib.hid (by simp)⟩
  case round =>
    obtain ⟨k, xs, B, b, hk, rfl, rfl, hrow, hb, HX⟩ := hrel
    by_cases hlt : k < ts.length
    · have hk1 : (k : Int) < ts.length := by omega
      have hFr : ∀ g, F g → g < wr.heap.size := fun g hg => Nat.lt_of_lt_of_le (HF.out g hg) hb.size
      obtain ⟨ad, A1, c1, rfl, hf, e1, e2, e3, e4, e5, hcc, hkk⟩ := (H.out.below hb HF.out).at_term hlt
      have hal : Below wr.heap.size wr (wr.alloc (.cells #[.int .i64 ts[k].op, .int .i64 ts[k].a, .int .i64 ts[k].b, .string ts[k].name, .slice A1 ts[k].kids.length c1] 48)) := (Below.refl _ _).alloc (Nat.le_refl _) _
      have HB1 := Lib.hid (bthen hb hal)
      have HRW := Lib.hid (hrow.up hal)
      have HSZ1 := Lib.hid hal.size
      have HCP := Lib.hid (copyTerm_any ts[k] (HO.out _ (List.getElem_mem hlt)) A1 c1 F (wr.alloc (.cells #[.int .i64 ts[k].op, .int .i64 ts[k].a, .int .i64 ts[k].b, .string ts[k].name, .slice A1 ts[k].kids.length c1] 48)) (hkk.below hal hFr) (fun g hg => Nat.lt_of_lt_of_le (hFr g hg) hal.size))
      obtain ⟨ys, hys⟩ : ∃ ys, ys = xs ++ [ts[k]] := ⟨_, rfl⟩
      have HYE : Hid (ys = ts.take (k + 1)) := Lib.hid (by rw [hys, HX.out, List.take_succ_eq_append_getElem hlt])
      have HYS := Lib.hid hys
      have hxl : xs.length ≤ 2000000 := by rw [HX.out, List.length_take]; omega
      clear hys hkk hal hrow hFr
      go_wp2_with fail
      generalize wr.alloc (.cells #[.int .i64 ts[k].op, .int .i64 ts[k].a, .int .i64 ts[k].b, .string ts[k].name, .slice A1 ts[k].kids.length c1] 48) = W1 at *
      refine HCP.out.mono ?_
      rintro e w2 ⟨A9, c9, rfl, hc9, ht9, hb2⟩
      simp only [tcells]
      have hal3 : Below w2.heap.size w2 (w2.alloc (.cells #[.int .i64 ts[k].op, .int .i64 ts[k].a, .int .i64 ts[k].b, .string ts[k].name, .slice A9 ts[k].kids.length c9] 48)) := (Below.refl _ _).alloc (Nat.le_refl _) _
      have hnb := heap_alloc_new w2 (.cells #[.int .i64 ts[k].op, .int .i64 ts[k].a, .int .i64 ts[k].b, .string ts[k].name, .slice A9 ts[k].kids.length c9] 48)
      have hrz := (HRW.out.up hb2).up hal3
      have hlo : w.heap.size ≤ (w2.alloc (.cells #[.int .i64 ts[k].op, .int .i64 ts[k].a, .int .i64 ts[k].b, .string ts[k].name, .slice A9 ts[k].kids.length c9] 48)).heap.size := Nat.le_trans HB1.out.size (Nat.le_trans hb2.size hal3.size)
      have htz : TrS (w2.alloc (.cells #[.int .i64 ts[k].op, .int .i64 ts[k].a, .int .i64 ts[k].b, .string ts[k].name, .slice A9 ts[k].kids.length c9] 48)) (fun g => W1.heap.size ≤ g ∧ OwnB9 w.heap.size (w2.alloc (.cells #[.int .i64 ts[k].op, .int .i64 ts[k].a, .int .i64 ts[k].b, .string ts[k].name, .slice A9 ts[k].kids.length c9] 48)) g) A9 ts[k].kids := TrS.up (F := fun _ => True) (TrT.mono ht9 fun g hg => ⟨hg.1, hg.le HB1.out.size⟩) hal3
      have hbz := Lib.hid (bthen HB1.out (bthen hb2 hal3))
      have hW1 : Below W1.heap.size W1 (w2.alloc (.cells #[.int .i64 ts[k].op, .int .i64 ts[k].a, .int .i64 ts[k].b, .string ts[k].name, .slice A9 ts[k].kids.length c9] 48)) := bthen hb2 hal3
      have hro : ∀ g, W1.heap.size ≤ g → (Value.slice B xs.length b).ownBlock = some g → False := fun g hg e9 => by have := (HRW.out.lt g e9).2; omega
      clear ht9 hb2 hal3
      go_wp2_with (at_builtin; refine wpList_append_tree (ys := ys) (mid := W1.heap.size) (x := ts[k]) (A9 := A9) (c9 := c9) (e' := 48) (by rfl) (.tmp 12) (.tmp 15) (by rfl) (by rfl) (by rfl) hrz hlo hxl htz hc9 hnb (fun g hg e9 => hro g hg e9) ⟨W1, Nat.le_refl _, hW1, HRW.out⟩ HYS.out ?_; intro A3 c3 w3 hown3 hg3; have HB3 := Lib.hid (hbz.out.grown hg3 hlo (fun g e => (hrz.lt g e).1)))
      go_roundw
      case rel => exact ⟨k + 1, ys, A3, c3, by omega, rfl, by go_num, hown3, HB3.out, HYE⟩
      case measure => simp [intOf]; omega
    · have hke : k = ts.length := by omega
      have HE : Hid (xs = ts) := Lib.hid (by rw [HX.out, hke, List.take_length])
      have hcap : xs.length ≤ b := by
        obtain ⟨A8, c8, e8, h8⟩ := hrow.form
        injection e8 with _ _ e8
        omega
      subst hke
      go_wp2
      go_ret
      rw [← HE.out]
      exact ⟨B, b, rfl, hcap, hrow.tree, hb⟩
end Go.Proofs.YtiahmfpfimmbgaaGreatDoor

/-! CtxTerms, the program's. -/
namespace Go.Proofs.YtiahmfpfimmbgaaGreatDoor
open Go Go.RowKit Go.ChangeShapes Go.WideShapes Go.ChangeAt Go.Deep

end Go.Proofs.YtiahmfpfimmbgaaGreatDoor

/-! Marks on trees. -/
namespace Go.Proofs.YtiahmfpfimmbgaaGreatDoor
open Go Go.RowKit Go.ChangeShapes Go.WideShapes Go.ChangeAt Go.Deep

theorem upT_eq (x : T) (S : Int) : upT x S = .mk S (S + 1) (S + 2) (markT (S + 3)) (upTL x.kids (S + 4)) := by
  obtain ⟨o, a, b, n, ks⟩ := x
  simp only [upT, T.kids]
/-- What the mark of a tree is asked. -/
def MkTr (t : T) : Prop := ∀ (A : Option Addr) (c : Nat) (k0 : Int) (F : Nat → Prop) (w : World), TrT w F t A → (∀ b, F b → b < w.heap.size ∧ ∀ o, w.frozen? ⟨b, o, none⟩ = false) → 1 ≤ k0 → k0 + 4 * (T.sizeL t.kids : Int) ≤ 1000000000 → t.kids.length ≤ 1048576 →
  Calls Tryz.prog 19 #[.slice A t.kids.length c, .int .i64 k0] w fun e w' => e = .returned (.int .i64 (k0 + 4 * (T.sizeL t.kids : Int))) ∧ Dab F w w' ∧ TrS w' F A (upTL t.kids k0)
set_option maxRecDepth 100000 in
set_option maxHeartbeats 4000000 in
theorem markTree_any (t : T) (ho : T.All okT2 t) : MkTr t := by
  revert ho
  refine T.ind (p := fun x => T.All okT2 x → MkTr x) (fun x ih ho => ?_) t
  have ihk : ∀ k ∈ x.kids, MkTr k ∧ k.kids.length ≤ 1048576 := fun k hk => ⟨ih k hk (ho.kid k hk), (ho.kid k hk).here.1⟩
  clear ih ho
  intro A c k0 F w h hF h0 h1 hn
  have HIK := Lib.hid ihk
  have HF := Lib.hid hF
  clear ihk
  cases h with
  | mk _ _ _ Ak ck Fk hc hs hd hk =>
  have HC := Lib.hid hc
  have HS := Lib.hid hs
  have HDJ := Lib.hid hd
  have HI0 : Hid (∀ ad, A = some ad → ∀ k y, x.kids[k]? = some y → (∀ i u, (tcells (if k < 0 then upT y (k0 + 4 * (T.sizeL (x.kids.take k) : Int)) else y) (Ak k) (ck k))[i]? = some u → w.cell? (ad.add (k * 5 + i)) = some u) ∧ TrT w (Fk k) (if k < 0 then upT y (k0 + 4 * (T.sizeL (x.kids.take k) : Int)) else y) (Ak k)) := Lib.hid (fun ad e k y hy => by
    have hk0 : k < x.kids.length := (List.getElem?_eq_some_iff.1 hy).1
    obtain ⟨ad', e', _, hcc⟩ := hc (by omega)
    rw [e] at e'; injection e' with e'; subst e'
    rw [if_neg (by omega)]
    exact ⟨(hcc k y hy).2.2, hk k y hy⟩)
  clear hc hs hd hk hF
  go_enter Tryz.func19, Tryz.ntmps19
  go_wp2
  go_loopw [1, 5] (fun kk i wr => ∃ (j : Nat) (S : Int), j ≤ x.kids.length ∧ i = .int .i64 j ∧ kk = .int .i64 S ∧ Hid (S = k0 + 4 * (T.sizeL (x.kids.take j) : Int)) ∧ 1 ≤ S ∧ Dab F w wr ∧ Hid (∀ ad, A = some ad → ∀ k y, x.kids[k]? = some y → (∀ i u, (tcells (if k < j then upT y (k0 + 4 * (T.sizeL (x.kids.take k) : Int)) else y) (Ak k) (ck k))[i]? = some u → wr.cell? (ad.add (k * 5 + i)) = some u) ∧ TrT wr (Fk k) (if k < j then upT y (k0 + 4 * (T.sizeL (x.kids.take k) : Int)) else y) (Ak k))) (fun _ i _ => x.kids.length - (intOf i).toNat)
  case atStart => exact ⟨0, k0, Nat.zero_le _, rfl, rfl, Lib.hid (by simp [T.sizeL]), h0, Dab.refl _ _, HI0⟩
  case round =>
    obtain ⟨j, S, hj, rfl, rfl, HSS, S0, hd, HI⟩ := hrel
    have HD := Lib.hid hd
    clear hd HI0
    by_cases hlt : j < x.kids.length
    · have hj2 : (j : Int) < x.kids.length := by omega
      have HST := Lib.hid (sizeL_take x.kids j hlt)
      have hle : S + 4 * (1 + (T.sizeL x.kids[j].kids : Int)) ≤ 1000000000 := by
        have h9 := sizeL_take_le x.kids (j + 1)
        rw [HST.out] at h9
        have := HSS.out
        omega
      obtain ⟨ad, rfl, hf, hcc⟩ := HC.out (by omega)
      have HNB := Lib.hid ((hcc j _ (List.getElem?_eq_getElem hlt)).1)
      have HNA : Hid (∀ k y, x.kids[k]? = some y → ¬ Fk k ad.block) := Lib.hid (fun k y hy => (hcc k y hy).1)
      have HCK := Lib.hid ((hcc j _ (List.getElem?_eq_getElem hlt)).2.1)
      have hIj := HI.out ad rfl j _ (List.getElem?_eq_getElem hlt)
      rw [if_neg (by omega)] at hIj
      obtain ⟨hcj, htj⟩ := hIj
      have q0 : wr.cell? (ad.add (j * 5)) = some (.int .i64 x.kids[j].op) := hcj 0 _ rfl
      have q1 : wr.cell? (ad.add (j * 5 + 1)) = some (.int .i64 x.kids[j].a) := hcj 1 _ rfl
      have q2 : wr.cell? (ad.add (j * 5 + 2)) = some (.int .i64 x.kids[j].b) := hcj 2 _ rfl
      have q3 : wr.cell? (ad.add (j * 5 + 3)) = some (.string x.kids[j].name) := hcj 3 _ rfl
      have q4 : wr.cell? (ad.add (j * 5 + 4)) = some (.slice (Ak j) x.kids[j].kids.length (ck j)) := hcj 4 _ rfl
      have hfz : ∀ m, wr.frozen? (ad.add m) = false := fun m => by
        have h9 := (HF.out _ hf).2 (ad.add m).off
        have e9 : (⟨ad.block, (ad.add m).off, none⟩ : Addr) = ⟨(ad.add m).block, (ad.add m).off, none⟩ := by rw [block_of_add]
        have h8 := HD.out.frz (ad.add m) (by rw [block_of_add]; exact (HF.out _ hf).1)
        rw [h8, ← h9]
        unfold World.frozen?
        rw [block_of_add]
      have z0 := hfz (j * 5)
      have z1 := hfz (j * 5 + 1)
      have z2 := hfz (j * 5 + 2)
      have z3 := hfz (j * 5 + 3)
      have HTJ := Lib.hid htj
      clear hcc hcj htj hfz
      have n01 : ad.add (j * 5) ≠ ad.add (j * 5 + 1) := add_ne (by omega)
      have n02 : ad.add (j * 5) ≠ ad.add (j * 5 + 2) := add_ne (by omega)
      have n12 : ad.add (j * 5 + 1) ≠ ad.add (j * 5 + 2) := add_ne (by omega)
      have r1 : (wr.setCell (ad.add (j * 5)) (.int .i64 S)).cell? (ad.add (j * 5 + 1)) = some (.int .i64 x.kids[j].a) := (World.cell?_setCell_other _ _ _ _ n01).trans q1
      have f1 : (wr.setCell (ad.add (j * 5)) (.int .i64 S)).frozen? (ad.add (j * 5 + 1)) = false := (World.frozen?_setCell _ _ _ _).trans z1
      have r2 : ((wr.setCell (ad.add (j * 5)) (.int .i64 S)).setCell (ad.add (j * 5 + 1)) (.int .i64 (S + 1))).cell? (ad.add (j * 5 + 2)) = some (.int .i64 x.kids[j].b) := (World.cell?_setCell_other _ _ _ _ n12).trans ((World.cell?_setCell_other _ _ _ _ n02).trans q2)
      have f2 : ((wr.setCell (ad.add (j * 5)) (.int .i64 S)).setCell (ad.add (j * 5 + 1)) (.int .i64 (S + 1))).frozen? (ad.add (j * 5 + 2)) = false := (World.frozen?_setCell _ _ _ _).trans ((World.frozen?_setCell _ _ _ _).trans z2)
      have hd3 : Dab (fun b => b = ad.block) wr (((wr.setCell (ad.add (j * 5)) (.int .i64 S)).setCell (ad.add (j * 5 + 1)) (.int .i64 (S + 1))).setCell (ad.add (j * 5 + 2)) (.int .i64 (S + 1 + 1))) :=
        ((Dab.set (by rw [block_of_add]) q0 (.int _ _)).trans (Dab.set (by rw [block_of_add]) r1 (.int _ _))).trans (Dab.set (by rw [block_of_add]) r2 (.int _ _))
      have HO3 : Hid (∀ m u, m ≠ j * 5 → m ≠ j * 5 + 1 → m ≠ j * 5 + 2 → wr.cell? (ad.add m) = some u → (((wr.setCell (ad.add (j * 5)) (.int .i64 S)).setCell (ad.add (j * 5 + 1)) (.int .i64 (S + 1))).setCell (ad.add (j * 5 + 2)) (.int .i64 (S + 1 + 1))).cell? (ad.add m) = some u) := Lib.hid (fun m u g0 g1 g2 hu =>
        (World.cell?_setCell_other _ _ _ _ (add_ne (by omega))).trans ((World.cell?_setCell_other _ _ _ _ (add_ne (by omega))).trans ((World.cell?_setCell_other _ _ _ _ (add_ne (by omega))).trans hu)))
      have HN0 : Hid ((((wr.setCell (ad.add (j * 5)) (.int .i64 S)).setCell (ad.add (j * 5 + 1)) (.int .i64 (S + 1))).setCell (ad.add (j * 5 + 2)) (.int .i64 (S + 1 + 1))).cell? (ad.add (j * 5)) = some (.int .i64 S)) := Lib.hid ((World.cell?_setCell_other _ _ _ _ n02.symm).trans ((World.cell?_setCell_other _ _ _ _ n01.symm).trans (World.cell?_setCell_same _ _ _ q0)))
      have HN1 : Hid ((((wr.setCell (ad.add (j * 5)) (.int .i64 S)).setCell (ad.add (j * 5 + 1)) (.int .i64 (S + 1))).setCell (ad.add (j * 5 + 2)) (.int .i64 (S + 1 + 1))).cell? (ad.add (j * 5 + 1)) = some (.int .i64 (S + 1))) := Lib.hid ((World.cell?_setCell_other _ _ _ _ n12.symm).trans (World.cell?_setCell_same _ _ _ r1))
      have HN2 : Hid ((((wr.setCell (ad.add (j * 5)) (.int .i64 S)).setCell (ad.add (j * 5 + 1)) (.int .i64 (S + 1))).setCell (ad.add (j * 5 + 2)) (.int .i64 (S + 1 + 1))).cell? (ad.add (j * 5 + 2)) = some (.int .i64 (S + 1 + 1))) := Lib.hid (World.cell?_setCell_same _ _ _ r2)
      have HD3 := Lib.hid hd3
      have HFA := Lib.hid hf
      have HC3 := Lib.hid (HO3.out (j * 5 + 3) _ (by omega) (by omega) (by omega) q3)
      have HC4 := Lib.hid (HO3.out (j * 5 + 4) _ (by omega) (by omega) (by omega) q4)
      have HY3 := Lib.hid ((hd3.frz _ (World.block_lt_of_cell? wr _ q3)).trans z3)
      clear n01 n02 n12 hd3 hf q1 q2 q3 q4 z1 z2 z3
      have e1 := ad_f ad j 5 1 (by omega)
      have e2 := ad_f ad j 5 2 (by omega)
      have e3 := ad_f ad j 5 3 (by omega)
      have e4 := ad_f ad j 5 4 (by omega)
      rw [← e1] at r1 f1 r2 f2
      rw [← e2] at r2 f2
      have HE1 := Lib.hid e1
      have HE2 := Lib.hid e2
      have HE3 := Lib.hid e3
      have HE4 := Lib.hid e4
      clear e1 e2 e3 e4
      go_wp2_with fail
      rw [HE1.out, HE2.out]
      generalize hW3 : ((wr.setCell (ad.add (j * 5)) (.int .i64 S)).setCell (ad.add (j * 5 + 1)) (.int .i64 (S + 1))).setCell (ad.add (j * 5 + 2)) (.int .i64 (S + 1 + 1)) = W3 at *
      clear hW3
      refine (markText_any (S + 1 + 1 + 1) W3 (by omega) (by omega)).mono ?_
      rintro e w2 ⟨rfl, hb2⟩
      have e3 := (hb2.cell (World.block_lt_of_cell? _ _ HC3.out)).trans HC3.out
      have g3 := (hb2.frozen (World.block_lt_of_cell? _ _ HC3.out)).trans HY3.out
      have e4 := (hb2.cell (World.block_lt_of_cell? _ _ HC4.out)).trans HC4.out
      obtain ⟨t9, ht9⟩ : ∃ t9, t9 = markT (S + 1 + 1 + 1) := ⟨_, rfl⟩
      rw [← ht9]
      have HT9 := Lib.hid ht9
      have s4 : (w2.setCell (ad.add (j * 5 + 3)) (.string t9)).cell? (ad.add (j * 5 + 4)) = _ := (World.cell?_setCell_other _ _ _ _ (add_ne (by omega))).trans e4
      have s3 : (w2.setCell (ad.add (j * 5 + 3)) (.string t9)).cell? (ad.add (j * 5 + 3)) = _ := World.cell?_setCell_same _ _ _ e3
      have HS3 := Lib.hid s3
      have hd4 : Dab (fun b => b = ad.block) W3 (w2.setCell (ad.add (j * 5 + 3)) (.string t9)) := (Dab.of hb2).trans (Dab.set (by rw [block_of_add]) e3 (.str _ _))
      have hdr := HD3.out.trans hd4
      have HDR := Lib.hid hdr
      have HDW := Lib.hid (HD.out.trans (hdr.mono (fun b hb => by rw [hb]; exact HFA.out)))
      have HC5 : Hid (∀ m u, m ≠ j * 5 + 3 → W3.cell? (ad.add m) = some u → (w2.setCell (ad.add (j * 5 + 3)) (.string t9)).cell? (ad.add m) = some u) := Lib.hid (fun m u hm hu =>
        (World.cell?_setCell_other _ _ _ _ (add_ne (by omega))).trans ((hb2.cell (World.block_lt_of_cell? _ _ hu)).trans hu))
      have hFj : ∀ b, Fk j b → b < (w2.setCell (ad.add (j * 5 + 3)) (.string t9)).heap.size ∧ ∀ o, (w2.setCell (ad.add (j * 5 + 3)) (.string t9)).frozen? ⟨b, o, none⟩ = false := fun b hb => by
        have hb9 := HF.out b (HS.out j _ (List.getElem?_eq_getElem hlt) b hb)
        exact ⟨Nat.lt_of_lt_of_le hb9.1 HDW.out.size, fun o => (HDW.out.frz ⟨b, o, none⟩ hb9.1).trans (hb9.2 o)⟩
      have htj4 : TrT (w2.setCell (ad.add (j * 5 + 3)) (.string t9)) (Fk j) x.kids[j] (Ak j) := HTJ.out.keep fun b hb => hdr.block b (Nat.lt_of_lt_of_le (HF.out b (HS.out j _ (List.getElem?_eq_getElem hlt) b hb)).1 HD.out.size) (fun e9 => HNB.out (e9 ▸ hb))
      obtain ⟨hmc, hkl⟩ := HIK.out _ (List.getElem_mem hlt)
      have HMC := Lib.hid (hmc (Ak j) (ck j) (S + 1 + 1 + 1 + 1) (Fk j) _ htj4 hFj (by omega) (by omega) hkl)
      rw [← HE3.out] at e3 g3 s4 HMC HDR HDW HC5 HS3
      rw [← HE4.out] at s4
      clear e4 ht9 hb2 hmc htj4 hFj hd4 hdr s3 q0 z0 r1 f1 r2 f2
      go_wp2_with fail
      generalize w2.setCell ⟨(ad.add (j * 5)).block, (ad.add (j * 5)).off + 3, none⟩ (.string t9) = W4 at *
      refine HMC.out.mono ?_
      rintro e w5 ⟨rfl, hd5, htr5⟩
      have HD5 := Lib.hid (HDW.out.trans (hd5.mono (HS.out j _ (List.getElem?_eq_getElem hlt))))
      have hlb : ad.block < W4.heap.size := Nat.lt_of_lt_of_le (HF.out _ HFA.out).1 HDW.out.size
      have hc5 : ∀ m u, W4.cell? (ad.add m) = some u → w5.cell? (ad.add m) = some u := fun m u hu => (World.cell?_of_block (w := W4) (by rw [block_of_add]; exact hd5.block _ hlb HNB.out)).trans hu
      have HIN : Hid (∀ ad', (some ad : Option Addr) = some ad' → ∀ k y, x.kids[k]? = some y → (∀ i u, (tcells (if k < j + 1 then upT y (k0 + 4 * (T.sizeL (x.kids.take k) : Int)) else y) (Ak k) (ck k))[i]? = some u → w5.cell? (ad'.add (k * 5 + i)) = some u) ∧ TrT w5 (Fk k) (if k < j + 1 then upT y (k0 + 4 * (T.sizeL (x.kids.take k) : Int)) else y) (Ak k)) := Lib.hid (fun ad' e9 k y hy => by
        injection e9 with e9; subst e9
        have hkl9 : k < x.kids.length := (List.getElem?_eq_some_iff.1 hy).1
        by_cases hkj : k = j
        · subst hkj
          rw [List.getElem?_eq_getElem hlt] at hy
          injection hy with hy
          subst hy
          rw [if_pos (by omega), ← HSS.out, upT_eq]
          refine ⟨fun i u hu => ?_, TrT.root htr5 (by show upTL _ (S + 4) = upTL _ (S + 1 + 1 + 1 + 1); rw [show S + 1 + 1 + 1 + 1 = S + 4 by omega])⟩
          rcases i with _ | _ | _ | _ | _ | i
          · injection hu with hu; subst hu
            exact hc5 _ _ (HC5.out _ _ (by omega) HN0.out)
          · injection hu with hu; subst hu
            exact hc5 _ _ (HC5.out _ _ (by omega) HN1.out)
          · injection hu with hu; subst hu
            have h9 := hc5 _ _ (HC5.out _ _ (by omega) HN2.out)
            rw [show S + 1 + 1 = S + 2 by omega] at h9
            exact h9
          · injection hu with hu; subst hu
            have h9 := HS3.out
            rw [HE3.out] at h9
            have h9 := hc5 _ _ h9
            rw [HT9.out, show S + 1 + 1 + 1 = S + 3 by omega] at h9
            exact h9
          · injection hu with hu; subst hu
            have h9 := hc5 _ _ (HC5.out _ _ (by omega) HC4.out)
            show w5.cell? _ = some (.slice (Ak k) (upTL x.kids[k].kids (S + 4)).length (ck k))
            rw [upTL_len]
            exact h9
          · simp [tcells] at hu
        · obtain ⟨o1, o2⟩ := HI.out ad rfl k y hy
          have e8 : (if k < j + 1 then upT y (k0 + 4 * (T.sizeL (x.kids.take k) : Int)) else y) = (if k < j then upT y (k0 + 4 * (T.sizeL (x.kids.take k) : Int)) else y) := by
            by_cases h9 : k < j
            · rw [if_pos h9, if_pos (by omega)]
            · rw [if_neg h9, if_neg (by omega)]
          rw [e8]
          refine ⟨fun i u hu => ?_, o2.keep fun b hb => ?_⟩
          · have hi5 : i < 5 := by have := (List.getElem?_eq_some_iff.1 hu).1; simpa [tcells] using this
            exact hc5 _ _ (HC5.out _ _ (by omega) (HO3.out _ _ (by omega) (by omega) (by omega) (o1 i u hu)))
          · have hbw := (HF.out b (HS.out k y hy b hb)).1
            exact (hd5.block b (Nat.lt_of_lt_of_le hbw HDW.out.size) (HDJ.out k j hkj hkl9 hlt b hb)).trans (HDR.out.block b (Nat.lt_of_lt_of_le hbw HD.out.size) (fun e9 => HNA.out k y hy (e9 ▸ hb))))
      clear hd5 htr5 hc5 hlb e3 g3 s4 HMC
      go_wp2
      go_roundw
      case rel => exact ⟨j + 1, S + 1 + 1 + 1 + 1 + 4 * (T.sizeL x.kids[j].kids : Int), by omega, by go_num, rfl, Lib.hid (by rw [HST.out, HSS.out]; push_cast; omega), by omega, HD5.out, HIN⟩
      case measure => simp [intOf]; omega
    · have hje : j = x.kids.length := by omega
      subst hje
      have HE : Hid (S = k0 + 4 * (T.sizeL x.kids : Int)) := Lib.hid (by rw [HSS.out, List.take_length])
      go_wp2
      go_ret
      refine ⟨ret_int HE.out, HD.out, ?_⟩
      unfold TrS
      refine .mk F _ A Ak ck Fk (fun h9 => ?_) (fun k y hy => ?_) (fun i j hij hi hj' => ?_) (fun k y hy => ?_)
      · have h9 : 0 < x.kids.length := by rw [← upTL_len x.kids k0]; exact h9
        obtain ⟨ad, e, hf, hcc⟩ := HC.out h9
        refine ⟨ad, e, hf, fun k y hy => ?_⟩
        have hk9 : k < x.kids.length := by rw [← upTL_len x.kids k0]; exact (List.getElem?_eq_some_iff.1 hy).1
        have hg := upTL_get x.kids k0 k _ (List.getElem?_eq_getElem hk9)
        have hy2 : (upTL x.kids k0)[k]? = some y := hy
        rw [hg] at hy2
        injection hy2 with hy2
        subst hy2
        obtain ⟨o1, o2⟩ := HI.out ad e k _ (List.getElem?_eq_getElem hk9)
        rw [if_pos hk9] at o1
        obtain ⟨c1, c2, _⟩ := hcc k _ (List.getElem?_eq_getElem hk9)
        exact ⟨c1, by rw [upT_eq]; show (upTL _ _).length ≤ _; rw [upTL_len]; exact c2, o1⟩
      · have hk9 : k < x.kids.length := by rw [← upTL_len x.kids k0]; exact (List.getElem?_eq_some_iff.1 hy).1
        exact HS.out k _ (List.getElem?_eq_getElem hk9)
      · exact HDJ.out i j hij (by rw [← upTL_len x.kids k0]; exact hi) (by rw [← upTL_len x.kids k0]; exact hj')
      · have hk9 : k < x.kids.length := by rw [← upTL_len x.kids k0]; exact (List.getElem?_eq_some_iff.1 hy).1
        have hg := upTL_get x.kids k0 k _ (List.getElem?_eq_getElem hk9)
        have hy2 : (upTL x.kids k0)[k]? = some y := hy
        rw [hg] at hy2
        injection hy2 with hy2
        subst hy2
        obtain ⟨ad, e, _, _⟩ := HC.out (by omega)
        obtain ⟨o1, o2⟩ := HI.out ad e k _ (List.getElem?_eq_getElem hk9)
        rw [if_pos hk9] at o2
        exact o2
end Go.Proofs.YtiahmfpfimmbgaaGreatDoor

/-! Marked terms are held. -/
namespace Go.Proofs.YtiahmfpfimmbgaaGreatDoor
open Go Go.RowKit Go.ChangeShapes Go.WideShapes Go.ChangeAt Go.Deep

theorem upT_eq' (x : T) (S : Int) : upT x S = .mk S (S + 1) (S + 2) (markT (S + 3)) (upTL x.kids (S + 4)) := by
  obtain ⟨o, a, b, n, ks⟩ := x
  simp only [upT, T.kids]
def HeldTr (t : T) : Prop := ∀ (A : Option Addr) (c : Nat) (k0 : Int) (F : Nat → Prop) (w : World), Lay.term.Sl w F A (upTL t.kids k0) → (∀ b, F b → b < w.heap.size) → 1 ≤ k0 → k0 + 4 * (T.sizeL t.kids : Int) ≤ 1000000000 → t.kids.length ≤ 1048576 →
  Calls Tryz.prog 20 #[.slice A t.kids.length c, .int .i64 k0] w fun e w' => e = .returned (.int .i64 (k0 + 4 * (T.sizeL t.kids : Int))) ∧ Below w.heap.size w w'
set_option maxRecDepth 100000 in
set_option maxHeartbeats 4000000 in
theorem heldTermS_any (t : T) (ho : T.All okT2 t) : HeldTr t := by
  revert ho
  refine T.ind (p := fun x => T.All okT2 x → HeldTr x) (fun x ih ho => ?_) t
  have ihk : ∀ k ∈ x.kids, HeldTr k ∧ k.kids.length ≤ 1048576 := fun k hk => ⟨ih k hk (ho.kid k hk), (ho.kid k hk).here.1⟩
  clear ih ho
  intro A c k0 F w h hF h0 h1 hn
  have HIK := Lib.hid ihk
  have H := Lib.hid h
  clear ihk h
  go_enter Tryz.func20, Tryz.ntmps20
  go_wp2
  go_loopw [1, 5] (fun kk i wr => ∃ (j : Nat) (S : Int), j ≤ x.kids.length ∧ i = .int .i64 j ∧ kk = .int .i64 S ∧ Hid (S = k0 + 4 * (T.sizeL (x.kids.take j) : Int)) ∧ 1 ≤ S ∧ Below w.heap.size w wr) (fun _ i _ => x.kids.length - (intOf i).toNat)
  case atStart => exact ⟨0, k0, Nat.zero_le _, rfl, rfl, Lib.hid (by simp [T.sizeL]), h0, Below.refl _ _⟩
  case round =>
    obtain ⟨j, S, hj, rfl, rfl, HSS, S0, hb⟩ := hrel
    by_cases hlt : j < x.kids.length
    · have hj2 : (j : Int) < x.kids.length := by omega
      have HST := Lib.hid (sizeL_take x.kids j hlt)
      have hle : S + 4 * (1 + (T.sizeL x.kids[j].kids : Int)) ≤ 1000000000 := by
        have h9 := sizeL_take_le x.kids (j + 1)
        rw [HST.out] at h9
        have := HSS.out
        omega
      have hju : j < (upTL x.kids k0).length := by rw [upTL_len]; exact hlt
      obtain ⟨ad, A1, c1, rfl, hf, q0, q1, q2, q3, q4, hcc, hkk⟩ := (H.out.below hb hF).at_term hju
      have hg := upTL_get x.kids k0 j _ (List.getElem?_eq_getElem hlt)
      rw [List.getElem?_eq_getElem hju] at hg
      injection hg with hg
      rw [hg, ← HSS.out, upT_eq'] at q0 q1 q2 q3 q4 hkk
      dsimp only [T.op, T.a, T.b, T.name, T.kids] at q0 q1 q2 q3 q4 hkk
      rw [upTL_len] at q4
      have q4 : wr.cell? ⟨(ad.add (j * 5)).block, (ad.add (j * 5)).off + 4, none⟩ = some (.slice A1 x.kids[j].kids.length c1) := q4
      rw [show S + 1 = S + 1 from rfl] at q1
      rw [show S + 2 = S + 1 + 1 by omega] at q2
      rw [show S + 3 = S + 1 + 1 + 1 by omega] at q3
      have hFr : ∀ b, F b → b < wr.heap.size := fun b hb9 => Nat.lt_of_lt_of_le (hF b hb9) hb.size
      have HKK := Lib.hid hkk
      obtain ⟨t9, ht9⟩ : ∃ t9, t9 = markT (S + 1 + 1 + 1) := ⟨_, rfl⟩
      have HMK : Hid (∀ z, Calls Tryz.prog 59 #[.int .i64 (S + 1 + 1 + 1)] z fun e w' => e = .returned (.string t9) ∧ Below z.heap.size z w') := Lib.hid (fun z => by
        rw [ht9]; exact markText_any _ z (by omega) (by omega))
      rw [← ht9] at q3
      have d3 := Later.cell q3
      have HQ4 := Lib.hid q4
      have g0 : (S != S) = false := by simp
      have g1 : (S + 1 != S + 1) = false := by simp
      have g2 : (S + 1 + 1 != S + 1 + 1) = false := by simp
      have g9 : (!(t9.toList == t9.toList)) = false := by simp
      clear hg hkk q3 q4 ht9 hcc
      go_wp2
      refine wp_region_later (by kernel_rfl) (by kernel_rfl) ?_
      repeat (go_big_quiet_step ((go_at_call 59; exact later_of_below (HMK.out _))))
      refine wpQuiet_nil ?_
      rintro _ ⟨y, rfl⟩
      obtain ⟨W1, hy⟩ := y
      dsimp only
      have hb2 := bthen hb hy
      have e4 := (hy.cell (World.block_lt_of_cell? _ _ HQ4.out)).trans HQ4.out
      obtain ⟨hhc, hkl⟩ := HIK.out _ (List.getElem_mem hlt)
      have hs4 : S + 4 = S + 1 + 1 + 1 + 1 := by omega
      have hkk := HKK.out
      rw [hs4] at hkk
      have HHC := Lib.hid (hhc A1 c1 (S + 1 + 1 + 1 + 1) F W1 (hkk.below hy hFr) (fun b hb9 => Nat.lt_of_lt_of_le (hFr b hb9) hy.size) (by omega) (by omega) hkl)
      clear hy d3 hhc hkk hs4 q0 q1 q2 g0 g1 g2 g9
      go_wp2_with fail
      refine HHC.out.mono ?_
      rintro e w5 ⟨rfl, hb5⟩
      have hb6 := bthen hb2 hb5
      have hpos : ¬ (S + 1 + 1 + 1 + 1 + 4 * (T.sizeL x.kids[j].kids : Int)) < 0 := by omega
      clear hb5 e4
      go_wp2
      go_roundw
      case rel => exact ⟨j + 1, S + 1 + 1 + 1 + 1 + 4 * (T.sizeL x.kids[j].kids : Int), by omega, by go_num, rfl, Lib.hid (by rw [HST.out, HSS.out]; push_cast; omega), by omega, hb6⟩
      case measure => simp [intOf]; omega
    · have hje : j = x.kids.length := by omega
      subst hje
      have HE : Hid (S = k0 + 4 * (T.sizeL x.kids : Int)) := Lib.hid (by rw [HSS.out, List.take_length])
      go_wp2
      go_ret
      exact ⟨ret_int HE.out, hb⟩
end Go.Proofs.YtiahmfpfimmbgaaGreatDoor

/-! Trees of terms as the answer of a law: copies, comparisons, marks. -/
namespace Go.Proofs.YtiahmfpfimmbgaaGreatDoor
open Go Go.RowKit Go.ChangeShapes Go.WideShapes Go.ChangeAt Go.Deep

section
variable {w w' : World} {lo hi : Nat} {A : Option Addr} {ts : List T}
theorem TrS.cp_of (h : TrS w (OwnB9 lo w) A ts) : TrS w (Cp lo w.heap.size w) A ts := TrT.mono h fun _ h => ⟨h.1, h.2.1, Nat.le_refl _, h.2.2.1⟩
theorem TrS.cp_up (h : TrS w (Cp lo hi w) A ts) (hb : Below w.heap.size w w') : TrS w' (Cp lo hi w') A ts :=
  TrT.mono (TrT.keep h fun b hb9 => hb.block b hb9.lt) fun _ h => h.up hb
theorem TrS.cp_dab {G : Nat → Prop} (h : TrS w (Cp lo hi w) A ts) (hd : Dab G w w') (hG : ∀ b, lo ≤ b → b < hi → ¬ G b) : TrS w' (Cp lo hi w') A ts :=
  TrT.mono (TrT.keep h fun b hb9 => hd.block b hb9.lt (hG b hb9.1 hb9.2.1)) fun _ h => h.dab hd
theorem TrS.cp_rd (h : TrS w (Cp lo hi w) A ts) : Lay.term.Rd w A ts := (TrT.sl h).mono fun _ h => h.lt
end
theorem sizeL_app : ∀ (xs ys : List T), T.sizeL (xs ++ ys) = T.sizeL xs + T.sizeL ys
  | [], ys => by simp [T.sizeL]
  | x :: xs, ys => by simp only [List.cons_append, T.sizeL, sizeL_app xs ys]; omega
end Go.Proofs.YtiahmfpfimmbgaaGreatDoor

/-! The reference's l3Copy. -/
namespace Go.Proofs.YtiahmfpfimmbgaaGreatDoor
open Go Go.RowKit

def Fact.boxL (p : Nat) (W : World) (x : T) (ts : List T) : Fact :=
  .of (fun _ z => BoxT (p + 3) (p + 2) x z ts ∧ Below p W z ∧ p + 3 ≤ z.heap.size ∧ z.heap[p + 1]? = W.heap[p + 1]? ∧ z.heap[p]? = W.heap[p]?) fun _ z z' ⟨⟨A, c, h1, h2⟩, h3, h4, h5, h6⟩ hb =>
    ⟨⟨A, c, (hb.block (p + 2) (lt_of_block h1)).trans h1, h2.up hb⟩, h3.trans (hb.mono (by omega)), Nat.le_trans h4 hb.size, (hb.block (p + 1) (by omega)).trans h5, (hb.block p (by omega)).trans h6⟩
def CopyL (x : T) : Prop := ∀ (A : Option Addr) (c : Nat) (F : Nat → Prop) (w : World), Lay.term.Sl w F A x.kids → (∀ b, F b → b < w.heap.size) →
  Calls Tryz.prog 70 #[.agg #[.int .i64 x.op, .int .i64 x.a, .int .i64 x.b, .string x.name, .slice A x.kids.length c]] w (RetTree x w)
set_option maxRecDepth 100000 in
set_option maxHeartbeats 8000000 in
theorem l3Copy_any (t : T) (ho : T.All okT2 t) : CopyL t := by
  revert ho
  refine T.ind (p := fun x => T.All okT2 x → CopyL x) (fun x ih ho => ?_) t
  obtain ⟨hkl, _⟩ := ho.here
  have ihk : ∀ k ∈ x.kids, CopyL k := fun k hk => ih k hk (ho.kid k hk)
  clear ih ho
  intro A c F w h hF
  have HIK := Lib.hid ihk
  clear ihk
  have hal : Below w.heap.size w (((w.alloc (.cells #[.int .i64 x.op, .int .i64 x.a, .int .i64 x.b, .string x.name, .slice A x.kids.length c] 48)).alloc (.cells #[.int .i64 0, .int .i64 0, .int .i64 0, .string ⟨#[]⟩, .slice none 0 0] 48)).alloc (.cells #[.int .i64 x.op, .int .i64 x.a, .int .i64 x.b, .string x.name, .slice none 0 0] 48)) := (((Below.refl w.heap.size w).alloc (Nat.le_refl _) (.cells #[.int .i64 x.op, .int .i64 x.a, .int .i64 x.b, .string x.name, .slice A x.kids.length c] 48)).alloc (by simp) (.cells #[.int .i64 0, .int .i64 0, .int .i64 0, .string ⟨#[]⟩, .slice none 0 0] 48)).alloc (by simp; omega) (.cells #[.int .i64 x.op, .int .i64 x.a, .int .i64 x.b, .string x.name, .slice none 0 0] 48)
  have hsz1 : (w.alloc (.cells #[.int .i64 x.op, .int .i64 x.a, .int .i64 x.b, .string x.name, .slice A x.kids.length c] 48)).heap.size = w.heap.size + 1 := by simp
  have hsz1' : ((w.alloc (.cells #[.int .i64 x.op, .int .i64 x.a, .int .i64 x.b, .string x.name, .slice A x.kids.length c] 48)).alloc (.cells #[.int .i64 0, .int .i64 0, .int .i64 0, .string ⟨#[]⟩, .slice none 0 0] 48)).heap.size = w.heap.size + 2 := by simp
  have hsz2 : (((w.alloc (.cells #[.int .i64 x.op, .int .i64 x.a, .int .i64 x.b, .string x.name, .slice A x.kids.length c] 48)).alloc (.cells #[.int .i64 0, .int .i64 0, .int .i64 0, .string ⟨#[]⟩, .slice none 0 0] 48)).alloc (.cells #[.int .i64 x.op, .int .i64 x.a, .int .i64 x.b, .string x.name, .slice none 0 0] 48)).heap.size = w.heap.size + 3 := by simp
  have hbox := heap_alloc_new ((w.alloc (.cells #[.int .i64 x.op, .int .i64 x.a, .int .i64 x.b, .string x.name, .slice A x.kids.length c] 48)).alloc (.cells #[.int .i64 0, .int .i64 0, .int .i64 0, .string ⟨#[]⟩, .slice none 0 0] 48)) (.cells #[.int .i64 x.op, .int .i64 x.a, .int .i64 x.b, .string x.name, .slice none 0 0] 48)
  rw [hsz1'] at hbox
  have hres : (((w.alloc (.cells #[.int .i64 x.op, .int .i64 x.a, .int .i64 x.b, .string x.name, .slice A x.kids.length c] 48)).alloc (.cells #[.int .i64 0, .int .i64 0, .int .i64 0, .string ⟨#[]⟩, .slice none 0 0] 48)).alloc (.cells #[.int .i64 x.op, .int .i64 x.a, .int .i64 x.b, .string x.name, .slice none 0 0] 48)).heap[w.heap.size + 1]? = some (.cells #[.int .i64 0, .int .i64 0, .int .i64 0, .string ⟨#[]⟩, .slice none 0 0] 48 (0, 0)) := by
    have h9 := heap_alloc_new (w.alloc (.cells #[.int .i64 x.op, .int .i64 x.a, .int .i64 x.b, .string x.name, .slice A x.kids.length c] 48)) (.cells #[.int .i64 0, .int .i64 0, .int .i64 0, .string ⟨#[]⟩, .slice none 0 0] 48)
    rw [hsz1] at h9
    exact (((Below.refl ((w.alloc (.cells #[.int .i64 x.op, .int .i64 x.a, .int .i64 x.b, .string x.name, .slice A x.kids.length c] 48)).alloc (.cells #[.int .i64 0, .int .i64 0, .int .i64 0, .string ⟨#[]⟩, .slice none 0 0] 48)).heap.size ((w.alloc (.cells #[.int .i64 x.op, .int .i64 x.a, .int .i64 x.b, .string x.name, .slice A x.kids.length c] 48)).alloc (.cells #[.int .i64 0, .int .i64 0, .int .i64 0, .string ⟨#[]⟩, .slice none 0 0] 48))).alloc (Nat.le_refl _) (.cells #[.int .i64 x.op, .int .i64 x.a, .int .i64 x.b, .string x.name, .slice none 0 0] 48)).block _ (by rw [hsz1']; omega)).trans h9
  have harg : (((w.alloc (.cells #[.int .i64 x.op, .int .i64 x.a, .int .i64 x.b, .string x.name, .slice A x.kids.length c] 48)).alloc (.cells #[.int .i64 0, .int .i64 0, .int .i64 0, .string ⟨#[]⟩, .slice none 0 0] 48)).alloc (.cells #[.int .i64 x.op, .int .i64 x.a, .int .i64 x.b, .string x.name, .slice none 0 0] 48)).heap[w.heap.size]? = some (.cells #[.int .i64 x.op, .int .i64 x.a, .int .i64 x.b, .string x.name, .slice A x.kids.length c] 48 (0, 0)) :=
    (((Below.refl (w.alloc (.cells #[.int .i64 x.op, .int .i64 x.a, .int .i64 x.b, .string x.name, .slice A x.kids.length c] 48)).heap.size (w.alloc (.cells #[.int .i64 x.op, .int .i64 x.a, .int .i64 x.b, .string x.name, .slice A x.kids.length c] 48))).alloc (Nat.le_refl _) (.cells #[.int .i64 0, .int .i64 0, .int .i64 0, .string ⟨#[]⟩, .slice none 0 0] 48)).alloc (by simp) (.cells #[.int .i64 x.op, .int .i64 x.a, .int .i64 x.b, .string x.name, .slice none 0 0] 48) |>.block _ (by rw [hsz1]; omega)).trans (heap_alloc_new w (.cells #[.int .i64 x.op, .int .i64 x.a, .int .i64 x.b, .string x.name, .slice A x.kids.length c] 48))
  have H := Lib.hid h
  have HF := Lib.hid hF
  clear h hF hsz1
  go_enter Tryz.func70, Tryz.ntmps70
  go_wp2
  generalize ((w.alloc (.cells #[.int .i64 x.op, .int .i64 x.a, .int .i64 x.b, .string x.name, .slice A x.kids.length c] 48)).alloc (.cells #[.int .i64 0, .int .i64 0, .int .i64 0, .string ⟨#[]⟩, .slice none 0 0] 48)).alloc (.cells #[.int .i64 x.op, .int .i64 x.a, .int .i64 x.b, .string x.name, .slice none 0 0] 48) = W at *
  obtain ⟨p, hp⟩ : ∃ p, p = w.heap.size := ⟨_, rfl⟩
  rw [← hp] at hbox hres harg hsz2 hal ⊢
  have HP := Lib.hid hp
  clear hp
  go_loopw [4] (fun i wr => ∃ k : Nat, k ≤ x.kids.length ∧ i = .int .i64 k ∧ BoxT (p + 3) (p + 2) x wr (x.kids.take k) ∧ wr.heap[p + 1]? = some (.cells #[.int .i64 0, .int .i64 0, .int .i64 0, .string ⟨#[]⟩, .slice none 0 0] 48 (0, 0)) ∧ wr.heap[p]? = some (.cells #[.int .i64 x.op, .int .i64 x.a, .int .i64 x.b, .string x.name, .slice A x.kids.length c] 48 (0, 0)) ∧ Below p w wr ∧ p + 3 ≤ wr.heap.size) (fun i _ => x.kids.length - (intOf i).toNat)
  case atStart => exact ⟨0, Nat.zero_le _, rfl, ⟨none, 0, hbox, RowTr.nil _ _⟩, hres, harg, hal, by omega⟩
  case round =>
    obtain ⟨k, hk, rfl, hbt, hrs, hag, hb, hlo⟩ := hrel
    have w4 := (cell_of_block hag 4).1
    by_cases hlt : k < x.kids.length
    · have hk1 : (k : Int) < x.kids.length := by omega
      obtain ⟨B, b, hbx, hrow⟩ := hbt
      have hbw : Below w.heap.size w wr := by rw [← HP.out]; exact hb
      obtain ⟨ad, A1, c1, rfl, hf, e1, e2, e3, e4, e5, hcc, hkk⟩ := (H.out.below hbw HF.out).at_term hlt
      obtain ⟨ys, hys⟩ : ∃ ys, ys = x.kids.take k ++ [x.kids[k]] := ⟨_, rfl⟩
      have HYE : Hid (ys = x.kids.take (k + 1)) := Lib.hid (by rw [hys, List.take_succ_eq_append_getElem hlt])
      have HYS := Lib.hid hys
      have hxl : (x.kids.take k).length ≤ 2000000 := by rw [List.length_take]; omega
      generalize x.kids.take k = ts at *
      have HCP := Lib.hid (HIK.out _ (List.getElem_mem hlt) A1 c1 F)
      have HRW := Lib.hid hrow
      have HBX := Lib.hid hbx
      have HRS := Lib.hid hrs
      have HAG := Lib.hid hag
      have HB := Lib.hid hb
      have HLO := Lib.hid hlo
      have HKK := Lib.hid hkk
      have HFL : Hid (∀ g, F g → g < wr.heap.size) := Lib.hid (fun g hg => Nat.lt_of_lt_of_le (HF.out g hg) hbw.size)
      have z0 := Later.cell (cell_of_block HBX.out 4).1
      have z1 := Later.cell (cell_of_block HAG.out 4).1
      have y0 := Later.cell e1
      have y1 := Later.cell e2
      have y2 := Later.cell e3
      have y3 := Later.cell e4
      have y4 := Later.cell e5
      clear hys hkk hrow hbx hrs hag hb hbw e1 e2 e3 e4 e5
      go_wp2
      generalize wr = W1 at *
      refine wp_region_shares [[], [(0, 21)], [], [(2, 23)], [], [(3, 24), (4, 25)], [(5, 26)], [(6, 27)], [(7, 28)], [(1, 22), (8, 29)], [], [(10, 31), (9, 30)]]
        [.eq (.pointer (some ⟨p + 2, 4, none⟩)), .eq (.slice B ts.length b), .eq (.pointer (some ⟨p, 4, none⟩)), .eq (.slice (some ad) x.kids.length c), .eq (.int .i64 (k : Int)), .eq (.pointer (some (ad.add (k * 5)))), .eq (.agg #[.int .i64 x.kids[k].op, .int .i64 x.kids[k].a, .int .i64 x.kids[k].b, .string x.kids[k].name, .slice A1 x.kids[k].kids.length c1]), Fact.treeV (p + 3) W1.heap.size x.kids[k], Fact.treeL (p + 3) W1.heap.size x.kids[k], Fact.rowT (p + 3) W1 (.slice B ts.length b) ys, .eq (.pointer (some ⟨p + 2, 4, none⟩)), Fact.boxL p W1 x ys]
        [9, 11] [9, 11] [10, 11] [11] [(0, 21), (1, 22), (2, 23), (3, 24), (4, 25), (5, 26), (6, 27), (7, 28), (8, 29), (9, 30), (10, 31)] (by kernel_rfl) (by kernel_rfl) (by kernel_rfl) (by kernel_rfl)
        ⟨?_, ?_, ?_, ?_, ?_, ?_, ?_, ?_, ?_, ?_, ?_, ?_, trivial⟩ ?_
      · intro vals z hC hF
        simp only [putsD, Act.put, List.setIfInBounds_toArray, List.set_cons_zero, List.set_cons_succ]
        go_wp2
        exact ⟨rfl, rfl, .inr (Below.refl _ _), .inr (.inl (by simp))⟩
      · intro vals z hC hF
        have hC := hC.resolve_left (by simp)
        have hsz := hC.size
        have e1 : z.cell? _ = _ := z0 ⟨z, hC⟩
        simp only [factsD, List.getD_cons_zero, List.getD_cons_succ, Fact.eq, Fact.row, Fact.lit, Fact.lit0, Fact.of, and_true, Fact.treeV, Fact.treeL, Fact.rowT, Fact.boxL] at hF
        simp only [putsD, Act.put, List.setIfInBounds_toArray, List.set_cons_zero, List.set_cons_succ]
        simp only [hF]
        go_wp2
        exact ⟨rfl, rfl, .inr (Below.refl _ _), .inr (.inl (by simp))⟩
      · intro vals z hC hF
        simp only [putsD, Act.put, List.setIfInBounds_toArray, List.set_cons_zero, List.set_cons_succ]
        go_wp2
        exact ⟨rfl, rfl, .inr (Below.refl _ _), .inr (.inl (by simp))⟩
      · intro vals z hC hF
        have hC := hC.resolve_left (by simp)
        have hsz := hC.size
        have e1 : z.cell? _ = _ := z1 ⟨z, hC⟩
        simp only [factsD, List.getD_cons_zero, List.getD_cons_succ, Fact.eq, Fact.row, Fact.lit, Fact.lit0, Fact.of, and_true, Fact.treeV, Fact.treeL, Fact.rowT, Fact.boxL] at hF
        simp only [putsD, Act.put, List.setIfInBounds_toArray, List.set_cons_zero, List.set_cons_succ]
        simp only [hF]
        go_wp2
        exact ⟨rfl, rfl, .inr (Below.refl _ _), .inr (.inl (by simp))⟩
      · intro vals z hC hF
        simp only [putsD, Act.put, List.setIfInBounds_toArray, List.set_cons_zero, List.set_cons_succ]
        go_wp2
        exact ⟨rfl, rfl, .inr (Below.refl _ _), .inr (.inl (by simp))⟩
      · intro vals z hC hF
        simp only [factsD, List.getD_cons_zero, List.getD_cons_succ, Fact.eq, Fact.row, Fact.lit, Fact.lit0, Fact.of, and_true, Fact.treeV, Fact.treeL, Fact.rowT, Fact.boxL] at hF
        obtain ⟨e1, e2⟩ := hF
        simp only [putsD, Act.put, List.setIfInBounds_toArray, List.set_cons_zero, List.set_cons_succ]
        simp only [e1, e2]
        go_wp2
        exact ⟨rfl, rfl, .inr (Below.refl _ _), .inr (.inl (by simp))⟩
      · intro vals z hC hF
        have hC := hC.resolve_left (by simp)
        have hsz := hC.size
        have e1 : z.cell? _ = _ := y0 ⟨z, hC⟩
        have e2 : z.cell? _ = _ := y1 ⟨z, hC⟩
        have e3 : z.cell? _ = _ := y2 ⟨z, hC⟩
        have e4 : z.cell? _ = _ := y3 ⟨z, hC⟩
        have e5 : z.cell? _ = _ := y4 ⟨z, hC⟩
        simp only [factsD, List.getD_cons_zero, List.getD_cons_succ, Fact.eq, Fact.row, Fact.lit, Fact.lit0, Fact.of, and_true, Fact.treeV, Fact.treeL, Fact.rowT, Fact.boxL] at hF
        have e9 := hF
        simp only [putsD, Act.put, List.setIfInBounds_toArray, List.set_cons_zero, List.set_cons_succ]
        simp only [e9]
        go_wp2
        exact ⟨rfl, rfl, .inr (Below.refl _ _), .inr (.inl (by simp))⟩
      · intro vals z hC hF
        have hC := hC.resolve_left (by simp)
        have hsz := hC.size
        simp only [factsD, List.getD_cons_zero, List.getD_cons_succ, Fact.eq, Fact.row, Fact.lit, Fact.lit0, Fact.of, and_true, Fact.treeV, Fact.treeL, Fact.rowT, Fact.boxL] at hF
        have e1 := hF
        simp only [putsD, Act.put, List.setIfInBounds_toArray, List.set_cons_zero, List.set_cons_succ]
        simp only [e1]
        have HC9 := Lib.hid (HCP.out z (HKK.out.below hC HFL.out) (fun g hg => Nat.lt_of_lt_of_le (HFL.out g hg) hsz))
        go_wp2_with fail
        refine HC9.out.mono ?_
        rintro e w9 ⟨A9, c9, rfl, hc9, ht9, hb9⟩
        have HT9 : Hid (TrS w9 (fun g => W1.heap.size ≤ g ∧ OwnB9 (p + 3) w9 g) A9 x.kids[k].kids) := Lib.hid (TrT.mono ht9 fun g hg => ⟨Nat.le_trans hsz hg.1, hg.le (Nat.le_trans HLO.out hsz)⟩)
        clear ht9
        go_wp2
        exact ⟨rfl, ⟨A9, c9, rfl, hc9, HT9.out⟩, .inr hb9, .inr (.inl (by simp))⟩
      · intro vals z hC hF
        have hC := hC.resolve_left (by simp)
        have hsz := hC.size
        simp only [factsD, List.getD_cons_zero, List.getD_cons_succ, Fact.eq, Fact.row, Fact.lit, Fact.lit0, Fact.of, and_true, Fact.treeV, Fact.treeL, Fact.rowT, Fact.boxL] at hF
        obtain ⟨A9, c9, e1, hc9, ht9⟩ := hF
        have e1 : vals 7 = .agg #[.int .i64 x.kids[k].op, .int .i64 x.kids[k].a, .int .i64 x.kids[k].b, .string x.kids[k].name, .slice A9 x.kids[k].kids.length c9] := e1
        simp only [putsD, Act.put, List.setIfInBounds_toArray, List.set_cons_zero, List.set_cons_succ]
        simp only [e1]
        have hal9 : Below z.heap.size z (z.alloc (.cells (tcells x.kids[k] A9 c9).toArray 48)) := (Below.refl _ _).alloc (Nat.le_refl _) _
        go_wp2
        exact ⟨rfl, ⟨_, A9, c9, rfl, heap_alloc_new _ _, hc9, TrS.up (F := fun _ => True) ht9 hal9⟩, .inr hal9, .inr (.inl (by simp))⟩
      · intro vals z hC hF
        have hC := hC.resolve_left (by simp)
        have hsz := hC.size
        simp only [factsD, List.getD_cons_zero, List.getD_cons_succ, Fact.eq, Fact.row, Fact.lit, Fact.lit0, Fact.of, and_true, Fact.treeV, Fact.treeL, Fact.rowT, Fact.boxL] at hF
        obtain ⟨e5, b5, A9, c9, e7, hb5, hc9, ht9⟩ := hF
        have hrz := HRW.out.up hC
        simp only [putsD, Act.put, List.setIfInBounds_toArray, List.set_cons_zero, List.set_cons_succ]
        simp only [e5, e7]
        refine wpList_append_tree (ys := ys) (by rfl) (.tmp 22) (.tmp 29) (by rfl) (by rfl) (by rfl) hrz (Nat.le_trans HLO.out hsz) hxl ht9 hc9 hb5 (fun g hg e9 => by have := (HRW.out.lt g e9).2; omega) ⟨W1, Nat.le_refl _, hC, HRW.out⟩ HYS.out ?_
        intro A8 c8 w8 hown8 hg8
        exact ⟨rfl, ⟨A8, c8, rfl, hown8, below_grown hC hg8⟩, .inl (by simp), .inl (by simp)⟩
      · intro vals z hC hF
        simp only [putsD, Act.put, List.setIfInBounds_toArray, List.set_cons_zero, List.set_cons_succ]
        go_wp2
        exact ⟨rfl, rfl, .inr (Below.refl _ _), .inr (.inl (by simp))⟩
      · intro vals z hC hF
        simp only [factsD, List.getD_cons_zero, List.getD_cons_succ, Fact.eq, Fact.row, Fact.lit, Fact.lit0, Fact.of, and_true, Fact.treeV, Fact.treeL, Fact.rowT, Fact.boxL] at hF
        obtain ⟨e11, A8, c8, e8, hown8, hg8⟩ := hF
        have hpx := (hg8.block (p + 2) (lt_of_block HBX.out) (fun e => by have := (HRW.out.lt (p + 2) e.symm).1; omega)).trans HBX.out
        have x1 := (cell_of_block hpx 4).1
        have x2 := (cell_of_block hpx 4).2
        have HRF := Lib.hid (hown8.far ⟨p + 2, 4, none⟩ (.slice A8 ys.length c8) (by show p + 2 < p + 3; omega))
        have HPX := Lib.hid (heap_set_same z (p + 2) 4 (.slice A8 ys.length c8) _ _ hpx)
        have HBL : Hid (Below p W1 (z.setCell ⟨p + 2, 4, none⟩ (.slice A8 ys.length c8))) := Lib.hid (below_set9 ((Below.refl p W1).grown hg8 (by have := HLO.out; omega) (fun g hg => by have := (HRW.out.lt g hg).1; omega)) (by show p ≤ p + 2; omega) _)
        have HRR := Lib.hid ((Below.heap_setCell z ⟨p + 2, 4, none⟩ (.slice A8 ys.length c8) (p + 1) (by show p + 1 ≠ p + 2; omega)).trans (hg8.block (p + 1) (lt_of_block HRS.out) (fun e => by have := (HRW.out.lt (p + 1) e.symm).1; omega)))
        have HRA := Lib.hid ((Below.heap_setCell z ⟨p + 2, 4, none⟩ (.slice A8 ys.length c8) p (by show p ≠ p + 2; omega)).trans (hg8.block p (lt_of_block HAG.out) (fun e => by have := (HRW.out.lt p e.symm).1; omega)))
        have HSZ := Lib.hid hg8.size
        clear hpx
        simp only [putsD, Act.put, List.setIfInBounds_toArray, List.set_cons_zero, List.set_cons_succ]
        simp only [e11, e8]
        go_wp2
        exact ⟨rfl, ⟨⟨A8, c8, HPX.out, HRF.out⟩, HBL.out, by rw [size_setCell]; have := HLO.out; have := HSZ.out; omega, HRR.out, HRA.out⟩, .inl (by simp), .inl (by simp)⟩
      · intro vals z hF
        simp only [facts, List.getD_cons_zero, List.getD_cons_succ, Fact.eq, Fact.row, Fact.lit, Fact.lit0, Fact.of, and_true, Fact.treeV, Fact.treeL, Fact.rowT, Fact.boxL] at hF
        obtain ⟨hbt, hB9, hsz9, hr9, hr8⟩ := hF
        simp only [putsD, Act.put, List.setIfInBounds_toArray, List.set_cons_zero, List.set_cons_succ]
        have hb9 := HB.out.trans hB9
        have hrs9 := hr9.trans HRS.out
        have hag9 := hr8.trans HAG.out
        clear hB9 hr9 hr8 z0 z1 y0 y1 y2 y3 y4
        go_wp2
        go_roundw
        case rel => exact ⟨k + 1, by omega, by go_num, by rw [← HYE.out]; exact hbt, hrs9, hag9, hb9, by omega⟩
        case measure => simp [intOf]; omega
    · have hke : k = x.kids.length := by omega
      subst hke
      rw [List.take_length] at hbt
      obtain ⟨B, b, hbx, hrow⟩ := hbt
      have v0 := (cell_of_block hbx 0).1
      have v1 := (cell_of_block hbx 1).1
      have v2 := (cell_of_block hbx 2).1
      have v3 := (cell_of_block hbx 3).1
      have v4 := (cell_of_block hbx 4).1
      have r0 := (cell_of_block hrs 0).1
      have r1 := (cell_of_block hrs 1).1
      have r2 := (cell_of_block hrs 2).1
      have r3 := (cell_of_block hrs 3).1
      have r4 := (cell_of_block hrs 4).1
      have f0 := (cell_of_block hrs 0).2
      have f1 := (cell_of_block hrs 1).2
      have f2 := (cell_of_block hrs 2).2
      have f3 := (cell_of_block hrs 3).2
      have f4 := (cell_of_block hrs 4).2
      have s0 := heap_set_same wr (p + 1) 0 (.int .i64 x.op) _ _ hrs
      have s1 := heap_set_same _ (p + 1) 1 (.int .i64 x.a) _ _ s0
      have s2 := heap_set_same _ (p + 1) 2 (.int .i64 x.b) _ _ s1
      have s3 := heap_set_same _ (p + 1) 3 (.string x.name) _ _ s2
      have s4 := heap_set_same _ (p + 1) 4 (.slice B x.kids.length b) _ _ s3
      have hp1 : p + 1 < p + 3 := by omega
      have HRW := Lib.hid (((((hrow.far ⟨p + 1, 0, none⟩ (.int .i64 x.op) hp1).far ⟨p + 1, 1, none⟩ (.int .i64 x.a) hp1).far ⟨p + 1, 2, none⟩ (.int .i64 x.b) hp1).far ⟨p + 1, 3, none⟩ (.string x.name) hp1).far ⟨p + 1, 4, none⟩ (.slice B x.kids.length b) hp1)
      have hp2 : p ≤ p + 1 := by omega
      have HBL := Lib.hid (below_set9 (below_set9 (below_set9 (below_set9 (below_set9 hb (p := ⟨p + 1, 0, none⟩) hp2 (.int .i64 x.op)) (p := ⟨p + 1, 1, none⟩) hp2 (.int .i64 x.a)) (p := ⟨p + 1, 2, none⟩) hp2 (.int .i64 x.b)) (p := ⟨p + 1, 3, none⟩) hp2 (.string x.name)) (p := ⟨p + 1, 4, none⟩) hp2 (.slice B x.kids.length b))
      have HS4 := Lib.hid s4
      have hcap : x.kids.length ≤ b := by
        obtain ⟨A8, c8, e8, h8⟩ := hrow.form
        injection e8 with _ _ e8
        omega
      clear s0 s1 s2 s3 s4 hp1 hp2 hrow hbx hb
      go_wp2
      generalize (((((wr.setCell ⟨p + 1, 0, none⟩ (.int .i64 x.op)).setCell ⟨p + 1, 1, none⟩ (.int .i64 x.a)).setCell ⟨p + 1, 2, none⟩ (.int .i64 x.b)).setCell ⟨p + 1, 3, none⟩ (.string x.name)).setCell ⟨p + 1, 4, none⟩ (.slice B x.kids.length b)) = W5 at *
      have k0 := (cell_of_block HS4.out 0).1
      have k1 := (cell_of_block HS4.out 1).1
      have k2 := (cell_of_block HS4.out 2).1
      have k3 := (cell_of_block HS4.out 3).1
      have k4 := (cell_of_block HS4.out 4).1
      simp at k0 k1 k2 k3 k4
      refine bodyPost_ret (v := .agg #[.int .i64 x.op, .int .i64 x.a, .int .i64 x.b, .string x.name, .slice B x.kids.length b]) (by simp [results, Tryz.results70, go_sem, k0, k1, k2, k3, k4]) rfl ?_
      refine ⟨B, b, rfl, hcap, TrT.mono (RowTr.tree HRW.out) (fun g hg => hg.le (by rw [← HP.out]; omega)), by rw [← HP.out]; exact HBL.out⟩
end Go.Proofs.YtiahmfpfimmbgaaGreatDoor
