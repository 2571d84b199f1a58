/- FnExactBitsBin: the program's BitsBin answers, for any net and any marks, what the reference's answers, in memory of its own. -/
import Derived.Test.YtjghcaghigebjaaGreatDoorRows
import Derived.ProofKit
import Derived.LaidMore
import Derived.OpenShut
import Derived.Stop.Joined
import Derived.ChangeSame
import Derived.ChangeVars
import Derived.RowKitTokens
import Derived.LaidLaws
import Derived.Test.YtjghcaghigebjaaGreatDoorTie
import Derived.Test.YtjghcaghigebjaaGreatDoorCards
import Derived.SevenTiedAt
import Derived.Test.YtjghcaghigebjaaGreatDoorJExBitsBin2
import Derived.Test.YtjghcaghigebjaaGreatDoorJExBitsBin3
import Derived.Test.YtjghcaghigebjaaGreatDoorJExBitsBin8
import Derived.Test.YtjghcaghigebjaaGreatDoorJExBitsBin9
/-! The program's bin. -/
namespace Go.Proofs.YtjghcaghigebjaaGreatDoor
open Go Go.RowKit

/-- What bin makes, the lists being right. -/
def binS (n : N) (op : Int) (xs ys : List Int) : BS × List Int :=
  if op = 14 then catS n xs ys else if xs.length = ys.length ∧ opBin op = true then run opsP (binP op xs ys) ⟨n, none⟩ else (⟨n, some 0⟩, [])
theorem bin_ans {n : N} {op : Int} {xs ys : List Int} : binZ n xs ys (binS n op xs ys) = bitsBinR n op xs ys := by
  unfold binZ bitsBinR bitsOk
  cases hg : (goodL n xs && goodL n ys)
  · simp
  · unfold binS
    by_cases h14 : op = 14
    · subst h14
      have ho : opBin 14 = true := by decide
      rw [if_pos rfl, if_pos rfl, ho]
      unfold lenBin catS bitsOut
      rw [if_pos rfl]
      by_cases hl : xs.length + ys.length ≤ 4
      · have h1 : decide (4 < xs.length + ys.length) = false := by simp; omega
        rw [h1, decide_eq_true hl]
        rfl
      · have h1 : decide (4 < xs.length + ys.length) = true := by simp; omega
        rw [h1, decide_eq_false hl]
        rfl
    · rw [if_neg h14, if_pos rfl]
      unfold lenBin
      rw [if_neg h14]
      by_cases hl : xs.length = ys.length
      · cases ho : opBin op
        · rw [if_neg (by simp)]; simp [bitsOut]
        · rw [if_pos ⟨hl, rfl⟩, decide_eq_true hl]; simp
      · rw [if_neg (fun h => hl h.1), decide_eq_false hl]; simp [bitsOut]
set_option maxRecDepth 100000 in
set_option maxHeartbeats 16000000 in
theorem bBin_any (n : N) (op : Int) (xs ys : List Int) (hop : okInt op) (hgx : goodL n xs = true) (hgy : goodL n ys = true) : BinC op n xs ys (binS n op xs ys) := by
  intro a0 a1 lo q r X Y cx cy w h hX hY
  obtain ⟨l1, l2, m1⟩ := goodL_iff.1 hgx
  obtain ⟨l3, l4, m2⟩ := goodL_iff.1 hgy
  have hxm : ∀ x ∈ xs, MB x := fun x hx => mark_mb h.nb (m1 x hx)
  have hym : ∀ y ∈ ys, MB y := fun y hy => mark_mb h.nb (m2 y hy)
  have HXM := Lib.hid hxm
  have HYM := Lib.hid hym
  clear m1 m2 hxm hym hgx hgy
  unfold okInt at hop
  obtain ⟨hop0, hop1⟩ := hop
  by_cases h14 : op = 14
  · subst h14
    rw [show binS n 14 xs ys = catS n xs ys from if_pos rfl]
    exact bCat_any a0 a1 lo q r n X Y cx cy xs ys w h hX hY (sl_nonnil hX) (sl_nonnil hY) HXM.out HYM.out (by omega) (by omega)
  have e14 : (op == 14) = false := by simpa using h14
  have H14 := Lib.hid h14
  have HBD := Lib.hid h
  have HX := Lib.hid hX
  have HY := Lib.hid hY
  have hlo := h.size
  have g0 := h.g.c0
  have hv : errV a0 a1 (some 0) = sentV a0 := rfl
  clear h14
  by_cases hl : xs.length = ys.length
  rotate_left
  · have hne : ((xs.length : Int) != (ys.length : Int)) = true := by simpa using (by omega : ¬ (xs.length : Int) = ys.length)
    have HF := Lib.hid (fail_any a0 a1 lo q r none true 0 w h.toBx)
    rw [hv] at HF
    rw [show binS n op xs ys = (⟨n, some 0⟩, []) by unfold binS; rw [if_neg H14.out, if_neg (fun h => hl h.1)]]
    clear h hX hY hv hl
    go_enter Tryz.func47, Tryz.ntmps47
    go_wp2_with fail
    refine HF.out.mono ?_
    rintro e w1 ⟨rfl, hb1, hx1, hk1⟩
    have y1 := (cell_of_block hx1.box 1).1
    rw [show failE none true 0 = some 0 from rfl] at y1 hx1
    have y2 : w1.cell? ⟨q, 1, none⟩ = some (sentV a0) := y1
    have HB1 := Lib.hid hb1
    have HD1 := Lib.hid (Bx.bd HBD.out hx1 hk1 (fun h => by cases h))
    clear hb1 hx1 hk1 HF g0 y1
    go_wp2
    go_ret
    exact ⟨none, 0, rfl, Nat.zero_le _, .nil _ _ _ _, (fun m hm => by cases hm), HB1.out, HD1.out⟩
  have hne : ((xs.length : Int) != (ys.length : Int)) = false := by rw [hl]; simp
  have HL := Lib.hid hl
  have HF := Lib.hid (fail_any a0 a1 lo q r none false 0 w h.toBx)
  rw [hv] at HF
  have y1 := (cell_of_block h.box 1).1
  clear h hX hY hv hl
  by_cases ho : opBin op = true
  rotate_left
  · have hoo : (op == 3) = false ∧ (op == 4) = false ∧ (op == 5) = false ∧ (op == 6) = false ∧ (op == 7) = false ∧ (op == 8) = false ∧ (op == 9) = false ∧ (op == 10) = false ∧ (op == 11) = false ∧ (op == 12) = false ∧ (op == 13) = false := by
      unfold opBin at ho
      simp only [Bool.and_eq_true, decide_eq_true_eq] at ho
      refine ⟨?_, ?_, ?_, ?_, ?_, ?_, ?_, ?_, ?_, ?_, ?_⟩ <;> (rw [beq_eq_false_iff_ne]; omega)
    obtain ⟨o3, o4, o5, o6, o7, o8, o9, o10, o11, o12, o13⟩ := hoo
    rw [show binS n op xs ys = (⟨n, some 0⟩, []) by unfold binS; rw [if_neg H14.out, if_neg (fun h => ho h.2)]]
    clear ho y1
    go_enter Tryz.func47, Tryz.ntmps47
    go_wp2_with fail
    refine HF.out.mono ?_
    rintro e w1 ⟨rfl, hb1, hx1, hk1⟩
    rw [show failE none false 0 = none from rfl] at hx1
    have y1 : w1.cell? ⟨q, 1, none⟩ = some .nilIface := (cell_of_block hx1.box 1).1
    have g1 := hx1.g.c0
    have HB1 := Lib.hid hb1
    have HD1 := Lib.hid (Bx.bd HBD.out hx1 hk1 (fun _ => rfl))
    have HF := Lib.hid (fail_any a0 a1 lo q r none true 0 w1 hx1)
    rw [show errV a0 a1 (some 0) = sentV a0 from rfl] at HF
    clear hb1 hx1 hk1 g0
    go_wp2_with fail
    refine HF.out.mono ?_
    rintro e w2 ⟨rfl, hb2, hx2, hk2⟩
    have HB2 := Lib.hid (HB1.out.trans hb2)
    have HD2 := Lib.hid (Bx.bd HD1.out hx2 hk2 (fun h => by cases h))
    clear hb2 hx2 hk2 HF y1 g1
    go_wp2
    go_ret
    exact ⟨none, 0, rfl, Nat.zero_le _, .nil _ _ _ _, (fun m hm => by cases hm), HB2.out, HD2.out⟩
  have HBS : Hid (binS n op xs ys = run opsP (binP op xs ys) ⟨n, none⟩) := Lib.hid (by unfold binS; rw [if_neg H14.out, if_pos ⟨HL.out, ho⟩])
  rw [HBS.out]
  have hops : op = 3 ∨ op = 4 ∨ op = 5 ∨ op = 6 ∨ op = 7 ∨ op = 8 ∨ op = 9 ∨ op = 10 ∨ op = 11 ∨ op = 12 ∨ op = 13 := by
    have := H14.out
    unfold opBin at ho; simp only [Bool.and_eq_true, decide_eq_true_eq] at ho; omega
  clear ho hop0 hop1 HBS y1 e14 H14
  have hlx : xs.length ≤ 1000 := by omega
  rcases hops with rfl | rfl | rfl | rfl | rfl | rfl | rfl | rfl | rfl | rfl | rfl
  · rw [show binP 3 xs ys = eachP (fun x y => PG.and x y PG.ret) xs ys from rfl]
    generalize hT : run opsP (eachP (fun x y => PG.and x y PG.ret) xs ys) ⟨n, none⟩ = T at *
    have HT := Lib.hid hT
    clear hT
    go_enter Tryz.func47, Tryz.ntmps47
    go_wp2_with fail
    refine HF.out.mono ?_
    rintro e w1 ⟨rfl, hb1, hx1, hk1⟩
    rw [show failE none false 0 = none from rfl] at hx1
    have y1 : w1.cell? ⟨q, 1, none⟩ = some .nilIface := (cell_of_block hx1.box 1).1
    have HB1 := Lib.hid hb1
    have HD1 := Lib.hid (Bx.bd HBD.out hx1 hk1 (fun _ => rfl))
    have HX1 := Lib.hid (HX.out.upB hb1)
    have HY1 := Lib.hid (HY.out.upB hb1)
    clear hb1 hx1 hk1 g0 HF
    have HC := Lib.hid (each_and a0 a1 lo q r X Y cx cy xs ys ⟨n, none⟩ w1 (fun _ => True) trivial (fun _ _ => trivial) HD1.out HX1.out HY1.out HXM.out HYM.out HL.out hlx (fun x y s z hz hx hy _ => bAnd_any a0 a1 lo q r s x y z hz hx hy) (fun x y s hs hx hy => (opsP_and_mb hs hx.rb hy.rb).2))
    rw [HT.out] at HC
    go_wp2_with fail
    refine HC.out.mono ?_
    rintro e w2 ⟨A2, c2, rfl, h1, h2, h3, h4, h5⟩
    have H2 := Lib.hid h2
    have H3 := Lib.hid h3
    have H4 := Lib.hid (HB1.out.trans h4)
    have H5 := Lib.hid h5
    clear h2 h3 h4 h5 HC y1
    go_wp2
    go_ret
    exact ⟨A2, c2, rfl, h1, H2.out, H3.out, H4.out, H5.out⟩
  · rw [show binP 4 xs ys = eachP orP xs ys from rfl]
    generalize hT : run opsP (eachP orP xs ys) ⟨n, none⟩ = T at *
    have HT := Lib.hid hT
    clear hT
    go_enter Tryz.func47, Tryz.ntmps47
    go_wp2_with fail
    refine HF.out.mono ?_
    rintro e w1 ⟨rfl, hb1, hx1, hk1⟩
    rw [show failE none false 0 = none from rfl] at hx1
    have y1 : w1.cell? ⟨q, 1, none⟩ = some .nilIface := (cell_of_block hx1.box 1).1
    have HB1 := Lib.hid hb1
    have HD1 := Lib.hid (Bx.bd HBD.out hx1 hk1 (fun _ => rfl))
    have HX1 := Lib.hid (HX.out.upB hb1)
    have HY1 := Lib.hid (HY.out.upB hb1)
    clear hb1 hx1 hk1 g0 HF
    have HC := Lib.hid (each_or a0 a1 lo q r X Y cx cy xs ys ⟨n, none⟩ w1 (fun _ => True) trivial (fun _ _ => trivial) HD1.out HX1.out HY1.out HXM.out HYM.out HL.out hlx (fun x y s z hz hx hy _ => bOr_any a0 a1 lo q r s x y z hz hx hy) (fun x y s hs hx hy => (or_mb hs hx.rb hy.rb).2))
    rw [HT.out] at HC
    go_wp2_with fail
    refine HC.out.mono ?_
    rintro e w2 ⟨A2, c2, rfl, h1, h2, h3, h4, h5⟩
    have H2 := Lib.hid h2
    have H3 := Lib.hid h3
    have H4 := Lib.hid (HB1.out.trans h4)
    have H5 := Lib.hid h5
    clear h2 h3 h4 h5 HC y1
    go_wp2
    go_ret
    exact ⟨A2, c2, rfl, h1, H2.out, H3.out, H4.out, H5.out⟩
  · rw [show binP 5 xs ys = eachP (fun x y => PG.xor x y PG.ret) xs ys from rfl]
    generalize hT : run opsP (eachP (fun x y => PG.xor x y PG.ret) xs ys) ⟨n, none⟩ = T at *
    have HT := Lib.hid hT
    clear hT
    go_enter Tryz.func47, Tryz.ntmps47
    go_wp2_with fail
    refine HF.out.mono ?_
    rintro e w1 ⟨rfl, hb1, hx1, hk1⟩
    rw [show failE none false 0 = none from rfl] at hx1
    have y1 : w1.cell? ⟨q, 1, none⟩ = some .nilIface := (cell_of_block hx1.box 1).1
    have HB1 := Lib.hid hb1
    have HD1 := Lib.hid (Bx.bd HBD.out hx1 hk1 (fun _ => rfl))
    have HX1 := Lib.hid (HX.out.upB hb1)
    have HY1 := Lib.hid (HY.out.upB hb1)
    clear hb1 hx1 hk1 g0 HF
    have HC := Lib.hid (each_xor a0 a1 lo q r X Y cx cy xs ys ⟨n, none⟩ w1 (fun _ => True) trivial (fun _ _ => trivial) HD1.out HX1.out HY1.out HXM.out HYM.out HL.out hlx (fun x y s z hz hx hy _ => bXor_any a0 a1 lo q r s x y z hz hx hy) (fun x y s hs hx hy => (opsP_xor_mb hs hx.rb hy.rb).2))
    rw [HT.out] at HC
    go_wp2_with fail
    refine HC.out.mono ?_
    rintro e w2 ⟨A2, c2, rfl, h1, h2, h3, h4, h5⟩
    have H2 := Lib.hid h2
    have H3 := Lib.hid h3
    have H4 := Lib.hid (HB1.out.trans h4)
    have H5 := Lib.hid h5
    clear h2 h3 h4 h5 HC y1
    go_wp2
    go_ret
    exact ⟨A2, c2, rfl, h1, H2.out, H3.out, H4.out, H5.out⟩
  · rw [show binP 6 xs ys = sumP xs ys (-1) from rfl]
    generalize hT : run opsP (sumP xs ys (-1)) ⟨n, none⟩ = T at *
    have HT := Lib.hid hT
    clear hT
    go_enter Tryz.func47, Tryz.ntmps47
    go_wp2_with fail
    refine HF.out.mono ?_
    rintro e w1 ⟨rfl, hb1, hx1, hk1⟩
    rw [show failE none false 0 = none from rfl] at hx1
    have y1 : w1.cell? ⟨q, 1, none⟩ = some .nilIface := (cell_of_block hx1.box 1).1
    have HB1 := Lib.hid hb1
    have HD1 := Lib.hid (Bx.bd HBD.out hx1 hk1 (fun _ => rfl))
    have HX1 := Lib.hid (HX.out.upB hb1)
    have HY1 := Lib.hid (HY.out.upB hb1)
    clear hb1 hx1 hk1 g0 HF
    have HC := Lib.hid (bSum_any a0 a1 lo q r (-1) X Y cx cy xs ys ⟨n, none⟩ w1 HD1.out bok_mb.off HX1.out HY1.out HXM.out HYM.out HL.out hlx)
    rw [HT.out] at HC
    go_wp2_with fail
    refine HC.out.mono ?_
    rintro e w2 ⟨A2, c2, rfl, h1, h2, h3, h4, h5⟩
    have H2 := Lib.hid h2
    have H3 := Lib.hid h3
    have H4 := Lib.hid (HB1.out.trans h4)
    have H5 := Lib.hid h5
    clear h2 h3 h4 h5 HC y1
    go_wp2
    go_ret
    exact ⟨A2, c2, rfl, h1, H2.out, H3.out, H4.out, H5.out⟩
  · obtain ⟨ns, hns⟩ : ∃ ns, ns = ys.map Neg.neg := ⟨_, rfl⟩
    rw [show binP 7 xs ys = sumP xs (ys.map Neg.neg) 1 from rfl, ← hns]
    have HNS := Lib.hid hns
    have HNM : Hid (∀ m ∈ ns, MB m) := Lib.hid fun m hm => by
      rw [hns] at hm
      obtain ⟨z, hz, rfl⟩ := List.mem_map.1 hm
      exact (HYM.out z hz).neg
    have HNL : Hid (xs.length = ns.length) := Lib.hid (by rw [hns, List.length_map]; exact HL.out)
    generalize hT : run opsP (sumP xs ns 1) ⟨n, none⟩ = T at *
    have HT := Lib.hid hT
    clear hT hns
    go_enter Tryz.func47, Tryz.ntmps47
    go_wp2_with fail
    refine HF.out.mono ?_
    rintro e w1 ⟨rfl, hb1, hx1, hk1⟩
    rw [show failE none false 0 = none from rfl] at hx1
    have y1 : w1.cell? ⟨q, 1, none⟩ = some .nilIface := (cell_of_block hx1.box 1).1
    have HB1 := Lib.hid hb1
    have HD1 := Lib.hid (Bx.bd HBD.out hx1 hk1 (fun _ => rfl))
    have HX1 := Lib.hid (HX.out.upB hb1)
    have HY1 := Lib.hid (HY.out.upB hb1)
    clear hb1 hx1 hk1 g0 HF
    have HC := Lib.hid (negated_any a0 a1 lo q r Y cy ys ⟨n, none⟩ w1 HD1.out HY1.out HYM.out (by omega))
    rw [← HNS.out] at HC
    go_wp2_with fail
    refine HC.out.mono ?_
    rintro e w5 ⟨A5, c5, rfl, hc5, hp5, hm5, hb5, hd5⟩
    dsimp only at hc5 hp5 hm5 hd5
    have HC := Lib.hid (bSum_any a0 a1 lo q r 1 X A5 cx c5 xs ns ⟨n, none⟩ w5 hd5 bok_mb.one (HX1.out.upB hb5) hp5 HXM.out HNM.out HNL.out hlx)
    rw [HT.out] at HC
    have HB1 := Lib.hid (HB1.out.trans hb5)
    clear hc5 hp5 hm5 hb5 hd5
    go_wp2_with fail
    refine HC.out.mono ?_
    rintro e w2 ⟨A2, c2, rfl, h1, h2, h3, h4, h5⟩
    have H2 := Lib.hid h2
    have H3 := Lib.hid h3
    have H4 := Lib.hid (HB1.out.trans h4)
    have H5 := Lib.hid h5
    clear h2 h3 h4 h5 HC y1
    go_wp2
    go_ret
    exact ⟨A2, c2, rfl, h1, H2.out, H3.out, H4.out, H5.out⟩
  · rw [show binP 8 xs ys = mulP xs ys 0 (List.replicate xs.length (-1)) from rfl]
    generalize hT : run opsP (mulP xs ys 0 (List.replicate xs.length (-1))) ⟨n, none⟩ = T at *
    have HT := Lib.hid hT
    clear hT
    go_enter Tryz.func47, Tryz.ntmps47
    go_wp2_with fail
    refine HF.out.mono ?_
    rintro e w1 ⟨rfl, hb1, hx1, hk1⟩
    rw [show failE none false 0 = none from rfl] at hx1
    have y1 : w1.cell? ⟨q, 1, none⟩ = some .nilIface := (cell_of_block hx1.box 1).1
    have HB1 := Lib.hid hb1
    have HD1 := Lib.hid (Bx.bd HBD.out hx1 hk1 (fun _ => rfl))
    have HX1 := Lib.hid (HX.out.upB hb1)
    have HY1 := Lib.hid (HY.out.upB hb1)
    clear hb1 hx1 hk1 g0 HF
    have HC := Lib.hid (bMul_any a0 a1 lo q r X Y cx cy xs ys ⟨n, none⟩ w1 HD1.out HX1.out HY1.out HXM.out HYM.out HL.out (by omega))
    rw [HT.out] at HC
    go_wp2_with fail
    refine HC.out.mono ?_
    rintro e w2 ⟨A2, c2, rfl, h1, h2, h3, h4, h5⟩
    have H2 := Lib.hid h2
    have H3 := Lib.hid h3
    have H4 := Lib.hid (HB1.out.trans h4)
    have H5 := Lib.hid h5
    clear h2 h3 h4 h5 HC y1
    go_wp2
    go_ret
    exact ⟨A2, c2, rfl, h1, H2.out, H3.out, H4.out, H5.out⟩
  · rw [show run opsP (binP 9 xs ys) ⟨n, none⟩ = ((run opsP (divP xs (ys ++ [-1]) xs.length (List.replicate xs.length (-1)) (List.replicate xs.length (-1))) ⟨n, none⟩).1, (run opsP (divP xs (ys ++ [-1]) xs.length (List.replicate xs.length (-1)) (List.replicate xs.length (-1))) ⟨n, none⟩).2.1) from by rw [show binP 9 xs ys = (divP xs (ys ++ [-1]) xs.length (List.replicate xs.length (-1)) (List.replicate xs.length (-1))).bind fun z => .ret z.1 from rfl, run_bind]; rfl]
    generalize hT : run opsP (divP xs (ys ++ [-1]) xs.length (List.replicate xs.length (-1)) (List.replicate xs.length (-1))) ⟨n, none⟩ = T at *
    have HT := Lib.hid hT
    clear hT
    go_enter Tryz.func47, Tryz.ntmps47
    go_wp2_with fail
    refine HF.out.mono ?_
    rintro e w1 ⟨rfl, hb1, hx1, hk1⟩
    rw [show failE none false 0 = none from rfl] at hx1
    have y1 : w1.cell? ⟨q, 1, none⟩ = some .nilIface := (cell_of_block hx1.box 1).1
    have HB1 := Lib.hid hb1
    have HD1 := Lib.hid (Bx.bd HBD.out hx1 hk1 (fun _ => rfl))
    have HX1 := Lib.hid (HX.out.upB hb1)
    have HY1 := Lib.hid (HY.out.upB hb1)
    clear hb1 hx1 hk1 g0 HF
    have HC := Lib.hid (bDivide_any a0 a1 lo q r X Y cx cy xs ys ⟨n, none⟩ w1 HD1.out HX1.out HY1.out HXM.out HYM.out HL.out (by omega) (by omega))
    rw [HT.out] at HC
    go_wp2_with fail
    refine HC.out.mono ?_
    rintro e w2 ⟨A2, c2, A3, c3, rfl, ⟨h1, h2, h3⟩, ⟨k1, k2, k3⟩, h4, h5⟩
    have H2 := Lib.hid (And.intro h2 h3)
    have K2 := Lib.hid (And.intro k2 k3)
    have H4 := Lib.hid (HB1.out.trans h4)
    have H5 := Lib.hid h5
    clear h2 h3 k2 k3 h4 h5 HC y1
    go_wp2
    go_ret
    exact ⟨A2, c2, rfl, h1, H2.out.1, H2.out.2, H4.out, H5.out⟩
  · rw [show run opsP (binP 10 xs ys) ⟨n, none⟩ = ((run opsP (divP xs (ys ++ [-1]) xs.length (List.replicate xs.length (-1)) (List.replicate xs.length (-1))) ⟨n, none⟩).1, (run opsP (divP xs (ys ++ [-1]) xs.length (List.replicate xs.length (-1)) (List.replicate xs.length (-1))) ⟨n, none⟩).2.2) from by rw [show binP 10 xs ys = (divP xs (ys ++ [-1]) xs.length (List.replicate xs.length (-1)) (List.replicate xs.length (-1))).bind fun z => .ret z.2 from rfl, run_bind]; rfl]
    generalize hT : run opsP (divP xs (ys ++ [-1]) xs.length (List.replicate xs.length (-1)) (List.replicate xs.length (-1))) ⟨n, none⟩ = T at *
    have HT := Lib.hid hT
    clear hT
    go_enter Tryz.func47, Tryz.ntmps47
    go_wp2_with fail
    refine HF.out.mono ?_
    rintro e w1 ⟨rfl, hb1, hx1, hk1⟩
    rw [show failE none false 0 = none from rfl] at hx1
    have y1 : w1.cell? ⟨q, 1, none⟩ = some .nilIface := (cell_of_block hx1.box 1).1
    have HB1 := Lib.hid hb1
    have HD1 := Lib.hid (Bx.bd HBD.out hx1 hk1 (fun _ => rfl))
    have HX1 := Lib.hid (HX.out.upB hb1)
    have HY1 := Lib.hid (HY.out.upB hb1)
    clear hb1 hx1 hk1 g0 HF
    have HC := Lib.hid (bDivide_any a0 a1 lo q r X Y cx cy xs ys ⟨n, none⟩ w1 HD1.out HX1.out HY1.out HXM.out HYM.out HL.out (by omega) (by omega))
    rw [HT.out] at HC
    go_wp2_with fail
    refine HC.out.mono ?_
    rintro e w2 ⟨A2, c2, A3, c3, rfl, ⟨h1, h2, h3⟩, ⟨k1, k2, k3⟩, h4, h5⟩
    have H2 := Lib.hid (And.intro h2 h3)
    have K2 := Lib.hid (And.intro k2 k3)
    have H4 := Lib.hid (HB1.out.trans h4)
    have H5 := Lib.hid h5
    clear h2 h3 k2 k3 h4 h5 HC y1
    go_wp2
    go_ret
    exact ⟨A3, c3, rfl, k1, K2.out.1, K2.out.2, H4.out, H5.out⟩
  · rw [show binP 11 xs ys = shiftP true (-1) ys 0 xs from rfl]
    generalize hT : run opsP (shiftP true (-1) ys 0 xs) ⟨n, none⟩ = T at *
    have HT := Lib.hid hT
    clear hT
    go_enter Tryz.func47, Tryz.ntmps47
    go_wp2_with fail
    refine HF.out.mono ?_
    rintro e w1 ⟨rfl, hb1, hx1, hk1⟩
    rw [show failE none false 0 = none from rfl] at hx1
    have y1 : w1.cell? ⟨q, 1, none⟩ = some .nilIface := (cell_of_block hx1.box 1).1
    have HB1 := Lib.hid hb1
    have HD1 := Lib.hid (Bx.bd HBD.out hx1 hk1 (fun _ => rfl))
    have HX1 := Lib.hid (HX.out.upB hb1)
    have HY1 := Lib.hid (HY.out.upB hb1)
    clear hb1 hx1 hk1 g0 HF
    have HC := Lib.hid (bShift_up a0 a1 lo q r (-1) X Y cx cy xs ys ⟨n, none⟩ w1 HD1.out bok_mb.off HX1.out HY1.out HXM.out HYM.out (by omega) (by omega) (by omega))
    rw [HT.out] at HC
    go_wp2_with fail
    refine HC.out.mono ?_
    rintro e w2 ⟨A2, c2, rfl, h1, h2, h3, h4, h5⟩
    have H2 := Lib.hid h2
    have H3 := Lib.hid h3
    have H4 := Lib.hid (HB1.out.trans h4)
    have H5 := Lib.hid h5
    clear h2 h3 h4 h5 HC y1
    go_wp2
    go_ret
    exact ⟨A2, c2, rfl, h1, H2.out, H3.out, H4.out, H5.out⟩
  · rw [show binP 12 xs ys = shiftP false (-1) ys 0 xs from rfl]
    generalize hT : run opsP (shiftP false (-1) ys 0 xs) ⟨n, none⟩ = T at *
    have HT := Lib.hid hT
    clear hT
    go_enter Tryz.func47, Tryz.ntmps47
    go_wp2_with fail
    refine HF.out.mono ?_
    rintro e w1 ⟨rfl, hb1, hx1, hk1⟩
    rw [show failE none false 0 = none from rfl] at hx1
    have y1 : w1.cell? ⟨q, 1, none⟩ = some .nilIface := (cell_of_block hx1.box 1).1
    have HB1 := Lib.hid hb1
    have HD1 := Lib.hid (Bx.bd HBD.out hx1 hk1 (fun _ => rfl))
    have HX1 := Lib.hid (HX.out.upB hb1)
    have HY1 := Lib.hid (HY.out.upB hb1)
    clear hb1 hx1 hk1 g0 HF
    have HC := Lib.hid (bShift_down a0 a1 lo q r (-1) X Y cx cy xs ys ⟨n, none⟩ w1 HD1.out bok_mb.off HX1.out HY1.out HXM.out HYM.out (by omega) (by omega) (by omega))
    rw [HT.out] at HC
    go_wp2_with fail
    refine HC.out.mono ?_
    rintro e w2 ⟨A2, c2, rfl, h1, h2, h3, h4, h5⟩
    have H2 := Lib.hid h2
    have H3 := Lib.hid h3
    have H4 := Lib.hid (HB1.out.trans h4)
    have H5 := Lib.hid h5
    clear h2 h3 h4 h5 HC y1
    go_wp2
    go_ret
    exact ⟨A2, c2, rfl, h1, H2.out, H3.out, H4.out, H5.out⟩
  · obtain ⟨j, hj⟩ : ∃ j : Nat, j + 1 = xs.length := ⟨xs.length - 1, by omega⟩
    have hjx : j < xs.length := by omega
    have hjI : (xs.length : Int) - 1 = (j : Int) := by omega
    obtain ⟨fl, hfl⟩ : ∃ fl, fl = xs[j] := ⟨_, rfl⟩
    have HFL : Hid (MB fl) := Lib.hid (by rw [hfl]; exact HXM.out _ (List.getElem_mem _))
    rw [show binP 13 xs ys = shiftP false fl ys 0 xs from by rw [show binP 13 xs ys = shiftP false (xs.getD (xs.length - 1) 0) ys 0 xs from rfl, show xs.length - 1 = j by omega, getD_at hjx, hfl]]
    generalize hT : run opsP (shiftP false fl ys 0 xs) ⟨n, none⟩ = T at *
    have HT := Lib.hid hT
    have HFE := Lib.hid hfl
    clear hT hfl hj
    have hjx2 : (j : Int) < xs.length := by omega
    go_enter Tryz.func47, Tryz.ntmps47
    go_wp2_with fail
    refine HF.out.mono ?_
    rintro e w1 ⟨rfl, hb1, hx1, hk1⟩
    rw [show failE none false 0 = none from rfl] at hx1
    have y1 : w1.cell? ⟨q, 1, none⟩ = some .nilIface := (cell_of_block hx1.box 1).1
    have HB1 := Lib.hid hb1
    have HD1 := Lib.hid (Bx.bd HBD.out hx1 hk1 (fun _ => rfl))
    have HX1 := Lib.hid (HX.out.upB hb1)
    have HY1 := Lib.hid (HY.out.upB hb1)
    clear hb1 hx1 hk1 g0 HF
    obtain ⟨adx, rfl, -, cx9⟩ := HX1.out.at_int hjx
    rw [← HFE.out] at cx9
    have HC := Lib.hid (bShift_down a0 a1 lo q r fl (some adx) Y cx cy xs ys ⟨n, none⟩ w1 HD1.out HFL.out HX1.out HY1.out HXM.out HYM.out (by omega) (by omega) (by omega))
    rw [HT.out] at HC
    go_wp2_with fail
    clear cx9
    refine HC.out.mono ?_
    rintro e w2 ⟨A2, c2, rfl, h1, h2, h3, h4, h5⟩
    have H2 := Lib.hid h2
    have H3 := Lib.hid h3
    have H4 := Lib.hid (HB1.out.trans h4)
    have H5 := Lib.hid h5
    clear h2 h3 h4 h5 HC y1
    go_wp2
    go_ret
    exact ⟨A2, c2, rfl, h1, H2.out, H3.out, H4.out, H5.out⟩
end Go.Proofs.YtjghcaghigebjaaGreatDoor

/-! BitsBin in the laws' one form. -/
namespace Go.Proofs.YtjghcaghigebjaaGreatDoor
open Go Go.RowKit Go.ChangeShapes Go.WideShapes Go.ChangeAt Go.Deep

theorem bitsBin_len {n : N} {op : Int} {xs ys : List Int} : (pickN (netOk n) (bitsBinR n op xs ys)).1.gs.length ≤ 1048576 ∧ (pickN (netOk n) (bitsBinR n op xs ys)).2.length ≤ 1048576 := pickN_len fun hok => by
  unfold bitsBinR bitsOk
  split
  · rename_i hc
    simp only [Bool.and_eq_true] at hc
    obtain ⟨⟨⟨hx, hy⟩, ho⟩, hl⟩ := hc
    have hn := (netOk_iff n).1 hok
    have hnb : NB n := ⟨hn.1, hn.2.1, hn.2.2.1⟩
    obtain ⟨l1, l2, m1⟩ := goodL_iff.1 hx
    obtain ⟨l3, l4, m2⟩ := goodL_iff.1 hy
    rw [← told_out]
    unfold toldR
    split
    · dsimp only
      have h1 := bd_runR _ (n, true) (bin_bd bok_rb (fun x hx => (mark_mb hnb (m1 x hx)).rb) (fun y hy => (mark_mb hnb (m2 y hy)).rb) (by omega) (fun h14 => by unfold lenBin at hl; rw [if_neg h14] at hl; simpa using hl) ho) hnb
      have h2 := h1.1.2.2
      have h3 := h1.2.2.2
      exact ⟨by omega, by omega⟩
    · exact ⟨Nat.zero_le _, Nat.zero_le _⟩
  · exact ⟨Nat.zero_le _, Nat.zero_le _⟩
theorem binS_len {n : N} {op : Int} {xs ys : List Int} (hnb : NB n) (hx : goodL n xs = true) (hy : goodL n ys = true) : (binS n op xs ys).2.length ≤ 1000 := by
  obtain ⟨l1, l2, m1⟩ := goodL_iff.1 hx
  obtain ⟨l3, l4, m2⟩ := goodL_iff.1 hy
  unfold binS
  split
  · unfold catS; simp; omega
  · rename_i h14
    split
    · rename_i h
      have h1 := (bd_runP _ ⟨n, none⟩ (bin_bd bok_mb (fun x hx => mark_mb hnb (m1 x hx)) (fun y hy => mark_mb hnb (m2 y hy)) (by omega) (fun _ => h.1) h.2) hnb).2.2.2
      omega
    · exact Nat.zero_le _
theorem implBitsBin_u (a0 a1 : Addr) (l0 : Nat) (x0 : N) (A : Option Addr) (c : Nat) (x1 : Int) (x2 : List Int) (X : Option Addr) (cx : Nat) (x3 : List Int) (Y : Option Addr) (cy : Nat) (w : World) (h : Lay.gate.Rd w A x0.gs) (_ : x0.gs.length ≤ c) (hX : Lay.int.Rd w X x2) (_ : x2.length ≤ cx) (hY : Lay.int.Rd w Y x3) (_ : x3.length ≤ cy) (s0 : smNet x0) (s1 : okInt x1) (s2 : smInts x2) (s3 : smInts x3) (hg : Glb a0 a1 l0 w) (hl : l0 ≤ w.heap.size) :
    Calls Tryz.prog 12 #[.agg #[.int .i64 x0.ins, .slice A x0.gs.length c], .int .i64 x1, .slice X x2.length cx, .slice Y x3.length cy] w (RetBits (pickN (netOk x0) (bitsBinR x0 x1 x2 x3)) w) := by
  rcases hok : netOk x0 with _ | _
  · have := implBitsBin_any a0 a1 l0 x0 x1 x2 x3 A X Y c cx cy w hg hl h s0.1 (sl_nonnil h) s0.2.1 hX hY s2.2 s3.2 (⟨x0, none⟩, []) (fun h => by rw [hok] at h; cases h) (Nat.zero_le _) s2.1 s3.1
    rw [hok] at this
    exact this
  · have hn := (netOk_iff x0).1 hok
    have hnb : NB x0 := ⟨hn.1, hn.2.1, hn.2.2.1⟩
    by_cases hgg : (goodL x0 x2 && goodL x0 x3) = true
    · have hg2 := hgg
      rw [Bool.and_eq_true] at hg2
      have := implBitsBin_any a0 a1 l0 x0 x1 x2 x3 A X Y c cx cy w hg hl h s0.1 (sl_nonnil h) s0.2.1 hX hY s2.2 s3.2 (binS x0 x1 x2 x3) (fun _ h1 h2 => bBin_any x0 x1 x2 x3 s1 h1 h2) (binS_len hnb hg2.1 hg2.2) s2.1 s3.1
      rw [bin_ans, hok] at this
      exact this
    · have := implBitsBin_any a0 a1 l0 x0 x1 x2 x3 A X Y c cx cy w hg hl h s0.1 (sl_nonnil h) s0.2.1 hX hY s2.2 s3.2 (⟨x0, none⟩, []) (fun _ h1 h2 => absurd (by rw [h1, h2]; rfl) hgg) (Nat.zero_le _) s2.1 s3.1
      rw [hok] at this
      rw [show bitsBinR x0 x1 x2 x3 = binZ x0 x2 x3 (⟨x0, none⟩, []) by
        rw [← bin_ans]; unfold binZ; rw [if_neg hgg, if_neg hgg]]
      exact this
theorem specBitsBin_u (x0 : N) (A : Option Addr) (c : Nat) (x1 : Int) (x2 : List Int) (X : Option Addr) (cx : Nat) (x3 : List Int) (Y : Option Addr) (cy : Nat) (w : World) (h : Lay.gate.Rd w A x0.gs) (_ : x0.gs.length ≤ c) (hX : Lay.int.Rd w X x2) (_ : x2.length ≤ cx) (hY : Lay.int.Rd w Y x3) (_ : x3.length ≤ cy) (s0 : smNet x0) (s1 : okInt x1) (s2 : smInts x2) (s3 : smInts x3) :
    Calls Tryz.prog 17 #[.agg #[.int .i64 x0.ins, .slice A x0.gs.length c], .int .i64 x1, .slice X x2.length cx, .slice Y x3.length cy] w (RetBits (pickN (netOk x0) (bitsBinR x0 x1 x2 x3)) w) :=
  specBitsBin_any x0 x1 x2 x3 A X Y c cx cy w h s0.1 (sl_nonnil h) s0.2.1 hX hY s2.2 s3.2 s1 s2.1 s3.1
end Go.Proofs.YtjghcaghigebjaaGreatDoor

/-! The two sentinels: what the condition on the package's variables gives; the variables read again; the world that the initialisers leave. -/
namespace Go.Proofs.YtjghcaghigebjaaGreatDoor
open Go Go.ChangeShapes Go.WideShapes Go.ChangeAt Go.RowKit

theorem dr_own : ownKnob Tryz.prog.godebug = none := by kernel_rfl
theorem dr_g0 : Tryz.prog.globalNamed "loop.example/seedlip/impl.errBits" = some 1 := by kernel_rfl
theorem dr_g1 : Tryz.prog.globalNamed "loop.example/seedlip/impl.errRoom" = some 0 := by kernel_rfl
theorem dr_t0 : (Tryz.prog.globals[1]?).map (·.type) = some 81 := by kernel_rfl
theorem dr_t1 : (Tryz.prog.globals[0]?).map (·.type) = some 81 := by kernel_rfl
theorem dr_c0 : Tryz.prog.cellsOf 216 = 1 := by kernel_rfl
theorem dr_c1 : Tryz.prog.cellsOf 9 = 1 := by kernel_rfl
theorem dr_star : "*" ++ "errors.errorString" = "*errors.errorString" := by decide
theorem dr_row (u : TypeId) (h : Tryz.prog.typeName? 3 u = some "*errors.errorString") : u = 189 :=
  typeName_ptr_named (nm := "errors.errorString") (by rw [dr_star]; kernel_rfl) (by kernel_rfl) (by decide) u (by rw [dr_star]; exact h)
/-- What is listed of the package's variables. -/
abbrev laid2 : List (String × DataW Unit) := [("loop.example/seedlip/impl.errRoom", Rows.laid_loop_example_seedlip_impl_errRoom), ("loop.example/seedlip/impl.errBits", Rows.laid_loop_example_seedlip_impl_errBits)]
set_option maxRecDepth 100000 in
theorem glb_of_laid {W : World} (h : laidMetH Tryz.prog laid2 W) :
    ∃ a0 a1 : Addr, Glb a0 a1 W.heap.size W ∧ W.var? Tryz.prog "loop.example/seedlip/impl.errBits" = some #[sentV a0] ∧ W.var? Tryz.prog "loop.example/seedlip/impl.errRoom" = some #[sentV a1] := by
  rw [MakeChecks.laidMetH_plain _ _ _ (by kernel_rfl)] at h
  obtain ⟨ps, ⟨g1, t1, cs1, f1, p1, q1, hg1, ht1, hv1, hd1, ⟨g0, t0, cs0, f0, p0, q0, hg0, ht0, hv0, hd0, hq0, e0⟩, e1⟩, hnd, hrows⟩ := h
  obtain rfl := Option.some.inj (dr_g0.symm.trans hg0)
  obtain rfl := Option.some.inj (dr_g1.symm.trans hg1)
  obtain rfl := Option.some.inj (dr_t0.symm.trans ht0)
  obtain rfl := Option.some.inj (dr_t1.symm.trans ht1)
  have hq0' : q0 = [] := hq0
  subst hq0'
  subst e0
  subst e1
  obtain ⟨l0⟩ := cs0
  obtain ⟨l1⟩ := cs1
  have ok0 : ∀ u v, l0 = [.iface u v] → Value.okWide Tryz.prog W .any 0 u v := fun u v e => by
    subst e
    exact (hrows 1 0 (by simp [MemPlace.row])).2 u v (by simpa using World.var?_cell hg0 hv0 0)
  have ok1 : ∀ u v, l1 = [.iface u v] → Value.okWide Tryz.prog W .any 0 u v := fun u v e => by
    subst e
    exact (hrows 0 0 (by simp [MemPlace.row])).2 u v (by simpa using World.var?_cell hg1 hv1 0)
  obtain ⟨a0, s0, rfl, hc0, hs0, hz0, rfl⟩ := errorString_of_trod Tryz.underlying81 dr_row Tryz.underlying189 Tryz.underlying216 rfl rfl Tryz.underlying9 dr_c0 dr_c1 hd0 ok0
  obtain ⟨a1, s1, rfl, hc1, hs1, hz1, rfl⟩ := errorString_of_trod Tryz.underlying81 dr_row Tryz.underlying189 Tryz.underlying216 rfl rfl Tryz.underlying9 dr_c0 dr_c1 hd1 ok1
  obtain ⟨c0, t0, hb0⟩ := (hrows a0.block a0.off (by simp [MemPlace.row])).1
  obtain ⟨c1, t1, hb1⟩ := (hrows a1.block a1.off (by simp [MemPlace.row])).1
  have k0 : W.cell? ⟨1, 0, none⟩ = some (sentV a0) := by simpa using World.var?_cell dr_g0 hv0 0
  have k1 : W.cell? ⟨0, 0, none⟩ = some (sentV a1) := by simpa using World.var?_cell dr_g1 hv1 0
  refine ⟨a0, a1, ⟨k0, k1, ⟨c0, t0, hb0⟩, ⟨c1, t1, hb1⟩, ?_, ?_, (Array.getElem?_eq_some_iff.1 hb0).1, (Array.getElem?_eq_some_iff.1 hb1).1⟩, hv0, hv1⟩
  · rintro rfl
    simp [MemPlace.row] at hnd
  · have h1 := World.block_lt_of_cell? W _ k1
    have h0 := World.block_lt_of_cell? W _ k0
    dsimp only at h0 h1
    omega
/-- The variables hold below a mark what they held. -/
theorem var_below {W W' : World} {n : String} {g : Nat} {cs : Array Value} (hg : Tryz.prog.globalNamed n = some g) (h : W.var? Tryz.prog n = some cs) (hb : Below W.heap.size W W') : W'.var? Tryz.prog n = some cs := by
  unfold World.var? at h ⊢
  rw [hg] at h ⊢
  simp only [Option.bind_some] at h ⊢
  have hlt : g < W.heap.size := by
    rcases Nat.lt_or_ge g W.heap.size with h' | h'
    · exact h'
    · simp [Array.getElem?_eq_none h'] at h
  rw [hb.block g hlt]; exact h
theorem vars_read {H : Type} (enc : TypeId × Value → H) {W : World} {x0 x1 : Value} (h0 : W.var? Tryz.prog "loop.example/seedlip/impl.errBits" = some #[x0]) (h1 : W.var? Tryz.prog "loop.example/seedlip/impl.errRoom" = some #[x1]) (i0 : IsIface x0) (i1 : IsIface x1) (sp : Nat → Bool) :
    DataW.TrodVars enc Tryz.prog W sp ["loop.example/seedlip/impl.errBits", "loop.example/seedlip/impl.errRoom"] [tok enc x0, tok enc x1] [.cell 1 0, .cell 0 0] :=
  ⟨1, 81, #[x0], 1, [], [.cell 0 0], dr_g0, dr_t0, h0, trod_held Tryz.underlying81 i0 0, ⟨0, 81, #[x1], 1, [], [], dr_g1, dr_t1, h1, trod_held Tryz.underlying81 i1 0, rfl, rfl⟩, rfl⟩
/-- The heap that the initialisers leave meets the condition. -/
theorem door_met (os : Os) (args : Array Value) : laidMetH Tryz.prog laid2 ((World.doorLaid Tryz.prog 400 os).forCall (fun _ _ => 0) ⟨#[], args, []⟩).memory :=
  laidMetH_of_parts3 (fuel := 8) (laidMet_of_run' 8 (by kernel_rfl) (by kernel_rfl)) (by kernel_rfl) (by kernel_rfl)
end Go.Proofs.YtjghcaghigebjaaGreatDoor

/-! FnExactBitsBin: the program's BitsBin answers, for any net and any marks, what the reference's answers, in memory of its own. -/
namespace Go.Proofs.YtjghcaghigebjaaGreatDoor
open Go Go.RowKit Go.ChangeShapes Go.WideShapes Go.ChangeAt Go.Deep

set_option maxRecDepth 100000 in
set_option maxHeartbeats 8000000 in
theorem fnExactBitsBin_walk (W : World) (a0 a1 : Addr) {Ap0a : Option Addr} {cp0a : Nat} {x0 : N} {x1 : Int} {Ap2a : Option Addr} {cp2a : Nat} {x2 : List Int} {Ap3a : Option Addr} {cp3a : Nat} {x3 : List Int} (hglb : Glb a0 a1 W.heap.size W) (_ : x0.gs.length ≤ cp0a) (ok0 : okNetIn x0) (hp0a : Lay.gate.Rd W Ap0a x0.gs) (ok1 : okInt x1) (_ : x2.length ≤ cp2a) (ok2 : (x2.length ≤ maxLen ∧ ∀ i ∈ x2, okInt i)) (hp2a : Lay.int.Rd W Ap2a x2) (_ : x3.length ≤ cp3a) (ok3 : (x3.length ≤ maxLen ∧ ∀ i ∈ x3, okInt i)) (hp3a : Lay.int.Rd W Ap3a x3) :
    Calls Tryz.prog 5 #[.agg #[.int .i64 x0.ins, .slice Ap0a x0.gs.length cp0a], .int .i64 x1, .slice Ap2a x2.length cp2a, .slice Ap3a x3.length cp3a] W (LawC W) := by
  have GLB := Lib.hid hglb
  clear hglb
  have hW0 : Below W.heap.size W (W.alloc (.cells #[.int .i64 x0.ins, .slice Ap0a x0.gs.length cp0a] 46)) := (Below.refl _ _).alloc (by simp <;> omega) _
  have hS0 : (W.alloc (.cells #[.int .i64 x0.ins, .slice Ap0a x0.gs.length cp0a] 46)).heap[W.heap.size]? = some (.cells #[.int .i64 x0.ins, .slice Ap0a x0.gs.length cp0a] 46 (0, 0)) := heap_alloc_new _ _
  have Hp0a := hp0a.up hW0
  have Hp2a := hp2a.up hW0
  have Hp3a := hp3a.up hW0
  clear hp0a hp2a hp3a
  have HS0 := Lib.hid hS0
  have hSlt0 := lt_of_block hS0
  clear hS0
  have HW0 := Lib.hid hW0
  clear hW0
  have OK0 := Lib.hid ok0
  clear ok0
  have OK1 := Lib.hid ok1
  clear ok1
  have OK2 := Lib.hid ok2
  clear ok2
  have OK3 := Lib.hid ok3
  clear ok3
  by_cases hbig2 : (1048576 : Int) < x2.length
  · go_enter Tryz.func5, Tryz.ntmps5
    go_wp2
    go_ret
    exact ⟨rfl, HW0.out⟩
  have SM2 : Hid (smInts x2) := Lib.hid (smInts_of OK2.out (by omega))
  by_cases hbig3 : (1048576 : Int) < x3.length
  · go_enter Tryz.func5, Tryz.ntmps5
    go_wp2
    go_ret
    exact ⟨rfl, HW0.out⟩
  have SM3 : Hid (smInts x3) := Lib.hid (smInts_of OK3.out (by omega))
  go_enter Tryz.func5, Tryz.ntmps5
  go_wp2_with fail
  generalize W.alloc (.cells #[.int .i64 x0.ins, .slice Ap0a x0.gs.length cp0a] 46) = W0 at *
  have hb : Below W0.heap.size W0 W0 := Below.refl _ _
  refine (szNet_u x0 Ap0a cp0a 1048576 _ (Hp0a.up hb) OK0.out (by omega) (by omega)).mono ?_
  rintro e u1 ⟨rfl, hbu1⟩
  have hb := bthen hb hbu1
  clear hbu1
  by_cases hbig0 : (1048576 : Int) < (wtN x0 : Nat)
  · have HSZ := Lib.hid (szRes_lt hbig0)
    clear hbig0
    rw [HSZ.out]
    go_wp2
    go_ret
    exact ⟨rfl, bthen HW0.out hb⟩
  have SM0 : Hid (smNet x0) := Lib.hid (smNet_of OK0.out (by omega))
  have HSZ0 := Lib.hid (szRes_ge hbig0)
  rw [HSZ0.out]
  have hln9 : (0 : Int) ≤ (1048576 - (wtN x0 : Nat)) := by omega
  clear hbig0
  have ok19 := OK1.out
  unfold okInt at ok19
  obtain ⟨i1a, i1b⟩ := ok19
  generalize hr9 : pickN (netOk x0) (bitsBinR x0 x1 x2 x3) = r9 at *
  have HR9 := Lib.hid hr9
  clear hr9
  have HRS0 := Lib.hid (show r9.1.gs.length ≤ 1048576 by rw [← HR9.out]; exact bitsBin_len.1)
  have HRS1 := Lib.hid (show r9.2.length ≤ 1048576 by rw [← HR9.out]; exact bitsBin_len.2)
  have s0_0 : u1.cell? ⟨W.heap.size, 0, none⟩ = some (.int .i64 x0.ins) := (hb.cell (p := ⟨W.heap.size, 0, none⟩) hSlt0).trans (cell_of_block HS0.out 0).1
  have s0_1 : u1.cell? ⟨W.heap.size, 1, none⟩ = some (.slice Ap0a x0.gs.length cp0a) := (hb.cell (p := ⟨W.heap.size, 1, none⟩) hSlt0).trans (cell_of_block HS0.out 1).1
  go_wp2_with fail
  clear s0_0 s0_1
  refine (toNet_u x0 Ap0a cp0a _ (Hp0a.up hb) SM0.out).mono ?_
  rintro e u2 ⟨Aq0a, cq0a, rfl, hcq0a, sq0a, hbq0⟩
  have hb := bthen hb hbq0
  clear hbq0
  go_wp2_with fail
  refine (toInts_u x2 Ap2a cp2a _ (Hp2a.up hb) SM2.out).mono ?_
  rintro e u3 ⟨Aq2a, cq2a, rfl, hcq2a, sq2a, hbq2⟩
  have hb := bthen hb hbq2
  have sq0a := sq0a.own_up hbq2
  clear hbq2
  go_wp2_with fail
  refine (toInts_u x3 Ap3a cp3a _ (Hp3a.up hb) SM3.out).mono ?_
  rintro e u4 ⟨Aq3a, cq3a, rfl, hcq3a, sq3a, hbq3⟩
  have hb := bthen hb hbq3
  have sq0a := sq0a.own_up hbq3
  have sq2a := sq2a.own_up hbq3
  clear hbq3
  go_wp2_with fail
  refine (specBitsBin_u x0 Aq0a cq0a x1  x2 Aq2a cq2a x3 Aq3a cq3a _ (sq0a.own_rd) hcq0a (sq2a.own_rd) hcq2a (sq3a.own_rd) hcq3a SM0.out OK1.out SM2.out SM3.out).mono ?_
  rw [HR9.out]
  rintro e u5 ⟨Aw0a, Aw1a, cw0a, cw1a, rfl, hcw0a, hcw1a, sw0a, sw1a, hb9, apw⟩
  clear sq0a
  clear sq2a
  clear sq3a
  have hb := bthen hb hb9
  clear hb9
  have Rw0a := sw0a.cp_of
  clear sw0a
  have Rw1a := sw1a.cp_of
  clear sw1a
  have zW9 : W0.heap.size ≤ u5.heap.size := hb.size
  have hs : Below u5.heap.size u5 u5 := Below.refl _ _
  have s0_0 : u5.cell? ⟨W.heap.size, 0, none⟩ = some (.int .i64 x0.ins) := (hb.cell (p := ⟨W.heap.size, 0, none⟩) hSlt0).trans (cell_of_block HS0.out 0).1
  have s0_1 : u5.cell? ⟨W.heap.size, 1, none⟩ = some (.slice Ap0a x0.gs.length cp0a) := (hb.cell (p := ⟨W.heap.size, 1, none⟩) hSlt0).trans (cell_of_block HS0.out 1).1
  have lt0 : W.heap.size < u5.heap.size := Nat.lt_of_lt_of_le hSlt0 hb.size
  have hal : Below u5.heap.size u5 (u5.alloc (.cells #[.int .i64 r9.1.ins, .slice Aw0a r9.1.gs.length cw0a] 29)) := (Below.refl _ _).alloc (Nat.le_refl _) _
  have B9 : (u5.alloc (.cells #[.int .i64 r9.1.ins, .slice Aw0a r9.1.gs.length cw0a] 29)).heap[u5.heap.size]? = some (.cells #[.int .i64 r9.1.ins, .slice Aw0a r9.1.gs.length cw0a] 29 (0, 0)) := heap_alloc_new _ _
  have hb := bthen hb hal
  have hs := bthen hs hal
  have Rw0a := Rw0a.cp_up hal
  have Rw1a := Rw1a.cp_up hal
  clear hal
  have BW0 := Lib.hid B9
  clear B9
  go_wp2_with fail
  clear s0_0 s0_1 lt0
  generalize hv9 : u5.alloc (.cells #[.int .i64 r9.1.ins, .slice Aw0a r9.1.gs.length cw0a] 29) = u6 at *
  clear hv9
  generalize hi9 : u5.heap.size = iBW0 at BW0 ⊢
  have ZBW0 := Nat.le_of_eq hi9
  clear hi9
  have zuBW0 : iBW0 < u6.heap.size := lt_of_block BW0.out
  have z0 : u5.heap.size ≤ u6.heap.size := hs.size
  clear hs
  have hs : Below u6.heap.size u6 u6 := Below.refl _ _
  refine (toNet_u x0 Ap0a cp0a _ (Hp0a.up hb) SM0.out).mono ?_
  rintro e u7 ⟨Ak0a, ck0a, rfl, hck0a, sk0a, hbk0⟩
  have hb := bthen hb hbk0
  have hs := bthen hs hbk0
  have Rw0a := Rw0a.cp_up hbk0
  have Rw1a := Rw1a.cp_up hbk0
  have BW0 := Lib.hid ((hbk0.block _ (lt_of_block BW0.out)).trans BW0.out)
  clear hbk0
  have hal : Below u7.heap.size u7 (u7.alloc (.cells #[.int .i64 x0.ins, .slice Ak0a x0.gs.length ck0a] 29)) := (Below.refl _ _).alloc (Nat.le_refl _) _
  have B9 : (u7.alloc (.cells #[.int .i64 x0.ins, .slice Ak0a x0.gs.length ck0a] 29)).heap[u7.heap.size]? = some (.cells #[.int .i64 x0.ins, .slice Ak0a x0.gs.length ck0a] 29 (0, 0)) := heap_alloc_new _ _
  have YB0 : u6.heap.size ≤ u7.heap.size := hs.size
  have hb := bthen hb hal
  have hs := bthen hs hal
  have Rw0a := Rw0a.cp_up hal
  have Rw1a := Rw1a.cp_up hal
  have BW0 := Lib.hid ((hal.block _ (lt_of_block BW0.out)).trans BW0.out)
  have sk0a := sk0a.own_up hal
  clear hal
  have B0 := Lib.hid B9
  clear B9
  go_wp2_with fail
  generalize hv9 : u7.alloc (.cells #[.int .i64 x0.ins, .slice Ak0a x0.gs.length ck0a] 29) = u8 at *
  clear hv9
  generalize hi9 : u7.heap.size = iB0 at B0 ⊢
  have ZB0 := Nat.le_of_eq hi9
  clear hi9
  have Rk0a := sk0a.cp_of
  clear sk0a
  have zuB0 : iB0 < u8.heap.size := lt_of_block B0.out
  have z1 : u6.heap.size ≤ u8.heap.size := hs.size
  clear hs
  have hs : Below u8.heap.size u8 u8 := Below.refl _ _
  refine (toInts_u x2 Ap2a cp2a _ (Hp2a.up hb) SM2.out).mono ?_
  rintro e u9 ⟨Ak2a, ck2a, rfl, hck2a, sk2a, hbk2⟩
  have hb := bthen hb hbk2
  have hs := bthen hs hbk2
  have Rw0a := Rw0a.cp_up hbk2
  have Rw1a := Rw1a.cp_up hbk2
  have BW0 := Lib.hid ((hbk2.block _ (lt_of_block BW0.out)).trans BW0.out)
  have B0 := Lib.hid ((hbk2.block _ (lt_of_block B0.out)).trans B0.out)
  have Rk0a := Rk0a.cp_up hbk2
  clear hbk2
  go_wp2_with fail
  have Rk2a := sk2a.cp_of
  clear sk2a
  have z2 : u8.heap.size ≤ u9.heap.size := hs.size
  clear hs
  have hs : Below u9.heap.size u9 u9 := Below.refl _ _
  refine (toInts_u x3 Ap3a cp3a _ (Hp3a.up hb) SM3.out).mono ?_
  rintro e u10 ⟨Ak3a, ck3a, rfl, hck3a, sk3a, hbk3⟩
  have hb := bthen hb hbk3
  have hs := bthen hs hbk3
  have Rw0a := Rw0a.cp_up hbk3
  have Rw1a := Rw1a.cp_up hbk3
  have BW0 := Lib.hid ((hbk3.block _ (lt_of_block BW0.out)).trans BW0.out)
  have B0 := Lib.hid ((hbk3.block _ (lt_of_block B0.out)).trans B0.out)
  have Rk0a := Rk0a.cp_up hbk3
  have Rk2a := Rk2a.cp_up hbk3
  clear hbk3
  have kB0_0 : u10.cell? ⟨iB0, 0, none⟩ = some (.int .i64 x0.ins) := (cell_of_block B0.out 0).1
  have kB0_1 : u10.cell? ⟨iB0, 1, none⟩ = some (.slice Ak0a x0.gs.length ck0a) := (cell_of_block B0.out 1).1
  go_wp2_with fail
  clear kB0_0 kB0_1
  have Rk3a := sk3a.cp_of
  clear sk3a
  have z3 : u9.heap.size ≤ u10.heap.size := hs.size
  clear hs
  have hs : Below u10.heap.size u10 u10 := Below.refl _ _
  refine (implBitsBin_u a0 a1 W.heap.size x0 Ak0a ck0a x1  x2 Ak2a ck2a x3 Ak3a ck3a _ (Rk0a.cp_rd) hck0a (Rk2a.cp_rd) hck2a (Rk3a.cp_rd) hck3a SM0.out OK1.out SM2.out SM3.out (GLB.out.below (bthen HW0.out hb)) (Nat.le_trans HW0.out.size hb.size)).mono ?_
  rw [HR9.out]
  rintro e u11 ⟨Ag0a, Ag1a, cg0a, cg1a, rfl, hcg0a, hcg1a, sg0a, sg1a, hb9, apg⟩
  have hb := bthen hb hb9
  have hs := bthen hs hb9
  have Rw0a := Rw0a.cp_up hb9
  have Rw1a := Rw1a.cp_up hb9
  have BW0 := Lib.hid ((hb9.block _ (lt_of_block BW0.out)).trans BW0.out)
  have B0 := Lib.hid ((hb9.block _ (lt_of_block B0.out)).trans B0.out)
  have Rk0a := Rk0a.cp_up hb9
  have Rk2a := Rk2a.cp_up hb9
  have Rk3a := Rk3a.cp_up hb9
  clear hb9
  have Rg0a := sg0a.cp_of
  clear sg0a
  have Rg1a := sg1a.cp_of
  clear sg1a
  have z4 : u10.heap.size ≤ u11.heap.size := hs.size
  clear hs
  have hs : Below u11.heap.size u11 u11 := Below.refl _ _
  have kBW0_0 : u11.cell? ⟨iBW0, 0, none⟩ = some (.int .i64 r9.1.ins) := (cell_of_block BW0.out 0).1
  have kBW0_1 : u11.cell? ⟨iBW0, 1, none⟩ = some (.slice Aw0a r9.1.gs.length cw0a) := (cell_of_block BW0.out 1).1
  have ltBW0 : iBW0 < u11.heap.size := lt_of_block BW0.out
  have hal : Below u11.heap.size u11 (u11.alloc (.cells #[.int .i64 r9.1.ins, .slice Ag0a r9.1.gs.length cg0a] 29)) := (Below.refl _ _).alloc (Nat.le_refl _) _
  have B9 : (u11.alloc (.cells #[.int .i64 r9.1.ins, .slice Ag0a r9.1.gs.length cg0a] 29)).heap[u11.heap.size]? = some (.cells #[.int .i64 r9.1.ins, .slice Ag0a r9.1.gs.length cg0a] 29 (0, 0)) := heap_alloc_new _ _
  have hb := bthen hb hal
  have hs := bthen hs hal
  have Rw0a := Rw0a.cp_up hal
  have Rw1a := Rw1a.cp_up hal
  have BW0 := Lib.hid ((hal.block _ (lt_of_block BW0.out)).trans BW0.out)
  have B0 := Lib.hid ((hal.block _ (lt_of_block B0.out)).trans B0.out)
  have Rk0a := Rk0a.cp_up hal
  have Rk2a := Rk2a.cp_up hal
  have Rk3a := Rk3a.cp_up hal
  have Rg0a := Rg0a.cp_up hal
  have Rg1a := Rg1a.cp_up hal
  clear hal
  have BG0 := Lib.hid B9
  clear B9
  go_wp2_with fail
  clear kBW0_0 kBW0_1 ltBW0
  generalize hv9 : u11.alloc (.cells #[.int .i64 r9.1.ins, .slice Ag0a r9.1.gs.length cg0a] 29) = u12 at *
  clear hv9
  generalize hi9 : u11.heap.size = iBG0 at BG0 ⊢
  have ZBG0 := Nat.le_of_eq hi9
  clear hi9
  refine (eqNet_u r9.1 Ag0a Aw0a cg0a cw0a _ Rg0a.cp_rd Rw0a.cp_rd HRS0.out).mono ?_
  rintro e u13 ⟨rfl, hb9⟩
  have hb := bthen hb hb9
  have hs := bthen hs hb9
  have Rw0a := Rw0a.cp_up hb9
  have Rw1a := Rw1a.cp_up hb9
  have BW0 := Lib.hid ((hb9.block _ (lt_of_block BW0.out)).trans BW0.out)
  have B0 := Lib.hid ((hb9.block _ (lt_of_block B0.out)).trans B0.out)
  have Rk0a := Rk0a.cp_up hb9
  have Rk2a := Rk2a.cp_up hb9
  have Rk3a := Rk3a.cp_up hb9
  have Rg0a := Rg0a.cp_up hb9
  have Rg1a := Rg1a.cp_up hb9
  have BG0 := Lib.hid ((hb9.block _ (lt_of_block BG0.out)).trans BG0.out)
  clear hb9
  go_wp2_with fail
  refine (eqInts_u r9.2 Ag1a Aw1a cg1a cw1a _ Rg1a.cp_rd Rw1a.cp_rd HRS1.out).mono ?_
  rintro e u14 ⟨rfl, hb9⟩
  have hb := bthen hb hb9
  have hs := bthen hs hb9
  have Rw0a := Rw0a.cp_up hb9
  have Rw1a := Rw1a.cp_up hb9
  have BW0 := Lib.hid ((hb9.block _ (lt_of_block BW0.out)).trans BW0.out)
  have B0 := Lib.hid ((hb9.block _ (lt_of_block B0.out)).trans B0.out)
  have Rk0a := Rk0a.cp_up hb9
  have Rk2a := Rk2a.cp_up hb9
  have Rk3a := Rk3a.cp_up hb9
  have Rg0a := Rg0a.cp_up hb9
  have Rg1a := Rg1a.cp_up hb9
  have BG0 := Lib.hid ((hb9.block _ (lt_of_block BG0.out)).trans BG0.out)
  clear hb9
  have s0_0 : u14.cell? ⟨W.heap.size, 0, none⟩ = some (.int .i64 x0.ins) := (hb.cell (p := ⟨W.heap.size, 0, none⟩) hSlt0).trans (cell_of_block HS0.out 0).1
  have s0_1 : u14.cell? ⟨W.heap.size, 1, none⟩ = some (.slice Ap0a x0.gs.length cp0a) := (hb.cell (p := ⟨W.heap.size, 1, none⟩) hSlt0).trans (cell_of_block HS0.out 1).1
  have d0_0 := Later.cell s0_0
  have d0_1 := Later.cell s0_1
  have k0 : u14.cell? ⟨iB0, 0, none⟩ = some (.int .i64 x0.ins) := (cell_of_block B0.out 0).1
  have k1 : u14.cell? ⟨iB0, 1, none⟩ = some (.slice Ak0a x0.gs.length ck0a) := (cell_of_block B0.out 1).1
  have g0 := Later.cell k0
  have g1 := Later.cell k1
  go_wp2
  clear s0_0 s0_1
  clear k0 k1
  refine wp_region_shares [[], [], [(1, 69)], [(0, 68), (2, 70)], [(3, 71)]]
    [.eq (.agg #[.int .i64 x0.ins, .slice Ak0a x0.gs.length ck0a]), .eq (.agg #[.int .i64 x0.ins, .slice Ap0a x0.gs.length cp0a]), Fact.copyNt x0, Fact.boolC u14 true, Fact.boolC u14 false]
    [] [] [] [4] [(0, 68), (1, 69), (2, 70), (3, 71), (4, 72)] (by kernel_rfl) (by kernel_rfl) (by kernel_rfl) (by kernel_rfl)
    ⟨?_, ?_, ?_, ?_, ?_, trivial⟩ ?_
  · intro vals u15 hC hF
    have hC := hC.resolve_left (by simp)
    have hsz := hC.size
    have e1 : u15.cell? _ = _ := g0 ⟨u15, hC⟩
    have e2 : u15.cell? _ = _ := g1 ⟨u15, hC⟩
    simp only [putsD, Act.put, List.setIfInBounds_toArray, List.set_cons_zero, List.set_cons_succ]
    go_wp2
    exact ⟨rfl, rfl, .inr (Below.refl _ _), .inr (.inl (by simp))⟩
  · intro vals u15 hC hF
    have hC := hC.resolve_left (by simp)
    have hsz := hC.size
    have e1 : u15.cell? _ = _ := d0_0 ⟨u15, hC⟩
    have e2 : u15.cell? _ = _ := d0_1 ⟨u15, hC⟩
    simp only [putsD, Act.put, List.setIfInBounds_toArray, List.set_cons_zero, List.set_cons_succ]
    go_wp2
    exact ⟨rfl, rfl, .inr (Below.refl _ _), .inr (.inl (by simp))⟩
  · intro vals u15 hC hF
    have hC := hC.resolve_left (by simp)
    have hsz := hC.size
    simp only [factsD, List.getD_cons_zero, List.getD_cons_succ, Fact.eq, Fact.row, Fact.lit, Fact.lit0, Fact.of, and_true, Fact.copyI, Fact.copyNt, Fact.boolC] at hF
    simp only [putsD, Act.put, List.setIfInBounds_toArray, List.set_cons_zero, List.set_cons_succ]
    simp only [hF]
    go_wp2_with fail
    refine (toNet_u x0 Ap0a cp0a _ (Hp0a.up (bthen hb hC)) SM0.out).mono ?_
    rintro e wx ⟨Aq0a, cq0a, rfl, hcq0a, sq0a, hbq0⟩
    have Rq0a := sq0a.own_rd
    go_wp2
    exact ⟨rfl, ⟨Aq0a, cq0a, rfl, hcq0a, Rq0a⟩, .inr hbq0, .inr (.inl (by simp))⟩
  · intro vals u15 hC hF
    have hC := hC.resolve_left (by simp)
    have hsz := hC.size
    simp only [factsD, List.getD_cons_zero, List.getD_cons_succ, Fact.eq, Fact.row, Fact.lit, Fact.lit0, Fact.of, and_true, Fact.copyI, Fact.copyNt, Fact.boolC] at hF
    obtain ⟨e68, Aq0a, cq0a, e70, hcq0a, Rq0a⟩ := hF
    simp only [putsD, Act.put, List.setIfInBounds_toArray, List.set_cons_zero, List.set_cons_succ]
    simp only [e68, e70]
    go_wp2_with fail
    refine (eqNet_u x0 Ak0a Aq0a ck0a cq0a _ (Rk0a.cp_rd.up hC) Rq0a SM0.out.1).mono ?_
    rintro e wx ⟨rfl, hb9⟩
    go_wp2
    exact ⟨rfl, ⟨rfl, bthen hC hb9⟩, .inr hb9, .inr (.inl (by simp))⟩
  · intro vals u15 hC hF
    have hC := hC.resolve_left (by simp)
    have hsz := hC.size
    simp only [factsD, List.getD_cons_zero, List.getD_cons_succ, Fact.eq, Fact.row, Fact.lit, Fact.lit0, Fact.of, and_true, Fact.copyI, Fact.copyNt, Fact.boolC] at hF
    obtain ⟨e71, _⟩ := hF
    simp only [putsD, Act.put, List.setIfInBounds_toArray, List.set_cons_zero, List.set_cons_succ]
    simp only [e71]
    go_wp2
    exact ⟨rfl, ⟨rfl, hC⟩, .inr (Below.refl _ _), .inr (.inl (by simp))⟩
  · intro vals u15 hF
    simp only [facts, List.getD_cons_zero, List.getD_cons_succ, Fact.eq, Fact.row, Fact.lit, Fact.lit0, Fact.of, and_true, Fact.copyI, Fact.copyNt, Fact.boolC] at hF
    obtain ⟨e72, hb9⟩ := hF
    simp only [putsD, Act.put, List.setIfInBounds_toArray, List.set_cons_zero, List.set_cons_succ]
    simp only [e72]
    clear d0_0 d0_1 e72 g0 g1
    have hb := bthen hb hb9
    have hs := bthen hs hb9
    have Rw0a := Rw0a.cp_up hb9
    have Rw1a := Rw1a.cp_up hb9
    have BW0 := Lib.hid ((hb9.block _ (lt_of_block BW0.out)).trans BW0.out)
    have B0 := Lib.hid ((hb9.block _ (lt_of_block B0.out)).trans B0.out)
    have Rk0a := Rk0a.cp_up hb9
    have Rk2a := Rk2a.cp_up hb9
    have Rk3a := Rk3a.cp_up hb9
    have Rg0a := Rg0a.cp_up hb9
    have Rg1a := Rg1a.cp_up hb9
    have BG0 := Lib.hid ((hb9.block _ (lt_of_block BG0.out)).trans BG0.out)
    clear hb9
    go_wp2_with fail
    refine (toInts_u x2 Ap2a cp2a _ (Hp2a.up hb) SM2.out).mono ?_
    rintro e u16 ⟨Ay2a, cy2a, rfl, hcy2a, sy2a, hby2⟩
    have hb := bthen hb hby2
    have hs := bthen hs hby2
    have Rw0a := Rw0a.cp_up hby2
    have Rw1a := Rw1a.cp_up hby2
    have BW0 := Lib.hid ((hby2.block _ (lt_of_block BW0.out)).trans BW0.out)
    have B0 := Lib.hid ((hby2.block _ (lt_of_block B0.out)).trans B0.out)
    have Rk0a := Rk0a.cp_up hby2
    have Rk2a := Rk2a.cp_up hby2
    have Rk3a := Rk3a.cp_up hby2
    have Rg0a := Rg0a.cp_up hby2
    have Rg1a := Rg1a.cp_up hby2
    have BG0 := Lib.hid ((hby2.block _ (lt_of_block BG0.out)).trans BG0.out)
    clear hby2
    go_wp2_with fail
    refine (eqInts_u x2 Ak2a Ay2a ck2a cy2a _ Rk2a.cp_rd sy2a.own_rd SM2.out.1).mono ?_
    rintro e u17 ⟨rfl, hb9⟩
    clear sy2a
    have hb := bthen hb hb9
    have hs := bthen hs hb9
    have Rw0a := Rw0a.cp_up hb9
    have Rw1a := Rw1a.cp_up hb9
    have BW0 := Lib.hid ((hb9.block _ (lt_of_block BW0.out)).trans BW0.out)
    have B0 := Lib.hid ((hb9.block _ (lt_of_block B0.out)).trans B0.out)
    have Rk0a := Rk0a.cp_up hb9
    have Rk2a := Rk2a.cp_up hb9
    have Rk3a := Rk3a.cp_up hb9
    have Rg0a := Rg0a.cp_up hb9
    have Rg1a := Rg1a.cp_up hb9
    have BG0 := Lib.hid ((hb9.block _ (lt_of_block BG0.out)).trans BG0.out)
    clear hb9
    go_wp2_with fail
    refine (toInts_u x3 Ap3a cp3a _ (Hp3a.up hb) SM3.out).mono ?_
    rintro e u18 ⟨Ay3a, cy3a, rfl, hcy3a, sy3a, hby3⟩
    have hb := bthen hb hby3
    have hs := bthen hs hby3
    have Rw0a := Rw0a.cp_up hby3
    have Rw1a := Rw1a.cp_up hby3
    have BW0 := Lib.hid ((hby3.block _ (lt_of_block BW0.out)).trans BW0.out)
    have B0 := Lib.hid ((hby3.block _ (lt_of_block B0.out)).trans B0.out)
    have Rk0a := Rk0a.cp_up hby3
    have Rk2a := Rk2a.cp_up hby3
    have Rk3a := Rk3a.cp_up hby3
    have Rg0a := Rg0a.cp_up hby3
    have Rg1a := Rg1a.cp_up hby3
    have BG0 := Lib.hid ((hby3.block _ (lt_of_block BG0.out)).trans BG0.out)
    clear hby3
    go_wp2_with fail
    refine (eqInts_u x3 Ak3a Ay3a ck3a cy3a _ Rk3a.cp_rd sy3a.own_rd SM3.out.1).mono ?_
    rintro e u19 ⟨rfl, hb9⟩
    clear sy3a
    have hb := bthen hb hb9
    have hs := bthen hs hb9
    have Rw0a := Rw0a.cp_up hb9
    have Rw1a := Rw1a.cp_up hb9
    have BW0 := Lib.hid ((hb9.block _ (lt_of_block BW0.out)).trans BW0.out)
    have B0 := Lib.hid ((hb9.block _ (lt_of_block B0.out)).trans B0.out)
    have Rk0a := Rk0a.cp_up hb9
    have Rk2a := Rk2a.cp_up hb9
    have Rk3a := Rk3a.cp_up hb9
    have Rg0a := Rg0a.cp_up hb9
    have Rg1a := Rg1a.cp_up hb9
    have BG0 := Lib.hid ((hb9.block _ (lt_of_block BG0.out)).trans BG0.out)
    clear hb9
    have kB0_0 : u19.cell? ⟨iB0, 0, none⟩ = some (.int .i64 x0.ins) := (cell_of_block B0.out 0).1
    have kB0_1 : u19.cell? ⟨iB0, 1, none⟩ = some (.slice Ak0a x0.gs.length ck0a) := (cell_of_block B0.out 1).1
    go_wp2_with fail
    clear kB0_0 kB0_1
    refine (markNet_u x0 Ak0a ck0a _ _ 1 _ Rk0a SM0.out.1 (by omega) (by omega)).mono ?_
    rintro e u20 ⟨rfl, hd, _⟩
    clear B0
    clear hs
    have Rw0a := Rw0a.cp_dab hd (by intro b h1 h2 h3; have := h3.1; have := h3.2; omega)
    have Rw1a := Rw1a.cp_dab hd (by intro b h1 h2 h3; have := h3.1; have := h3.2; omega)
    have BW0 := Lib.hid (box_dab BW0.out hd (by intro h3; have := h3.1; have := h3.2; omega))
    clear Rk0a
    have Rk2a := Rk2a.cp_dab hd (by intro b h1 h2 h3; have := h3.1; have := h3.2; omega)
    have Rk3a := Rk3a.cp_dab hd (by intro b h1 h2 h3; have := h3.1; have := h3.2; omega)
    have Rg0a := Rg0a.cp_dab hd (by intro b h1 h2 h3; have := h3.1; have := h3.2; omega)
    have Rg1a := Rg1a.cp_dab hd (by intro b h1 h2 h3; have := h3.1; have := h3.2; omega)
    have BG0 := Lib.hid (box_dab BG0.out hd (by intro h3; have := h3.1; have := h3.2; omega))
    have hb := below_rng hb hd hb.size (by omega)
    clear hd
    obtain ⟨k9_1, hk9, hk9a, hk9b⟩ : ∃ k9 : Int, k9 = 1 + (3 * x0.gs.length : Nat) ∧ 0 ≤ k9 ∧ k9 ≤ 10000000 := ⟨_, rfl, by omega, by have := SM0.out.1; omega⟩
    rw [← hk9]
    clear hk9
    go_wp2_with fail
    refine (markInts_u x2 Ak2a ck2a _ _ k9_1 _ Rk2a SM2.out.1 (by omega) (by omega)).mono ?_
    rintro e u21 ⟨rfl, hd, _⟩
    have Rw0a := Rw0a.cp_dab hd (by intro b h1 h2 h3; have := h3.1; have := h3.2; omega)
    have Rw1a := Rw1a.cp_dab hd (by intro b h1 h2 h3; have := h3.1; have := h3.2; omega)
    have BW0 := Lib.hid (box_dab BW0.out hd (by intro h3; have := h3.1; have := h3.2; omega))
    clear Rk2a
    have Rk3a := Rk3a.cp_dab hd (by intro b h1 h2 h3; have := h3.1; have := h3.2; omega)
    have Rg0a := Rg0a.cp_dab hd (by intro b h1 h2 h3; have := h3.1; have := h3.2; omega)
    have Rg1a := Rg1a.cp_dab hd (by intro b h1 h2 h3; have := h3.1; have := h3.2; omega)
    have BG0 := Lib.hid (box_dab BG0.out hd (by intro h3; have := h3.1; have := h3.2; omega))
    have hb := below_rng hb hd hb.size (by omega)
    clear hd
    obtain ⟨k9_2, hk9, hk9a, hk9b⟩ : ∃ k9 : Int, k9 = k9_1 + (x2.length : Nat) ∧ 0 ≤ k9 ∧ k9 ≤ 20000000 := ⟨_, rfl, by omega, by have := SM2.out.1; omega⟩
    rw [← hk9]
    clear hk9
    go_wp2_with fail
    refine (markInts_u x3 Ak3a ck3a _ _ k9_2 _ Rk3a SM3.out.1 (by omega) (by omega)).mono ?_
    rintro e u22 ⟨rfl, hd, _⟩
    have Rw0a := Rw0a.cp_dab hd (by intro b h1 h2 h3; have := h3.1; have := h3.2; omega)
    have Rw1a := Rw1a.cp_dab hd (by intro b h1 h2 h3; have := h3.1; have := h3.2; omega)
    have BW0 := Lib.hid (box_dab BW0.out hd (by intro h3; have := h3.1; have := h3.2; omega))
    clear Rk3a
    have Rg0a := Rg0a.cp_dab hd (by intro b h1 h2 h3; have := h3.1; have := h3.2; omega)
    have Rg1a := Rg1a.cp_dab hd (by intro b h1 h2 h3; have := h3.1; have := h3.2; omega)
    have BG0 := Lib.hid (box_dab BG0.out hd (by intro h3; have := h3.1; have := h3.2; omega))
    have hb := below_rng hb hd hb.size (by omega)
    clear hd
    obtain ⟨k9_3, hk9, hk9a, hk9b⟩ : ∃ k9 : Int, k9 = k9_2 + (x3.length : Nat) ∧ 0 ≤ k9 ∧ k9 ≤ 30000000 := ⟨_, rfl, by omega, by have := SM3.out.1; omega⟩
    rw [← hk9]
    clear hk9
    have kBG0_0 : u22.cell? ⟨iBG0, 0, none⟩ = some (.int .i64 r9.1.ins) := (cell_of_block BG0.out 0).1
    have kBG0_1 : u22.cell? ⟨iBG0, 1, none⟩ = some (.slice Ag0a r9.1.gs.length cg0a) := (cell_of_block BG0.out 1).1
    have kBW0_0 : u22.cell? ⟨iBW0, 0, none⟩ = some (.int .i64 r9.1.ins) := (cell_of_block BW0.out 0).1
    have kBW0_1 : u22.cell? ⟨iBW0, 1, none⟩ = some (.slice Aw0a r9.1.gs.length cw0a) := (cell_of_block BW0.out 1).1
    go_wp2_with fail
    clear kBG0_0 kBG0_1 kBW0_0 kBW0_1
    refine (eqNet_u r9.1 Ag0a Aw0a cg0a cw0a _ Rg0a.cp_rd Rw0a.cp_rd HRS0.out).mono ?_
    rintro e u23 ⟨rfl, hb9⟩
    have hb := bthen hb hb9
    have Rw0a := Rw0a.cp_up hb9
    have Rw1a := Rw1a.cp_up hb9
    have BW0 := Lib.hid ((hb9.block _ (lt_of_block BW0.out)).trans BW0.out)
    have Rg0a := Rg0a.cp_up hb9
    have Rg1a := Rg1a.cp_up hb9
    have BG0 := Lib.hid ((hb9.block _ (lt_of_block BG0.out)).trans BG0.out)
    clear hb9
    go_wp2_with fail
    refine (eqInts_u r9.2 Ag1a Aw1a cg1a cw1a _ Rg1a.cp_rd Rw1a.cp_rd HRS1.out).mono ?_
    rintro e u24 ⟨rfl, hb9⟩
    have hb := bthen hb hb9
    have Rw0a := Rw0a.cp_up hb9
    have Rw1a := Rw1a.cp_up hb9
    have BW0 := Lib.hid ((hb9.block _ (lt_of_block BW0.out)).trans BW0.out)
    have Rg0a := Rg0a.cp_up hb9
    have Rg1a := Rg1a.cp_up hb9
    have BG0 := Lib.hid ((hb9.block _ (lt_of_block BG0.out)).trans BG0.out)
    clear hb9
    have kBG0_0 : u24.cell? ⟨iBG0, 0, none⟩ = some (.int .i64 r9.1.ins) := (cell_of_block BG0.out 0).1
    have kBG0_1 : u24.cell? ⟨iBG0, 1, none⟩ = some (.slice Ag0a r9.1.gs.length cg0a) := (cell_of_block BG0.out 1).1
    go_wp2_with fail
    clear kBG0_0 kBG0_1
    refine (markNetA_u r9.1 Ag0a cg0a _ _ 1 _ Rg0a HRS0.out (by omega) (by omega)).mono ?_
    rintro e u25 ⟨rfl, hda, hd, RM0⟩
    have Rg1a := sl_beside flat_int Rg1a hda (fun h1 h2 a b ea eb => apg a b ea eb h1 h2)
    clear hda
    have Rw0a := Rw0a.cp_dab hd (by intro b h1 h2 h3; have := h3.1; have := h3.2; omega)
    have Rw1a := Rw1a.cp_dab hd (by intro b h1 h2 h3; have := h3.1; have := h3.2; omega)
    have BW0 := Lib.hid (box_dab BW0.out hd (by intro h3; have := h3.1; have := h3.2; omega))
    clear Rg0a
    have BG0 := Lib.hid (box_dab BG0.out hd (by intro h3; have := h3.1; have := h3.2; omega))
    have hb := below_rng hb hd hb.size (by omega)
    clear hd
    obtain ⟨m9_1, hm9, hm9a, hm9b⟩ : ∃ m9 : Int, m9 = 1 + (3 * r9.1.gs.length : Nat) ∧ 0 ≤ m9 ∧ m9 ≤ 10000000 := ⟨_, rfl, by omega, by have := HRS0.out; omega⟩
    rw [← hm9]
    have HM9_1 := Lib.hid hm9
    clear hm9
    go_wp2_with fail
    refine (markIntsA_u r9.2 Ag1a cg1a _ _ m9_1 _ Rg1a HRS1.out (by omega) (by omega)).mono ?_
    rintro e u26 ⟨rfl, hda, hd, RM1⟩
    have RM0 := sl_beside flat_gate RM0 hda (fun h1 h2 a b ea eb => (apg b a eb ea (by rw [marked_len] at h2; exact h2) h1).symm)
    clear hda
    have Rw0a := Rw0a.cp_dab hd (by intro b h1 h2 h3; have := h3.1; have := h3.2; omega)
    have Rw1a := Rw1a.cp_dab hd (by intro b h1 h2 h3; have := h3.1; have := h3.2; omega)
    have BW0 := Lib.hid (box_dab BW0.out hd (by intro h3; have := h3.1; have := h3.2; omega))
    clear Rg1a
    have BG0 := Lib.hid (box_dab BG0.out hd (by intro h3; have := h3.1; have := h3.2; omega))
    have hb := below_rng hb hd hb.size (by omega)
    clear hd
    obtain ⟨m9_2, hm9, hm9a, hm9b⟩ : ∃ m9 : Int, m9 = m9_1 + (r9.2.length : Nat) ∧ 0 ≤ m9 ∧ m9 ≤ 20000000 := ⟨_, rfl, by omega, by have := HRS1.out; omega⟩
    rw [← hm9]
    have HM9_2 := Lib.hid hm9
    clear hm9
    have hmm9 : (m9_2 != m9_2) = false := by simp
    have kBG0_0 : u26.cell? ⟨iBG0, 0, none⟩ = some (.int .i64 r9.1.ins) := (cell_of_block BG0.out 0).1
    have kBG0_1 : u26.cell? ⟨iBG0, 1, none⟩ = some (.slice Ag0a r9.1.gs.length cg0a) := (cell_of_block BG0.out 1).1
    go_wp2_with fail
    clear kBG0_0 kBG0_1
    refine (heldNet_u r9.1.gs.length Ag0a cg0a r9.1.ins 1 _ RM0.cp_rd HRS0.out (by omega) (by omega)).mono ?_
    rw [← HM9_1.out]
    rintro e u27 ⟨rfl, hb9⟩
    have hb := bthen hb hb9
    have Rw0a := Rw0a.cp_up hb9
    have Rw1a := Rw1a.cp_up hb9
    have BW0 := Lib.hid ((hb9.block _ (lt_of_block BW0.out)).trans BW0.out)
    have BG0 := Lib.hid ((hb9.block _ (lt_of_block BG0.out)).trans BG0.out)
    have RM0 := RM0.cp_up hb9
    have RM1 := RM1.cp_up hb9
    clear hb9
    go_wp2_with fail
    refine (heldInts_u r9.2.length Ag1a cg1a m9_1 _ RM1.cp_rd HRS1.out (by omega) (by omega)).mono ?_
    rw [← HM9_2.out]
    rintro e u28 ⟨rfl, hb9⟩
    have hb := bthen hb hb9
    have Rw0a := Rw0a.cp_up hb9
    have Rw1a := Rw1a.cp_up hb9
    have BW0 := Lib.hid ((hb9.block _ (lt_of_block BW0.out)).trans BW0.out)
    have BG0 := Lib.hid ((hb9.block _ (lt_of_block BG0.out)).trans BG0.out)
    have RM0 := RM0.cp_up hb9
    have RM1 := RM1.cp_up hb9
    clear hb9
    have s0_0 : u28.cell? ⟨W.heap.size, 0, none⟩ = some (.int .i64 x0.ins) := (hb.cell (p := ⟨W.heap.size, 0, none⟩) hSlt0).trans (cell_of_block HS0.out 0).1
    have s0_1 : u28.cell? ⟨W.heap.size, 1, none⟩ = some (.slice Ap0a x0.gs.length cp0a) := (hb.cell (p := ⟨W.heap.size, 1, none⟩) hSlt0).trans (cell_of_block HS0.out 1).1
    go_wp2_with fail
    clear s0_0 s0_1
    refine (toNet_u x0 Ap0a cp0a _ (Hp0a.up hb) SM0.out).mono ?_
    rintro e u29 ⟨Az0a, cz0a, rfl, hcz0a, sz0a, hbz0⟩
    have hb := bthen hb hbz0
    have Rw0a := Rw0a.cp_up hbz0
    have Rw1a := Rw1a.cp_up hbz0
    have BW0 := Lib.hid ((hbz0.block _ (lt_of_block BW0.out)).trans BW0.out)
    have BG0 := Lib.hid ((hbz0.block _ (lt_of_block BG0.out)).trans BG0.out)
    have RM0 := RM0.cp_up hbz0
    have RM1 := RM1.cp_up hbz0
    clear hbz0
    go_wp2_with fail
    refine (toInts_u x2 Ap2a cp2a _ (Hp2a.up hb) SM2.out).mono ?_
    rintro e u30 ⟨Az2a, cz2a, rfl, hcz2a, sz2a, hbz2⟩
    have hb := bthen hb hbz2
    have Rw0a := Rw0a.cp_up hbz2
    have Rw1a := Rw1a.cp_up hbz2
    have BW0 := Lib.hid ((hbz2.block _ (lt_of_block BW0.out)).trans BW0.out)
    have BG0 := Lib.hid ((hbz2.block _ (lt_of_block BG0.out)).trans BG0.out)
    have RM0 := RM0.cp_up hbz2
    have RM1 := RM1.cp_up hbz2
    have sz0a := sz0a.own_up hbz2
    clear hbz2
    go_wp2_with fail
    refine (toInts_u x3 Ap3a cp3a _ (Hp3a.up hb) SM3.out).mono ?_
    rintro e u31 ⟨Az3a, cz3a, rfl, hcz3a, sz3a, hbz3⟩
    have hb := bthen hb hbz3
    have Rw0a := Rw0a.cp_up hbz3
    have Rw1a := Rw1a.cp_up hbz3
    have BW0 := Lib.hid ((hbz3.block _ (lt_of_block BW0.out)).trans BW0.out)
    have BG0 := Lib.hid ((hbz3.block _ (lt_of_block BG0.out)).trans BG0.out)
    have RM0 := RM0.cp_up hbz3
    have RM1 := RM1.cp_up hbz3
    have sz0a := sz0a.own_up hbz3
    have sz2a := sz2a.own_up hbz3
    clear hbz3
    go_wp2_with fail
    refine (implBitsBin_u a0 a1 W.heap.size x0 Az0a cz0a x1  x2 Az2a cz2a x3 Az3a cz3a _ (sz0a.own_rd) hcz0a (sz2a.own_rd) hcz2a (sz3a.own_rd) hcz3a SM0.out OK1.out SM2.out SM3.out (GLB.out.below (bthen HW0.out hb)) (Nat.le_trans HW0.out.size hb.size)).mono ?_
    rw [HR9.out]
    rintro e u32 ⟨Ah0a, Ah1a, ch0a, ch1a, rfl, hch0a, hch1a, sh0a, sh1a, hb9, aph⟩
    clear sz0a
    clear sz2a
    clear sz3a
    have hb := bthen hb hb9
    have Rw0a := Rw0a.cp_up hb9
    have Rw1a := Rw1a.cp_up hb9
    have BW0 := Lib.hid ((hb9.block _ (lt_of_block BW0.out)).trans BW0.out)
    have BG0 := Lib.hid ((hb9.block _ (lt_of_block BG0.out)).trans BG0.out)
    have RM0 := RM0.cp_up hb9
    have RM1 := RM1.cp_up hb9
    clear hb9
    have Rh0a := sh0a.cp_of
    clear sh0a
    have Rh1a := sh1a.cp_of
    clear sh1a
    have kBW0_0 : u32.cell? ⟨iBW0, 0, none⟩ = some (.int .i64 r9.1.ins) := (cell_of_block BW0.out 0).1
    have kBW0_1 : u32.cell? ⟨iBW0, 1, none⟩ = some (.slice Aw0a r9.1.gs.length cw0a) := (cell_of_block BW0.out 1).1
    have ltBW0 : iBW0 < u32.heap.size := lt_of_block BW0.out
    have hal : Below u32.heap.size u32 (u32.alloc (.cells #[.int .i64 r9.1.ins, .slice Ah0a r9.1.gs.length ch0a] 29)) := (Below.refl _ _).alloc (Nat.le_refl _) _
    have B9 : (u32.alloc (.cells #[.int .i64 r9.1.ins, .slice Ah0a r9.1.gs.length ch0a] 29)).heap[u32.heap.size]? = some (.cells #[.int .i64 r9.1.ins, .slice Ah0a r9.1.gs.length ch0a] 29 (0, 0)) := heap_alloc_new _ _
    have hb := bthen hb hal
    have Rw0a := Rw0a.cp_up hal
    have Rw1a := Rw1a.cp_up hal
    have BW0 := Lib.hid ((hal.block _ (lt_of_block BW0.out)).trans BW0.out)
    have BG0 := Lib.hid ((hal.block _ (lt_of_block BG0.out)).trans BG0.out)
    have RM0 := RM0.cp_up hal
    have RM1 := RM1.cp_up hal
    have Rh0a := Rh0a.cp_up hal
    have Rh1a := Rh1a.cp_up hal
    clear hal
    have BH0 := Lib.hid B9
    clear B9
    go_wp2_with fail
    clear kBW0_0 kBW0_1 ltBW0
    generalize hv9 : u32.alloc (.cells #[.int .i64 r9.1.ins, .slice Ah0a r9.1.gs.length ch0a] 29) = u33 at *
    clear hv9
    generalize hi9 : u32.heap.size = iBH0 at BH0 ⊢
    have ZBH0 := Nat.le_of_eq hi9
    clear hi9
    refine (eqNet_u r9.1 Ah0a Aw0a ch0a cw0a _ Rh0a.cp_rd Rw0a.cp_rd HRS0.out).mono ?_
    rintro e u34 ⟨rfl, hb9⟩
    have hb := bthen hb hb9
    have Rw0a := Rw0a.cp_up hb9
    have Rw1a := Rw1a.cp_up hb9
    have BW0 := Lib.hid ((hb9.block _ (lt_of_block BW0.out)).trans BW0.out)
    have BG0 := Lib.hid ((hb9.block _ (lt_of_block BG0.out)).trans BG0.out)
    have RM0 := RM0.cp_up hb9
    have RM1 := RM1.cp_up hb9
    have Rh0a := Rh0a.cp_up hb9
    have Rh1a := Rh1a.cp_up hb9
    have BH0 := Lib.hid ((hb9.block _ (lt_of_block BH0.out)).trans BH0.out)
    clear hb9
    go_wp2_with fail
    refine (eqInts_u r9.2 Ah1a Aw1a ch1a cw1a _ Rh1a.cp_rd Rw1a.cp_rd HRS1.out).mono ?_
    rintro e u35 ⟨rfl, hb9⟩
    have hb := bthen hb hb9
    have Rw0a := Rw0a.cp_up hb9
    have Rw1a := Rw1a.cp_up hb9
    have BW0 := Lib.hid ((hb9.block _ (lt_of_block BW0.out)).trans BW0.out)
    have BG0 := Lib.hid ((hb9.block _ (lt_of_block BG0.out)).trans BG0.out)
    have RM0 := RM0.cp_up hb9
    have RM1 := RM1.cp_up hb9
    have Rh0a := Rh0a.cp_up hb9
    have Rh1a := Rh1a.cp_up hb9
    have BH0 := Lib.hid ((hb9.block _ (lt_of_block BH0.out)).trans BH0.out)
    clear hb9
    have kBG0_0 : u35.cell? ⟨iBG0, 0, none⟩ = some (.int .i64 r9.1.ins) := (cell_of_block BG0.out 0).1
    have kBG0_1 : u35.cell? ⟨iBG0, 1, none⟩ = some (.slice Ag0a r9.1.gs.length cg0a) := (cell_of_block BG0.out 1).1
    go_wp2_with fail
    clear kBG0_0 kBG0_1
    refine (heldNet_u r9.1.gs.length Ag0a cg0a r9.1.ins 1 _ RM0.cp_rd HRS0.out (by omega) (by omega)).mono ?_
    rw [← HM9_1.out]
    rintro e u36 ⟨rfl, hb9⟩
    have hb := bthen hb hb9
    have Rw0a := Rw0a.cp_up hb9
    have Rw1a := Rw1a.cp_up hb9
    have BW0 := Lib.hid ((hb9.block _ (lt_of_block BW0.out)).trans BW0.out)
    have BG0 := Lib.hid ((hb9.block _ (lt_of_block BG0.out)).trans BG0.out)
    have RM0 := RM0.cp_up hb9
    have RM1 := RM1.cp_up hb9
    have Rh0a := Rh0a.cp_up hb9
    have Rh1a := Rh1a.cp_up hb9
    have BH0 := Lib.hid ((hb9.block _ (lt_of_block BH0.out)).trans BH0.out)
    clear hb9
    go_wp2_with fail
    refine (heldInts_u r9.2.length Ag1a cg1a m9_1 _ RM1.cp_rd HRS1.out (by omega) (by omega)).mono ?_
    rw [← HM9_2.out]
    rintro e u37 ⟨rfl, hb9⟩
    have hb := bthen hb hb9
    have Rw0a := Rw0a.cp_up hb9
    have Rw1a := Rw1a.cp_up hb9
    have BW0 := Lib.hid ((hb9.block _ (lt_of_block BW0.out)).trans BW0.out)
    have BG0 := Lib.hid ((hb9.block _ (lt_of_block BG0.out)).trans BG0.out)
    have RM0 := RM0.cp_up hb9
    have RM1 := RM1.cp_up hb9
    have Rh0a := Rh0a.cp_up hb9
    have Rh1a := Rh1a.cp_up hb9
    have BH0 := Lib.hid ((hb9.block _ (lt_of_block BH0.out)).trans BH0.out)
    clear hb9
    go_wp2
    go_ret
    exact ⟨rfl, bthen HW0.out hb⟩

set_option maxRecDepth 100000 in
theorem fnExactBitsBin_lifted (os : Os) (started : os.Started) (H : Type) (enc : TypeId × Value → H) :
    ReturnsInHanded {} Tryz.checked os 5 .any (fun w args => (Rows.fnExactBitsBinSpec.pre enc Tryz.prog Tryz.f5 [] false w args ∧ laidMetH Tryz.prog laid2 w) ∧ sizedMet enc Tryz.prog Tryz.f5 (OpenSpec.ofChange Rows.fnExactBitsBinSpec) false w args)
      (Rows.fnExactBitsBinSpec.post enc Tryz.prog Tryz.f5 false true false false) := by
  refine returnsInHanded_of_change_and (C := Tryz.checked) (X := fun w _ => laidMetH Tryz.prog laid2 w) (fun _ _ _ hh h => h.of_heap hh) dr_own started (by kernel_rfl) Tryz.func5
    (ChangeSpec.witness_shaped (enc := enc) (C := Tryz.checked) (os := os) (X := fun w _ => laidMetH Tryz.prog laid2 w) false (World.doorLaid Tryz.prog 400 os) #[.agg #[.int .i64 0, .slice none 0 0], .int .i64 0, .slice none 0 0, .slice none 0 0] 16 rfl (World.shaped_of_RefB (by kernel_rfl) (by kernel_rfl)) (by kernel_rfl) (by kernel_rfl) (by kernel_rfl) (door_met os _)) ?_
  intro W base args ds gs before hval0 hW _ _ hL _
  have hval : ∀ (j : Nat) t v, Tryz.f5.params[j]? = some t → args[j]? = some v → Value.okWide Tryz.prog W .any base t v := hval0
  have hW' := hW
  obtain ⟨p, q, hA0, hV0, rfl, hfz, hnd⟩ := hW
  have hV : DataW.TrodVars enc Tryz.prog W (fun _ => true) ["loop.example/seedlip/impl.errBits", "loop.example/seedlip/impl.errRoom"] gs q := hV0
  obtain ⟨a0, a1, hglb, hv0, hv1⟩ := glb_of_laid hL
  have hA : DataW.TrodAll enc Tryz.prog W 0 (fun _ => true) true Tryz.f5.params.toList args.toList ds p := hA0
  rw [Tryz.params5] at hA hval
  obtain ⟨v0, vs0, d0, ds0, p0, q0, hargs, rfl, rfl, h0, r0⟩ := trodAll_cons hA
  obtain ⟨v1, vs1, d1, ds1, p1, q1, rfl, rfl, rfl, h1, r1⟩ := trodAll_cons r0
  obtain ⟨v2, vs2, d2, ds2, p2, q2, rfl, rfl, rfl, h2, r2⟩ := trodAll_cons r1
  obtain ⟨v3, vs3, d3, ds3, p3, q3, rfl, rfl, rfl, h3, r3⟩ := trodAll_cons r2
  obtain ⟨rfl, rfl, rfl⟩ := trodAll_nil r3
  obtain rfl : args = #[v0, v1, v2, v3] := by cases args; simp_all
  obtain ⟨rfl, rfl⟩ := hV.unique (vars_read enc hv0 hv1 trivial trivial _)
  have k0 := h0
  have lt0 : ∀ x ∈ p0, x.block < W.heap.size := by obtain ⟨m, hm⟩ := k0; exact DataW.trod_lt m _ _ _ hm
  have k1 := h1
  have lt1 : ∀ x ∈ p1, x.block < W.heap.size := by obtain ⟨m, hm⟩ := k1; exact DataW.trod_lt m _ _ _ hm
  have k2 := h2
  have lt2 : ∀ x ∈ p2, x.block < W.heap.size := by obtain ⟨m, hm⟩ := k2; exact DataW.trod_lt m _ _ _ hm
  have k3 := h3
  have lt3 : ∀ x ∈ p3, x.block < W.heap.size := by obtain ⟨m, hm⟩ := k3; exact DataW.trod_lt m _ _ _ hm
  obtain ⟨A0, c0, x0, rfl, hc0, ok0, rd0⟩ := open_net (hval 0 46 v0 rfl rfl) h0
  obtain ⟨x1, rfl, rfl, rfl, wf1⟩ := open_int Tryz.underlying3 (hval 1 3 v1 rfl rfl) h1
  have ok1 : okInt x1 := by have := bounds_i64 wf1; unfold okInt; omega
  obtain ⟨A2, c2, x2, rfl, hc2, ok2, rd2⟩ := open_arg Tryz.underlying34 opens_ints (hval 2 34 v2 rfl rfl) h2
  obtain ⟨A3, c3, x3, rfl, hc3, ok3, rd3⟩ := open_arg Tryz.underlying34 opens_ints (hval 3 34 v3 rfl rfl) h3
  clear hA0 hval0 hV0
  refine (fnExactBitsBin_walk W a0 a1 hglb hc0 ok0 rd0 ok1 hc2 ok2 rd2 hc3 ok3 rd3).mono fun e W' ⟨he, bel⟩ => ?_
  subst he
  exact ⟨_, rfl, _, _, _, [], _, [.cell 1 0, .cell 0 0], hW', trodAll_mk1 (shut_bool Tryz.underlying4 _), (trodAll_cons_mk (Below.trod (by kernel_rfl) (by kernel_rfl) (of_decide_eq_true (by kernel_rfl)) k0 bel lt0) (trodAll_cons_mk (Below.trod (by kernel_rfl) (by kernel_rfl) (of_decide_eq_true (by kernel_rfl)) k1 bel lt1) (trodAll_cons_mk (Below.trod (by kernel_rfl) (by kernel_rfl) (of_decide_eq_true (by kernel_rfl)) k2 bel lt2) (trodAll_cons_mk (Below.trod (by kernel_rfl) (by kernel_rfl) (of_decide_eq_true (by kernel_rfl)) k3 bel lt3) trodAll_mk0)))), vars_read enc (var_below dr_g0 hv0 bel) (var_below dr_g1 hv1 bel) trivial trivial _, bel.frame _, fun h => by cases h⟩

/-- The given row. -/
theorem fnExactBitsBin_row : Rows.FnExactBitsBinSaid :=
  OpenClaim.holds_of_wide 5 Tryz.f5 rfl rfl rfl rfl rfl rfl rfl ⟨rfl, rfl, rfl, rfl, rfl⟩ rfl rfl rfl rfl rfl (by kernel_rfl) Tryz.func5 (by kernel_rfl)
    (of_decide_eq_true (by kernel_rfl)) (by unfold Func.isWrapper; first | (rw [if_pos (by decide +kernel)]; kernel_rfl) | (rw [if_neg (by decide +kernel)]; exact ⟨rfl, rfl⟩))
    (fun os started H enc _ => fnExactBitsBin_lifted os started H enc)
/-- The given statement: the row, what it lists tied to the program's text. -/
theorem fnExactBitsBin_holds : Rows.FnExactBitsBinCardSaid :=
  Claim7.holds_tied_plain_at .later [] [.sentinel, .sentinel] true Rows.fnExactBitsBinCard.stood.harness Rows.fnExactBitsBinCard.stood.looks
    fnExactBitsBin_row (fun _ h => by cases h) (by kernel_rfl) (fun _ h => by cases h) fnExactBitsBin_row_tie rfl ⟨rfl, rfl⟩ (by kernel_rfl) rfl
    (fun f fn hf hfn => by
      obtain rfl : f = 5 := Option.some.inj ((show Tryz.prog.funcNamed "loop.example/seedlip/laws.FnExactBitsBin" = some 5 by kernel_rfl).symm.trans hf) |>.symm
      obtain rfl : fn = Tryz.f5 := (Option.some.inj (Tryz.func5.symm.trans hfn)).symm
      exact ⟨by kernel_rfl, fun j t ht => by
        rw [Tryz.params5] at ht
        have hm : t ∈ [46, 3, 34, 34] := by simpa using Array.mem_of_getElem? ht
        have hall : ([46, 3, 34, 34].all fun u => !Tryz.prog.wantsStandIn u) = true := by kernel_rfl
        exact (show Tryz.prog.wantsStandIn t = false by simpa using List.all_eq_true.1 hall t hm)⟩)
    (by kernel_rfl)
#print axioms fnExactBitsBin_holds
end Go.Proofs.YtjghcaghigebjaaGreatDoor
