/- FnCtx: contexts stay right: for any bytes the law says true. -/
import Derived.Test.YtiahmfpfimmbgaaGreatDoorRows
import Derived.Test.YtiahmfpfimmbgaaGreatDoorJFnCtx3
import Derived.Test.YtiahmfpfimmbgaaGreatDoorJFnCtx8
import Derived.Test.YtiahmfpfimmbgaaGreatDoorJFnCtx26
/-! FnCtx: contexts stay right: for any bytes the law says true. -/
namespace Go.Proofs.YtiahmfpfimmbgaaGreatDoor
open Go Go.RowKit Go.ChangeShapes Go.WideShapes Go.ChangeAt Go.Deep

theorem opens_bytes : Opens Tryz.prog 53 Lay.byte.slice (fun xs => xs.length ≤ maxLen ∧ ∀ x ∈ xs, True) := Opens.slice Tryz.underlying53 (by kernel_rfl) (by decide) (Opens.byte Tryz.underlying5)
theorem retCh_of {x : List Ly} {b : Bool} {w w' : World} {e : Ending} (h : RetCh (x, b) w e w') : ∃ A c, e = .returned (.tuple #[.slice A x.length c, .bool b]) ∧ x.length ≤ c ∧ Lay.layer.Rd w' A x ∧ Below w.heap.size w w' := by
  obtain ⟨A, c, h1, h2, h3, h4⟩ := h
  exact ⟨A, c, h1, h2, h3.cp_of.cp_rd, h4⟩
theorem retRd_of {x : List Ly} {b : Bool} {w w' : World} {e : Ending} (h : RetRd2 (x, b) w e w') : ∃ A c, e = .returned (.tuple #[.slice A x.length c, .bool b]) ∧ x.length ≤ c ∧ Lay.layer.Rd w' A x ∧ Below w.heap.size w w' := h
theorem ctxSame_yes (A B : Option Addr) (c d : Nat) (xs ys : List Ly) (w : World) (h : Lay.layer.Rd w A xs) (h' : Lay.layer.Rd w B ys) (hs : okC xs) (hs' : okC ys) (he : allSame Ly.same xs ys = true) :
    Calls Tryz.prog 38 #[.slice A xs.length c, .slice B ys.length d] w (RetB w true) :=
  (implCtxSame_any A B c d xs ys _ _ w h h' (fun _ h => h) (fun _ h => h) hs.len hs'.len (okC_l2 hs) (okC_l2 hs')).mono fun _ _ ⟨h, hb⟩ => ⟨by rw [h, he], hb⟩
/-- What is told of a change. -/
theorem ctxCh_facts {c x y : List Ly} {b : Bool} (h : okC c) (hx : ctxOk c = true → okC x) (e : ctxCh c x = (y, b)) :
    okC y ∧ (ctxOk c = true → ctxOk y = true) ∧ (ctxOk c = false → y = [] ∧ b = false) ∧ (ctxOk c = true → b = false → allSame Ly.same y c = true) ∧ (ctxOk c = true → b = ctxOk x) := by
  have e1 : y = (ctxCh c x).1 := by rw [e]
  have e2 : b = (ctxCh c x).2 := by rw [e]
  subst e1 e2
  clear e
  refine ⟨?_, fun hk => ctxCh_right hk, fun hk => ?_, fun hk hb => ctxCh_same hk hb, fun hk => ctxCh_snd hk⟩
  · unfold ctxCh
    by_cases hk : ctxOk c = true
    · rw [if_pos hk]
      by_cases hk2 : ctxOk x = true
      · rw [if_pos hk2]; exact hx hk
      · rw [if_neg hk2]; exact h
    · rw [if_neg hk]; exact okDC_nil.1
  · rw [ctxCh_no (by rw [hk]; simp)]
    exact ⟨rfl, rfl⟩

set_option maxRecDepth 100000 in
set_option maxHeartbeats 16000000 in
theorem fnCtx_walk (W : World) {A0 : Option Addr} {c0 : Nat} {x0 : List UInt8} (hc0 : x0.length ≤ c0) (hok0 : x0.length ≤ maxLen ∧ ∀ z ∈ x0, True) (h0 : Lay.byte.Rd W A0 x0) {A1 : Option Addr} {c1 : Nat} {x1 : List UInt8} (hc1 : x1.length ≤ c1) (hok1 : x1.length ≤ maxLen ∧ ∀ z ∈ x1, True) (h1 : Lay.byte.Rd W A1 x1) :
    Calls Tryz.prog 11 #[.slice A0 x0.length c0, .slice A1 x1.length c1] W (LawC W) := by
  have hm0 : x0.length ≤ 9223372036854775807 := by have := hok0.1; unfold maxLen at this; omega
  clear hok0
  have hm1 : x1.length ≤ 9223372036854775807 := by have := hok1.1; unfold maxLen at this; omega
  clear hok1
  by_cases hbig0 : (1048576 : Int) < x0.length
  · go_enter Tryz.func11, Tryz.ntmps11
    go_wp2
    go_ret
    exact ⟨rfl, Below.refl _ _⟩
  by_cases hbig1 : (1048576 : Int) < x1.length
  · go_enter Tryz.func11, Tryz.ntmps11
    go_wp2
    go_ret
    exact ⟨rfl, Below.refl _ _⟩
  have HD := Lib.hid (drawCtxAssert_any A0 c0 x0 W h0 hc0 hm0)
  have HD2 := Lib.hid (fun (z : World) (hz : Lay.byte.Rd z A1 x1) => drawCtxName_any A1 c1 x1 z hz hc1 hm1)
  have H1 := Lib.hid h1
  clear h0 hc0 hm0 h1 hc1 hm1
  go_enter Tryz.func11, Tryz.ntmps11
  go_wp2_with fail
  refine HD.out.mono ?_
  clear HD
  rintro e w1 ⟨c, C, q, t, At, qt, rfl, hq, hc, hok, hqt, hkt, hot, hb1⟩
  have hbs : Below w1.heap.size w1 (w1.alloc (.cells #[.int .i64 t.op, .int .i64 t.a, .int .i64 t.b, .string t.name, .slice At t.kids.length qt] 48)) := (Below.refl _ _).alloc (Nat.le_refl _) _
  have hb5 := heap_alloc_new w1 (.cells #[.int .i64 t.op, .int .i64 t.a, .int .i64 t.b, .string t.name, .slice At t.kids.length qt] 48)
  have HQ := Lib.hid hq
  have HK := Lib.hid hok
  have HOT := Lib.hid (And.intro hqt hot)
  have HC := Lib.hid (hc.up hbs)
  have HKT := Lib.hid (show Lay.term.Rd _ At t.kids from hkt.up hbs)
  have HB := Lib.hid (bthen hb1 hbs)
  have HX := Lib.hid ((H1.out.up hb1).up hbs)
  have HBT := Lib.hid hb5
  clear hq hc hok hqt hkt hot hb1 hbs hb5 H1
  go_wp2_with fail
  generalize w1.alloc (.cells #[.int .i64 t.op, .int .i64 t.a, .int .i64 t.b, .string t.name, .slice At t.kids.length qt] 48) = w2 at *
  generalize w1.heap.size = g at *
  refine (HD2.out w2 HX.out).mono ?_
  clear HD2
  rintro e w3 ⟨c9, C9, q9, d, rfl, _, _, _, hsd, hb3⟩
  have hbs : Below w3.heap.size w3 (w3.alloc (.cells #[.string d.name, .int .i64 d.wide] 39)) := (Below.refl _ _).alloc (Nat.le_refl _) _
  have hb5 := heap_alloc_new w3 (.cells #[.string d.name, .int .i64 d.wide] 39)
  have HSD := Lib.hid hsd
  have HC := Lib.hid ((HC.out.up hb3).up hbs)
  have HKT := Lib.hid (show Lay.term.Rd _ At t.kids from (show Lay.term.Rd w3 At t.kids from HKT.out.up hb3).up hbs)
  have HBT := Lib.hid ((hbs.block _ (Nat.lt_of_lt_of_le (lt_of_block HBT.out) hb3.size)).trans ((hb3.block _ (lt_of_block HBT.out)).trans HBT.out))
  have HB := Lib.hid (bthen (bthen HB.out hb3) hbs)
  have HBD := Lib.hid hb5
  clear hsd hb3 hbs hb5 HX
  obtain ⟨ct0, _⟩ := cell_of_block HBT.out 0
  obtain ⟨ct1, _⟩ := cell_of_block HBT.out 1
  obtain ⟨ct2, _⟩ := cell_of_block HBT.out 2
  obtain ⟨ct3, _⟩ := cell_of_block HBT.out 3
  obtain ⟨ct4, _⟩ := cell_of_block HBT.out 4
  obtain ⟨k, hk⟩ : ∃ k, k = ctxOk c := ⟨_, rfl⟩
  have hkk : (k != k) = false := by simp
  have hok9 := HK.out.1
  obtain ⟨xa, pa, hxa⟩ : ∃ x b, ctxAssert c t = (x, b) := ⟨_, _, rfl⟩
  obtain ⟨f1, f2, f3, f4, f5⟩ := ctxCh_facts hok9 (fun hk9 => okC_addT9 hok9 hk9 HOT.out.2) hxa
  rw [← hk] at f2 f3 f4 f5
  have HFa := Lib.hid (And.intro f1 (And.intro f2 (And.intro f3 f4)))
  clear f1 f2 f3 f4 f5
  have hi := fun (z : World) (hz : Lay.layer.Rd z C c) (hz2 : Lay.term.Rd z At t.kids) => implCtxAssert_c c t C q At qt z hz HQ.out hok9 hz2 HOT.out.1 HOT.out.2
  rw [hxa] at hi
  have HIa := Lib.hid hi
  clear hi
  have hi := fun (z : World) (hz : Lay.layer.Rd z C c) (hz2 : Lay.term.Rd z At t.kids) => specCtxAssert_c c t C q At qt z hz HQ.out hok9 hz2 HOT.out.1 HOT.out.2
  rw [hxa] at hi
  have HPa := Lib.hid hi
  clear hi
  have hpa : (pa != pa) = false := by simp
  clear hxa
  obtain ⟨xb, pb, hxb⟩ : ∃ x b, ctxName c d = (x, b) := ⟨_, _, rfl⟩
  obtain ⟨f1, f2, f3, f4, f5⟩ := ctxCh_facts hok9 (fun hk9 => okC_addD9 hok9 hk9 HSD.out) hxb
  rw [← hk] at f2 f3 f4 f5
  have HFb := Lib.hid (And.intro f1 (And.intro f2 (And.intro f3 f4)))
  clear f1 f2 f3 f4 f5
  have hi := fun (z : World) (hz : Lay.layer.Rd z C c) => implCtxName_c c d C q z hz HQ.out hok9 HSD.out
  rw [hxb] at hi
  have HIb := Lib.hid hi
  clear hi
  have hi := fun (z : World) (hz : Lay.layer.Rd z C c) => specCtxName_c c d C q z hz HQ.out hok9 HSD.out
  rw [hxb] at hi
  have HPb := Lib.hid hi
  clear hi
  have hpb : (pb != pb) = false := by simp
  clear hxb
  obtain ⟨xx, px, hxx⟩ : ∃ x b, ctxPush c = (x, b) := ⟨_, _, rfl⟩
  obtain ⟨f1, f2, f3, f4, f5⟩ := ctxCh_facts hok9 (fun hk9 => hok9.push hk9) hxx
  rw [← hk] at f2 f3 f4 f5
  have HFx := Lib.hid (And.intro f1 (And.intro f2 (And.intro f3 f4)))
  have HPX := Lib.hid (fun (h : k = true) => (f5 h).trans (ctxOk_push (by rw [← hk]; exact h)))
  clear f1 f2 f3 f4 f5
  have hi := fun (z : World) (hz : Lay.layer.Rd z C c) => implCtxPush_c c C q z hz HQ.out hok9
  rw [hxx] at hi
  have HIx := Lib.hid hi
  clear hi
  clear hxx
  obtain ⟨xy, py, hxy⟩ : ∃ x b, ctxPop c = (x, b) := ⟨_, _, rfl⟩
  obtain ⟨f1, f2, f3, f4, f5⟩ := ctxCh_facts hok9 (fun hk9 => okC_pop9 hok9 hk9) hxy
  rw [← hk] at f2 f3 f4 f5
  have HFy := Lib.hid (And.intro f1 (And.intro f2 (And.intro f3 f4)))
  have HPY := Lib.hid (fun (h : k = true) => (f5 h).trans (ctxOk_pop (by rw [← hk]; exact h)))
  clear f1 f2 f3 f4 f5
  have hi := fun (z : World) (hz : Lay.layer.Rd z C c) => implCtxPop_c c C q z hz HQ.out hok9
  rw [hxy] at hi
  have HIy := Lib.hid hi
  clear hi
  clear hxy
  clear hok9
  have hio := fun (z : World) (hz : Lay.layer.Rd z C c) => implCtxOk_u c C q z hz HQ.out HK.out.1
  have hso := fun (z : World) (hz : Lay.layer.Rd z C c) => specCtxOk_any C q c z hz HQ.out HK.out.1
  rw [← hk] at hio hso
  have HIO := Lib.hid hio
  have HSO := Lib.hid hso
  have HL6 := Lib.hid (fun (h : k = true) => (ctxOk_parts (by rw [← hk]; exact h)).2.1)
  have hcl : c.length ≤ 1048576 := HK.out.1.len
  clear hk hio hso
  go_wp2_with fail
  clear ct0 ct1 ct2 ct3 ct4
  generalize w3.alloc (.cells #[.string d.name, .int .i64 d.wide] 39) = w4 at *
  generalize w3.heap.size = g8 at *
  refine (HIa.out w4 HC.out HKT.out).mono ?_
  intro e w5 hr
  obtain ⟨Aa, qa, rfl, hq9, hd9, hb9⟩ := retCh_of hr
  have HAa := Lib.hid hd9
  have HQAa := Lib.hid hq9
  have HC := Lib.hid (HC.out.up hb9)
  have HKT := Lib.hid (show Lay.term.Rd w5 At t.kids from HKT.out.up hb9)
  have HBT := Lib.hid ((hb9.block _ (lt_of_block HBT.out)).trans HBT.out)
  have HBD := Lib.hid ((hb9.block _ (lt_of_block HBD.out)).trans HBD.out)
  have HB := Lib.hid (bthen HB.out hb9)
  clear hb9 hr hq9 hd9
  have cd0 := (cell_of_block HBD.out 0).1
  have cd1 := (cell_of_block HBD.out 1).1
  go_wp2_with fail
  clear cd0 cd1
  refine (HIb.out w5 HC.out).mono ?_
  intro e w6 hr
  obtain ⟨Ab, qb, rfl, hq9, hd9, hb9⟩ := retCh_of hr
  have HAb := Lib.hid hd9
  have HQAb := Lib.hid hq9
  have HC := Lib.hid (HC.out.up hb9)
  have HAa := Lib.hid (HAa.out.up hb9)
  have HKT := Lib.hid (show Lay.term.Rd w6 At t.kids from HKT.out.up hb9)
  have HBT := Lib.hid ((hb9.block _ (lt_of_block HBT.out)).trans HBT.out)
  have HBD := Lib.hid ((hb9.block _ (lt_of_block HBD.out)).trans HBD.out)
  have HB := Lib.hid (bthen HB.out hb9)
  clear hb9 hr hq9 hd9
  go_wp2_with fail
  refine (HIx.out w6 HC.out).mono ?_
  intro e w7 hr
  obtain ⟨Ax, qx, rfl, hq9, hd9, hb9⟩ := retCh_of hr
  have HAx := Lib.hid hd9
  have HQAx := Lib.hid hq9
  have HC := Lib.hid (HC.out.up hb9)
  have HAa := Lib.hid (HAa.out.up hb9)
  have HAb := Lib.hid (HAb.out.up hb9)
  have HKT := Lib.hid (show Lay.term.Rd w7 At t.kids from HKT.out.up hb9)
  have HBT := Lib.hid ((hb9.block _ (lt_of_block HBT.out)).trans HBT.out)
  have HBD := Lib.hid ((hb9.block _ (lt_of_block HBD.out)).trans HBD.out)
  have HB := Lib.hid (bthen HB.out hb9)
  clear hb9 hr hq9 hd9
  go_wp2_with fail
  refine (HIy.out w7 HC.out).mono ?_
  intro e w8 hr
  obtain ⟨Ay, qy, rfl, hq9, hd9, hb9⟩ := retCh_of hr
  have HAy := Lib.hid hd9
  have HQAy := Lib.hid hq9
  have HC := Lib.hid (HC.out.up hb9)
  have HAa := Lib.hid (HAa.out.up hb9)
  have HAb := Lib.hid (HAb.out.up hb9)
  have HAx := Lib.hid (HAx.out.up hb9)
  have HKT := Lib.hid (show Lay.term.Rd w8 At t.kids from HKT.out.up hb9)
  have HBT := Lib.hid ((hb9.block _ (lt_of_block HBT.out)).trans HBT.out)
  have HBD := Lib.hid ((hb9.block _ (lt_of_block HBD.out)).trans HBD.out)
  have HB := Lib.hid (bthen HB.out hb9)
  clear hb9 hr hq9 hd9
  have ct0 := (cell_of_block HBT.out 0).1
  have ct1 := (cell_of_block HBT.out 1).1
  have ct2 := (cell_of_block HBT.out 2).1
  have ct3 := (cell_of_block HBT.out 3).1
  have ct4 := (cell_of_block HBT.out 4).1
  go_wp2_with fail
  clear ct0 ct1 ct2 ct3 ct4
  refine (HPa.out w8 HC.out HKT.out).mono ?_
  intro e w9 hr
  obtain ⟨Ae, qe, rfl, hq9, hd9, hb9⟩ := retRd_of hr
  have HAe := Lib.hid hd9
  have HQAe := Lib.hid hq9
  have HC := Lib.hid (HC.out.up hb9)
  have HAa := Lib.hid (HAa.out.up hb9)
  have HAb := Lib.hid (HAb.out.up hb9)
  have HAx := Lib.hid (HAx.out.up hb9)
  have HAy := Lib.hid (HAy.out.up hb9)
  have HKT := Lib.hid (show Lay.term.Rd w9 At t.kids from HKT.out.up hb9)
  have HBT := Lib.hid ((hb9.block _ (lt_of_block HBT.out)).trans HBT.out)
  have HBD := Lib.hid ((hb9.block _ (lt_of_block HBD.out)).trans HBD.out)
  have HB := Lib.hid (bthen HB.out hb9)
  clear hb9 hr hq9 hd9
  have cd0 := (cell_of_block HBD.out 0).1
  have cd1 := (cell_of_block HBD.out 1).1
  go_wp2_with fail
  clear cd0 cd1
  refine (HPb.out w9 HC.out).mono ?_
  intro e w10 hr
  obtain ⟨Ag, qg, rfl, hq9, hd9, hb9⟩ := retRd_of hr
  have HAg := Lib.hid hd9
  have HQAg := Lib.hid hq9
  have HC := Lib.hid (HC.out.up hb9)
  have HAa := Lib.hid (HAa.out.up hb9)
  have HAb := Lib.hid (HAb.out.up hb9)
  have HAx := Lib.hid (HAx.out.up hb9)
  have HAy := Lib.hid (HAy.out.up hb9)
  have HAe := Lib.hid (HAe.out.up hb9)
  have HKT := Lib.hid (show Lay.term.Rd w10 At t.kids from HKT.out.up hb9)
  have HBT := Lib.hid ((hb9.block _ (lt_of_block HBT.out)).trans HBT.out)
  have HBD := Lib.hid ((hb9.block _ (lt_of_block HBD.out)).trans HBD.out)
  have HB := Lib.hid (bthen HB.out hb9)
  clear hb9 hr hq9 hd9
  clear HIa HIb HIx HIy HPa HPb
  go_wp2_with fail
  refine (ctxSame_yes Aa Ae qa qe xa xa w10 HAa.out HAe.out HFa.out.1 HFa.out.1 (allSame_self Ly.same_self _)).mono ?_
  rintro e w11 ⟨rfl, hb9⟩
  have HC := Lib.hid (HC.out.up hb9)
  have HAa := Lib.hid (HAa.out.up hb9)
  have HAb := Lib.hid (HAb.out.up hb9)
  have HAx := Lib.hid (HAx.out.up hb9)
  have HAy := Lib.hid (HAy.out.up hb9)
  have HAe := Lib.hid (HAe.out.up hb9)
  have HAg := Lib.hid (HAg.out.up hb9)
  have HKT := Lib.hid (show Lay.term.Rd w11 At t.kids from HKT.out.up hb9)
  have HBT := Lib.hid ((hb9.block _ (lt_of_block HBT.out)).trans HBT.out)
  have HBD := Lib.hid ((hb9.block _ (lt_of_block HBD.out)).trans HBD.out)
  have HB := Lib.hid (bthen HB.out hb9)
  clear hb9
  go_wp2_with fail
  refine (ctxSame_yes Ab Ag qb qg xb xb w11 HAb.out HAg.out HFb.out.1 HFb.out.1 (allSame_self Ly.same_self _)).mono ?_
  rintro e w12 ⟨rfl, hb9⟩
  have HC := Lib.hid (HC.out.up hb9)
  have HAa := Lib.hid (HAa.out.up hb9)
  have HAb := Lib.hid (HAb.out.up hb9)
  have HAx := Lib.hid (HAx.out.up hb9)
  have HAy := Lib.hid (HAy.out.up hb9)
  have HAe := Lib.hid (HAe.out.up hb9)
  have HAg := Lib.hid (HAg.out.up hb9)
  have HKT := Lib.hid (show Lay.term.Rd w12 At t.kids from HKT.out.up hb9)
  have HBT := Lib.hid ((hb9.block _ (lt_of_block HBT.out)).trans HBT.out)
  have HBD := Lib.hid ((hb9.block _ (lt_of_block HBD.out)).trans HBD.out)
  have HB := Lib.hid (bthen HB.out hb9)
  clear hb9
  clear HAe HAg
  go_wp2_with fail
  refine (HIO.out w12 HC.out).mono ?_
  rintro e w13 ⟨rfl, hb9⟩
  have HC := Lib.hid (HC.out.up hb9)
  have HAa := Lib.hid (HAa.out.up hb9)
  have HAb := Lib.hid (HAb.out.up hb9)
  have HAx := Lib.hid (HAx.out.up hb9)
  have HAy := Lib.hid (HAy.out.up hb9)
  have HKT := Lib.hid (show Lay.term.Rd w13 At t.kids from HKT.out.up hb9)
  have HBT := Lib.hid ((hb9.block _ (lt_of_block HBT.out)).trans HBT.out)
  have HBD := Lib.hid ((hb9.block _ (lt_of_block HBD.out)).trans HBD.out)
  have HB := Lib.hid (bthen HB.out hb9)
  clear hb9
  go_wp2_with fail
  refine (HSO.out w13 HC.out).mono ?_
  rintro e w14 ⟨rfl, hb9⟩
  have HC := Lib.hid (HC.out.up hb9)
  have HAa := Lib.hid (HAa.out.up hb9)
  have HAb := Lib.hid (HAb.out.up hb9)
  have HAx := Lib.hid (HAx.out.up hb9)
  have HAy := Lib.hid (HAy.out.up hb9)
  have HKT := Lib.hid (show Lay.term.Rd w14 At t.kids from HKT.out.up hb9)
  have HBT := Lib.hid ((hb9.block _ (lt_of_block HBT.out)).trans HBT.out)
  have HBD := Lib.hid ((hb9.block _ (lt_of_block HBD.out)).trans HBD.out)
  have HB := Lib.hid (bthen HB.out hb9)
  clear hb9
  go_wp2_with fail
  refine (HSO.out w14 HC.out).mono ?_
  rintro e w15 ⟨rfl, hb9⟩
  have HC := Lib.hid (HC.out.up hb9)
  have HAa := Lib.hid (HAa.out.up hb9)
  have HAb := Lib.hid (HAb.out.up hb9)
  have HAx := Lib.hid (HAx.out.up hb9)
  have HAy := Lib.hid (HAy.out.up hb9)
  have HKT := Lib.hid (show Lay.term.Rd w15 At t.kids from HKT.out.up hb9)
  have HBT := Lib.hid ((hb9.block _ (lt_of_block HBT.out)).trans HBT.out)
  have HBD := Lib.hid ((hb9.block _ (lt_of_block HBD.out)).trans HBD.out)
  have HB := Lib.hid (bthen HB.out hb9)
  clear hb9
  cases k
  · obtain ⟨rfl, rfl⟩ := HFa.out.2.2.1 rfl
    obtain ⟨rfl, rfl⟩ := HFb.out.2.2.1 rfl
    obtain ⟨rfl, rfl⟩ := HFx.out.2.2.1 rfl
    obtain ⟨rfl, rfl⟩ := HFy.out.2.2.1 rfl
    go_wp2
    go_ret
    exact ⟨rfl, HB.out⟩
  go_wp2_with fail
  refine ((show Calls _ _ _ _ (RetB w15 true) from by rw [← HFa.out.2.1 (by trivial)]; exact implCtxOk_u xa Aa qa w15 HAa.out HQAa.out HFa.out.1)).mono ?_
  rintro e w16 ⟨rfl, hb9⟩
  have HC := Lib.hid (HC.out.up hb9)
  have HAa := Lib.hid (HAa.out.up hb9)
  have HAb := Lib.hid (HAb.out.up hb9)
  have HAx := Lib.hid (HAx.out.up hb9)
  have HAy := Lib.hid (HAy.out.up hb9)
  have HKT := Lib.hid (show Lay.term.Rd w16 At t.kids from HKT.out.up hb9)
  have HBT := Lib.hid ((hb9.block _ (lt_of_block HBT.out)).trans HBT.out)
  have HBD := Lib.hid ((hb9.block _ (lt_of_block HBD.out)).trans HBD.out)
  have HB := Lib.hid (bthen HB.out hb9)
  clear hb9
  go_wp2_with fail
  refine ((show Calls _ _ _ _ (RetB w16 true) from by rw [← HFb.out.2.1 (by trivial)]; exact implCtxOk_u xb Ab qb w16 HAb.out HQAb.out HFb.out.1)).mono ?_
  rintro e w17 ⟨rfl, hb9⟩
  have HC := Lib.hid (HC.out.up hb9)
  have HAa := Lib.hid (HAa.out.up hb9)
  have HAb := Lib.hid (HAb.out.up hb9)
  have HAx := Lib.hid (HAx.out.up hb9)
  have HAy := Lib.hid (HAy.out.up hb9)
  have HKT := Lib.hid (show Lay.term.Rd w17 At t.kids from HKT.out.up hb9)
  have HBT := Lib.hid ((hb9.block _ (lt_of_block HBT.out)).trans HBT.out)
  have HBD := Lib.hid ((hb9.block _ (lt_of_block HBD.out)).trans HBD.out)
  have HB := Lib.hid (bthen HB.out hb9)
  clear hb9
  go_wp2_with fail
  refine ((show Calls _ _ _ _ (RetB w17 true) from by rw [← HFx.out.2.1 (by trivial)]; exact implCtxOk_u xx Ax qx w17 HAx.out HQAx.out HFx.out.1)).mono ?_
  rintro e w18 ⟨rfl, hb9⟩
  have HC := Lib.hid (HC.out.up hb9)
  have HAa := Lib.hid (HAa.out.up hb9)
  have HAb := Lib.hid (HAb.out.up hb9)
  have HAx := Lib.hid (HAx.out.up hb9)
  have HAy := Lib.hid (HAy.out.up hb9)
  have HKT := Lib.hid (show Lay.term.Rd w18 At t.kids from HKT.out.up hb9)
  have HBT := Lib.hid ((hb9.block _ (lt_of_block HBT.out)).trans HBT.out)
  have HBD := Lib.hid ((hb9.block _ (lt_of_block HBD.out)).trans HBD.out)
  have HB := Lib.hid (bthen HB.out hb9)
  clear hb9
  go_wp2_with fail
  refine ((show Calls _ _ _ _ (RetB w18 true) from by rw [← HFy.out.2.1 (by trivial)]; exact implCtxOk_u xy Ay qy w18 HAy.out HQAy.out HFy.out.1)).mono ?_
  rintro e w19 ⟨rfl, hb9⟩
  have HC := Lib.hid (HC.out.up hb9)
  have HAa := Lib.hid (HAa.out.up hb9)
  have HAb := Lib.hid (HAb.out.up hb9)
  have HAx := Lib.hid (HAx.out.up hb9)
  have HAy := Lib.hid (HAy.out.up hb9)
  have HKT := Lib.hid (show Lay.term.Rd w19 At t.kids from HKT.out.up hb9)
  have HBT := Lib.hid ((hb9.block _ (lt_of_block HBT.out)).trans HBT.out)
  have HBD := Lib.hid ((hb9.block _ (lt_of_block HBD.out)).trans HBD.out)
  have HB := Lib.hid (bthen HB.out hb9)
  clear hb9
  have hl6 := HL6.out (by trivial)
  have HX9 := Lib.hid (HPX.out (by trivial))
  have HY9 := Lib.hid (HPY.out (by trivial))
  have HSa := Lib.hid (HFa.out.2.2.2 (by trivial))
  have HSb := Lib.hid (HFb.out.2.2.2 (by trivial))
  have HSx := Lib.hid (HFx.out.2.2.2 (by trivial))
  have HSy := Lib.hid (HFy.out.2.2.2 (by trivial))
  clear hkk hpa hpb HPX HPY HL6
  by_cases hn1 : 1 < c.length
  · by_cases hn6 : c.length < 6
    · have h6 : (c.length : Int) < 6 := by omega
      have h61 : (1 : Int) < (c.length : Int) := by omega
      have g6 : decide ((c.length : Int) < 6) = true := by simpa using h6
      have g1 : decide ((1 : Int) < (c.length : Int)) = true := by simpa using h61
      obtain rfl : px = true := HX9.out.trans g6
      obtain rfl : py = true := HY9.out.trans g1
      clear HX9 HY9
      cases pa
      · cases pb
        · go_wp2_with fail
          refine (ctxSame_yes Aa C qa q xa c w19 HAa.out HC.out HFa.out.1 HK.out.1 (HSa.out (by trivial))).mono ?_
          rintro e w20 ⟨rfl, hb9⟩
          have HC := Lib.hid (HC.out.up hb9)
          have HAa := Lib.hid (HAa.out.up hb9)
          have HAb := Lib.hid (HAb.out.up hb9)
          have HAx := Lib.hid (HAx.out.up hb9)
          have HAy := Lib.hid (HAy.out.up hb9)
          have HKT := Lib.hid (show Lay.term.Rd w20 At t.kids from HKT.out.up hb9)
          have HBT := Lib.hid ((hb9.block _ (lt_of_block HBT.out)).trans HBT.out)
          have HBD := Lib.hid ((hb9.block _ (lt_of_block HBD.out)).trans HBD.out)
          have HB := Lib.hid (bthen HB.out hb9)
          clear hb9
          go_wp2_with fail
          refine (ctxSame_yes Ab C qb q xb c w20 HAb.out HC.out HFb.out.1 HK.out.1 (HSb.out (by trivial))).mono ?_
          rintro e w21 ⟨rfl, hb9⟩
          have HC := Lib.hid (HC.out.up hb9)
          have HAa := Lib.hid (HAa.out.up hb9)
          have HAb := Lib.hid (HAb.out.up hb9)
          have HAx := Lib.hid (HAx.out.up hb9)
          have HAy := Lib.hid (HAy.out.up hb9)
          have HKT := Lib.hid (show Lay.term.Rd w21 At t.kids from HKT.out.up hb9)
          have HBT := Lib.hid ((hb9.block _ (lt_of_block HBT.out)).trans HBT.out)
          have HBD := Lib.hid ((hb9.block _ (lt_of_block HBD.out)).trans HBD.out)
          have HB := Lib.hid (bthen HB.out hb9)
          clear hb9
          go_wp2
          go_ret
          exact ⟨rfl, HB.out⟩
        · go_wp2_with fail
          refine (ctxSame_yes Aa C qa q xa c w19 HAa.out HC.out HFa.out.1 HK.out.1 (HSa.out (by trivial))).mono ?_
          rintro e w20 ⟨rfl, hb9⟩
          have HC := Lib.hid (HC.out.up hb9)
          have HAa := Lib.hid (HAa.out.up hb9)
          have HAb := Lib.hid (HAb.out.up hb9)
          have HAx := Lib.hid (HAx.out.up hb9)
          have HAy := Lib.hid (HAy.out.up hb9)
          have HKT := Lib.hid (show Lay.term.Rd w20 At t.kids from HKT.out.up hb9)
          have HBT := Lib.hid ((hb9.block _ (lt_of_block HBT.out)).trans HBT.out)
          have HBD := Lib.hid ((hb9.block _ (lt_of_block HBD.out)).trans HBD.out)
          have HB := Lib.hid (bthen HB.out hb9)
          clear hb9
          go_wp2
          go_ret
          exact ⟨rfl, HB.out⟩
      · cases pb
        · go_wp2_with fail
          refine (ctxSame_yes Ab C qb q xb c w19 HAb.out HC.out HFb.out.1 HK.out.1 (HSb.out (by trivial))).mono ?_
          rintro e w20 ⟨rfl, hb9⟩
          have HC := Lib.hid (HC.out.up hb9)
          have HAa := Lib.hid (HAa.out.up hb9)
          have HAb := Lib.hid (HAb.out.up hb9)
          have HAx := Lib.hid (HAx.out.up hb9)
          have HAy := Lib.hid (HAy.out.up hb9)
          have HKT := Lib.hid (show Lay.term.Rd w20 At t.kids from HKT.out.up hb9)
          have HBT := Lib.hid ((hb9.block _ (lt_of_block HBT.out)).trans HBT.out)
          have HBD := Lib.hid ((hb9.block _ (lt_of_block HBD.out)).trans HBD.out)
          have HB := Lib.hid (bthen HB.out hb9)
          clear hb9
          go_wp2
          go_ret
          exact ⟨rfl, HB.out⟩
        · go_wp2
          go_ret
          exact ⟨rfl, HB.out⟩
    · have h6 : ¬ (c.length : Int) < 6 := by omega
      have h61 : (1 : Int) < (c.length : Int) := by omega
      have g6 : decide ((c.length : Int) < 6) = false := by simpa using h6
      have g1 : decide ((1 : Int) < (c.length : Int)) = true := by simpa using h61
      obtain rfl : px = false := HX9.out.trans g6
      obtain rfl : py = true := HY9.out.trans g1
      clear HX9 HY9
      cases pa
      · cases pb
        · go_wp2_with fail
          refine (ctxSame_yes Aa C qa q xa c w19 HAa.out HC.out HFa.out.1 HK.out.1 (HSa.out (by trivial))).mono ?_
          rintro e w20 ⟨rfl, hb9⟩
          have HC := Lib.hid (HC.out.up hb9)
          have HAa := Lib.hid (HAa.out.up hb9)
          have HAb := Lib.hid (HAb.out.up hb9)
          have HAx := Lib.hid (HAx.out.up hb9)
          have HAy := Lib.hid (HAy.out.up hb9)
          have HKT := Lib.hid (show Lay.term.Rd w20 At t.kids from HKT.out.up hb9)
          have HBT := Lib.hid ((hb9.block _ (lt_of_block HBT.out)).trans HBT.out)
          have HBD := Lib.hid ((hb9.block _ (lt_of_block HBD.out)).trans HBD.out)
          have HB := Lib.hid (bthen HB.out hb9)
          clear hb9
          go_wp2_with fail
          refine (ctxSame_yes Ab C qb q xb c w20 HAb.out HC.out HFb.out.1 HK.out.1 (HSb.out (by trivial))).mono ?_
          rintro e w21 ⟨rfl, hb9⟩
          have HC := Lib.hid (HC.out.up hb9)
          have HAa := Lib.hid (HAa.out.up hb9)
          have HAb := Lib.hid (HAb.out.up hb9)
          have HAx := Lib.hid (HAx.out.up hb9)
          have HAy := Lib.hid (HAy.out.up hb9)
          have HKT := Lib.hid (show Lay.term.Rd w21 At t.kids from HKT.out.up hb9)
          have HBT := Lib.hid ((hb9.block _ (lt_of_block HBT.out)).trans HBT.out)
          have HBD := Lib.hid ((hb9.block _ (lt_of_block HBD.out)).trans HBD.out)
          have HB := Lib.hid (bthen HB.out hb9)
          clear hb9
          go_wp2_with fail
          refine (ctxSame_yes Ax C qx q xx c w21 HAx.out HC.out HFx.out.1 HK.out.1 (HSx.out (by trivial))).mono ?_
          rintro e w22 ⟨rfl, hb9⟩
          have HC := Lib.hid (HC.out.up hb9)
          have HAa := Lib.hid (HAa.out.up hb9)
          have HAb := Lib.hid (HAb.out.up hb9)
          have HAx := Lib.hid (HAx.out.up hb9)
          have HAy := Lib.hid (HAy.out.up hb9)
          have HKT := Lib.hid (show Lay.term.Rd w22 At t.kids from HKT.out.up hb9)
          have HBT := Lib.hid ((hb9.block _ (lt_of_block HBT.out)).trans HBT.out)
          have HBD := Lib.hid ((hb9.block _ (lt_of_block HBD.out)).trans HBD.out)
          have HB := Lib.hid (bthen HB.out hb9)
          clear hb9
          go_wp2
          go_ret
          exact ⟨rfl, HB.out⟩
        · go_wp2_with fail
          refine (ctxSame_yes Aa C qa q xa c w19 HAa.out HC.out HFa.out.1 HK.out.1 (HSa.out (by trivial))).mono ?_
          rintro e w20 ⟨rfl, hb9⟩
          have HC := Lib.hid (HC.out.up hb9)
          have HAa := Lib.hid (HAa.out.up hb9)
          have HAb := Lib.hid (HAb.out.up hb9)
          have HAx := Lib.hid (HAx.out.up hb9)
          have HAy := Lib.hid (HAy.out.up hb9)
          have HKT := Lib.hid (show Lay.term.Rd w20 At t.kids from HKT.out.up hb9)
          have HBT := Lib.hid ((hb9.block _ (lt_of_block HBT.out)).trans HBT.out)
          have HBD := Lib.hid ((hb9.block _ (lt_of_block HBD.out)).trans HBD.out)
          have HB := Lib.hid (bthen HB.out hb9)
          clear hb9
          go_wp2_with fail
          refine (ctxSame_yes Ax C qx q xx c w20 HAx.out HC.out HFx.out.1 HK.out.1 (HSx.out (by trivial))).mono ?_
          rintro e w21 ⟨rfl, hb9⟩
          have HC := Lib.hid (HC.out.up hb9)
          have HAa := Lib.hid (HAa.out.up hb9)
          have HAb := Lib.hid (HAb.out.up hb9)
          have HAx := Lib.hid (HAx.out.up hb9)
          have HAy := Lib.hid (HAy.out.up hb9)
          have HKT := Lib.hid (show Lay.term.Rd w21 At t.kids from HKT.out.up hb9)
          have HBT := Lib.hid ((hb9.block _ (lt_of_block HBT.out)).trans HBT.out)
          have HBD := Lib.hid ((hb9.block _ (lt_of_block HBD.out)).trans HBD.out)
          have HB := Lib.hid (bthen HB.out hb9)
          clear hb9
          go_wp2
          go_ret
          exact ⟨rfl, HB.out⟩
      · cases pb
        · go_wp2_with fail
          refine (ctxSame_yes Ab C qb q xb c w19 HAb.out HC.out HFb.out.1 HK.out.1 (HSb.out (by trivial))).mono ?_
          rintro e w20 ⟨rfl, hb9⟩
          have HC := Lib.hid (HC.out.up hb9)
          have HAa := Lib.hid (HAa.out.up hb9)
          have HAb := Lib.hid (HAb.out.up hb9)
          have HAx := Lib.hid (HAx.out.up hb9)
          have HAy := Lib.hid (HAy.out.up hb9)
          have HKT := Lib.hid (show Lay.term.Rd w20 At t.kids from HKT.out.up hb9)
          have HBT := Lib.hid ((hb9.block _ (lt_of_block HBT.out)).trans HBT.out)
          have HBD := Lib.hid ((hb9.block _ (lt_of_block HBD.out)).trans HBD.out)
          have HB := Lib.hid (bthen HB.out hb9)
          clear hb9
          go_wp2_with fail
          refine (ctxSame_yes Ax C qx q xx c w20 HAx.out HC.out HFx.out.1 HK.out.1 (HSx.out (by trivial))).mono ?_
          rintro e w21 ⟨rfl, hb9⟩
          have HC := Lib.hid (HC.out.up hb9)
          have HAa := Lib.hid (HAa.out.up hb9)
          have HAb := Lib.hid (HAb.out.up hb9)
          have HAx := Lib.hid (HAx.out.up hb9)
          have HAy := Lib.hid (HAy.out.up hb9)
          have HKT := Lib.hid (show Lay.term.Rd w21 At t.kids from HKT.out.up hb9)
          have HBT := Lib.hid ((hb9.block _ (lt_of_block HBT.out)).trans HBT.out)
          have HBD := Lib.hid ((hb9.block _ (lt_of_block HBD.out)).trans HBD.out)
          have HB := Lib.hid (bthen HB.out hb9)
          clear hb9
          go_wp2
          go_ret
          exact ⟨rfl, HB.out⟩
        · go_wp2_with fail
          refine (ctxSame_yes Ax C qx q xx c w19 HAx.out HC.out HFx.out.1 HK.out.1 (HSx.out (by trivial))).mono ?_
          rintro e w20 ⟨rfl, hb9⟩
          have HC := Lib.hid (HC.out.up hb9)
          have HAa := Lib.hid (HAa.out.up hb9)
          have HAb := Lib.hid (HAb.out.up hb9)
          have HAx := Lib.hid (HAx.out.up hb9)
          have HAy := Lib.hid (HAy.out.up hb9)
          have HKT := Lib.hid (show Lay.term.Rd w20 At t.kids from HKT.out.up hb9)
          have HBT := Lib.hid ((hb9.block _ (lt_of_block HBT.out)).trans HBT.out)
          have HBD := Lib.hid ((hb9.block _ (lt_of_block HBD.out)).trans HBD.out)
          have HB := Lib.hid (bthen HB.out hb9)
          clear hb9
          go_wp2
          go_ret
          exact ⟨rfl, HB.out⟩
  · have h6 : (c.length : Int) < 6 := by omega
    have h61 : ¬ (1 : Int) < (c.length : Int) := by omega
    have g6 : decide ((c.length : Int) < 6) = true := by simpa using h6
    have g1 : decide ((1 : Int) < (c.length : Int)) = false := by simpa using h61
    obtain rfl : px = true := HX9.out.trans g6
    obtain rfl : py = false := HY9.out.trans g1
    clear HX9 HY9
    cases pa
    · cases pb
      · go_wp2_with fail
        refine (ctxSame_yes Aa C qa q xa c w19 HAa.out HC.out HFa.out.1 HK.out.1 (HSa.out (by trivial))).mono ?_
        rintro e w20 ⟨rfl, hb9⟩
        have HC := Lib.hid (HC.out.up hb9)
        have HAa := Lib.hid (HAa.out.up hb9)
        have HAb := Lib.hid (HAb.out.up hb9)
        have HAx := Lib.hid (HAx.out.up hb9)
        have HAy := Lib.hid (HAy.out.up hb9)
        have HKT := Lib.hid (show Lay.term.Rd w20 At t.kids from HKT.out.up hb9)
        have HBT := Lib.hid ((hb9.block _ (lt_of_block HBT.out)).trans HBT.out)
        have HBD := Lib.hid ((hb9.block _ (lt_of_block HBD.out)).trans HBD.out)
        have HB := Lib.hid (bthen HB.out hb9)
        clear hb9
        go_wp2_with fail
        refine (ctxSame_yes Ab C qb q xb c w20 HAb.out HC.out HFb.out.1 HK.out.1 (HSb.out (by trivial))).mono ?_
        rintro e w21 ⟨rfl, hb9⟩
        have HC := Lib.hid (HC.out.up hb9)
        have HAa := Lib.hid (HAa.out.up hb9)
        have HAb := Lib.hid (HAb.out.up hb9)
        have HAx := Lib.hid (HAx.out.up hb9)
        have HAy := Lib.hid (HAy.out.up hb9)
        have HKT := Lib.hid (show Lay.term.Rd w21 At t.kids from HKT.out.up hb9)
        have HBT := Lib.hid ((hb9.block _ (lt_of_block HBT.out)).trans HBT.out)
        have HBD := Lib.hid ((hb9.block _ (lt_of_block HBD.out)).trans HBD.out)
        have HB := Lib.hid (bthen HB.out hb9)
        clear hb9
        go_wp2_with fail
        refine (ctxSame_yes Ay C qy q xy c w21 HAy.out HC.out HFy.out.1 HK.out.1 (HSy.out (by trivial))).mono ?_
        rintro e w22 ⟨rfl, hb9⟩
        have HC := Lib.hid (HC.out.up hb9)
        have HAa := Lib.hid (HAa.out.up hb9)
        have HAb := Lib.hid (HAb.out.up hb9)
        have HAx := Lib.hid (HAx.out.up hb9)
        have HAy := Lib.hid (HAy.out.up hb9)
        have HKT := Lib.hid (show Lay.term.Rd w22 At t.kids from HKT.out.up hb9)
        have HBT := Lib.hid ((hb9.block _ (lt_of_block HBT.out)).trans HBT.out)
        have HBD := Lib.hid ((hb9.block _ (lt_of_block HBD.out)).trans HBD.out)
        have HB := Lib.hid (bthen HB.out hb9)
        clear hb9
        go_wp2
        go_ret
        exact ⟨rfl, HB.out⟩
      · go_wp2_with fail
        refine (ctxSame_yes Aa C qa q xa c w19 HAa.out HC.out HFa.out.1 HK.out.1 (HSa.out (by trivial))).mono ?_
        rintro e w20 ⟨rfl, hb9⟩
        have HC := Lib.hid (HC.out.up hb9)
        have HAa := Lib.hid (HAa.out.up hb9)
        have HAb := Lib.hid (HAb.out.up hb9)
        have HAx := Lib.hid (HAx.out.up hb9)
        have HAy := Lib.hid (HAy.out.up hb9)
        have HKT := Lib.hid (show Lay.term.Rd w20 At t.kids from HKT.out.up hb9)
        have HBT := Lib.hid ((hb9.block _ (lt_of_block HBT.out)).trans HBT.out)
        have HBD := Lib.hid ((hb9.block _ (lt_of_block HBD.out)).trans HBD.out)
        have HB := Lib.hid (bthen HB.out hb9)
        clear hb9
        go_wp2_with fail
        refine (ctxSame_yes Ay C qy q xy c w20 HAy.out HC.out HFy.out.1 HK.out.1 (HSy.out (by trivial))).mono ?_
        rintro e w21 ⟨rfl, hb9⟩
        have HC := Lib.hid (HC.out.up hb9)
        have HAa := Lib.hid (HAa.out.up hb9)
        have HAb := Lib.hid (HAb.out.up hb9)
        have HAx := Lib.hid (HAx.out.up hb9)
        have HAy := Lib.hid (HAy.out.up hb9)
        have HKT := Lib.hid (show Lay.term.Rd w21 At t.kids from HKT.out.up hb9)
        have HBT := Lib.hid ((hb9.block _ (lt_of_block HBT.out)).trans HBT.out)
        have HBD := Lib.hid ((hb9.block _ (lt_of_block HBD.out)).trans HBD.out)
        have HB := Lib.hid (bthen HB.out hb9)
        clear hb9
        go_wp2
        go_ret
        exact ⟨rfl, HB.out⟩
    · cases pb
      · go_wp2_with fail
        refine (ctxSame_yes Ab C qb q xb c w19 HAb.out HC.out HFb.out.1 HK.out.1 (HSb.out (by trivial))).mono ?_
        rintro e w20 ⟨rfl, hb9⟩
        have HC := Lib.hid (HC.out.up hb9)
        have HAa := Lib.hid (HAa.out.up hb9)
        have HAb := Lib.hid (HAb.out.up hb9)
        have HAx := Lib.hid (HAx.out.up hb9)
        have HAy := Lib.hid (HAy.out.up hb9)
        have HKT := Lib.hid (show Lay.term.Rd w20 At t.kids from HKT.out.up hb9)
        have HBT := Lib.hid ((hb9.block _ (lt_of_block HBT.out)).trans HBT.out)
        have HBD := Lib.hid ((hb9.block _ (lt_of_block HBD.out)).trans HBD.out)
        have HB := Lib.hid (bthen HB.out hb9)
        clear hb9
        go_wp2_with fail
        refine (ctxSame_yes Ay C qy q xy c w20 HAy.out HC.out HFy.out.1 HK.out.1 (HSy.out (by trivial))).mono ?_
        rintro e w21 ⟨rfl, hb9⟩
        have HC := Lib.hid (HC.out.up hb9)
        have HAa := Lib.hid (HAa.out.up hb9)
        have HAb := Lib.hid (HAb.out.up hb9)
        have HAx := Lib.hid (HAx.out.up hb9)
        have HAy := Lib.hid (HAy.out.up hb9)
        have HKT := Lib.hid (show Lay.term.Rd w21 At t.kids from HKT.out.up hb9)
        have HBT := Lib.hid ((hb9.block _ (lt_of_block HBT.out)).trans HBT.out)
        have HBD := Lib.hid ((hb9.block _ (lt_of_block HBD.out)).trans HBD.out)
        have HB := Lib.hid (bthen HB.out hb9)
        clear hb9
        go_wp2
        go_ret
        exact ⟨rfl, HB.out⟩
      · go_wp2_with fail
        refine (ctxSame_yes Ay C qy q xy c w19 HAy.out HC.out HFy.out.1 HK.out.1 (HSy.out (by trivial))).mono ?_
        rintro e w20 ⟨rfl, hb9⟩
        have HC := Lib.hid (HC.out.up hb9)
        have HAa := Lib.hid (HAa.out.up hb9)
        have HAb := Lib.hid (HAb.out.up hb9)
        have HAx := Lib.hid (HAx.out.up hb9)
        have HAy := Lib.hid (HAy.out.up hb9)
        have HKT := Lib.hid (show Lay.term.Rd w20 At t.kids from HKT.out.up hb9)
        have HBT := Lib.hid ((hb9.block _ (lt_of_block HBT.out)).trans HBT.out)
        have HBD := Lib.hid ((hb9.block _ (lt_of_block HBD.out)).trans HBD.out)
        have HB := Lib.hid (bthen HB.out hb9)
        clear hb9
        go_wp2
        go_ret
        exact ⟨rfl, HB.out⟩

set_option maxRecDepth 100000 in
theorem fnCtx_lifted (os : Os) (started : os.Started) (H : Type) (enc : TypeId × Value → H) :
    ReturnsInHanded {} Tryz.checked os 11 .any (fun w args => (Rows.fnCtxSpec.pre enc Tryz.prog Tryz.f11 [] false w args ∧ laidMetH Tryz.prog laidU w) ∧ sizedMet enc Tryz.prog Tryz.f11 (OpenSpec.ofChange Rows.fnCtxSpec) false w args)
      (Rows.fnCtxSpec.post enc Tryz.prog Tryz.f11 false true false false) := by
  refine returnsInHanded_of_change_and (C := Tryz.checked) (X := fun w _ => laidMetH Tryz.prog laidU w) (fun _ _ _ hh h => h.of_heap hh) dr_own started (by kernel_rfl) Tryz.func11
    (ChangeSpec.witness_shaped (enc := enc) (C := Tryz.checked) (os := os) (X := fun w _ => laidMetH Tryz.prog laidU w) false (World.laidAll Tryz.prog os laidU) #[.slice none 0 0, .slice none 0 0] 16 (World.laidAll_os _ _ _) (World.shaped_of_ZipB (by kernel_rfl) (by kernel_rfl)) (by kernel_rfl) (by kernel_rfl) (by kernel_rfl)
      (by rw [MakeChecks.laidMetH_plain _ _ _ (by kernel_rfl)]; exact laidMet_laidAll _ (by kernel_rfl) (by kernel_rfl))) ?_
  intro W base args ds gs before hval0 hW _ _ hL _
  have hval : ∀ (j : Nat) t v, Tryz.f11.params[j]? = some t → args[j]? = some v → Value.okWide Tryz.prog W .any base t v := hval0
  have hW' := hW
  obtain ⟨p, q, hA0, hV, rfl, hfz, hnd⟩ := hW
  have hA : DataW.TrodAll enc Tryz.prog W 0 (fun _ => true) true Tryz.f11.params.toList args.toList ds p := hA0
  rw [Tryz.params11] at hA hval
  obtain ⟨v0, vs0, d0, ds0, p0, q0, hargs, rfl, rfl, h0, r0⟩ := trodAll_cons hA
  obtain ⟨v1, vs1, d1, ds1, p1, q1, rfl, rfl, rfl, h1, r1⟩ := trodAll_cons r0
  obtain ⟨rfl, rfl, rfl⟩ := trodAll_nil r1
  obtain rfl : args = #[v0, v1] := by cases args; simp_all
  obtain ⟨rfl, rfl⟩ := trodVars_none hV
  have k0 := h0
  have lt0 : ∀ x ∈ p0, x.block < W.heap.size := by obtain ⟨m, hm⟩ := k0; exact DataW.trod_lt m _ _ _ hm
  have k1 := h1
  have lt1 : ∀ x ∈ p1, x.block < W.heap.size := by obtain ⟨m, hm⟩ := k1; exact DataW.trod_lt m _ _ _ hm
  obtain ⟨A0, c0, x0, rfl, hc0, ok0, rd0⟩ := open_arg Tryz.underlying53 opens_bytes (hval 0 53 v0 rfl rfl) h0
  obtain ⟨A1, c1, x1, rfl, hc1, ok1, rd1⟩ := open_arg Tryz.underlying53 opens_bytes (hval 1 53 v1 rfl rfl) h1
  clear hA0 hval0
  refine (fnCtx_walk W hc0 ok0 rd0 hc1 ok1 rd1).mono fun e W' ⟨he, bel⟩ => ?_
  subst he
  exact ⟨_, rfl, _, _, _, [], _, [], hW', trodAll_mk1 (shut_bool Tryz.underlying4 _), (trodAll_cons_mk (Below.trod (by kernel_rfl) (by kernel_rfl) (of_decide_eq_true (by kernel_rfl)) k0 bel lt0) (trodAll_cons_mk (Below.trod (by kernel_rfl) (by kernel_rfl) (of_decide_eq_true (by kernel_rfl)) k1 bel lt1) trodAll_mk0)), rfl, bel.frame _, fun h => by cases h⟩

/-- The given row. -/
theorem fnCtx_row : Rows.FnCtxSaid :=
  OpenClaim.holds_of_wide 11 Tryz.f11 rfl rfl rfl rfl rfl rfl rfl ⟨rfl, rfl, rfl, rfl, rfl⟩ rfl rfl rfl rfl rfl (by kernel_rfl) Tryz.func11 (by kernel_rfl)
    (of_decide_eq_true (by kernel_rfl)) (by unfold Func.isWrapper; first | (rw [if_pos (by decide +kernel)]; kernel_rfl) | (rw [if_neg (by decide +kernel)]; exact ⟨rfl, rfl⟩))
    (fun os started H enc _ => fnCtx_lifted os started H enc)
/-- The given statement: the row, what it lists tied to the program's text. -/
theorem fnCtx_holds : Rows.FnCtxCardSaid :=
  Claim7.holds_tied_plain_at .later [] [.data, .pinned] true Rows.fnCtxCard.stood.harness Rows.fnCtxCard.stood.looks
    fnCtx_row (fun _ h => by cases h) (by kernel_rfl) (fun _ h => by cases h) fnCtx_row_tie rfl ⟨rfl, rfl⟩ (by kernel_rfl) rfl
    (fun f fn hf hfn => by
      obtain rfl : f = 11 := Option.some.inj ((show Tryz.prog.funcNamed "loop.example/seedlip/laws.FnCtx" = some 11 by kernel_rfl).symm.trans hf) |>.symm
      obtain rfl : fn = Tryz.f11 := (Option.some.inj (Tryz.func11.symm.trans hfn)).symm
      exact ⟨by kernel_rfl, fun j t ht => by
        rw [Tryz.params11] at ht
        have hm : t ∈ [53, 53] := by simpa using Array.mem_of_getElem? ht
        have hall : ([53, 53].all fun u => !Tryz.prog.wantsStandIn u) = true := by kernel_rfl
        exact (show Tryz.prog.wantsStandIn t = false by simpa using List.all_eq_true.1 hall t hm)⟩)
    (by kernel_rfl)
#print axioms fnCtx_holds
end Go.Proofs.YtiahmfpfimmbgaaGreatDoor
