/- FnCtxPop: popped layers can be rebuilt: for any bytes the law says true. -/
import Derived.Test.YtiahmfpfimmbgaaGreatDoorRows
import Derived.Test.YtiahmfpfimmbgaaGreatDoorJFnCtxPop3
import Derived.Test.YtiahmfpfimmbgaaGreatDoorJFnCtxPop8
import Derived.Test.YtiahmfpfimmbgaaGreatDoorJFnCtxPop15
import Derived.Test.YtiahmfpfimmbgaaGreatDoorJFnCtxPop23
/-! FnCtxPop: popped layers can be rebuilt: for any bytes the law says true. -/
namespace Go.Proofs.YtiahmfpfimmbgaaGreatDoor
open Go Go.RowKit Go.ChangeShapes Go.WideShapes Go.ChangeAt Go.Deep

theorem opens_bytes : Opens Tryz.prog 53 Lay.byte.slice (fun xs => xs.length ≤ maxLen ∧ ∀ x ∈ xs, True) := Opens.slice Tryz.underlying53 (by kernel_rfl) (by decide) (Opens.byte Tryz.underlying5)
theorem smD_of {d : D} (h : d.name.size ≤ 5 ∧ 1 ≤ d.wide ∧ d.wide ≤ 4) : smD d := ⟨by omega, by unfold okInt; omega⟩
theorem okDC_d {xs : List Ly} {l : Ly} (h : okDC (xs ++ [l])) {i : Nat} (hi : i < l.ds.length) : smD l.ds[i] := smD_of (h.2.2 _ (by rw [dsAll_app, dsAll_one]; exact List.mem_append_right _ (List.getElem_mem hi)))
theorem retCh_of {x : List Ly} {b : Bool} {w w' : World} {e : Ending} (h : RetCh (x, b) w e w') : ∃ A c, e = .returned (.tuple #[.slice A x.length c, .bool b]) ∧ x.length ≤ c ∧ Lay.layer.Rd w' A x ∧ Below w.heap.size w w' := by
  obtain ⟨A, c, h1, h2, h3, h4⟩ := h
  exact ⟨A, c, h1, h2, h3.cp_of.cp_rd, h4⟩
theorem retRd_of {x : List Ly} {b : Bool} {w w' : World} {e : Ending} (h : RetRd2 (x, b) w e w') : ∃ A c, e = .returned (.tuple #[.slice A x.length c, .bool b]) ∧ x.length ≤ c ∧ Lay.layer.Rd w' A x ∧ Below w.heap.size w w' := h
/-- The program's CtxSame of layers and the like. -/
theorem ctxSame_yes (A B : Option Addr) (c d : Nat) (xs : List Ly) (w : World) (h : Lay.layer.Rd w A xs) (h' : Lay.layer.Rd w B xs) (hs : okC xs) :
    Calls Tryz.prog 38 #[.slice A xs.length c, .slice B xs.length d] w (RetB w true) :=
  (implCtxSame_any A B c d xs xs _ _ w h h' (fun _ h => h) (fun _ h => h) hs.len hs.len (okC_l2 hs) (okC_l2 hs)).mono fun _ _ ⟨h, hb⟩ => ⟨by rw [h, allSame_self Ly.same_self], hb⟩
theorem ctxSame_yes9 (A B : Option Addr) (c d m : Nat) (xs : List Ly) (w : World) (h : Lay.layer.Rd w A xs) (h' : Lay.layer.Rd w B xs) (hs : okC xs) (hm : m = xs.length) :
    Calls Tryz.prog 38 #[.slice A xs.length c, .slice B m d] w (RetB w true) := by
  subst hm
  exact ctxSame_yes A B c d xs w h h' hs
theorem layer_at {w : World} {A : Option Addr} {c : List Ly} {l : Ly} {n : Nat} (h : Lay.layer.Rd w A c) (hl : c[n]? = some l) :
    ∃ ad A1 c1 A2 c2, A = some ad ∧ w.cell? (ad.add (n * 2)) = some (.slice A1 l.ds.length c1) ∧ w.cell? ⟨(ad.add (n * 2)).block, (ad.add (n * 2)).off + 1, none⟩ = some (.slice A2 l.ts.length c2) ∧
      l.ds.length ≤ c1 ∧ l.ts.length ≤ c2 ∧ Lay.decl.Rd w A1 l.ds ∧ Lay.term.Rd w A2 l.ts := by
  obtain ⟨hn, rfl⟩ := List.getElem?_eq_some_iff.1 hl
  obtain ⟨ad, A1, c1, A2, c2, h1, _, h2, h3, h4, h5, h6, h7⟩ := h.at_layer hn
  exact ⟨ad, A1, c1, A2, c2, h1, h2, h3, h4, h5, h6, h7⟩

set_option maxRecDepth 100000 in
set_option maxHeartbeats 8000000 in
theorem fnCtxPop_walk (W : World) {A0 : Option Addr} {c0 : Nat} {x0 : List UInt8} (hc0 : x0.length ≤ c0) (hok0 : x0.length ≤ maxLen ∧ ∀ z ∈ x0, True) (h0 : Lay.byte.Rd W A0 x0) :
    Calls Tryz.prog 10 #[.slice A0 x0.length c0] W (LawC W) := by
  have hm0 : x0.length ≤ 9223372036854775807 := by have := hok0.1; unfold maxLen at this; omega
  clear hok0
  by_cases hbig0 : (1048576 : Int) < x0.length
  · go_enter Tryz.func10, Tryz.ntmps10
    go_wp2
    go_ret
    exact ⟨rfl, Below.refl _ _⟩
  have HD := Lib.hid (drawCtxPop_any A0 c0 x0 W h0 hc0 hm0)
  clear h0 hc0 hm0
  go_enter Tryz.func10, Tryz.ntmps10
  go_wp2_with fail
  refine HD.out.mono ?_
  clear HD
  rintro e w1 ⟨c, A1, q1, rfl, hq1, hc1, hok, hb1⟩
  have HQ1 := Lib.hid hq1
  have HC1 := Lib.hid hc1
  have HK := Lib.hid hok
  have HB1 := Lib.hid hb1
  have hcl : c.length ≤ 1048576 := hok.1.len
  obtain ⟨x, b, hxb⟩ : ∃ x b, ctxPop c = (x, b) := ⟨_, _, rfl⟩
  have hip := fun (z : World) (hz : Lay.layer.Rd z A1 c) => implCtxPop_c c A1 q1 z hz hq1 hok.1
  have hsp := fun (z : World) (hz : Lay.layer.Rd z A1 c) => specCtxPop_c c A1 q1 z hz hq1 hok.1
  have hdc : okDC x := by have := (ctxPop_dc hok).1; rw [hxb] at this; exact this
  have hyes : b = true → ctxOk c = true ∧ ctxOk x = true ∧ x = c.dropLast := fun hb => by
    have := ctxPop_yes (c := c) (by rw [hxb]; exact hb)
    rw [hxb] at this
    obtain ⟨k1, k2, k3⟩ := this
    have k3 : x = c.dropLast := k3
    exact ⟨k1, by rw [k3]; exact k2, k3⟩
  rw [hxb] at hip hsp
  have HIP := Lib.hid hip
  have HSP := Lib.hid hsp
  have HDC := Lib.hid hdc
  have HYES := Lib.hid hyes
  clear hq1 hc1 hok hb1 hxb hip hsp hdc hyes
  go_wp2_with fail
  refine (HIP.out w1 HC1.out).mono ?_
  clear HIP
  intro e w2 hr
  obtain ⟨A2, q2, rfl, hq2, hd2, hb2⟩ := retCh_of hr
  have HQ2 := Lib.hid hq2
  have HD2 := Lib.hid hd2
  have HC2 := Lib.hid (HC1.out.up hb2)
  have HB2 := Lib.hid (bthen HB1.out hb2)
  clear hr hq2 hd2 hb2 HC1 HB1
  go_wp2_with fail
  refine (HSP.out w2 HC2.out).mono ?_
  clear HSP
  intro e w3 hr
  obtain ⟨A3, q3, rfl, hq3, hd3, hb3⟩ := retRd_of hr
  have HD3 := Lib.hid (And.intro (HD2.out.up hb3) hd3)
  have HC3 := Lib.hid (HC2.out.up hb3)
  have HB3 := Lib.hid (bthen HB2.out hb3)
  clear hr hq3 hd3 hb3 HC2 HB2 HD2
  cases b
  · clear HYES
    go_wp2_with fail
    refine (ctxSame_yes A2 A3 q2 q3 x w3 HD3.out.1 HD3.out.2 HDC.out.1).mono ?_
    rintro e w4 ⟨rfl, hb4⟩
    have HD4 := Lib.hid (And.intro (HD3.out.1.up hb4) (HD3.out.2.up hb4))
    have HB4 := Lib.hid (bthen HB3.out hb4)
    clear hb4 HD3 HB3
    go_wp2_with fail
    refine (ctxSame_yes A2 A3 q2 q3 x w4 HD4.out.1 HD4.out.2 HDC.out.1).mono ?_
    rintro e w5 ⟨rfl, hb5⟩
    have HB5 := Lib.hid (bthen HB4.out hb5)
    clear hb5
    go_wp2
    go_ret
    exact ⟨rfl, HB5.out⟩
  obtain ⟨hk, hkx, hx⟩ := HYES.out rfl
  obtain ⟨xs, l, hcx⟩ := last_of (ctxOk_parts hk).1
  obtain rfl : x = xs := by rw [hx, hcx, dropLast_app9]
  obtain ⟨n, hn⟩ : ∃ n, n = x.length := ⟨_, rfl⟩
  have hcn : c.length = n + 1 := by rw [hcx, List.length_append, List.length_singleton, hn]
  have hln : c[n]? = some l := by rw [hcx, hn]; simp
  have htk : c.take n = x := by rw [hcx, hn]; simp
  have HLN := Lib.hid hln
  have HXN := Lib.hid hn
  have hnk : (c.length : Int) - 1 = (n : Int) := by omega
  have hnl : n < c.length := by omega
  have hcx' : upto x l l.ds.length l.ts.length = c := by rw [hcx]; exact upto_all x l (Nat.le_refl _) (Nat.le_refl _)
  obtain ⟨Y, hY⟩ : ∃ Y : Nat → Nat → List Ly, Y = upto x l := ⟨_, rfl⟩
  have hyc : Y l.ds.length l.ts.length = c := by rw [hY]; exact hcx'
  have hl1 : l.ds.length ≤ 1048576 := by have := HK.out.1.ds; rw [hcx, dsAll_app, dsAll_one, List.length_append] at this; omega
  have hl2 : l.ts.length ≤ 1048576 := by have := HK.out.1.ts; rw [hcx, tsAll_app, tsAll_one, List.length_append] at this; omega
  have hkc := hk
  have hokc := HK.out
  rw [hcx] at hk hokc
  have hps := fun (z : World) (hz : Lay.layer.Rd z A2 x) => implCtxPush_c x A2 q2 z hz HQ2.out HDC.out.1
  rw [popPush hk hkx, ← hY] at hps
  have hnm : ∀ (i : Nat) (d : D), l.ds[i]? = some d → ∀ (z : World) (B : Option Addr) (b : Nat), Lay.layer.Rd z B (Y i 0) → (Y i 0).length ≤ b → Calls Tryz.prog 27 #[.slice B (Y i 0).length b, .agg #[.string d.name, .int .i64 d.wide]] z (RetCh (Y (i + 1) 0, true) z) := fun i d hd z B b hz hb => by
    obtain ⟨hi, rfl⟩ := List.getElem?_eq_some_iff.1 hd
    rw [hY] at hz hb ⊢
    have := implCtxName_c (upto x l i 0) l.ds[i] B b z hz hb (okC_upto hokc.1 i 0) (okDC_d hokc hi)
    rw [popName hk hi] at this
    exact this
  have hat : ∀ (j : Nat) (t : T), l.ts[j]? = some t → ∀ (z : World) (B : Option Addr) (b : Nat) (B0 : Option Addr) (b0 : Nat), Lay.layer.Rd z B (Y l.ds.length j) → (Y l.ds.length j).length ≤ b → Lay.term.Rd z B0 t.kids → t.kids.length ≤ b0 → Calls Tryz.prog 33 #[.slice B (Y l.ds.length j).length b, .agg #[.int .i64 t.op, .int .i64 t.a, .int .i64 t.b, .string t.name, .slice B0 t.kids.length b0]] z (RetCh (Y l.ds.length (j + 1), true) z) := fun j t ht z B b B0 b0 hz hb hz0 hb0 => by
    obtain ⟨hj, rfl⟩ := List.getElem?_eq_some_iff.1 ht
    rw [hY] at hz hb ⊢
    have := implCtxAssert_c (upto x l l.ds.length j) l.ts[j] B b B0 b0 z hz hb (okC_upto hokc.1 _ j) hz0 hb0 (okC_t hokc.1 hj)
    rw [popAssert hk hj] at this
    exact this
  have HPS := Lib.hid hps
  have HNM := Lib.hid hnm
  have HAT := Lib.hid hat
  have HYC := Lib.hid hyc
  obtain ⟨hsl, hsr⟩ := (slice_hR (t := 26) Tryz.underlying26 size_layer HC3.out n (by omega) HQ1.out)
  rw [htk] at hsl hsr
  have HSR := Lib.hid (fun (z : World) (hz : Below w3.heap.size w3 z) => hsr.up hz)
  clear hcn hk hkx hx hcx hln htk hcx' hY hyc hkc hokc hps hnm hat hsr HYES hn
  go_wp2_with fail
  refine (ctxSame_yes A2 A3 q2 q3 x w3 HD3.out.1 HD3.out.2 HDC.out.1).mono ?_
  rintro e w4 ⟨rfl, hb4⟩
  have HD4 := Lib.hid (And.intro (HD3.out.1.up hb4) (HSR.out w4 hb4))
  have HC4 := Lib.hid (HC3.out.up hb4)
  have HB4 := Lib.hid (bthen HB3.out hb4)
  clear hb4 HD3 HB3 HC3 HSR
  go_wp2_with fail
  refine (ctxSame_yes A2 A1 q2 q1 x w4 HD4.out.1 HD4.out.2 HDC.out.1).mono ?_
  rintro e w5 ⟨rfl, hb5⟩
  have HD5 := Lib.hid (HD4.out.1.up hb5)
  have HC5 := Lib.hid (HC4.out.up hb5)
  have HB5 := Lib.hid (bthen HB4.out hb5)
  clear hb5 HD4 HB4 HC4
  go_wp2_with fail
  refine (HPS.out w5 HD5.out).mono ?_
  intro e w6 hr
  obtain ⟨A6, q6, rfl, hq6, hd6, hb6⟩ := retCh_of hr
  have HQ6 := Lib.hid hq6
  have HD6 := Lib.hid hd6
  have HC6 := Lib.hid (HC5.out.up hb6)
  have HB6 := Lib.hid (bthen HB5.out hb6)
  clear hr hq6 hd6 hb6 HC5 HB5 HD5 HPS
  go_wp2
  go_loopw [9, 10, 11] (fun y f i wr => ∃ (k : Nat) (B : Option Addr) (q : Nat), k ≤ l.ds.length ∧ y = .slice B (Y k 0).length q ∧ f = .bool true ∧ i = .int .i64 k ∧ Hid ((Y k 0).length ≤ q) ∧ Hid (Lay.layer.Rd wr B (Y k 0)) ∧ Hid (Lay.layer.Rd wr A1 c) ∧ Hid (Below W.heap.size W wr)) (fun _ _ i _ => l.ds.length - (intOf i).toNat)
  case atStart => exact ⟨0, A6, q6, Nat.zero_le _, rfl, rfl, rfl, HQ6, HD6, HC6, HB6⟩
  case round =>
    obtain ⟨k, B, q, hk, rfl, rfl, rfl, HQ, HD, HC, HB⟩ := hrel
    obtain ⟨ad, E1, p1, E2, p2, rfl, e1, e2, hp1, hp2, hds, hts⟩ := layer_at HC.out HLN.out
    by_cases hlt : k < l.ds.length
    · have hk1 : (k : Int) < l.ds.length := by omega
      obtain ⟨ae, rfl, _, f1, f2⟩ := hds.at_decl hlt
      have HCA := Lib.hid (HNM.out k l.ds[k] (List.getElem?_eq_getElem hlt) wr B q HD.out HQ.out)
      generalize l.ds[k] = d at *
      clear hds hts
      go_wp2_with fail
      refine HCA.out.mono ?_
      intro e w7 hr
      obtain ⟨A7, q7, rfl, hq7, hd7, hb7⟩ := retCh_of hr
      have HQ7 := Lib.hid hq7
      have HD7 := Lib.hid hd7
      have HC7 := Lib.hid (HC.out.up hb7)
      have HB7 := Lib.hid (bthen HB.out hb7)
      clear hr hq7 hd7 hb7 HCA
      go_wp2
      go_roundw
      case rel => exact ⟨k + 1, A7, q7, by omega, rfl, rfl, by go_num, HQ7, HD7, HC7, HB7⟩
      case measure => simp [intOf]; omega
    · have hke : k = l.ds.length := by omega
      subst hke
      clear hds hts
      go_wp2
      go_loopw [9, 10, 13] (fun y f i wr => ∃ (k : Nat) (B : Option Addr) (q : Nat), k ≤ l.ts.length ∧ y = .slice B (Y l.ds.length k).length q ∧ f = .bool true ∧ i = .int .i64 k ∧ Hid ((Y l.ds.length k).length ≤ q) ∧ Hid (Lay.layer.Rd wr B (Y l.ds.length k)) ∧ Hid (Lay.layer.Rd wr (some ad) c) ∧ Hid (Below W.heap.size W wr)) (fun _ _ i _ => l.ts.length - (intOf i).toNat)
      case atStart => exact ⟨0, B, q, Nat.zero_le _, rfl, rfl, rfl, HQ, HD, HC, HB⟩
      case round =>
        clear HQ HD HC HB e1 e2
        obtain ⟨k, B, q, hk, rfl, rfl, rfl, HQ, HD, HC, HB⟩ := hrel
        obtain ⟨ad', E1, p1, E2, p2, hade, e1, e2, hp1, hp2, hds, hts⟩ := layer_at HC.out HLN.out
        obtain rfl : ad = ad' := Option.some.inj hade
        clear hade
        by_cases hlt : k < l.ts.length
        · have hk1 : (k : Int) < l.ts.length := by omega
          obtain ⟨ae, E3, p3, rfl, _, f1, f2, f3, f4, f5, hp3, hks⟩ := hts.at_term hlt
          have HCA := Lib.hid (HAT.out k l.ts[k] (List.getElem?_eq_getElem hlt) wr B q E3 p3 HD.out HQ.out hks hp3)
          generalize l.ts[k] = t at *
          clear hds hts hks
          go_wp2_with fail
          refine HCA.out.mono ?_
          intro e w7 hr
          obtain ⟨A7, q7, rfl, hq7, hd7, hb7⟩ := retCh_of hr
          have HQ7 := Lib.hid hq7
          have HD7 := Lib.hid hd7
          have HC7 := Lib.hid (HC.out.up hb7)
          have HB7 := Lib.hid (bthen HB.out hb7)
          clear hr hq7 hd7 hb7 HCA
          go_wp2
          go_roundw
          case rel => exact ⟨k + 1, A7, q7, by omega, rfl, rfl, by go_num, HQ7, HD7, HC7, HB7⟩
          case measure => simp [intOf]; omega
        · have hke : k = l.ts.length := by omega
          subst hke
          clear hds hts
          have HEQ := HYC
          have HDD : Hid (Lay.layer.Rd wr B c) := Lib.hid (by rw [← HYC.out]; exact HD.out)
          rw [show (Y l.ds.length l.ts.length) = c from HYC.out] at *
          go_wp2_with fail
          refine (ctxSame_yes B (some ad) q q1 c wr HDD.out HC.out HK.out.1).mono ?_
          rintro e w7 ⟨rfl, hb7⟩
          have HB7 := Lib.hid (bthen HB.out hb7)
          clear hb7
          go_wp2
          go_ret
          exact ⟨rfl, HB7.out⟩

set_option maxRecDepth 100000 in
theorem fnCtxPop_lifted (os : Os) (started : os.Started) (H : Type) (enc : TypeId × Value → H) :
    ReturnsInHanded {} Tryz.checked os 10 .any (fun w args => (Rows.fnCtxPopSpec.pre enc Tryz.prog Tryz.f10 [] false w args ∧ laidMetH Tryz.prog laidU w) ∧ sizedMet enc Tryz.prog Tryz.f10 (OpenSpec.ofChange Rows.fnCtxPopSpec) false w args)
      (Rows.fnCtxPopSpec.post enc Tryz.prog Tryz.f10 false true false false) := by
  refine returnsInHanded_of_change_and (C := Tryz.checked) (X := fun w _ => laidMetH Tryz.prog laidU w) (fun _ _ _ hh h => h.of_heap hh) dr_own started (by kernel_rfl) Tryz.func10
    (ChangeSpec.witness_shaped (enc := enc) (C := Tryz.checked) (os := os) (X := fun w _ => laidMetH Tryz.prog laidU w) false (World.laidAll Tryz.prog os laidU) #[.slice none 0 0] 16 (World.laidAll_os _ _ _) (World.shaped_of_ZipB (by kernel_rfl) (by kernel_rfl)) (by kernel_rfl) (by kernel_rfl) (by kernel_rfl)
      (by rw [MakeChecks.laidMetH_plain _ _ _ (by kernel_rfl)]; exact laidMet_laidAll _ (by kernel_rfl) (by kernel_rfl))) ?_
  intro W base args ds gs before hval0 hW _ _ hL _
  have hval : ∀ (j : Nat) t v, Tryz.f10.params[j]? = some t → args[j]? = some v → Value.okWide Tryz.prog W .any base t v := hval0
  have hW' := hW
  obtain ⟨p, q, hA0, hV, rfl, hfz, hnd⟩ := hW
  have hA : DataW.TrodAll enc Tryz.prog W 0 (fun _ => true) true Tryz.f10.params.toList args.toList ds p := hA0
  rw [Tryz.params10] at hA hval
  obtain ⟨v0, vs0, d0, ds0, p0, q0, hargs, rfl, rfl, h0, r0⟩ := trodAll_cons hA
  obtain ⟨rfl, rfl, rfl⟩ := trodAll_nil r0
  obtain rfl : args = #[v0] := by cases args; simp_all
  obtain ⟨rfl, rfl⟩ := trodVars_none hV
  have k0 := h0
  have lt0 : ∀ x ∈ p0, x.block < W.heap.size := by obtain ⟨m, hm⟩ := k0; exact DataW.trod_lt m _ _ _ hm
  obtain ⟨A0, c0, x0, rfl, hc0, ok0, rd0⟩ := open_arg Tryz.underlying53 opens_bytes (hval 0 53 v0 rfl rfl) h0
  clear hA0 hval0
  refine (fnCtxPop_walk W hc0 ok0 rd0).mono fun e W' ⟨he, bel⟩ => ?_
  subst he
  exact ⟨_, rfl, _, _, _, [], _, [], hW', trodAll_mk1 (shut_bool Tryz.underlying4 _), (trodAll_cons_mk (Below.trod (by kernel_rfl) (by kernel_rfl) (of_decide_eq_true (by kernel_rfl)) k0 bel lt0) trodAll_mk0), rfl, bel.frame _, fun h => by cases h⟩

/-- The given row. -/
theorem fnCtxPop_row : Rows.FnCtxPopSaid :=
  OpenClaim.holds_of_wide 10 Tryz.f10 rfl rfl rfl rfl rfl rfl rfl ⟨rfl, rfl, rfl, rfl, rfl⟩ rfl rfl rfl rfl rfl (by kernel_rfl) Tryz.func10 (by kernel_rfl)
    (of_decide_eq_true (by kernel_rfl)) (by unfold Func.isWrapper; first | (rw [if_pos (by decide +kernel)]; kernel_rfl) | (rw [if_neg (by decide +kernel)]; exact ⟨rfl, rfl⟩))
    (fun os started H enc _ => fnCtxPop_lifted os started H enc)
/-- The given statement: the row, what it lists tied to the program's text. -/
theorem fnCtxPop_holds : Rows.FnCtxPopCardSaid :=
  Claim7.holds_tied_plain_at .later [] [.data, .pinned] true Rows.fnCtxPopCard.stood.harness Rows.fnCtxPopCard.stood.looks
    fnCtxPop_row (fun _ h => by cases h) (by kernel_rfl) (fun _ h => by cases h) fnCtxPop_row_tie rfl ⟨rfl, rfl⟩ (by kernel_rfl) rfl
    (fun f fn hf hfn => by
      obtain rfl : f = 10 := Option.some.inj ((show Tryz.prog.funcNamed "loop.example/seedlip/laws.FnCtxPop" = some 10 by kernel_rfl).symm.trans hf) |>.symm
      obtain rfl : fn = Tryz.f10 := (Option.some.inj (Tryz.func10.symm.trans hfn)).symm
      exact ⟨by kernel_rfl, fun j t ht => by
        rw [Tryz.params10] at ht
        have hm : t ∈ [53] := by simpa using Array.mem_of_getElem? ht
        have hall : ([53].all fun u => !Tryz.prog.wantsStandIn u) = true := by kernel_rfl
        exact (show Tryz.prog.wantsStandIn t = false by simpa using List.all_eq_true.1 hall t hm)⟩)
    (by kernel_rfl)
#print axioms fnCtxPop_holds
end Go.Proofs.YtiahmfpfimmbgaaGreatDoor
