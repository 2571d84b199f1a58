/- FnExactCtxTerms: the program's CtxTerms answers, for any context, what the reference's answers, in memory of its own. -/
import Derived.Test.YtiahmfpfimmbgaaGreatDoorRows
import Derived.Test.YtiahmfpfimmbgaaGreatDoorJExCtxTerms12
/-! FnExactCtxTerms: the program's CtxTerms answers, for any context, what the reference's answers, in memory of its own. -/
namespace Go.Proofs.YtiahmfpfimmbgaaGreatDoor
open Go Go.RowKit Go.ChangeShapes Go.WideShapes Go.ChangeAt Go.Deep

set_option maxRecDepth 100000 in
set_option maxHeartbeats 4000000 in
theorem fnExactCtxTerms_walk (W : World) {Ap0a : Option Addr} {cp0a : Nat} {x0 : List Ly} (_ : x0.length ≤ cp0a) (ok0 : okLs x0) (hp0a : Lay.layer.Rd W Ap0a x0) :
    Calls Tryz.prog 3 #[.slice Ap0a x0.length cp0a] W (LawC W) := by
  have HW0 : Hid (Below W.heap.size W W) := Lib.hid (Below.refl _ _)
  have Hp0a := hp0a
  clear hp0a
  have OK0 := Lib.hid ok0
  clear ok0
  go_enter Tryz.func3, Tryz.ntmps3
  have hb : Below W.heap.size W W := Below.refl _ _
  go_wp2_with fail
  refine (szLayers_u x0 Ap0a cp0a 1048576 _ (Hp0a.up hb) OK0.out (by omega) (by omega)).mono ?_
  rintro e u1 ⟨rfl, hbu1⟩
  have hb := bthen hb hbu1
  clear hbu1
  by_cases hbig0 : (1048576 : Int) < (wtL x0 : Nat)
  · have HSZ := Lib.hid (szRes_lt hbig0)
    clear hbig0
    rw [HSZ.out]
    go_wp2
    go_ret
    exact ⟨rfl, bthen HW0.out hb⟩
  have SM0 : Hid (smLayers x0) := Lib.hid (smLayers_of OK0.out (by omega))
  have HSZ0 := Lib.hid (szRes_ge hbig0)
  rw [HSZ0.out]
  have hln9 : (0 : Int) ≤ (1048576 - (wtL x0 : Nat)) := by omega
  clear hbig0
  generalize hr9 : ctxTerms x0 = r9 at *
  have HR9 := Lib.hid hr9
  clear hr9
  have HRS0 := Lib.hid (show smTerms r9 by rw [← HR9.out]; exact ctxTerms_sm SM0.out)
  go_wp2_with fail
  refine (toLayers_u x0 Ap0a cp0a _ (Hp0a.up hb) SM0.out).mono ?_
  rintro e u2 ⟨Aq0a, cq0a, rfl, hcq0a, sq0a, hbq0⟩
  have hb := bthen hb hbq0
  clear hbq0
  go_wp2_with fail
  refine (specCtxTerms_u x0 Aq0a cq0a _ (sq0a.own_rd) hcq0a SM0.out).mono ?_
  rw [HR9.out]
  rintro e u3 ⟨Aw0a, cw0a, rfl, hcw0a, sw0a, hb9⟩
  clear sq0a
  have hb := bthen hb hb9
  clear hb9
  have Rw0a := sw0a.cp_of
  clear sw0a
  go_wp2_with fail
  have z0 : W.heap.size ≤ u3.heap.size := hb.size
  have hs : Below u3.heap.size u3 u3 := Below.refl _ _
  refine (toLayers_u x0 Ap0a cp0a _ (Hp0a.up hb) SM0.out).mono ?_
  rintro e u4 ⟨Ak0a, ck0a, rfl, hck0a, sk0a, hbk0⟩
  have hb := bthen hb hbk0
  have hs := bthen hs hbk0
  have Rw0a := Rw0a.cp_up hbk0
  clear hbk0
  go_wp2_with fail
  have Rk0a := sk0a.cp_of
  clear sk0a
  have z1 : u3.heap.size ≤ u4.heap.size := hs.size
  clear hs
  have hs : Below u4.heap.size u4 u4 := Below.refl _ _
  refine (implCtxTerms_u x0 Ak0a ck0a _ (Rk0a.cp_rd) hck0a SM0.out).mono ?_
  rw [HR9.out]
  rintro e u5 ⟨Ag0a, cg0a, rfl, hcg0a, sg0a, hb9⟩
  have hb := bthen hb hb9
  have hs := bthen hs hb9
  have Rw0a := Rw0a.cp_up hb9
  have Rk0a := Rk0a.cp_up hb9
  clear hb9
  have Rg0a := sg0a.cp_of
  clear sg0a
  have z2 : u4.heap.size ≤ u5.heap.size := hs.size
  clear hs
  have hs : Below u5.heap.size u5 u5 := Below.refl _ _
  go_wp2_with fail
  refine (eqTerms_u r9 Ag0a Aw0a cg0a cw0a _ Rg0a.cp_rd Rw0a.cp_rd HRS0.out).mono ?_
  rintro e u6 ⟨rfl, hb9⟩
  have hb := bthen hb hb9
  have hs := bthen hs hb9
  have Rw0a := Rw0a.cp_up hb9
  have Rk0a := Rk0a.cp_up hb9
  have Rg0a := Rg0a.cp_up hb9
  clear hb9
  go_wp2_with fail
  refine (toLayers_u x0 Ap0a cp0a _ (Hp0a.up hb) SM0.out).mono ?_
  rintro e u7 ⟨Ay0a, cy0a, rfl, hcy0a, sy0a, hby0⟩
  have hb := bthen hb hby0
  have hs := bthen hs hby0
  have Rw0a := Rw0a.cp_up hby0
  have Rk0a := Rk0a.cp_up hby0
  have Rg0a := Rg0a.cp_up hby0
  clear hby0
  go_wp2_with fail
  refine (eqLayers_u x0 Ak0a Ay0a ck0a cy0a _ Rk0a.cp_rd sy0a.own_rd SM0.out).mono ?_
  rintro e u8 ⟨rfl, hb9⟩
  clear sy0a
  have hb := bthen hb hb9
  have hs := bthen hs hb9
  have Rw0a := Rw0a.cp_up hb9
  have Rk0a := Rk0a.cp_up hb9
  have Rg0a := Rg0a.cp_up hb9
  clear hb9
  go_wp2_with fail
  refine (markLayers_u x0 Ak0a ck0a _ _ 1 _ Rk0a SM0.out (by omega) (by omega)).mono ?_
  rintro e u9 ⟨rfl, hd, _⟩
  clear hs
  have Rw0a := Rw0a.cp_dab hd (by intro b h1 h2 h3; have := h3.1; have := h3.2; omega)
  clear Rk0a
  have Rg0a := Rg0a.cp_dab hd (by intro b h1 h2 h3; have := h3.1; have := h3.2; omega)
  have hb := below_rng hb hd hb.size (by omega)
  clear hd
  obtain ⟨k9_1, hk9, hk9a, hk9b⟩ : ∃ k9 : Int, k9 = 1 + (mwL x0 : Nat) ∧ 1 ≤ k9 ∧ k9 ≤ 10000000 := ⟨_, rfl, by omega, by have := SM0.out.2.2.1; omega⟩
  rw [← hk9]
  clear hk9
  go_wp2_with fail
  refine (eqTerms_u r9 Ag0a Aw0a cg0a cw0a _ Rg0a.cp_rd Rw0a.cp_rd HRS0.out).mono ?_
  rintro e u10 ⟨rfl, hb9⟩
  have hb := bthen hb hb9
  have Rw0a := Rw0a.cp_up hb9
  have Rg0a := Rg0a.cp_up hb9
  clear hb9
  go_wp2_with fail
  refine (markTerms_u r9 Ag0a cg0a _ _ 1 _ Rg0a HRS0.out (by omega) (by omega)).mono ?_
  rintro e u11 ⟨rfl, hd, RM0⟩
  have Rw0a := Rw0a.cp_dab hd (by intro b h1 h2 h3; have := h3.1; have := h3.2; omega)
  clear Rg0a
  have hb := below_rng hb hd hb.size (by omega)
  clear hd
  obtain ⟨m9, hm9, hm9a⟩ : ∃ m9 : Int, m9 = 1 + (4 * T.sizeL r9 : Nat) ∧ 0 ≤ m9 := ⟨_, rfl, by omega⟩
  rw [← hm9]
  have HM9 := Lib.hid hm9
  have hmm9 : (m9 != m9) = false := by simp
  clear hm9
  go_wp2_with fail
  refine (heldTerms_u r9 Ag0a cg0a 1 _ RM0.cp_rd HRS0.out (by omega) (by omega)).mono ?_
  rw [← HM9.out]
  rintro e u12 ⟨rfl, hb9⟩
  have hb := bthen hb hb9
  have Rw0a := Rw0a.cp_up hb9
  have RM0 := RM0.cp_up hb9
  clear hb9
  go_wp2_with fail
  refine (toLayers_u x0 Ap0a cp0a _ (Hp0a.up hb) SM0.out).mono ?_
  rintro e u13 ⟨Az0a, cz0a, rfl, hcz0a, sz0a, hbz0⟩
  have hb := bthen hb hbz0
  have Rw0a := Rw0a.cp_up hbz0
  have RM0 := RM0.cp_up hbz0
  clear hbz0
  go_wp2_with fail
  refine (implCtxTerms_u x0 Az0a cz0a _ (sz0a.own_rd) hcz0a SM0.out).mono ?_
  rw [HR9.out]
  rintro e u14 ⟨Ah0a, ch0a, rfl, hch0a, sh0a, hb9⟩
  clear sz0a
  have hb := bthen hb hb9
  have Rw0a := Rw0a.cp_up hb9
  have RM0 := RM0.cp_up hb9
  clear hb9
  have Rh0a := sh0a.cp_of
  clear sh0a
  go_wp2_with fail
  refine (eqTerms_u r9 Ah0a Aw0a ch0a cw0a _ Rh0a.cp_rd Rw0a.cp_rd HRS0.out).mono ?_
  rintro e u15 ⟨rfl, hb9⟩
  have hb := bthen hb hb9
  have Rw0a := Rw0a.cp_up hb9
  have RM0 := RM0.cp_up hb9
  have Rh0a := Rh0a.cp_up hb9
  clear hb9
  go_wp2_with fail
  refine (heldTerms_u r9 Ag0a cg0a 1 _ RM0.cp_rd HRS0.out (by omega) (by omega)).mono ?_
  rw [← HM9.out]
  rintro e u16 ⟨rfl, hb9⟩
  have hb := bthen hb hb9
  have Rw0a := Rw0a.cp_up hb9
  have RM0 := RM0.cp_up hb9
  have Rh0a := Rh0a.cp_up hb9
  clear hb9
  go_wp2
  go_ret
  exact ⟨rfl, bthen HW0.out hb⟩

set_option maxRecDepth 100000 in
theorem fnExactCtxTerms_lifted (os : Os) (started : os.Started) (H : Type) (enc : TypeId × Value → H) :
    ReturnsInHanded {} Tryz.checked os 3 .any (fun w args => (Rows.fnExactCtxTermsSpec.pre enc Tryz.prog Tryz.f3 [] false w args ∧ laidMetH Tryz.prog laidU w) ∧ sizedMet enc Tryz.prog Tryz.f3 (OpenSpec.ofChange Rows.fnExactCtxTermsSpec) false w args)
      (Rows.fnExactCtxTermsSpec.post enc Tryz.prog Tryz.f3 false true false false) := by
  refine returnsInHanded_of_change_and (C := Tryz.checked) (X := fun w _ => laidMetH Tryz.prog laidU w) (fun _ _ _ hh h => h.of_heap hh) dr_own started (by kernel_rfl) Tryz.func3
    (ChangeSpec.witness_shaped (enc := enc) (C := Tryz.checked) (os := os) (X := fun w _ => laidMetH Tryz.prog laidU w) false (World.laidAll Tryz.prog os laidU) #[.slice none 0 0] 16 (World.laidAll_os _ _ _) (World.shaped_of_ZipB (by kernel_rfl) (by kernel_rfl)) (by kernel_rfl) (by kernel_rfl) (by kernel_rfl)
      (by rw [MakeChecks.laidMetH_plain _ _ _ (by kernel_rfl)]; exact laidMet_laidAll _ (by kernel_rfl) (by kernel_rfl))) ?_
  intro W base args ds gs before hval0 hW _ _ hL _
  have hval : ∀ (j : Nat) t v, Tryz.f3.params[j]? = some t → args[j]? = some v → Value.okWide Tryz.prog W .any base t v := hval0
  have hW' := hW
  obtain ⟨p, q, hA0, hV, rfl, hfz, hnd⟩ := hW
  have hA : DataW.TrodAll enc Tryz.prog W 0 (fun _ => true) true Tryz.f3.params.toList args.toList ds p := hA0
  rw [Tryz.params3] at hA hval
  obtain ⟨v0, vs0, d0, ds0, p0, q0, hargs, rfl, rfl, h0, r0⟩ := trodAll_cons hA
  obtain ⟨rfl, rfl, rfl⟩ := trodAll_nil r0
  obtain rfl : args = #[v0] := by cases args; simp_all
  obtain ⟨rfl, rfl⟩ := trodVars_none hV
  have k0 := h0
  have lt0 : ∀ x ∈ p0, x.block < W.heap.size := by obtain ⟨m, hm⟩ := k0; exact DataW.trod_lt m _ _ _ hm
  obtain ⟨A0, c0, x0, rfl, hc0, ok0, rd0⟩ := open_arg Tryz.underlying22 opens_layers (hval 0 22 v0 rfl rfl) h0
  clear hA0 hval0
  refine (fnExactCtxTerms_walk W hc0 ok0 rd0).mono fun e W' ⟨he, bel⟩ => ?_
  subst he
  exact ⟨_, rfl, _, _, _, [], _, [], hW', trodAll_mk1 (shut_bool Tryz.underlying4 _), (trodAll_cons_mk (Below.trod (by kernel_rfl) (by kernel_rfl) (of_decide_eq_true (by kernel_rfl)) k0 bel lt0) trodAll_mk0), rfl, bel.frame _, fun h => by cases h⟩

/-- The given row. -/
theorem fnExactCtxTerms_row : Rows.FnExactCtxTermsSaid :=
  OpenClaim.holds_of_wide 3 Tryz.f3 rfl rfl rfl rfl rfl rfl rfl ⟨rfl, rfl, rfl, rfl, rfl⟩ rfl rfl rfl rfl rfl (by kernel_rfl) Tryz.func3 (by kernel_rfl)
    (of_decide_eq_true (by kernel_rfl)) (by unfold Func.isWrapper; first | (rw [if_pos (by decide +kernel)]; kernel_rfl) | (rw [if_neg (by decide +kernel)]; exact ⟨rfl, rfl⟩))
    (fun os started H enc _ => fnExactCtxTerms_lifted os started H enc)
/-- The given statement: the row, what it lists tied to the program's text. -/
theorem fnExactCtxTerms_holds : Rows.FnExactCtxTermsCardSaid :=
  Claim7.holds_tied_plain_at .later [] [.data, .pinned] true Rows.fnExactCtxTermsCard.stood.harness Rows.fnExactCtxTermsCard.stood.looks
    fnExactCtxTerms_row (fun _ h => by cases h) (by kernel_rfl) (fun _ h => by cases h) fnExactCtxTerms_row_tie rfl ⟨rfl, rfl⟩ (by kernel_rfl) rfl
    (fun f fn hf hfn => by
      obtain rfl : f = 3 := Option.some.inj ((show Tryz.prog.funcNamed "loop.example/seedlip/laws.FnExactCtxTerms" = some 3 by kernel_rfl).symm.trans hf) |>.symm
      obtain rfl : fn = Tryz.f3 := (Option.some.inj (Tryz.func3.symm.trans hfn)).symm
      exact ⟨by kernel_rfl, fun j t ht => by
        rw [Tryz.params3] at ht
        have hm : t ∈ [22] := by simpa using Array.mem_of_getElem? ht
        have hall : ([22].all fun u => !Tryz.prog.wantsStandIn u) = true := by kernel_rfl
        exact (show Tryz.prog.wantsStandIn t = false by simpa using List.all_eq_true.1 hall t hm)⟩)
    (by kernel_rfl)
#print axioms fnExactCtxTerms_holds
end Go.Proofs.YtiahmfpfimmbgaaGreatDoor
