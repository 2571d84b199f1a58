/- FnExactCtxName: the program's CtxName answers, for any context and any declaration, what the reference's answers, in memory of its own. -/
import Derived.Test.YtiahmfpfimmbgaaGreatDoorRows
import Derived.Test.YtiahmfpfimmbgaaGreatDoorTie
import Derived.Test.YtiahmfpfimmbgaaGreatDoorCards
import Derived.ProofKit
import Derived.OpenShut
import Derived.LaidMore
import Derived.Lay
import Derived.LaidOnce
import Derived.SevenTiedAt
import Derived.Stop.Joined
import Derived.Test.YtiahmfpfimmbgaaGreatDoorJExCtxName7
import Derived.Test.YtiahmfpfimmbgaaGreatDoorJExCtxName14
/-! Facts of the drawn calls in the laws on CtxName and CtxAssert. -/
namespace Go.Proofs.YtiahmfpfimmbgaaGreatDoor
open Go Go.RowKit Go.ChangeShapes Go.WideShapes Go.ChangeAt Go.Deep

def Fact.copyLy (x : List Ly) : Fact := .of (fun v z => ∃ A c, v = .slice A x.length c ∧ x.length ≤ c ∧ Lay.layer.Rd z A x) fun _ _ _ ⟨A, c, h1, h2, h3⟩ hb => ⟨A, c, h1, h2, h3.up hb⟩
def Fact.pairR (W : World) (r : List Ly × Bool) : Fact := .of (fun v z => ∃ A c, v = .tuple #[.slice A r.1.length c, .bool r.2] ∧ r.1.length ≤ c ∧ RdO Lay.layer z A r.1 ∧ Below W.heap.size W z) fun _ z _ ⟨A, c, h1, h2, h3, h4⟩ hb => ⟨A, c, h1, h2, Lay.Sl.up (show Lay.layer.Rd z A r.1 from h3) hb, bthen h4 hb⟩
def Fact.oneR (W : World) (r : List Ly × Bool) : Fact := .of (fun v z => ∃ A c, v = .slice A r.1.length c ∧ r.1.length ≤ c ∧ RdO Lay.layer z A r.1 ∧ Below W.heap.size W z) fun _ z _ ⟨A, c, h1, h2, h3, h4⟩ hb => ⟨A, c, h1, h2, Lay.Sl.up (show Lay.layer.Rd z A r.1 from h3) hb, bthen h4 hb⟩
def Fact.pairG (W : World) (r : List Ly × Bool) : Fact := .of (fun v z => ∃ A c, v = .tuple #[.slice A r.1.length c, .bool r.2] ∧ r.1.length ≤ c ∧ RowP PP W.heap.size z (.slice A r.1.length c) r.1 ∧ Below W.heap.size W z) fun _ z _ ⟨A, c, h1, h2, h3, h4⟩ hb => ⟨A, c, h1, h2, h3.up stay_PP hb, bthen h4 hb⟩
def Fact.oneG (W : World) (r : List Ly × Bool) : Fact := .of (fun v z => ∃ A c, v = .slice A r.1.length c ∧ r.1.length ≤ c ∧ RowP PP W.heap.size z (.slice A r.1.length c) r.1 ∧ Below W.heap.size W z) fun _ z _ ⟨A, c, h1, h2, h3, h4⟩ hb => ⟨A, c, h1, h2, h3.up stay_PP hb, bthen h4 hb⟩
theorem smD_of {d : D} (h : okDecl d) (hw : D.w d ≤ 1048576) : smD d := ⟨hw, h.2⟩
set_option maxRecDepth 100000 in
theorem open_declv {H : Type} {enc : TypeId × Value → H} {r : Reach} {b0 : Nat} {w : World} {base : Nat} {spare : Nat → Bool} {held : Bool} {v : Value} {d : DataW H} {p : List MemPlace}
    (hv : Value.okWide Tryz.prog w r b0 36 v) (h : DataW.Trod enc Tryz.prog w base spare held 36 v d p) : ∃ x : D, v = .agg #[.string x.name, .int .i64 x.wide] ∧ okDecl x := by
  have hh := open_struct (L := Lay.decl) (ok := okDecl) Tryz.underlying36 (Opens.decl Tryz.underlying36 (by kernel_rfl) Tryz.underlying3 (by kernel_rfl) Tryz.underlying9 (by kernel_rfl) rfl) hv h
  obtain ⟨cs, x, hv', hok, hR⟩ := hh
  have hR : cs.toList = [.string x.name, .int .i64 x.wide] := hR
  have hc : cs = #[.string x.name, .int .i64 x.wide] := Array.toList_inj.1 (hR.trans rfl)
  exact ⟨x, by rw [hv', hc], hok⟩
end Go.Proofs.YtiahmfpfimmbgaaGreatDoor

/-! What the rows list of the library's variables: tables that the proofs do not read. -/
namespace Go.Proofs.YtiahmfpfimmbgaaGreatDoor
open Go

theorem dr_own : ownKnob Tryz.prog.godebug = none := by kernel_rfl
abbrev laidU : List (String × DataW Unit) := [("unicode/utf8.acceptRanges", Rows.laid_unicode_utf8_acceptRanges), ("unicode/utf8.first", Rows.laid_unicode_utf8_first)]
end Go.Proofs.YtiahmfpfimmbgaaGreatDoor

/-! FnExactCtxName: the program's CtxName answers, for any context and any declaration, what the reference's answers, in memory of its own. -/
namespace Go.Proofs.YtiahmfpfimmbgaaGreatDoor
open Go Go.RowKit Go.ChangeShapes Go.WideShapes Go.ChangeAt Go.Deep

set_option maxRecDepth 100000 in
set_option maxHeartbeats 8000000 in
theorem fnExactCtxName_walk (W : World) {Ap0a : Option Addr} {cp0a : Nat} {x0 : List Ly} {x1 : D} (_ : x0.length ≤ cp0a) (ok0 : okLs x0) (hp0a : Lay.layer.Rd W Ap0a x0) (ok1 : okDecl x1) :
    Calls Tryz.prog 5 #[.slice Ap0a x0.length cp0a, .agg #[.string x1.name, .int .i64 x1.wide]] W (LawC W) := by
  have hW0 : Below W.heap.size W (W.alloc (.cells #[.string x1.name, .int .i64 x1.wide] 36)) := (Below.refl _ _).alloc (Nat.le_refl _) _
  have hS1 := heap_alloc_new W (.cells #[.string x1.name, .int .i64 x1.wide] 36)
  have Hp0a := hp0a.up hW0
  have HS1 := Lib.hid hS1
  have hSlt1 := lt_of_block hS1
  have HW0 := Lib.hid hW0
  have OK0 := Lib.hid ok0
  have OK1 := Lib.hid ok1
  clear hS1 hW0 hp0a ok0 ok1
  go_enter Tryz.func5, Tryz.ntmps5
  go_wp2_with fail
  generalize W.alloc (.cells #[.string x1.name, .int .i64 x1.wide] 36) = W0 at *
  have hb : Below W0.heap.size W0 W0 := Below.refl _ _
  refine (szLayers_u x0 Ap0a cp0a 1048576 _ (Hp0a.up hb) OK0.out (by omega) (by omega)).mono ?_
  rintro e u1 ⟨rfl, hbu1⟩
  have hb := bthen hb hbu1
  clear hbu1
  by_cases hbig0 : (1048576 : Int) < (wtL x0 : Nat)
  · have HSZ := Lib.hid (szRes_lt hbig0)
    clear hbig0
    rw [HSZ.out]
    go_wp2
    go_ret
    exact ⟨rfl, bthen HW0.out hb⟩
  have SM0 : Hid (smLayers x0) := Lib.hid (smLayers_of OK0.out (by omega))
  have HSZ0 := Lib.hid (szRes_ge hbig0)
  rw [HSZ0.out]
  obtain ⟨left0, hl0⟩ : ∃ l : Int, l = (1048576 - (wtL x0 : Nat)) := ⟨_, rfl⟩
  rw [← hl0]
  have hln0 : 0 ≤ left0 := by omega
  have hlm0 : left0 ≤ 1048576 := by omega
  clear hbig0 hl0
  have s1_0 : u1.cell? ⟨W.heap.size, 0, none⟩ = some (.string x1.name) := (hb.cell (p := ⟨W.heap.size, 0, none⟩) hSlt1).trans (cell_of_block HS1.out 0).1
  have s1_1 : u1.cell? ⟨W.heap.size, 1, none⟩ = some (.int .i64 x1.wide) := (hb.cell (p := ⟨W.heap.size, 1, none⟩) hSlt1).trans (cell_of_block HS1.out 1).1
  go_wp2_with fail
  clear s1_0 s1_1
  refine (szDecl_any x1 left0 _ (by have := OK1.out.1; unfold maxLen at this; omega) hln0 hlm0).mono ?_
  rintro e u2 ⟨rfl, hbu2⟩
  have hb := bthen hb hbu2
  clear hbu2
  by_cases hbig1 : (left0 : Int) < (D.w x1 : Nat)
  · have HSZ := Lib.hid (szRes_lt hbig1)
    clear hbig1
    rw [HSZ.out]
    go_wp2
    go_ret
    exact ⟨rfl, bthen HW0.out hb⟩
  have SM1 : Hid (smD x1) := Lib.hid (smD_of OK1.out (by omega))
  have HSZ1 := Lib.hid (szRes_ge hbig1)
  rw [HSZ1.out]
  have hln9 : (0 : Int) ≤ (left0 - (D.w x1 : Nat)) := by omega
  clear hbig1
  generalize hr9 : ctxName x0 x1 = r9 at *
  have HR9 := Lib.hid hr9
  clear hr9
  have HRS0 := Lib.hid (show smR r9.1 by rw [← HR9.out]; exact ctxName_sm SM0.out)
  have hne1 : (r9.2 != r9.2) = false := by simp
  have s1_0 : u2.cell? ⟨W.heap.size, 0, none⟩ = some (.string x1.name) := (hb.cell (p := ⟨W.heap.size, 0, none⟩) hSlt1).trans (cell_of_block HS1.out 0).1
  have s1_1 : u2.cell? ⟨W.heap.size, 1, none⟩ = some (.int .i64 x1.wide) := (hb.cell (p := ⟨W.heap.size, 1, none⟩) hSlt1).trans (cell_of_block HS1.out 1).1
  have dd0 := Later.cell s1_0
  have dd1 := Later.cell s1_1
  go_wp2
  clear s1_0 s1_1
  refine wp_region_shares [[], [(0, 27)], [], [(2, 29)], [(1, 28), (3, 30)], [(4, 31)], [(5, 26)], [(5, 26)], [(6, 32)], [(7, 33)]]
    [.eq (.slice Ap0a x0.length cp0a), Fact.copyLy x0, .eq (.agg #[.string x1.name, .int .i64 x1.wide]), .eq (.agg #[.string x1.name, .int .i64 x1.wide]), Fact.pairR u2 r9, Fact.pairR u2 r9, Fact.oneR u2 r9, .eq (.bool r9.2), Fact.oneR u2 r9, .eq (.bool r9.2)]
    [] [] [] [8, 9] [(0, 27), (1, 28), (2, 29), (3, 30), (4, 31), (5, 26), (6, 32), (7, 33), (8, 6), (9, 7)] (by kernel_rfl) (by kernel_rfl) (by kernel_rfl) (by kernel_rfl)
    ⟨?_, ?_, ?_, ?_, ?_, ?_, ?_, ?_, ?_, ?_, trivial⟩ ?_
  · intro vals u3 hC hF
    simp only [putsD, Act.put, List.setIfInBounds_toArray, List.set_cons_zero, List.set_cons_succ]
    go_wp2
    exact ⟨rfl, rfl, .inr (Below.refl _ _), .inr (.inl (by simp))⟩
  · intro vals u3 hC hF
    have hC := hC.resolve_left (by simp)
    have hsz := hC.size
    simp only [factsD, List.getD_cons_zero, List.getD_cons_succ, Fact.eq, Fact.row, Fact.lit, Fact.lit0, Fact.of, and_true, Fact.copyLy, Fact.pairR, Fact.oneR] at hF
    have e1 := hF
    simp only [putsD, Act.put, List.setIfInBounds_toArray, List.set_cons_zero, List.set_cons_succ]
    simp only [e1]
    go_wp2_with fail
    refine (toLayers_u x0 Ap0a cp0a _ (Hp0a.up (bthen hb hC)) SM0.out).mono ?_
    rintro e wx ⟨A8, c8, rfl, hc8, s8, hb8⟩
    have R8 := Lib.hid s8.own_rd
    clear s8
    go_wp2
    exact ⟨rfl, ⟨A8, c8, rfl, hc8, R8.out⟩, .inr hb8, .inr (.inl (by simp))⟩
  · intro vals u3 hC hF
    have hC := hC.resolve_left (by simp)
    have hsz := hC.size
    have e1 : u3.cell? _ = _ := dd0 ⟨u3, hC⟩
    have e2 : u3.cell? _ = _ := dd1 ⟨u3, hC⟩
    simp only [putsD, Act.put, List.setIfInBounds_toArray, List.set_cons_zero, List.set_cons_succ]
    go_wp2
    exact ⟨rfl, rfl, .inr (Below.refl _ _), .inr (.inl (by simp))⟩
  · intro vals u3 hC hF
    have hC := hC.resolve_left (by simp)
    have hsz := hC.size
    simp only [factsD, List.getD_cons_zero, List.getD_cons_succ, Fact.eq, Fact.row, Fact.lit, Fact.lit0, Fact.of, and_true, Fact.copyLy, Fact.pairR, Fact.oneR] at hF
    have e1 := hF
    simp only [putsD, Act.put, List.setIfInBounds_toArray, List.set_cons_zero, List.set_cons_succ]
    simp only [e1]
    go_wp2_with fail
    refine (toDecl_any x1 _).mono ?_
    rintro e wx ⟨rfl, hb9⟩
    go_wp2
    exact ⟨rfl, rfl, .inr hb9, .inr (.inl (by simp))⟩
  · intro vals u3 hC hF
    have hC := hC.resolve_left (by simp)
    have hsz := hC.size
    simp only [factsD, List.getD_cons_zero, List.getD_cons_succ, Fact.eq, Fact.row, Fact.lit, Fact.lit0, Fact.of, and_true, Fact.copyLy, Fact.pairR, Fact.oneR] at hF
    obtain ⟨⟨A8, c8, e1, hc8, R8⟩, e2⟩ := hF
    simp only [putsD, Act.put, List.setIfInBounds_toArray, List.set_cons_zero, List.set_cons_succ]
    simp only [e1, e2]
    have R8 := Lib.hid R8
    go_wp2_with fail
    refine (specCtxName_u x0 x1 A8 c8 _ R8.out hc8 SM0.out SM1.out).mono ?_
    rw [HR9.out]
    rintro e wx ⟨A9, c9, rfl, hc9, h9, hb9⟩
    have HH := Lib.hid (And.intro hc9 (And.intro (h9) (bthen hC hb9)))
    have HB9 := Lib.hid hb9
    clear hc9 h9 hb9
    go_wp2
    exact ⟨rfl, ⟨A9, c9, rfl, HH.out.1, HH.out.2.1, HH.out.2.2⟩, .inr HB9.out, .inr (.inl (by simp))⟩
  · intro vals u3 hC hF
    have hC := hC.resolve_left (by simp)
    have hsz := hC.size
    simp only [factsD, List.getD_cons_zero, List.getD_cons_succ, Fact.eq, Fact.row, Fact.lit, Fact.lit0, Fact.of, and_true, Fact.copyLy, Fact.pairR, Fact.oneR] at hF
    obtain ⟨A9, c9, e1, hh⟩ := hF
    simp only [putsD, Act.put, List.setIfInBounds_toArray, List.set_cons_zero, List.set_cons_succ]
    simp only [e1]
    go_wp2
    exact ⟨rfl, ⟨A9, c9, rfl, hh⟩, .inr (Below.refl _ _), .inr (.inl (by simp))⟩
  · intro vals u3 hC hF
    have hC := hC.resolve_left (by simp)
    have hsz := hC.size
    simp only [factsD, List.getD_cons_zero, List.getD_cons_succ, Fact.eq, Fact.row, Fact.lit, Fact.lit0, Fact.of, and_true, Fact.copyLy, Fact.pairR, Fact.oneR] at hF
    obtain ⟨A9, c9, e1, hh⟩ := hF
    simp only [putsD, Act.put, List.setIfInBounds_toArray, List.set_cons_zero, List.set_cons_succ]
    simp only [e1]
    go_wp2
    exact ⟨rfl, ⟨A9, c9, rfl, hh⟩, .inr (Below.refl _ _), .inr (.inl (by simp))⟩
  · intro vals u3 hC hF
    simp only [factsD, List.getD_cons_zero, List.getD_cons_succ, Fact.eq, Fact.row, Fact.lit, Fact.lit0, Fact.of, and_true, Fact.copyLy, Fact.pairR, Fact.oneR] at hF
    obtain ⟨A9, c9, e1, hh⟩ := hF
    simp only [putsD, Act.put, List.setIfInBounds_toArray, List.set_cons_zero, List.set_cons_succ]
    simp only [e1]
    go_wp2
    exact ⟨rfl, rfl, .inr (Below.refl _ _), .inr (.inl (by simp))⟩
  · intro vals u3 hC hF
    have hC := hC.resolve_left (by simp)
    have hsz := hC.size
    simp only [factsD, List.getD_cons_zero, List.getD_cons_succ, Fact.eq, Fact.row, Fact.lit, Fact.lit0, Fact.of, and_true, Fact.copyLy, Fact.pairR, Fact.oneR] at hF
    obtain ⟨A9, c9, e1, hh⟩ := hF
    simp only [putsD, Act.put, List.setIfInBounds_toArray, List.set_cons_zero, List.set_cons_succ]
    simp only [e1]
    go_wp2
    exact ⟨rfl, ⟨A9, c9, rfl, hh⟩, .inr (Below.refl _ _), .inr (.inl (by simp))⟩
  · intro vals u3 hC hF
    simp only [factsD, List.getD_cons_zero, List.getD_cons_succ, Fact.eq, Fact.row, Fact.lit, Fact.lit0, Fact.of, and_true, Fact.copyLy, Fact.pairR, Fact.oneR] at hF
    have e1 := hF
    simp only [putsD, Act.put, List.setIfInBounds_toArray, List.set_cons_zero, List.set_cons_succ]
    simp only [e1]
    go_wp2
    exact ⟨rfl, rfl, .inr (Below.refl _ _), .inr (.inl (by simp))⟩
  · intro vals u3 hF
    simp only [facts, List.getD_cons_zero, List.getD_cons_succ, Fact.eq, Fact.row, Fact.lit, Fact.lit0, Fact.of, and_true, Fact.copyLy, Fact.pairR, Fact.oneR] at hF
    obtain ⟨⟨Aw0a, cw0a, e6, hcw0a, sw0a, hb9⟩, e7⟩ := hF
    simp only [putsD, Act.put, List.setIfInBounds_toArray, List.set_cons_zero, List.set_cons_succ]
    simp only [e6, e7]
    clear e6 e7 dd0 dd1
    have hb := bthen hb hb9
    clear hb9
    have Rw0a := sw0a.cp_of
    clear sw0a
    go_wp2_with fail
    have z0 : W0.heap.size ≤ u3.heap.size := hb.size
    have hs : Below u3.heap.size u3 u3 := Below.refl _ _
    refine (toLayers_u x0 Ap0a cp0a _ (Hp0a.up hb) SM0.out).mono ?_
    rintro e u4 ⟨Ak0a, ck0a, rfl, hck0a, sk0a, hbk0⟩
    have hb := bthen hb hbk0
    have hs := bthen hs hbk0
    have Rw0a := Rw0a.cp_up hbk0
    clear hbk0
    have s1_0 : u4.cell? ⟨W.heap.size, 0, none⟩ = some (.string x1.name) := (hb.cell (p := ⟨W.heap.size, 0, none⟩) hSlt1).trans (cell_of_block HS1.out 0).1
    have s1_1 : u4.cell? ⟨W.heap.size, 1, none⟩ = some (.int .i64 x1.wide) := (hb.cell (p := ⟨W.heap.size, 1, none⟩) hSlt1).trans (cell_of_block HS1.out 1).1
    go_wp2_with fail
    clear s1_0 s1_1
    refine (toDecl_any x1 _).mono ?_
    rintro e u5 ⟨rfl, hb9⟩
    have hb := bthen hb hb9
    have hs := bthen hs hb9
    have Rw0a := Rw0a.cp_up hb9
    have sk0a := sk0a.own_up hb9
    clear hb9
    go_wp2_with fail
    have Rk0a := sk0a.cp_of
    clear sk0a
    have z1 : u3.heap.size ≤ u5.heap.size := hs.size
    clear hs
    have hs : Below u5.heap.size u5 u5 := Below.refl _ _
    refine (implCtxName_u x0 x1 Ak0a ck0a _ Rk0a.cp_rd hck0a SM0.out SM1.out).mono ?_
    rw [HR9.out]
    rintro e u6 ⟨Ag0a, cg0a, rfl, hcg0a, sg0a, hb9⟩
    have hb := bthen hb hb9
    have hs := bthen hs hb9
    have Rw0a := Rw0a.cp_up hb9
    have Rk0a := Rk0a.cp_up hb9
    clear hb9
    have Rg0a := sg0a.cp_of
    clear sg0a
    have z2 : u5.heap.size ≤ u6.heap.size := hs.size
    clear hs
    have hs : Below u6.heap.size u6 u6 := Below.refl _ _
    go_wp2_with fail
    refine (eqLayersR_u r9.1 Ag0a Aw0a cg0a cw0a _ Rg0a.cp_rd Rw0a.cp_rd HRS0.out).mono ?_
    rintro e u7 ⟨rfl, hb9⟩
    have hb := bthen hb hb9
    have hs := bthen hs hb9
    have Rw0a := Rw0a.cp_up hb9
    have Rk0a := Rk0a.cp_up hb9
    have Rg0a := Rg0a.cp_up hb9
    clear hb9
    go_wp2_with fail
    refine (toLayers_u x0 Ap0a cp0a _ (Hp0a.up hb) SM0.out).mono ?_
    rintro e u8 ⟨Ay0a, cy0a, rfl, hcy0a, sy0a, hby0⟩
    have hb := bthen hb hby0
    have hs := bthen hs hby0
    have Rw0a := Rw0a.cp_up hby0
    have Rk0a := Rk0a.cp_up hby0
    have Rg0a := Rg0a.cp_up hby0
    clear hby0
    go_wp2_with fail
    refine (eqLayers_u x0 Ak0a Ay0a ck0a cy0a _ Rk0a.cp_rd sy0a.own_rd SM0.out).mono ?_
    rintro e u9 ⟨rfl, hb9⟩
    clear sy0a
    have hb := bthen hb hb9
    have hs := bthen hs hb9
    have Rw0a := Rw0a.cp_up hb9
    have Rk0a := Rk0a.cp_up hb9
    have Rg0a := Rg0a.cp_up hb9
    clear hb9
    go_wp2_with fail
    refine (markLayers_u x0 Ak0a ck0a _ _ 1 _ Rk0a SM0.out (by omega) (by omega)).mono ?_
    rintro e u10 ⟨rfl, hd, _⟩
    clear hs
    have Rw0a := Rw0a.cp_dab hd (by intro b h1 h2 h3; have := h3.1; have := h3.2; omega)
    clear Rk0a
    have Rg0a := Rg0a.cp_dab hd (by intro b h1 h2 h3; have := h3.1; have := h3.2; omega)
    have hb := below_rng hb hd hb.size (by omega)
    clear hd
    obtain ⟨k9_1, hk9, hk9a, hk9b⟩ : ∃ k9 : Int, k9 = 1 + (mwL x0 : Nat) ∧ 1 ≤ k9 ∧ k9 ≤ 10000000 := ⟨_, rfl, by omega, by have := SM0.out.2.2.1; omega⟩
    rw [← hk9]
    clear hk9
    go_wp2_with fail
    refine (eqLayersR_u r9.1 Ag0a Aw0a cg0a cw0a _ Rg0a.cp_rd Rw0a.cp_rd HRS0.out).mono ?_
    rintro e u11 ⟨rfl, hb9⟩
    have hb := bthen hb hb9
    have Rw0a := Rw0a.cp_up hb9
    have Rg0a := Rg0a.cp_up hb9
    clear hb9
    go_wp2_with fail
    refine (markLayersR_u r9.1 Ag0a cg0a _ _ 1 _ Rg0a HRS0.out (by omega) (by omega)).mono ?_
    rintro e u12 ⟨rfl, hd, RM0⟩
    have Rw0a := Rw0a.cp_dab hd (by intro b h1 h2 h3; have := h3.1; have := h3.2; omega)
    clear Rg0a
    have hb := below_rng hb hd hb.size (by omega)
    clear hd
    obtain ⟨m9, hm9, hm9a⟩ : ∃ m9 : Int, m9 = 1 + (mwL r9.1 : Nat) ∧ 0 ≤ m9 := ⟨_, rfl, by omega⟩
    rw [← hm9]
    have HM9 := Lib.hid hm9
    have hmm9 : (m9 != m9) = false := by simp
    clear hm9
    go_wp2_with fail
    refine (heldLayersR_u r9.1 Ag0a cg0a 1 _ RM0.cp_rd HRS0.out (by omega) (by omega)).mono ?_
    rw [← HM9.out]
    rintro e u13 ⟨rfl, hb9⟩
    have hb := bthen hb hb9
    have Rw0a := Rw0a.cp_up hb9
    have RM0 := RM0.cp_up hb9
    clear hb9
    have s1_0 : u13.cell? ⟨W.heap.size, 0, none⟩ = some (.string x1.name) := (hb.cell (p := ⟨W.heap.size, 0, none⟩) hSlt1).trans (cell_of_block HS1.out 0).1
    have s1_1 : u13.cell? ⟨W.heap.size, 1, none⟩ = some (.int .i64 x1.wide) := (hb.cell (p := ⟨W.heap.size, 1, none⟩) hSlt1).trans (cell_of_block HS1.out 1).1
    have dd0 := Later.cell s1_0
    have dd1 := Later.cell s1_1
    go_wp2
    clear s1_0 s1_1
    refine wp_region_shares [[], [(0, 85)], [], [(2, 87)], [(1, 86), (3, 88)], [(4, 89)], [(5, 84)], [(5, 84)], [(6, 90)], [(7, 91)]]
      [.eq (.slice Ap0a x0.length cp0a), Fact.copyLy x0, .eq (.agg #[.string x1.name, .int .i64 x1.wide]), .eq (.agg #[.string x1.name, .int .i64 x1.wide]), Fact.pairG u13 r9, Fact.pairG u13 r9, Fact.oneG u13 r9, .eq (.bool r9.2), Fact.oneG u13 r9, .eq (.bool r9.2)]
      [] [] [] [8, 9] [(0, 85), (1, 86), (2, 87), (3, 88), (4, 89), (5, 84), (6, 90), (7, 91), (8, 14), (9, 15)] (by kernel_rfl) (by kernel_rfl) (by kernel_rfl) (by kernel_rfl)
      ⟨?_, ?_, ?_, ?_, ?_, ?_, ?_, ?_, ?_, ?_, trivial⟩ ?_
    · intro vals u14 hC hF
      simp only [putsD, Act.put, List.setIfInBounds_toArray, List.set_cons_zero, List.set_cons_succ]
      go_wp2
      exact ⟨rfl, rfl, .inr (Below.refl _ _), .inr (.inl (by simp))⟩
    · intro vals u14 hC hF
      have hC := hC.resolve_left (by simp)
      have hsz := hC.size
      simp only [factsD, List.getD_cons_zero, List.getD_cons_succ, Fact.eq, Fact.row, Fact.lit, Fact.lit0, Fact.of, and_true, Fact.copyLy, Fact.pairG, Fact.oneG] at hF
      have e1 := hF
      simp only [putsD, Act.put, List.setIfInBounds_toArray, List.set_cons_zero, List.set_cons_succ]
      simp only [e1]
      go_wp2_with fail
      refine (toLayers_u x0 Ap0a cp0a _ (Hp0a.up (bthen hb hC)) SM0.out).mono ?_
      rintro e wx ⟨A8, c8, rfl, hc8, s8, hb8⟩
      have R8 := Lib.hid s8.own_rd
      clear s8
      go_wp2
      exact ⟨rfl, ⟨A8, c8, rfl, hc8, R8.out⟩, .inr hb8, .inr (.inl (by simp))⟩
    · intro vals u14 hC hF
      have hC := hC.resolve_left (by simp)
      have hsz := hC.size
      have e1 : u14.cell? _ = _ := dd0 ⟨u14, hC⟩
      have e2 : u14.cell? _ = _ := dd1 ⟨u14, hC⟩
      simp only [putsD, Act.put, List.setIfInBounds_toArray, List.set_cons_zero, List.set_cons_succ]
      go_wp2
      exact ⟨rfl, rfl, .inr (Below.refl _ _), .inr (.inl (by simp))⟩
    · intro vals u14 hC hF
      have hC := hC.resolve_left (by simp)
      have hsz := hC.size
      simp only [factsD, List.getD_cons_zero, List.getD_cons_succ, Fact.eq, Fact.row, Fact.lit, Fact.lit0, Fact.of, and_true, Fact.copyLy, Fact.pairG, Fact.oneG] at hF
      have e1 := hF
      simp only [putsD, Act.put, List.setIfInBounds_toArray, List.set_cons_zero, List.set_cons_succ]
      simp only [e1]
      go_wp2_with fail
      refine (toDecl_any x1 _).mono ?_
      rintro e wx ⟨rfl, hb9⟩
      go_wp2
      exact ⟨rfl, rfl, .inr hb9, .inr (.inl (by simp))⟩
    · intro vals u14 hC hF
      have hC := hC.resolve_left (by simp)
      have hsz := hC.size
      simp only [factsD, List.getD_cons_zero, List.getD_cons_succ, Fact.eq, Fact.row, Fact.lit, Fact.lit0, Fact.of, and_true, Fact.copyLy, Fact.pairG, Fact.oneG] at hF
      obtain ⟨⟨A8, c8, e1, hc8, R8⟩, e2⟩ := hF
      simp only [putsD, Act.put, List.setIfInBounds_toArray, List.set_cons_zero, List.set_cons_succ]
      simp only [e1, e2]
      have R8 := Lib.hid R8
      go_wp2_with fail
      refine (implCtxName_u x0 x1 A8 c8 _ R8.out hc8 SM0.out SM1.out).mono ?_
      rw [HR9.out]
      rintro e wx ⟨A9, c9, rfl, hc9, h9, hb9⟩
      have HH := Lib.hid (And.intro hc9 (And.intro (h9.low hsz) (bthen hC hb9)))
      have HB9 := Lib.hid hb9
      clear hc9 h9 hb9
      go_wp2
      exact ⟨rfl, ⟨A9, c9, rfl, HH.out.1, HH.out.2.1, HH.out.2.2⟩, .inr HB9.out, .inr (.inl (by simp))⟩
    · intro vals u14 hC hF
      have hC := hC.resolve_left (by simp)
      have hsz := hC.size
      simp only [factsD, List.getD_cons_zero, List.getD_cons_succ, Fact.eq, Fact.row, Fact.lit, Fact.lit0, Fact.of, and_true, Fact.copyLy, Fact.pairG, Fact.oneG] at hF
      obtain ⟨A9, c9, e1, hh⟩ := hF
      simp only [putsD, Act.put, List.setIfInBounds_toArray, List.set_cons_zero, List.set_cons_succ]
      simp only [e1]
      go_wp2
      exact ⟨rfl, ⟨A9, c9, rfl, hh⟩, .inr (Below.refl _ _), .inr (.inl (by simp))⟩
    · intro vals u14 hC hF
      have hC := hC.resolve_left (by simp)
      have hsz := hC.size
      simp only [factsD, List.getD_cons_zero, List.getD_cons_succ, Fact.eq, Fact.row, Fact.lit, Fact.lit0, Fact.of, and_true, Fact.copyLy, Fact.pairG, Fact.oneG] at hF
      obtain ⟨A9, c9, e1, hh⟩ := hF
      simp only [putsD, Act.put, List.setIfInBounds_toArray, List.set_cons_zero, List.set_cons_succ]
      simp only [e1]
      go_wp2
      exact ⟨rfl, ⟨A9, c9, rfl, hh⟩, .inr (Below.refl _ _), .inr (.inl (by simp))⟩
    · intro vals u14 hC hF
      simp only [factsD, List.getD_cons_zero, List.getD_cons_succ, Fact.eq, Fact.row, Fact.lit, Fact.lit0, Fact.of, and_true, Fact.copyLy, Fact.pairG, Fact.oneG] at hF
      obtain ⟨A9, c9, e1, hh⟩ := hF
      simp only [putsD, Act.put, List.setIfInBounds_toArray, List.set_cons_zero, List.set_cons_succ]
      simp only [e1]
      go_wp2
      exact ⟨rfl, rfl, .inr (Below.refl _ _), .inr (.inl (by simp))⟩
    · intro vals u14 hC hF
      have hC := hC.resolve_left (by simp)
      have hsz := hC.size
      simp only [factsD, List.getD_cons_zero, List.getD_cons_succ, Fact.eq, Fact.row, Fact.lit, Fact.lit0, Fact.of, and_true, Fact.copyLy, Fact.pairG, Fact.oneG] at hF
      obtain ⟨A9, c9, e1, hh⟩ := hF
      simp only [putsD, Act.put, List.setIfInBounds_toArray, List.set_cons_zero, List.set_cons_succ]
      simp only [e1]
      go_wp2
      exact ⟨rfl, ⟨A9, c9, rfl, hh⟩, .inr (Below.refl _ _), .inr (.inl (by simp))⟩
    · intro vals u14 hC hF
      simp only [factsD, List.getD_cons_zero, List.getD_cons_succ, Fact.eq, Fact.row, Fact.lit, Fact.lit0, Fact.of, and_true, Fact.copyLy, Fact.pairG, Fact.oneG] at hF
      have e1 := hF
      simp only [putsD, Act.put, List.setIfInBounds_toArray, List.set_cons_zero, List.set_cons_succ]
      simp only [e1]
      go_wp2
      exact ⟨rfl, rfl, .inr (Below.refl _ _), .inr (.inl (by simp))⟩
    · intro vals u14 hF
      simp only [facts, List.getD_cons_zero, List.getD_cons_succ, Fact.eq, Fact.row, Fact.lit, Fact.lit0, Fact.of, and_true, Fact.copyLy, Fact.pairG, Fact.oneG] at hF
      obtain ⟨⟨Ah0a, ch0a, e6, hch0a, sh0a, hb9⟩, e7⟩ := hF
      simp only [putsD, Act.put, List.setIfInBounds_toArray, List.set_cons_zero, List.set_cons_succ]
      simp only [e6, e7]
      clear e6 e7 dd0 dd1
      have hb := bthen hb hb9
      have Rw0a := Rw0a.cp_up hb9
      have RM0 := RM0.cp_up hb9
      clear hb9
      have Rh0a := sh0a.cp_of
      clear sh0a
      go_wp2_with fail
      refine (eqLayersR_u r9.1 Ah0a Aw0a ch0a cw0a _ Rh0a.cp_rd Rw0a.cp_rd HRS0.out).mono ?_
      rintro e u15 ⟨rfl, hb9⟩
      have hb := bthen hb hb9
      have Rw0a := Rw0a.cp_up hb9
      have RM0 := RM0.cp_up hb9
      have Rh0a := Rh0a.cp_up hb9
      clear hb9
      go_wp2_with fail
      refine (heldLayersR_u r9.1 Ag0a cg0a 1 _ RM0.cp_rd HRS0.out (by omega) (by omega)).mono ?_
      rw [← HM9.out]
      rintro e u16 ⟨rfl, hb9⟩
      have hb := bthen hb hb9
      have Rw0a := Rw0a.cp_up hb9
      have RM0 := RM0.cp_up hb9
      have Rh0a := Rh0a.cp_up hb9
      clear hb9
      go_wp2
      go_ret
      exact ⟨rfl, bthen HW0.out hb⟩

set_option maxRecDepth 100000 in
theorem fnExactCtxName_lifted (os : Os) (started : os.Started) (H : Type) (enc : TypeId × Value → H) :
    ReturnsInHanded {} Tryz.checked os 5 .any (fun w args => (Rows.fnExactCtxNameSpec.pre enc Tryz.prog Tryz.f5 [] false w args ∧ laidMetH Tryz.prog laidU w) ∧ sizedMet enc Tryz.prog Tryz.f5 (OpenSpec.ofChange Rows.fnExactCtxNameSpec) false w args)
      (Rows.fnExactCtxNameSpec.post enc Tryz.prog Tryz.f5 false true false false) := by
  refine returnsInHanded_of_change_and (C := Tryz.checked) (X := fun w _ => laidMetH Tryz.prog laidU w) (fun _ _ _ hh h => h.of_heap hh) dr_own started (by kernel_rfl) Tryz.func5
    (ChangeSpec.witness_shaped (enc := enc) (C := Tryz.checked) (os := os) (X := fun w _ => laidMetH Tryz.prog laidU w) false (World.laidAll Tryz.prog os laidU) #[.slice none 0 0, .agg #[.string ⟨#[]⟩, .int .i64 0]] 16 (World.laidAll_os _ _ _) (World.shaped_of_ZipB (by kernel_rfl) (by kernel_rfl)) (by kernel_rfl) (by kernel_rfl) (by kernel_rfl)
      (by rw [MakeChecks.laidMetH_plain _ _ _ (by kernel_rfl)]; exact laidMet_laidAll _ (by kernel_rfl) (by kernel_rfl))) ?_
  intro W base args ds gs before hval0 hW _ _ hL _
  have hval : ∀ (j : Nat) t v, Tryz.f5.params[j]? = some t → args[j]? = some v → Value.okWide Tryz.prog W .any base t v := hval0
  have hW' := hW
  obtain ⟨p, q, hA0, hV, rfl, hfz, hnd⟩ := hW
  have hA : DataW.TrodAll enc Tryz.prog W 0 (fun _ => true) true Tryz.f5.params.toList args.toList ds p := hA0
  rw [Tryz.params5] at hA hval
  obtain ⟨v0, vs0, d0, ds0, p0, q0, hargs, rfl, rfl, h0, r0⟩ := trodAll_cons hA
  obtain ⟨v1, vs1, d1, ds1, p1, q1, rfl, rfl, rfl, h1, r1⟩ := trodAll_cons r0
  obtain ⟨rfl, rfl, rfl⟩ := trodAll_nil r1
  obtain rfl : args = #[v0, v1] := by cases args; simp_all
  obtain ⟨rfl, rfl⟩ := trodVars_none hV
  have k0 := h0
  have lt0 : ∀ x ∈ p0, x.block < W.heap.size := by obtain ⟨m, hm⟩ := k0; exact DataW.trod_lt m _ _ _ hm
  have k1 := h1
  have lt1 : ∀ x ∈ p1, x.block < W.heap.size := by obtain ⟨m, hm⟩ := k1; exact DataW.trod_lt m _ _ _ hm
  obtain ⟨A0, c0, x0, rfl, hc0, ok0, rd0⟩ := open_arg Tryz.underlying22 opens_layers (hval 0 22 v0 rfl rfl) h0
  obtain ⟨x1, rfl, ok1⟩ := open_declv (hval 1 36 v1 rfl rfl) h1
  clear hA0 hval0
  refine (fnExactCtxName_walk W hc0 ok0 rd0 ok1).mono fun e W' ⟨he, bel⟩ => ?_
  subst he
  exact ⟨_, rfl, _, _, _, [], _, [], hW', trodAll_mk1 (shut_bool Tryz.underlying4 _), (trodAll_cons_mk (Below.trod (by kernel_rfl) (by kernel_rfl) (of_decide_eq_true (by kernel_rfl)) k0 bel lt0) (trodAll_cons_mk (Below.trod (by kernel_rfl) (by kernel_rfl) (of_decide_eq_true (by kernel_rfl)) k1 bel lt1) trodAll_mk0)), rfl, bel.frame _, fun h => by cases h⟩

/-- The given row. -/
theorem fnExactCtxName_row : Rows.FnExactCtxNameSaid :=
  OpenClaim.holds_of_wide 5 Tryz.f5 rfl rfl rfl rfl rfl rfl rfl ⟨rfl, rfl, rfl, rfl, rfl⟩ rfl rfl rfl rfl rfl (by kernel_rfl) Tryz.func5 (by kernel_rfl)
    (of_decide_eq_true (by kernel_rfl)) (by unfold Func.isWrapper; first | (rw [if_pos (by decide +kernel)]; kernel_rfl) | (rw [if_neg (by decide +kernel)]; exact ⟨rfl, rfl⟩))
    (fun os started H enc _ => fnExactCtxName_lifted os started H enc)
/-- The given statement: the row, what it lists tied to the program's text. -/
theorem fnExactCtxName_holds : Rows.FnExactCtxNameCardSaid :=
  Claim7.holds_tied_plain_at .later [] [.data, .pinned] true Rows.fnExactCtxNameCard.stood.harness Rows.fnExactCtxNameCard.stood.looks
    fnExactCtxName_row (fun _ h => by cases h) (by kernel_rfl) (fun _ h => by cases h) fnExactCtxName_row_tie rfl ⟨rfl, rfl⟩ (by kernel_rfl) rfl
    (fun f fn hf hfn => by
      obtain rfl : f = 5 := Option.some.inj ((show Tryz.prog.funcNamed "loop.example/seedlip/laws.FnExactCtxName" = some 5 by kernel_rfl).symm.trans hf) |>.symm
      obtain rfl : fn = Tryz.f5 := (Option.some.inj (Tryz.func5.symm.trans hfn)).symm
      exact ⟨by kernel_rfl, fun j t ht => by
        rw [Tryz.params5] at ht
        have hm : t ∈ [22, 36] := by simpa using Array.mem_of_getElem? ht
        have hall : ([22, 36].all fun u => !Tryz.prog.wantsStandIn u) = true := by kernel_rfl
        exact (show Tryz.prog.wantsStandIn t = false by simpa using List.all_eq_true.1 hall t hm)⟩)
    (by kernel_rfl)
#print axioms fnExactCtxName_holds
end Go.Proofs.YtiahmfpfimmbgaaGreatDoor
