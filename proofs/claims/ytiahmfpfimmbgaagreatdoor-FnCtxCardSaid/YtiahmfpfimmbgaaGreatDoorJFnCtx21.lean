/- The program's closure of CtxPop. CtxPop. The reference's draws of contexts: l10Act. -/
import Derived.Test.YtiahmfpfimmbgaaGreatDoorJFnCtx11
import Derived.Test.YtiahmfpfimmbgaaGreatDoorJFnCtx13
import Derived.Test.YtiahmfpfimmbgaaGreatDoorJFnCtx14
import Derived.Test.YtiahmfpfimmbgaaGreatDoorJFnCtx19
import Derived.Test.YtiahmfpfimmbgaaGreatDoorJFnCtx20
/-! The program's closure of CtxPop. -/
namespace Go.Proofs.YtiahmfpfimmbgaaGreatDoor
open Go Go.RowKit

/-- The stack while its two lists are cut. -/
def PopI (lo : Nat) (W : World) (p g : Nat) (ds dx : List D) (ts tx : List T) (ms : List (Int × Int)) (A1 A2 : Option Addr) (c1 c2 c3 : Nat) (fa fb : Bool) (x : World) : Prop :=
  Below lo W x ∧ Stk lo x p (if fa then dx else ds) (if fb then tx else ts) ms A1 A2 (some ⟨g, 0, none⟩) c1 c2 c3
section
variable {lo p g : Nat} {W x x' : World} {ds dx : List D} {ts tx : List T} {ms : List (Int × Int)} {A1 A2 : Option Addr} {c1 c2 c3 : Nat} {fa fb : Bool}
theorem PopI.up (h : PopI lo W p g ds dx ts tx ms A1 A2 c1 c2 c3 fa fb x) (hb : Below x.heap.size x x') : PopI lo W p g ds dx ts tx ms A1 A2 c1 c2 c3 fa fb x' :=
  ⟨h.1.trans (hb.mono h.2.loW), h.2.up hb⟩
theorem PopI.at (h : PopI lo W p g ds dx ts tx ms A1 A2 c1 c2 c3 fa fb x) (ha : fa = false) (hb : fb = false) : Stk lo x p ds ts ms A1 A2 (some ⟨g, 0, none⟩) c1 c2 c3 := by subst ha hb; exact h.2
theorem PopI.cutD (h : PopI lo W p g ds dx ts tx ms A1 A2 c1 c2 c3 fa fb x) (ha : fa = false) (hb : fb = false) {a : Nat} (hd : dx = ds.take a) (hl : a ≤ ds.length) : PopI lo W p g ds dx ts tx ms A1 A2 c1 c2 c3 true fb (x.setCell ⟨p, 0, none⟩ (.slice A1 dx.length c1)) := by
  subst ha hb hd
  exact ⟨below_set9 h.1 h.2.lop _, h.2.setD (World.grownBy.refl _ _) (h.2.ds.take a hl)⟩
theorem PopI.cutT (h : PopI lo W p g ds dx ts tx ms A1 A2 c1 c2 c3 fa fb x) (ha : fa = true) (hb : fb = false) {b : Nat} (hd : tx = ts.take b) (hl : b ≤ ts.length) : PopI lo W p g ds dx ts tx ms A1 A2 c1 c2 c3 fa true (x.setCell ⟨p, 1, none⟩ (.slice A2 tx.length c2)) := by
  subst ha hb hd
  exact ⟨below_set9 h.1 h.2.lop _, h.2.setT (World.grownBy.refl _ _) (h.2.ts.take b hl)⟩
end
theorem size_mark (W : World) : (sizeOf (Tryz.prog.elem 80)).run Tryz.prog W = .ok 2 W := by kernel_rfl
set_option maxRecDepth 100000 in
set_option maxHeartbeats 8000000 in
theorem chgPop_cut (lo p : Nat) (ds : List D) (ts : List T) (mx my : List (Int × Int)) (m : Int × Int) (w : World) (h : StkE lo w p ds ts (mx ++ [m])) (hmx : mx.length ≤ 1048576) (a b : Nat) (hm : mx = [] ∨ mx = my ++ [((a : Int), (b : Int))]) (ha : a ≤ ds.length) (hb : b ≤ ts.length) (hd9 : ds.length ≤ 1048576) (ht9 : ts.length ≤ 1048576) :
    Calls Tryz.prog 66 #[.pointer (some ⟨p, 0, none⟩)] w fun e w' => e = .returned (.tuple #[]) ∧ (mx = [] → StkE lo w' p ds ts []) ∧ (mx ≠ [] → StkE lo w' p (ds.take a) (ts.take b) mx) ∧ Below lo w w' := by
  obtain ⟨ms, hms⟩ : ∃ ms, ms = mx ++ [m] := ⟨_, rfl⟩
  rw [← hms] at h
  have HMS := Lib.hid hms
  have HM := Lib.hid hm
  obtain ⟨A1, A2, A3, c1, c2, c3, h⟩ := h
  have hml : ms.length = mx.length + 1 := by rw [hms]; simp
  obtain ⟨g, rfl⟩ := h.ms.first (by omega)
  have HTK : Hid (OwnR Lay.mark 90 w lo (.slice (some ⟨g, 0, none⟩) mx.length c3) mx) := Lib.hid (by
    have h9 := h.ms.take mx.length (by omega)
    rw [show ms.take mx.length = mx from by rw [hms]; simp] at h9
    exact h9)
  have HSLM : Hid (∀ W : World, (Instr.slice 80 (.slice (some ⟨g, 0, none⟩) ms.length c3) none (some (.int .i64 (mx.length : Int))) none).run Tryz.prog W = .ok (.slice (some ⟨g, 0, none⟩) mx.length c3) W) := Lib.hid (by
    have h9 := (slice_hR (t := 80) Tryz.underlying80 size_mark (OwnL.rd h.ms) mx.length (by omega) (OwnL.capl h.ms)).1
    rw [show ms.take mx.length = mx from by rw [hms]; simp] at h9
    exact h9)
  have HST := Lib.hid h
  have d2 := Later.cell (cell_of_block h.box 2).1
  have hn1 : (ms.length : Int) - 1 = (mx.length : Int) := by omega
  have hloW := h.loW
  have HML := Lib.hid hml
  have hmb : ms.length ≤ 1048577 := by omega
  clear hms h hm hml
  go_enter Tryz.func66, Tryz.ntmps66
  go_wp2
  refine wp_region_shares [[], [], [(1, 3)], [(2, 4)], [(3, 5)], [], [(5, 7)], [(6, 8)], [(7, 9)], [(8, 10)], [(9, 11)], [(4, 6), (10, 12)], [(0, 2)], [(12, 14)], [(13, 15), (11, 13)]]
    [.eq (.pointer (some ⟨p, 0, none⟩)), .eq (.pointer (some ⟨p, 0, none⟩)), .eq (.pointer (some ⟨p, 0, none⟩)), .eq (.pointer (some ⟨p, 2, none⟩)), .eq (.slice (some ⟨g, 0, none⟩) ms.length c3), .eq (.pointer (some ⟨p, 0, none⟩)), .eq (.pointer (some ⟨p, 0, none⟩)), .eq (.pointer (some ⟨p, 2, none⟩)), .eq (.slice (some ⟨g, 0, none⟩) ms.length c3), .eq (.int .i64 (ms.length : Int)), .eq (.int .i64 (mx.length : Int)), .eq (.slice (some ⟨g, 0, none⟩) mx.length c3), .eq (.pointer (some ⟨p, 0, none⟩)), .eq (.pointer (some ⟨p, 2, none⟩)), Fact.stk lo w p ds ts mx]
    [14] [14] [] [14] [(0, 2), (1, 3), (2, 4), (3, 5), (4, 6), (5, 7), (6, 8), (7, 9), (8, 10), (9, 11), (10, 12), (11, 13), (12, 14), (13, 15)] (by kernel_rfl) (by kernel_rfl) (by kernel_rfl) (by kernel_rfl)
    ⟨?_, ?_, ?_, ?_, ?_, ?_, ?_, ?_, ?_, ?_, ?_, ?_, ?_, ?_, ?_, trivial⟩ ?_
  · intro vals z hC hF
    simp only [putsD, Act.put, List.setIfInBounds_toArray, List.set_cons_zero, List.set_cons_succ]
    go_wp2
    exact ⟨rfl, rfl, .inr (Below.refl _ _), .inr (.inl (by simp))⟩
  · intro vals z hC hF
    simp only [putsD, Act.put, List.setIfInBounds_toArray, List.set_cons_zero, List.set_cons_succ]
    go_wp2
    exact ⟨rfl, rfl, .inr (Below.refl _ _), .inr (.inl (by simp))⟩
  · intro vals z hC hF
    simp only [factsD, List.getD_cons_zero, List.getD_cons_succ, Fact.eq, Fact.row, Fact.lit, Fact.lit0, Fact.of, and_true, Fact.stk] at hF
    simp only [putsD, Act.put, List.setIfInBounds_toArray, List.set_cons_zero, List.set_cons_succ]
    simp only [hF]
    go_wp2
    exact ⟨rfl, rfl, .inr (Below.refl _ _), .inr (.inl (by simp))⟩
  · intro vals z hC hF
    simp only [factsD, List.getD_cons_zero, List.getD_cons_succ, Fact.eq, Fact.row, Fact.lit, Fact.lit0, Fact.of, and_true, Fact.stk] at hF
    simp only [putsD, Act.put, List.setIfInBounds_toArray, List.set_cons_zero, List.set_cons_succ]
    simp only [hF]
    go_wp2
    exact ⟨rfl, rfl, .inr (Below.refl _ _), .inr (.inl (by simp))⟩
  · intro vals z hC hF
    have hC := hC.resolve_left (by simp)
    have hsz := hC.size
    have e1 : z.cell? _ = _ := d2 ⟨z, hC⟩
    simp only [factsD, List.getD_cons_zero, List.getD_cons_succ, Fact.eq, Fact.row, Fact.lit, Fact.lit0, Fact.of, and_true, Fact.stk] at hF
    simp only [putsD, Act.put, List.setIfInBounds_toArray, List.set_cons_zero, List.set_cons_succ]
    simp only [hF]
    go_wp2
    exact ⟨rfl, rfl, .inr (Below.refl _ _), .inr (.inl (by simp))⟩
  · intro vals z hC hF
    simp only [putsD, Act.put, List.setIfInBounds_toArray, List.set_cons_zero, List.set_cons_succ]
    go_wp2
    exact ⟨rfl, rfl, .inr (Below.refl _ _), .inr (.inl (by simp))⟩
  · intro vals z hC hF
    simp only [factsD, List.getD_cons_zero, List.getD_cons_succ, Fact.eq, Fact.row, Fact.lit, Fact.lit0, Fact.of, and_true, Fact.stk] at hF
    simp only [putsD, Act.put, List.setIfInBounds_toArray, List.set_cons_zero, List.set_cons_succ]
    simp only [hF]
    go_wp2
    exact ⟨rfl, rfl, .inr (Below.refl _ _), .inr (.inl (by simp))⟩
  · intro vals z hC hF
    simp only [factsD, List.getD_cons_zero, List.getD_cons_succ, Fact.eq, Fact.row, Fact.lit, Fact.lit0, Fact.of, and_true, Fact.stk] at hF
    simp only [putsD, Act.put, List.setIfInBounds_toArray, List.set_cons_zero, List.set_cons_succ]
    simp only [hF]
    go_wp2
    exact ⟨rfl, rfl, .inr (Below.refl _ _), .inr (.inl (by simp))⟩
  · intro vals z hC hF
    have hC := hC.resolve_left (by simp)
    have hsz := hC.size
    have e1 : z.cell? _ = _ := d2 ⟨z, hC⟩
    simp only [factsD, List.getD_cons_zero, List.getD_cons_succ, Fact.eq, Fact.row, Fact.lit, Fact.lit0, Fact.of, and_true, Fact.stk] at hF
    simp only [putsD, Act.put, List.setIfInBounds_toArray, List.set_cons_zero, List.set_cons_succ]
    simp only [hF]
    go_wp2
    exact ⟨rfl, rfl, .inr (Below.refl _ _), .inr (.inl (by simp))⟩
  · intro vals z hC hF
    simp only [factsD, List.getD_cons_zero, List.getD_cons_succ, Fact.eq, Fact.row, Fact.lit, Fact.lit0, Fact.of, and_true, Fact.stk] at hF
    simp only [putsD, Act.put, List.setIfInBounds_toArray, List.set_cons_zero, List.set_cons_succ]
    simp only [hF]
    go_wp2
    exact ⟨rfl, rfl, .inr (Below.refl _ _), .inr (.inl (by simp))⟩
  · intro vals z hC hF
    simp only [factsD, List.getD_cons_zero, List.getD_cons_succ, Fact.eq, Fact.row, Fact.lit, Fact.lit0, Fact.of, and_true, Fact.stk] at hF
    simp only [putsD, Act.put, List.setIfInBounds_toArray, List.set_cons_zero, List.set_cons_succ]
    simp only [hF]
    go_wp2
    exact ⟨rfl, rfl, .inr (Below.refl _ _), .inr (.inl (by simp))⟩
  · intro vals z hC hF
    simp only [factsD, List.getD_cons_zero, List.getD_cons_succ, Fact.eq, Fact.row, Fact.lit, Fact.lit0, Fact.of, and_true, Fact.stk] at hF
    obtain ⟨e1, e2⟩ := hF
    have hsl := HSLM.out
    simp only [putsD, Act.put, List.setIfInBounds_toArray, List.set_cons_zero, List.set_cons_succ]
    simp only [e1, e2]
    go_wp2
    exact ⟨rfl, rfl, .inr (Below.refl _ _), .inr (.inl (by simp))⟩
  · intro vals z hC hF
    simp only [factsD, List.getD_cons_zero, List.getD_cons_succ, Fact.eq, Fact.row, Fact.lit, Fact.lit0, Fact.of, and_true, Fact.stk] at hF
    simp only [putsD, Act.put, List.setIfInBounds_toArray, List.set_cons_zero, List.set_cons_succ]
    simp only [hF]
    go_wp2
    exact ⟨rfl, rfl, .inr (Below.refl _ _), .inr (.inl (by simp))⟩
  · intro vals z hC hF
    simp only [factsD, List.getD_cons_zero, List.getD_cons_succ, Fact.eq, Fact.row, Fact.lit, Fact.lit0, Fact.of, and_true, Fact.stk] at hF
    simp only [putsD, Act.put, List.setIfInBounds_toArray, List.set_cons_zero, List.set_cons_succ]
    simp only [hF]
    go_wp2
    exact ⟨rfl, rfl, .inr (Below.refl _ _), .inr (.inl (by simp))⟩
  · intro vals z hC hF
    have hC := hC.resolve_left (by simp)
    have hsz := hC.size
    simp only [factsD, List.getD_cons_zero, List.getD_cons_succ, Fact.eq, Fact.row, Fact.lit, Fact.lit0, Fact.of, and_true, Fact.stk] at hF
    obtain ⟨e11, e8⟩ := hF
    have HS9 := HST.out.up hC
    have x1 := (cell_of_block HS9.box 2).1
    have x2 := (cell_of_block HS9.box 2).2
    have HSM := Lib.hid (HS9.setM (World.grownBy.refl _ _) (OwnR.up HTK.out hC))
    have HBL := Lib.hid (below_set9 (p := ⟨p, 2, none⟩) (hC.mono hloW) HST.out.lop (.slice (some ⟨g, 0, none⟩) mx.length c3))
    have HLW := Lib.hid HS9.loW
    clear HS9
    simp only [putsD, Act.put, List.setIfInBounds_toArray, List.set_cons_zero, List.set_cons_succ]
    simp only [e11, e8]
    go_wp2
    exact ⟨rfl, ⟨⟨_, _, _, _, _, _, HSM.out⟩, HBL.out, by rw [size_setCell]; exact HLW.out⟩, .inl (by simp), .inl (by simp)⟩
  · intro vals z hF
    simp only [facts, List.getD_cons_zero, List.getD_cons_succ, Fact.eq, Fact.row, Fact.lit, Fact.lit0, Fact.of, and_true, Fact.stk] at hF
    obtain ⟨hS9, hB9, _⟩ := hF
    simp only [putsD, Act.put, List.setIfInBounds_toArray, List.set_cons_zero, List.set_cons_succ]
    obtain ⟨B1, B2, B3, b1, b2, b3, hS⟩ := hS9
    have v2 := (cell_of_block hS.box 2).1
    have HSS := Lib.hid hS
    have HBB := Lib.hid hB9
    clear hS hB9 d2
    rcases HM.out with hm | hm
    · subst hm
      have v2 : z.cell? ⟨p, 2, none⟩ = some (.slice B3 0 b3) := v2
      go_wp2
      go_returns
      exact ⟨rfl, ⟨_, _, _, _, _, _, HSS.out⟩, HBB.out⟩
    · have hmn : mx ≠ [] := fun e => by rw [e] at hm; exact absurd hm.symm (by simp)
      have hmyl : mx.length = my.length + 1 := by rw [hm]; simp
      have hat : mx[my.length]'(by omega) = ((a : Int), (b : Int)) := by simp only [hm]; exact last_at my _ _
      obtain ⟨g2, rfl⟩ := HSS.out.ms.first (by omega)
      have hpos : (0 : Int) < (mx.length : Int) := by omega
      have hmk := HSS.out
      have hsd := (slice_hR (t := 55) Tryz.underlying55 size_decl (OwnL.rd hmk.ds) a ha (OwnL.capl hmk.ds)).1
      have hst := (slice_hR (t := 24) Tryz.underlying24 size_term (OwnL.rd hmk.ts) b hb (OwnL.capl hmk.ts)).1
      have hcd := OwnL.capl hmk.ds
      have hct := OwnL.capl hmk.ts
      obtain ⟨dx, hdx⟩ : ∃ dx, dx = ds.take a := ⟨_, rfl⟩
      obtain ⟨tx, htx⟩ : ∃ tx, tx = ts.take b := ⟨_, rfl⟩
      rw [← hdx] at hsd
      rw [← htx] at hst
      have HDX := Lib.hid hdx
      have HTX := Lib.hid htx
      have HSD := Lib.hid hsd
      have HSTT := Lib.hid hst
      have HAT : Hid (∀ (x : World), Stk lo x p ds ts mx B1 B2 (some ⟨g2, 0, none⟩) b1 b2 b3 → x.cell? ⟨g2, my.length * 2, none⟩ = some (.int .i64 (a : Int)) ∧ x.cell? ⟨g2, my.length * 2 + 1, none⟩ = some (.int .i64 (b : Int))) := Lib.hid (fun x hx => by
        obtain ⟨m1, m2, _⟩ := hx.ms.atMark (k := my.length) (by omega)
        rw [hat] at m1 m2
        exact ⟨m1, m2⟩)
      have HLA : Hid (∀ (x : World), Stk lo x p ds ts mx B1 B2 (some ⟨g2, 0, none⟩) b1 b2 b3 → Calls Tryz.prog 65 #[.pointer (some ⟨p, 0, none⟩)] x fun e w' => e = .returned (.pointer (some ⟨g2, my.length * 2, none⟩)) ∧ Below x.heap.size x w') := Lib.hid (fun x hx => last_any lo p g2 my.length ds ts mx B1 B2 b1 b2 b3 x hx hmyl (by omega))
      have HI0 : Hid (PopI lo w p g2 ds dx ts tx mx B1 B2 b1 b2 b3 false false z) := Lib.hid ⟨HBB.out, HSS.out⟩
      have HMN := Lib.hid hmn
      have HMYL := Lib.hid hmyl
      clear hm hat hmk hsd hst hdx htx hmn hmyl hn1
      go_wp2
      refine wp_region_rel4 [[], [], [], [(2, 24)], [(3, 25)], [(4, 26)], [], [(6, 28)], [(7, 29)], [(8, 30)], [(9, 31)], [(5, 27), (10, 32)], [], [(12, 34)], [(13, 35)], [(14, 36)], [], [(16, 38)], [(17, 39)], [(18, 40)], [(19, 41)], [(15, 37), (20, 42)], [(0, 22)], [(22, 44)], [(23, 45), (11, 33)], [(1, 23)], [(25, 46)], [(26, 47), (21, 43)]]
        (fun _ _ => True)
        []
        (fun f9 x9 => PopI lo w p g2 ds dx ts tx mx B1 B2 b1 b2 b3 (f9 24) (f9 27) x9)
        [fun vs9 _ => vs9 0 = (.pointer (some ⟨p, 0, none⟩)),
    fun vs9 _ => vs9 1 = (.pointer (some ⟨p, 0, none⟩)),
    fun vs9 _ => vs9 2 = (.pointer (some ⟨p, 0, none⟩)),
    fun vs9 _ => vs9 3 = (.pointer (some ⟨p, 0, none⟩)),
    fun vs9 _ => vs9 4 = (.pointer (some ⟨p, 0, none⟩)),
    fun vs9 _ => vs9 5 = (.slice B1 ds.length b1),
    fun vs9 _ => vs9 6 = (.pointer (some ⟨p, 0, none⟩)),
    fun vs9 _ => vs9 7 = (.pointer (some ⟨g2, my.length * 2, none⟩)),
    fun vs9 _ => vs9 8 = (.pointer (some ⟨g2, my.length * 2, none⟩)),
    fun vs9 _ => vs9 9 = (.pointer (some ⟨g2, my.length * 2, none⟩)),
    fun vs9 _ => vs9 10 = (.int .i64 (a : Int)),
    fun vs9 _ => vs9 11 = (.slice B1 dx.length b1),
    fun vs9 _ => vs9 12 = (.pointer (some ⟨p, 0, none⟩)),
    fun vs9 _ => vs9 13 = (.pointer (some ⟨p, 0, none⟩)),
    fun vs9 _ => vs9 14 = (.pointer (some ⟨p, 1, none⟩)),
    fun vs9 _ => vs9 15 = (.slice B2 ts.length b2),
    fun vs9 _ => vs9 16 = (.pointer (some ⟨p, 0, none⟩)),
    fun vs9 _ => vs9 17 = (.pointer (some ⟨g2, my.length * 2, none⟩)),
    fun vs9 _ => vs9 18 = (.pointer (some ⟨g2, my.length * 2, none⟩)),
    fun vs9 _ => vs9 19 = (.pointer (some ⟨g2, my.length * 2 + 1, none⟩)),
    fun vs9 _ => vs9 20 = (.int .i64 (b : Int)),
    fun vs9 _ => vs9 21 = (.slice B2 tx.length b2),
    fun vs9 _ => vs9 22 = (.pointer (some ⟨p, 0, none⟩)),
    fun vs9 _ => vs9 23 = (.pointer (some ⟨p, 0, none⟩)),
    fun _ _ => True,
    fun vs9 _ => vs9 25 = (.pointer (some ⟨p, 0, none⟩)),
    fun vs9 _ => vs9 26 = (.pointer (some ⟨p, 1, none⟩)),
    fun _ _ => True]
        [(0, 22), (1, 23), (2, 24), (3, 25), (4, 26), (5, 27), (6, 28), (7, 29), (8, 30), (9, 31), (10, 32), (11, 33), (12, 34), (13, 35), (14, 36), (15, 37), (16, 38), (17, 39), (18, 40), (19, 41), (20, 42), (21, 43), (22, 44), (23, 45), (25, 46), (26, 47)] (by kernel_rfl) (by kernel_rfl) (by kernel_rfl) (by kernel_rfl)
        (fun _ => trivial) trivial
        ⟨⟨.inr (fun _ _ _ h _ => h), trivial⟩,
    ⟨.inr (fun _ _ _ h _ => h), trivial⟩,
    ⟨.inr (fun _ _ _ h _ => h), trivial⟩,
    ⟨.inr (fun _ _ _ h _ => h), trivial⟩,
    ⟨.inr (fun _ _ _ h _ => h), trivial⟩,
    ⟨.inr (fun _ _ _ h _ => h), trivial⟩,
    ⟨.inr (fun _ _ _ h _ => h), trivial⟩,
    ⟨.inr (fun _ _ _ h _ => h), trivial⟩,
    ⟨.inr (fun _ _ _ h _ => h), trivial⟩,
    ⟨.inr (fun _ _ _ h _ => h), trivial⟩,
    ⟨.inr (fun _ _ _ h _ => h), trivial⟩,
    ⟨.inr (fun _ _ _ h _ => h), trivial⟩,
    ⟨.inr (fun _ _ _ h _ => h), trivial⟩,
    ⟨.inr (fun _ _ _ h _ => h), trivial⟩,
    ⟨.inr (fun _ _ _ h _ => h), trivial⟩,
    ⟨.inr (fun _ _ _ h _ => h), trivial⟩,
    ⟨.inr (fun _ _ _ h _ => h), trivial⟩,
    ⟨.inr (fun _ _ _ h _ => h), trivial⟩,
    ⟨.inr (fun _ _ _ h _ => h), trivial⟩,
    ⟨.inr (fun _ _ _ h _ => h), trivial⟩,
    ⟨.inr (fun _ _ _ h _ => h), trivial⟩,
    ⟨.inr (fun _ _ _ h _ => h), trivial⟩,
    ⟨.inr (fun _ _ _ h _ => h), trivial⟩,
    ⟨.inr (fun _ _ _ h _ => h), trivial⟩,
    ⟨.inr (fun _ _ _ h _ => h), trivial⟩,
    ⟨.inr (fun _ _ _ h _ => h), trivial⟩,
    ⟨.inr (fun _ _ _ h _ => h), trivial⟩,
    ⟨.inr (fun _ _ _ h _ => h), trivial⟩, trivial⟩ ⟨fun vs vs' x h _ hv => (by dsimp only at hv ⊢; first | (rw [← h]; exact hv) | exact hv),
    fun vs vs' x h _ hv => (by dsimp only at hv ⊢; first | (rw [← h]; exact hv) | exact hv),
    fun vs vs' x h _ hv => (by dsimp only at hv ⊢; first | (rw [← h]; exact hv) | exact hv),
    fun vs vs' x h _ hv => (by dsimp only at hv ⊢; first | (rw [← h]; exact hv) | exact hv),
    fun vs vs' x h _ hv => (by dsimp only at hv ⊢; first | (rw [← h]; exact hv) | exact hv),
    fun vs vs' x h _ hv => (by dsimp only at hv ⊢; first | (rw [← h]; exact hv) | exact hv),
    fun vs vs' x h _ hv => (by dsimp only at hv ⊢; first | (rw [← h]; exact hv) | exact hv),
    fun vs vs' x h _ hv => (by dsimp only at hv ⊢; first | (rw [← h]; exact hv) | exact hv),
    fun vs vs' x h _ hv => (by dsimp only at hv ⊢; first | (rw [← h]; exact hv) | exact hv),
    fun vs vs' x h _ hv => (by dsimp only at hv ⊢; first | (rw [← h]; exact hv) | exact hv),
    fun vs vs' x h _ hv => (by dsimp only at hv ⊢; first | (rw [← h]; exact hv) | exact hv),
    fun vs vs' x h _ hv => (by dsimp only at hv ⊢; first | (rw [← h]; exact hv) | exact hv),
    fun vs vs' x h _ hv => (by dsimp only at hv ⊢; first | (rw [← h]; exact hv) | exact hv),
    fun vs vs' x h _ hv => (by dsimp only at hv ⊢; first | (rw [← h]; exact hv) | exact hv),
    fun vs vs' x h _ hv => (by dsimp only at hv ⊢; first | (rw [← h]; exact hv) | exact hv),
    fun vs vs' x h _ hv => (by dsimp only at hv ⊢; first | (rw [← h]; exact hv) | exact hv),
    fun vs vs' x h _ hv => (by dsimp only at hv ⊢; first | (rw [← h]; exact hv) | exact hv),
    fun vs vs' x h _ hv => (by dsimp only at hv ⊢; first | (rw [← h]; exact hv) | exact hv),
    fun vs vs' x h _ hv => (by dsimp only at hv ⊢; first | (rw [← h]; exact hv) | exact hv),
    fun vs vs' x h _ hv => (by dsimp only at hv ⊢; first | (rw [← h]; exact hv) | exact hv),
    fun vs vs' x h _ hv => (by dsimp only at hv ⊢; first | (rw [← h]; exact hv) | exact hv),
    fun vs vs' x h _ hv => (by dsimp only at hv ⊢; first | (rw [← h]; exact hv) | exact hv),
    fun vs vs' x h _ hv => (by dsimp only at hv ⊢; first | (rw [← h]; exact hv) | exact hv),
    fun vs vs' x h _ hv => (by dsimp only at hv ⊢; first | (rw [← h]; exact hv) | exact hv),
    fun _ _ _ _ _ _ => trivial,
    fun vs vs' x h _ hv => (by dsimp only at hv ⊢; first | (rw [← h]; exact hv) | exact hv),
    fun vs vs' x h _ hv => (by dsimp only at hv ⊢; first | (rw [← h]; exact hv) | exact hv),
    fun _ _ _ _ _ _ => trivial, trivial⟩ (HI0.out.up (below_drewN (Below.refl _ _) 1)) ⟨?_, ?_, ?_, ?_, ?_, ?_, ?_, ?_, ?_, ?_, ?_, ?_, ?_, ?_, ?_, ?_, ?_, ?_, ?_, ?_, ?_, ?_, ?_, ?_, ?_, ?_, ?_, ?_, trivial⟩ ?_
      · intro vals xw f hf1 hf2 hf3 hI hF
        clear hf2 hf3
        dsimp only [owes4, bare]
        simp only [putsD, Act.put, List.setIfInBounds_toArray, List.set_cons_zero, List.set_cons_succ]
        go_wp2
        exact ⟨rfl, rfl, trivial, hI⟩
      · intro vals xw f hf1 hf2 hf3 hI hF
        clear hf2 hf3
        dsimp only [owes4, bare]
        simp only [putsD, Act.put, List.setIfInBounds_toArray, List.set_cons_zero, List.set_cons_succ]
        go_wp2
        exact ⟨rfl, rfl, trivial, hI⟩
      · intro vals xw f hf1 hf2 hf3 hI hF
        clear hf2 hf3
        dsimp only [owes4, bare]
        simp only [putsD, Act.put, List.setIfInBounds_toArray, List.set_cons_zero, List.set_cons_succ]
        go_wp2
        exact ⟨rfl, rfl, trivial, hI⟩
      · intro vals xw f hf1 hf2 hf3 hI hF
        clear hf2 hf3
        simp only [saysD, List.getD_cons_zero, List.getD_cons_succ, and_true] at hF
        dsimp only [owes4, bare]
        simp only [putsD, Act.put, List.setIfInBounds_toArray, List.set_cons_zero, List.set_cons_succ]
        simp only [hF]
        go_wp2
        exact ⟨rfl, rfl, trivial, hI⟩
      · intro vals xw f hf1 hf2 hf3 hI hF
        clear hf2 hf3
        simp only [saysD, List.getD_cons_zero, List.getD_cons_succ, and_true] at hF
        dsimp only [owes4, bare]
        simp only [putsD, Act.put, List.setIfInBounds_toArray, List.set_cons_zero, List.set_cons_succ]
        simp only [hF]
        go_wp2
        exact ⟨rfl, rfl, trivial, hI⟩
      · intro vals xw f hf1 hf2 hf3 hI hF
        have k24 : f 24 = false := hf3 24 (by kernel_rfl)
        have k27 : f 27 = false := hf3 27 (by kernel_rfl)
        clear hf2 hf3
        simp only [saysD, List.getD_cons_zero, List.getD_cons_succ, and_true] at hF
        dsimp only [owes4, bare]
        simp only [putsD, Act.put, List.setIfInBounds_toArray, List.set_cons_zero, List.set_cons_succ]
        simp only [hF]
        have d0 := (cell_of_block (hI.at k24 k27).box 0).1
        go_wp2
        exact ⟨rfl, rfl, trivial, hI⟩
      · intro vals xw f hf1 hf2 hf3 hI hF
        clear hf2 hf3
        dsimp only [owes4, bare]
        simp only [putsD, Act.put, List.setIfInBounds_toArray, List.set_cons_zero, List.set_cons_succ]
        go_wp2
        exact ⟨rfl, rfl, trivial, hI⟩
      · intro vals xw f hf1 hf2 hf3 hI hF
        have k24 : f 24 = false := hf3 24 (by kernel_rfl)
        have k27 : f 27 = false := hf3 27 (by kernel_rfl)
        clear hf2 hf3
        simp only [saysD, List.getD_cons_zero, List.getD_cons_succ, and_true] at hF
        have e1 := hF
        dsimp only [owes4, bare]
        simp only [putsD, Act.put, List.setIfInBounds_toArray, List.set_cons_zero, List.set_cons_succ]
        simp only [e1]
        have HL9 := Lib.hid (HLA.out xw (hI.at k24 k27))
        have HII := Lib.hid hI
        clear hI
        go_wp2_with fail
        refine HL9.out.mono ?_
        rintro e w9 ⟨rfl, hb9⟩
        have HB9 := Lib.hid (HII.out.up hb9)
        clear hb9
        go_wp2
        exact ⟨rfl, rfl, trivial, HB9.out⟩
      · intro vals xw f hf1 hf2 hf3 hI hF
        clear hf2 hf3
        simp only [saysD, List.getD_cons_zero, List.getD_cons_succ, and_true] at hF
        dsimp only [owes4, bare]
        simp only [putsD, Act.put, List.setIfInBounds_toArray, List.set_cons_zero, List.set_cons_succ]
        simp only [hF]
        go_wp2
        exact ⟨rfl, rfl, trivial, hI⟩
      · intro vals xw f hf1 hf2 hf3 hI hF
        clear hf2 hf3
        simp only [saysD, List.getD_cons_zero, List.getD_cons_succ, and_true] at hF
        dsimp only [owes4, bare]
        simp only [putsD, Act.put, List.setIfInBounds_toArray, List.set_cons_zero, List.set_cons_succ]
        simp only [hF]
        go_wp2
        exact ⟨rfl, rfl, trivial, hI⟩
      · intro vals xw f hf1 hf2 hf3 hI hF
        have k24 : f 24 = false := hf3 24 (by kernel_rfl)
        have k27 : f 27 = false := hf3 27 (by kernel_rfl)
        clear hf2 hf3
        simp only [saysD, List.getD_cons_zero, List.getD_cons_succ, and_true] at hF
        dsimp only [owes4, bare]
        simp only [putsD, Act.put, List.setIfInBounds_toArray, List.set_cons_zero, List.set_cons_succ]
        simp only [hF]
        have d0 := (HAT.out xw (hI.at k24 k27)).1
        go_wp2
        exact ⟨rfl, rfl, trivial, hI⟩
      · intro vals xw f hf1 hf2 hf3 hI hF
        clear hf2 hf3
        simp only [saysD, List.getD_cons_zero, List.getD_cons_succ, and_true] at hF
        obtain ⟨e1, e2⟩ := hF
        dsimp only [owes4, bare]
        simp only [putsD, Act.put, List.setIfInBounds_toArray, List.set_cons_zero, List.set_cons_succ]
        simp only [e1, e2]
        have hsd := HSD.out
        go_wp2
        exact ⟨rfl, rfl, trivial, hI⟩
      · intro vals xw f hf1 hf2 hf3 hI hF
        clear hf2 hf3
        dsimp only [owes4, bare]
        simp only [putsD, Act.put, List.setIfInBounds_toArray, List.set_cons_zero, List.set_cons_succ]
        go_wp2
        exact ⟨rfl, rfl, trivial, hI⟩
      · intro vals xw f hf1 hf2 hf3 hI hF
        clear hf2 hf3
        simp only [saysD, List.getD_cons_zero, List.getD_cons_succ, and_true] at hF
        dsimp only [owes4, bare]
        simp only [putsD, Act.put, List.setIfInBounds_toArray, List.set_cons_zero, List.set_cons_succ]
        simp only [hF]
        go_wp2
        exact ⟨rfl, rfl, trivial, hI⟩
      · intro vals xw f hf1 hf2 hf3 hI hF
        clear hf2 hf3
        simp only [saysD, List.getD_cons_zero, List.getD_cons_succ, and_true] at hF
        dsimp only [owes4, bare]
        simp only [putsD, Act.put, List.setIfInBounds_toArray, List.set_cons_zero, List.set_cons_succ]
        simp only [hF]
        go_wp2
        exact ⟨rfl, rfl, trivial, hI⟩
      · intro vals xw f hf1 hf2 hf3 hI hF
        have k24 : f 24 = false := hf3 24 (by kernel_rfl)
        have k27 : f 27 = false := hf3 27 (by kernel_rfl)
        clear hf2 hf3
        simp only [saysD, List.getD_cons_zero, List.getD_cons_succ, and_true] at hF
        dsimp only [owes4, bare]
        simp only [putsD, Act.put, List.setIfInBounds_toArray, List.set_cons_zero, List.set_cons_succ]
        simp only [hF]
        have d1 := (cell_of_block (hI.at k24 k27).box 1).1
        go_wp2
        exact ⟨rfl, rfl, trivial, hI⟩
      · intro vals xw f hf1 hf2 hf3 hI hF
        clear hf2 hf3
        dsimp only [owes4, bare]
        simp only [putsD, Act.put, List.setIfInBounds_toArray, List.set_cons_zero, List.set_cons_succ]
        go_wp2
        exact ⟨rfl, rfl, trivial, hI⟩
      · intro vals xw f hf1 hf2 hf3 hI hF
        have k24 : f 24 = false := hf3 24 (by kernel_rfl)
        have k27 : f 27 = false := hf3 27 (by kernel_rfl)
        clear hf2 hf3
        simp only [saysD, List.getD_cons_zero, List.getD_cons_succ, and_true] at hF
        have e1 := hF
        dsimp only [owes4, bare]
        simp only [putsD, Act.put, List.setIfInBounds_toArray, List.set_cons_zero, List.set_cons_succ]
        simp only [e1]
        have HL9 := Lib.hid (HLA.out xw (hI.at k24 k27))
        have HII := Lib.hid hI
        clear hI
        go_wp2_with fail
        refine HL9.out.mono ?_
        rintro e w9 ⟨rfl, hb9⟩
        have HB9 := Lib.hid (HII.out.up hb9)
        clear hb9
        go_wp2
        exact ⟨rfl, rfl, trivial, HB9.out⟩
      · intro vals xw f hf1 hf2 hf3 hI hF
        clear hf2 hf3
        simp only [saysD, List.getD_cons_zero, List.getD_cons_succ, and_true] at hF
        dsimp only [owes4, bare]
        simp only [putsD, Act.put, List.setIfInBounds_toArray, List.set_cons_zero, List.set_cons_succ]
        simp only [hF]
        go_wp2
        exact ⟨rfl, rfl, trivial, hI⟩
      · intro vals xw f hf1 hf2 hf3 hI hF
        clear hf2 hf3
        simp only [saysD, List.getD_cons_zero, List.getD_cons_succ, and_true] at hF
        dsimp only [owes4, bare]
        simp only [putsD, Act.put, List.setIfInBounds_toArray, List.set_cons_zero, List.set_cons_succ]
        simp only [hF]
        go_wp2
        exact ⟨rfl, rfl, trivial, hI⟩
      · intro vals xw f hf1 hf2 hf3 hI hF
        have k24 : f 24 = false := hf3 24 (by kernel_rfl)
        have k27 : f 27 = false := hf3 27 (by kernel_rfl)
        clear hf2 hf3
        simp only [saysD, List.getD_cons_zero, List.getD_cons_succ, and_true] at hF
        dsimp only [owes4, bare]
        simp only [putsD, Act.put, List.setIfInBounds_toArray, List.set_cons_zero, List.set_cons_succ]
        simp only [hF]
        have d0 := (HAT.out xw (hI.at k24 k27)).2
        go_wp2
        exact ⟨rfl, rfl, trivial, hI⟩
      · intro vals xw f hf1 hf2 hf3 hI hF
        clear hf2 hf3
        simp only [saysD, List.getD_cons_zero, List.getD_cons_succ, and_true] at hF
        obtain ⟨e1, e2⟩ := hF
        dsimp only [owes4, bare]
        simp only [putsD, Act.put, List.setIfInBounds_toArray, List.set_cons_zero, List.set_cons_succ]
        simp only [e1, e2]
        have hst := HSTT.out
        go_wp2
        exact ⟨rfl, rfl, trivial, hI⟩
      · intro vals xw f hf1 hf2 hf3 hI hF
        clear hf2 hf3
        simp only [saysD, List.getD_cons_zero, List.getD_cons_succ, and_true] at hF
        dsimp only [owes4, bare]
        simp only [putsD, Act.put, List.setIfInBounds_toArray, List.set_cons_zero, List.set_cons_succ]
        simp only [hF]
        go_wp2
        exact ⟨rfl, rfl, trivial, hI⟩
      · intro vals xw f hf1 hf2 hf3 hI hF
        clear hf2 hf3
        simp only [saysD, List.getD_cons_zero, List.getD_cons_succ, and_true] at hF
        dsimp only [owes4, bare]
        simp only [putsD, Act.put, List.setIfInBounds_toArray, List.set_cons_zero, List.set_cons_succ]
        simp only [hF]
        go_wp2
        exact ⟨rfl, rfl, trivial, hI⟩
      · intro vals xw f hf1 hf2 hf3 hI hF
        have k27 : f 27 = false := hf3 27 (by kernel_rfl)
        clear hf2 hf3
        simp only [saysD, List.getD_cons_zero, List.getD_cons_succ, and_true] at hF
        obtain ⟨e1, e2⟩ := hF
        dsimp only [owes4, bare]
        simp only [putsD, Act.put, List.setIfInBounds_toArray, List.set_cons_zero, List.set_cons_succ]
        simp only [e1, e2]
        have hst9 := hI.at hf1 k27
        have x1 := (cell_of_block hst9.box 0).1
        have x2 := (cell_of_block hst9.box 0).2
        have HN9 := Lib.hid (hI.cutD hf1 k27 HDX.out ha)
        clear hst9 hI
        go_wp2
        exact ⟨rfl, trivial, trivial, HN9.out⟩
      · intro vals xw f hf1 hf2 hf3 hI hF
        clear hf2 hf3
        simp only [saysD, List.getD_cons_zero, List.getD_cons_succ, and_true] at hF
        dsimp only [owes4, bare]
        simp only [putsD, Act.put, List.setIfInBounds_toArray, List.set_cons_zero, List.set_cons_succ]
        simp only [hF]
        go_wp2
        exact ⟨rfl, rfl, trivial, hI⟩
      · intro vals xw f hf1 hf2 hf3 hI hF
        clear hf2 hf3
        simp only [saysD, List.getD_cons_zero, List.getD_cons_succ, and_true] at hF
        dsimp only [owes4, bare]
        simp only [putsD, Act.put, List.setIfInBounds_toArray, List.set_cons_zero, List.set_cons_succ]
        simp only [hF]
        go_wp2
        exact ⟨rfl, rfl, trivial, hI⟩
      · intro vals xw f hf1 hf2 hf3 hI hF
        have k24 : f 24 = true := hf2 24 (by kernel_rfl)
        clear hf2 hf3
        simp only [saysD, List.getD_cons_zero, List.getD_cons_succ, and_true] at hF
        obtain ⟨e1, e2⟩ := hF
        dsimp only [owes4, bare]
        simp only [putsD, Act.put, List.setIfInBounds_toArray, List.set_cons_zero, List.set_cons_succ]
        simp only [e1, e2]
        have hst9 := hI.2
        have x1 := (cell_of_block hst9.box 1).1
        have x2 := (cell_of_block hst9.box 1).2
        have HN9 := Lib.hid (hI.cutT k24 hf1 HTX.out hb)
        rw [hf1] at x1
        clear hst9 hI
        go_wp2
        exact ⟨rfl, trivial, trivial, HN9.out⟩
      · intro vals xw f hall hI hF
        rw [show List.range _ = [0, 1, 2, 3, 4, 5, 6, 7, 8, 9, 10, 11, 12, 13, 14, 15, 16, 17, 18, 19, 20, 21, 22, 23, 24, 25, 26, 27] from rfl] at hF
        simp only [says, List.getD_cons_zero, List.getD_cons_succ, and_true] at hF
        simp only [putsD, Act.put, List.setIfInBounds_toArray, List.set_cons_zero, List.set_cons_succ]
        have k24 : f 24 = true := hall 24 (by decide)
        have k27 : f 27 = true := hall 27 (by decide)
        have hI9 : PopI lo w p g2 ds dx ts tx mx B1 B2 b1 b2 b3 (f 24) (f 27) xw := hI
        rw [k24, k27] at hI9
        have HI9 := Lib.hid hI9
        clear hI9 hI k24 k27 hF
        go_wp2
        go_returns
        exact ⟨rfl, fun h => absurd h HMN.out, fun _ => by rw [← HDX.out, ← HTX.out]; exact ⟨_, _, _, _, _, _, HI9.out.2⟩, HI9.out.1⟩
end Go.Proofs.YtiahmfpfimmbgaaGreatDoor

/-! CtxPop. -/
namespace Go.Proofs.YtiahmfpfimmbgaaGreatDoor
open Go Go.RowKit Go.ChangeShapes Go.WideShapes Go.ChangeAt Go.Deep

def ctxPop (c : List Ly) : List Ly × Bool := ctxCh c c.dropLast
theorem dropLast_app9 (xs : List Ly) (l : Ly) : (xs ++ [l]).dropLast = xs := by simp
theorem okC_pop9 {c : List Ly} (h : okC c) (hk : ctxOk c = true) : okC c.dropLast := by
  obtain ⟨xs, l, rfl⟩ := last_of (ctxOk_parts hk).1
  rw [dropLast_app9]
  exact h.pop
set_option maxRecDepth 100000 in
set_option maxHeartbeats 2000000 in
theorem implCtxPop_c (c : List Ly) (A : Option Addr) (q : Nat) (w : World) (h : Lay.layer.Rd w A c) (_ : c.length ≤ q) (hs : okC c) :
    Calls Tryz.prog 29 #[.slice A c.length q] w (RetCh (ctxPop c) w) := by
  have HCH := Lib.hid (changed_Pop A q c c.dropLast w h hs (fun hk => okC_pop9 hs hk) (fun hk z p hb hst => by
    have hd := hs.ds
    have ht := hs.ts
    have h6 := (ctxOk_parts hk).2.1
    obtain ⟨xs, l, rfl⟩ := last_of (ctxOk_parts hk).1
    rw [dropLast_app9]
    rw [msAll_app] at hst
    have hml : (msAll xs).length ≤ 1048576 := by rw [msAll_len]; rw [List.length_append] at h6; omega
    have hda : (dsAll xs).length ≤ (dsAll (xs ++ [l])).length := by rw [dsAll_app, List.length_append]; omega
    have hta : (tsAll xs).length ≤ (tsAll (xs ++ [l])).length := by rw [tsAll_app, List.length_append]; omega
    have hm : msAll xs = [] ∨ msAll xs = (msAll xs).dropLast ++ [(((dsAll xs).length : Int), ((tsAll xs).length : Int))] := by
      rcases List.eq_nil_or_concat xs with rfl | ⟨ys, m, rfl⟩
      · exact .inl rfl
      · right
        rw [List.concat_eq_append, msAll_app]
        simp
    refine (chgPop_cut w.heap.size p _ _ (msAll xs) (msAll xs).dropLast _ z hst hml (dsAll xs).length (tsAll xs).length hm hda hta hd ht).mono ?_
    rintro e w' ⟨h1, h2, h3, h4⟩
    refine ⟨h1, ?_, h4⟩
    by_cases hx : xs = []
    · subst hx
      exact ⟨_, _, h2 rfl, fun h => absurd rfl h⟩
    · have hx0 : msAll xs ≠ [] := fun e => hx (List.eq_nil_of_length_eq_zero (by rw [← msAll_len xs, e]; rfl))
      have h5 := h3 hx0
      rw [show (dsAll (xs ++ [l])).take (dsAll xs).length = dsAll xs from by rw [dsAll_app]; simp, show (tsAll (xs ++ [l])).take (tsAll xs).length = tsAll xs from by rw [tsAll_app]; simp] at h5
      exact StkC.of h5))
  clear h hs
  go_enter Tryz.func29, Tryz.ntmps29
  go_wp2_with fail
  refine HCH.out.mono ?_
  rintro e w1 ⟨A1, c1, rfl, hc1, hr, hb⟩
  have HRR := Lib.hid (And.intro hc1 (And.intro hr hb))
  clear hc1 hr hb HCH
  obtain ⟨r9, hr9⟩ : ∃ r9, r9 = ctxCh c c.dropLast := ⟨_, rfl⟩
  have HR9 := Lib.hid hr9
  rw [← hr9] at HRR ⊢
  clear hr9
  go_wp2
  refine bodyPost_ret (v := .tuple #[.slice A1 r9.1.length c1, .bool r9.2]) (by simp [results, Tryz.results29, go_sem]) rfl ?_
  rw [show ctxPop c = r9 from HR9.out.symm]
  exact ⟨A1, c1, rfl, HRR.out.1, HRR.out.2.1, HRR.out.2.2⟩
theorem size_layer (W : World) : (sizeOf (Tryz.prog.elem 26)).run Tryz.prog W = .ok 2 W := by kernel_rfl
set_option maxRecDepth 100000 in
set_option maxHeartbeats 4000000 in
theorem specCtxPop_c (c : List Ly) (A : Option Addr) (q : Nat) (w : World) (h : Lay.layer.Rd w A c) (hq : c.length ≤ q) (hs : okC c) :
    Calls Tryz.prog 28 #[.slice A c.length q] w (RetRd2 (ctxPop c) w) := by
  have hc := hs
  have HO := Lib.hid (specCtxOk_any A q c w h hq hc)
  have HCP := Lib.hid (fun (z : World) (hz : Lay.layer.Rd z A c) => l10Copy_any A q c z hz hc.len (okC_l2 hs))
  obtain ⟨r, hr⟩ : ∃ r, r = ctxOk c := ⟨_, rfl⟩
  rw [← hr] at HO
  obtain ⟨x, hx⟩ : ∃ x, x = c.dropLast := ⟨_, rfl⟩
  have HXX := Lib.hid hx
  have HX : Hid (ctxPop c = if r = true then (if ctxOk x = true then (x, true) else (c, false)) else ([], false)) := Lib.hid (by rw [hr, hx]; rfl)
  have HOX : Hid (r = true → okC x) := Lib.hid (fun e => by rw [hx]; exact okC_pop9 hc (by rw [← hr]; exact e))
  have HN := Lib.hid (fun (B : Option Addr) (b : Nat) (z : World) (hz : Lay.layer.Rd z A c) (hz' : Lay.layer.Rd z B x) (hb : x.length ≤ b) (hr : r = true) => l10Now_any c x A B q b z hz hz' hb hc.len (okC_l2 hs) (HOX.out hr))
  have HLN : Hid (r = true → 1 ≤ c.length) := Lib.hid (fun e => (ctxOk_parts (by rw [← hr]; exact e)).1)
  have HTD : Hid (x = c.take (c.length - 1)) := Lib.hid (by rw [hx, List.dropLast_eq_take])
  have hcl := hc.len
  have H := Lib.hid h
  clear hc hr hs h hx
  go_enter Tryz.func28, Tryz.ntmps28
  go_wp2_with fail
  refine HO.out.mono ?_
  rintro e w2 ⟨rfl, hb2⟩
  have HB2 := Lib.hid hb2
  cases r
  · have hal := hb2.alloc hb2.size (.cells #[] 58)
    have HAL := Lib.hid hal
    clear hal hb2
    go_wp2
    refine bodyPost_ret (v := .tuple #[.slice (some ⟨w2.heap.size, 0, none⟩) 0 0, .bool false]) (by simp [results, Tryz.results28, go_sem]) rfl ?_
    rw [show ctxPop c = ([], false) from by rw [HX.out]; rfl]
    exact ⟨_, _, rfl, Nat.zero_le _, RdO.nil _ _ _, HAL.out⟩
  · have HLC := Lib.hid (HCP.out w2 (H.out.up HB2.out))
    clear hb2
    go_wp2_with fail
    refine HLC.out.mono ?_
    rintro e w3 ⟨A3, c3, rfl, ho, hb3⟩
    have h1 := HLN.out trivial
    have HB3 := Lib.hid (bthen HB2.out hb3)
    have hrd := ho.rdR
    have hcap := ho.cap.2
    obtain ⟨n, hn⟩ : ∃ n, n = c.length - 1 := ⟨_, rfl⟩
    obtain ⟨hsl, hsr⟩ := (slice_hR (t := 26) Tryz.underlying26 size_layer hrd n (by omega) hcap)
    have HSR : Hid (Lay.layer.Rd w3 A3 x) := Lib.hid (by rw [HTD.out, ← hn]; exact hsr)
    clear hsr
    rw [show c.take n = x from by rw [HTD.out, hn]] at hsl
    have HXC : Hid (x.length ≤ c3) := Lib.hid (by rw [HTD.out, List.length_take]; omega)
    have hnk : (c.length : Int) - 1 = (n : Int) := by omega
    have HNN := Lib.hid hn
    clear ho hb3 HLC hrd h1 hn
    go_wp2_with fail
    refine (HN.out A3 c3 w3 (H.out.up HB3.out) HSR.out HXC.out trivial).mono ?_
    rintro e w9 ⟨A9, c9, rfl, hc9, hr9, hb9⟩
    have HRR := Lib.hid (And.intro hc9 (And.intro hr9 (bthen HB3.out hb9)))
    clear hc9 hr9 hb9
    have HXE : Hid (ctxPop c = if ctxOk x = true then (x, true) else (c, false)) := Lib.hid (by rw [HX.out]; rfl)
    clear HX
    generalize (if ctxOk x = true then (x, true) else (c, false)) = s9 at *
    go_wp2
    refine bodyPost_ret (v := .tuple #[.slice A9 s9.1.length c9, .bool s9.2]) (by simp [results, Tryz.results28, go_sem]) rfl ?_
    rw [HXE.out]
    exact ⟨A9, c9, rfl, HRR.out.1, HRR.out.2.1, HRR.out.2.2⟩
end Go.Proofs.YtiahmfpfimmbgaaGreatDoor

/-! The reference's draws of contexts: l10Act. -/
namespace Go.Proofs.YtiahmfpfimmbgaaGreatDoor
open Go Go.RowKit

/-- A drawn context. -/
def okDC (c : List Ly) : Prop := okC c ∧ okD5 (dsAll c) ∧ ∀ t ∈ tsAll c, T.All okT5 t
theorem dGo_mem : ∀ (xs seen : List D) (b : Int), dGo seen b xs = true → ∀ d ∈ xs, d.name.size ≤ 5 ∧ 1 ≤ d.wide ∧ d.wide ≤ 4
  | [], _, _, _, d, hd => by cases hd
  | x :: xs, seen, b, h, d, hd => by
    unfold dGo at h
    simp only [Bool.and_eq_true] at h
    rcases List.mem_cons.1 hd with rfl | hd
    · have h1 := h.1
      unfold dOne nameOk wideOk at h1
      simp only [Bool.and_eq_true, decide_eq_true_eq] at h1
      obtain ⟨⟨⟨⟨⟨h1, h2⟩, _⟩, _⟩, h3, h4⟩, _⟩ := h1
      exact ⟨by omega, h3, h4⟩
    · exact dGo_mem xs _ _ h.2 d hd
theorem okD5_of {ds : List D} (h : declOk ds = true) : okD5 ds := by
  unfold declOk at h
  simp only [Bool.and_eq_true, decide_eq_true_eq] at h
  exact ⟨by omega, dGo_mem ds [] 0 h.2⟩
theorem okDC_of {c : List Ly} (h : okC c) (hk : ctxOk c = true) (ho : ∀ t ∈ tsAll c, T.All okT5 t) : okDC c := ⟨h, okD5_of (ctxOk_parts hk).2.2.1, ho⟩
theorem okDC_nil : okDC [] := ⟨⟨by simp, by simp [dsAll], by simp [tsAll], by simp [dsAll], by simp [tsAll]⟩, ⟨by simp [dsAll], by simp [dsAll]⟩, by simp [tsAll]⟩
/-- What a change of a drawn context gives. -/
theorem ctxCh_dc {c x : List Ly} (h : okDC c) (hx : ctxOk c = true → okC x) (hox : ctxOk c = true → ∀ t ∈ tsAll x, T.All okT5 t) : okDC (ctxCh c x).1 ∧ (ctxOk c = true → ctxOk (ctxCh c x).1 = true) := by
  unfold ctxCh
  by_cases hc : ctxOk c = true
  · rw [if_pos hc]
    by_cases hx9 : ctxOk x = true
    · rw [if_pos hx9]; exact ⟨okDC_of (hx hc) hx9 (hox hc), fun _ => hx9⟩
    · rw [if_neg hx9]; exact ⟨h, fun h => h⟩
  · rw [if_neg hc]; exact ⟨okDC_nil, fun h => absurd h hc⟩
theorem ctxPush_dc {c : List Ly} (h : okDC c) : okDC (ctxPush c).1 ∧ (ctxOk c = true → ctxOk (ctxPush c).1 = true) := ctxCh_dc h (fun hk => h.1.push hk) fun _ t ht => h.2.2 t (by rw [tsAll_app, tsAll_one] at ht; simpa using ht)
theorem ctxPop_dc {c : List Ly} (h : okDC c) : okDC (ctxPop c).1 ∧ (ctxOk c = true → ctxOk (ctxPop c).1 = true) := ctxCh_dc h (fun hk => okC_pop9 h.1 hk) fun hk t ht => h.2.2 t (by
  obtain ⟨xs, l, rfl⟩ := last_of (ctxOk_parts hk).1
  rw [dropLast_app9] at ht
  rw [tsAll_app]
  exact List.mem_append_left _ ht)
theorem ctxName_dc {c : List Ly} {d : D} (h : okDC c) (hd : smD d) : okDC (ctxName c d).1 ∧ (ctxOk c = true → ctxOk (ctxName c d).1 = true) := ctxCh_dc h (fun hk => okC_addD9 h.1 hk hd) fun hk t ht => h.2.2 t (by
  obtain ⟨xs, l, rfl⟩ := last_of (ctxOk_parts hk).1
  rw [addD_app, tsAll_app, tsAll_one] at ht
  rw [tsAll_app, tsAll_one]
  exact ht)
theorem ctxAssert_dc {c : List Ly} {t : T} (h : okDC c) (ht : T.All okT5 t) : okDC (ctxAssert c t).1 ∧ (ctxOk c = true → ctxOk (ctxAssert c t).1 = true) := ctxCh_dc h (fun hk => okC_addT9 h.1 hk ht.five) fun hk x hx => by
  obtain ⟨xs, l, rfl⟩ := last_of (ctxOk_parts hk).1
  have h9 := h.2.2
  rw [addT_app, tsAll_app, tsAll_one] at hx
  rw [tsAll_app, tsAll_one] at h9
  simp only [List.mem_append, List.mem_singleton] at hx h9
  rcases hx with hx | (hx | rfl)
  · exact h9 x (.inl hx)
  · exact h9 x (.inr hx)
  · exact ht
/-- A drawn context is handed back. -/
def RetDC (ok : List Ly → Prop) (r : Nat) (p M : Int) (w : World) (e : Ending) (w' : World) : Prop :=
  ∃ (c : List Ly) (A : Option Addr) (q : Nat), e = .returned (.slice A c.length q) ∧ c.length ≤ q ∧ Lay.layer.Rd w' A c ∧ ok c ∧ Drawn r p M w w'
theorem layer_rdG {r : Nat} {p : Int} {w w' : World} {A : Option Addr} {c : List Ly} (h : Lay.layer.Rd w A c) (hr : Rdr w r p) (hg : Gr (IsR r) w w') : Lay.layer.Rd w' A c := ((layer_notR h hr).gr hg).ab_rd
theorem decl_rdG {r : Nat} {p : Int} {w w' : World} {A : Option Addr} {c : List D} (h : Lay.decl.Rd w A c) (hr : Rdr w r p) (hg : Gr (IsR r) w w') : Lay.decl.Rd w' A c := ((decl_notR h hr).gr hg).ab_rd
set_option maxRecDepth 100000 in
set_option maxHeartbeats 8000000 in
theorem l10Act_any (r : Nat) (p : Int) (A : Option Addr) (q : Nat) (c : List Ly) (w : World) (h : Rdr w r p) (hd : Lay.layer.Rd w A c) (hq : c.length ≤ q) (ho : okDC c) (p0 : 0 ≤ p) (p1 : p ≤ 790000000) :
    Calls Tryz.prog 85 #[.pointer (some ⟨r, 0, none⟩), .slice A c.length q] w (RetDC (fun x => okDC x ∧ (ctxOk c = true → ctxOk x = true)) r p 3010 w) := by
  have hrl := h.lt
  have hal : Below w.heap.size w (w.alloc (.cells #[.string ⟨#[120]⟩, .string ⟨#[121]⟩, .string ⟨#[122]⟩, .string ⟨#[119]⟩, .string ⟨#[118]⟩] 9)) := (Below.refl _ _).alloc (Nat.le_refl _) _
  have HR := Lib.hid (h.up hal)
  have HC := Lib.hid (hd.up hal)
  have HG : Hid (Gr (IsR r) w (w.alloc (.cells #[.string ⟨#[120]⟩, .string ⟨#[121]⟩, .string ⟨#[122]⟩, .string ⟨#[119]⟩, .string ⟨#[118]⟩] 9))) := Lib.hid (.below hal)
  have HNM := Lib.hid (lit_str (S := IsR r) w [⟨#[120]⟩, ⟨#[121]⟩, ⟨#[122]⟩, ⟨#[119]⟩, ⟨#[118]⟩] #[.string ⟨#[120]⟩, .string ⟨#[121]⟩, .string ⟨#[122]⟩, .string ⟨#[119]⟩, .string ⟨#[118]⟩] 9 rfl (by show ¬ _ = r; omega))
  have HO := Lib.hid ho
  have HQ := Lib.hid hq
  have HDC := Lib.hid (fun (z : World) (hz : Lay.layer.Rd z A c) => l10Decls_any A q c z hz ho.1.len ho.1.ds)
  have HH := Lib.hid hd
  obtain ⟨ds, hds⟩ : ∃ ds, ds = dsAll c := ⟨_, rfl⟩
  have HDO : Hid (okD5 ds) := Lib.hid (by rw [hds]; exact ho.2.1)
  rw [← hds] at HDC
  clear hal h hd ho hq HH hds
  go_enter Tryz.func85, Tryz.ntmps85
  go_wp2_with fail
  generalize w.alloc (.cells #[.string ⟨#[120]⟩, .string ⟨#[121]⟩, .string ⟨#[122]⟩, .string ⟨#[119]⟩, .string ⟨#[118]⟩] 9) = w0 at *
  refine (HDC.out w0 HC.out).mono ?_
  rintro e w2 ⟨A2, c2, rfl, hO2, hb2⟩
  have HC2 := Lib.hid (HC.out.up hb2)
  have HR2 := Lib.hid (HR.out.up hb2)
  have HG2 := Lib.hid (HG.out.trans (.below hb2))
  have HNM2 := Lib.hid (HNM.out.gr (.below hb2))
  have HD2 := Lib.hid hO2.rdv
  have HCP : Hid (ds.length ≤ c2) := Lib.hid hO2.cap.2
  clear hO2 hb2
  go_wp2_with fail
  refine (pick_any r p 8 w2 HR2.out (by omega) (by omega) (by omega) (by omega)).mono ?_
  rintro e w3 ⟨k, rfl, k0, k1, _, hR3, hg3⟩
  have k1 := k1 (by omega)
  have hg3 := Gr.one (S := IsR r) hg3 rfl
  have HC3 := Lib.hid (layer_rdG HC2.out HR2.out hg3)
  have HD3 := Lib.hid (decl_rdG HD2.out HR2.out hg3)
  have HG3 := Lib.hid (HG2.out.trans hg3)
  have HNM3 := Lib.hid (HNM2.out.gr hg3)
  have HR3 := Lib.hid hR3
  clear hR3 hg3 HC HR HG HNM HC2 HR2 HG2 HNM2 HD2
  by_cases hk0 : k = 0
  · subst hk0
    go_wp2_with fail
    refine (of_any r (p + 1) _ _ [⟨#[120]⟩, ⟨#[121]⟩, ⟨#[122]⟩, ⟨#[119]⟩, ⟨#[118]⟩] w3 HR3.out HNM3.out (by simp) (by simp) (by omega) (by omega)).mono ?_
    rintro e w4 ⟨n9, hn9, rfl, hR4, hg4⟩
    have hg4 : Gr (IsR r) w3 w4 := hg4
    have hn5 : n9.size ≤ 5 := by
      simp only [List.mem_cons, List.not_mem_nil, or_false] at hn9
      rcases hn9 with rfl | rfl | rfl | rfl | rfl <;> decide
    have HC4 := Lib.hid (layer_rdG HC3.out HR3.out hg4)
    have HG4 := Lib.hid (HG3.out.trans hg4)
    have HR4 := Lib.hid hR4
    clear hR4 hg4 hn9
    go_wp2_with fail
    refine (pick_any r (p + 1 + 1) 4 w4 HR4.out (by omega) (by omega) (by omega) (by omega)).mono ?_
    rintro e w5 ⟨y, rfl, y0, y1, _, hR5, hg5⟩
    have y1 := y1 (by omega)
    have hg5 := Gr.one (S := IsR r) hg5 rfl
    have HC5 := Lib.hid (layer_rdG HC4.out HR4.out hg5)
    have HG5 := Lib.hid (HG4.out.trans hg5)
    have HR5 := Lib.hid hR5
    have HSD : Hid (smD ⟨n9, 1 + y⟩) := Lib.hid ⟨by show n9.size ≤ _; omega, by show -9223372036854775808 ≤ 1 + y ∧ 1 + y ≤ 9223372036854775807; omega⟩
    clear hR5 hg5
    go_wp2_with fail
    refine (specCtxName_c c ⟨n9, 1 + y⟩ A q w5 HC5.out HQ.out HO.out.1 HSD.out).mono ?_
    rintro e w8 ⟨A8, c8, rfl, h81, h82, h83⟩
    have HD8 : Hid (Drawn r p 3010 w w8) := Lib.hid ⟨p + 1 + 1 + 1, by omega, by omega, HR5.out.up h83, HG5.out.trans (.below h83)⟩
    have H81 := Lib.hid h81
    have H82 := Lib.hid h82
    have HF := Lib.hid (ctxName_dc HO.out HSD.out)
    clear h81 h82 h83
    generalize (ctxName c ⟨n9, 1 + y⟩).1 = x9 at *
    generalize (ctxName c ⟨n9, 1 + y⟩).2 = z9 at *
    go_wp2
    refine bodyPost_ret (v := .slice A8 x9.length c8) (by simp [results, Tryz.results85, go_sem]) rfl ?_
    exact ⟨x9, A8, c8, rfl, H81.out, H82.out, HF.out, HD8.out⟩
  have gk0 : (k == 0) = false := by simpa using hk0
  clear hk0
  by_cases hk1 : k = 1
  · subst hk1
    go_wp2_with fail
    refine (of_any r (p + 1) _ _ [⟨#[120]⟩, ⟨#[121]⟩, ⟨#[122]⟩, ⟨#[119]⟩, ⟨#[118]⟩] w3 HR3.out HNM3.out (by simp) (by simp) (by omega) (by omega)).mono ?_
    rintro e w4 ⟨n9, hn9, rfl, hR4, hg4⟩
    have hg4 : Gr (IsR r) w3 w4 := hg4
    have hn5 : n9.size ≤ 5 := by
      simp only [List.mem_cons, List.not_mem_nil, or_false] at hn9
      rcases hn9 with rfl | rfl | rfl | rfl | rfl <;> decide
    have HC4 := Lib.hid (layer_rdG HC3.out HR3.out hg4)
    have HG4 := Lib.hid (HG3.out.trans hg4)
    have HR4 := Lib.hid hR4
    clear hR4 hg4 hn9
    go_wp2_with fail
    refine (pick_any r (p + 1 + 1) 4 w4 HR4.out (by omega) (by omega) (by omega) (by omega)).mono ?_
    rintro e w5 ⟨y, rfl, y0, y1, _, hR5, hg5⟩
    have y1 := y1 (by omega)
    have hg5 := Gr.one (S := IsR r) hg5 rfl
    have HC5 := Lib.hid (layer_rdG HC4.out HR4.out hg5)
    have HG5 := Lib.hid (HG4.out.trans hg5)
    have HR5 := Lib.hid hR5
    have HSD : Hid (smD ⟨n9, 1 + y⟩) := Lib.hid ⟨by show n9.size ≤ _; omega, by show -9223372036854775808 ≤ 1 + y ∧ 1 + y ≤ 9223372036854775807; omega⟩
    clear hR5 hg5
    go_wp2_with fail
    refine (specCtxName_c c ⟨n9, 1 + y⟩ A q w5 HC5.out HQ.out HO.out.1 HSD.out).mono ?_
    rintro e w8 ⟨A8, c8, rfl, h81, h82, h83⟩
    have HD8 : Hid (Drawn r p 3010 w w8) := Lib.hid ⟨p + 1 + 1 + 1, by omega, by omega, HR5.out.up h83, HG5.out.trans (.below h83)⟩
    have H81 := Lib.hid h81
    have H82 := Lib.hid h82
    have HF := Lib.hid (ctxName_dc HO.out HSD.out)
    clear h81 h82 h83
    generalize (ctxName c ⟨n9, 1 + y⟩).1 = x9 at *
    generalize (ctxName c ⟨n9, 1 + y⟩).2 = z9 at *
    go_wp2
    refine bodyPost_ret (v := .slice A8 x9.length c8) (by simp [results, Tryz.results85, go_sem]) rfl ?_
    exact ⟨x9, A8, c8, rfl, H81.out, H82.out, HF.out, HD8.out⟩
  have gk1 : (k == 1) = false := by simpa using hk1
  clear hk1
  by_cases hk2 : k = 2
  · subst hk2
    go_wp2_with fail
    refine (specCtxPush_c c A q w3 HC3.out HQ.out HO.out.1).mono ?_
    rintro e w8 ⟨A8, c8, rfl, h81, h82, h83⟩
    have HD8 : Hid (Drawn r p 3010 w w8) := Lib.hid ⟨p + 1, by omega, by omega, HR3.out.up h83, HG3.out.trans (.below h83)⟩
    have H81 := Lib.hid h81
    have H82 := Lib.hid h82
    have HF := Lib.hid (ctxPush_dc HO.out)
    clear h81 h82 h83
    generalize (ctxPush c).1 = x9 at *
    generalize (ctxPush c).2 = z9 at *
    go_wp2
    refine bodyPost_ret (v := .slice A8 x9.length c8) (by simp [results, Tryz.results85, go_sem]) rfl ?_
    exact ⟨x9, A8, c8, rfl, H81.out, H82.out, HF.out, HD8.out⟩
  have gk2 : (k == 2) = false := by simpa using hk2
  clear hk2
  by_cases hk3 : k = 3
  · subst hk3
    go_wp2_with fail
    refine (specCtxPop_c c A q w3 HC3.out HQ.out HO.out.1).mono ?_
    rintro e w8 ⟨A8, c8, rfl, h81, h82, h83⟩
    have HD8 : Hid (Drawn r p 3010 w w8) := Lib.hid ⟨p + 1, by omega, by omega, HR3.out.up h83, HG3.out.trans (.below h83)⟩
    have H81 := Lib.hid h81
    have H82 := Lib.hid h82
    have HF := Lib.hid (ctxPop_dc HO.out)
    clear h81 h82 h83
    generalize (ctxPop c).1 = x9 at *
    generalize (ctxPop c).2 = z9 at *
    go_wp2
    refine bodyPost_ret (v := .slice A8 x9.length c8) (by simp [results, Tryz.results85, go_sem]) rfl ?_
    exact ⟨x9, A8, c8, rfl, H81.out, H82.out, HF.out, HD8.out⟩
  have gk3 : (k == 3) = false := by simpa using hk3
  clear hk3
  go_wp2_with fail
  refine (l8Some_any r (p + 1) 0 A2 c2 ds w3 HR3.out HD3.out HCP.out HDO.out (by omega) (by omega) (by omega) (by omega)).mono ?_
  rintro e w5 ⟨t, A5, c5, rfl, hc5, hk5, ho5, q5, qa5, qb5, hR5, hg5⟩
  have HC5 := Lib.hid (layer_rdG HC3.out HR3.out hg5)
  have HG5 := Lib.hid (HG3.out.trans hg5)
  have HR5 := Lib.hid hR5
  have HK5 := Lib.hid hk5.rd
  have HO5 := Lib.hid ho5
  have HC5' := Lib.hid hc5
  clear hR5 hg5 hk5 ho5 hc5
  go_wp2_with fail
  refine (specCtxAssert_c c t A q A5 c5 w5 HC5.out HQ.out HO.out.1 HK5.out HC5'.out HO5.out.five).mono ?_
  rintro e w8 ⟨A8, c8, rfl, h81, h82, h83⟩
  have HD8 : Hid (Drawn r p 3010 w w8) := Lib.hid ⟨q5, by omega, by omega, HR5.out.up h83, HG5.out.trans (.below h83)⟩
  have H81 := Lib.hid h81
  have H82 := Lib.hid h82
  have HF := Lib.hid (ctxAssert_dc HO.out HO5.out)
  clear h81 h82 h83
  generalize (ctxAssert c t).1 = x9 at *
  generalize (ctxAssert c t).2 = z9 at *
  go_wp2
  refine bodyPost_ret (v := .slice A8 x9.length c8) (by simp [results, Tryz.results85, go_sem]) rfl ?_
  exact ⟨x9, A8, c8, rfl, H81.out, H82.out, HF.out, HD8.out⟩
end Go.Proofs.YtiahmfpfimmbgaaGreatDoor
