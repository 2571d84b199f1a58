/- FnExactCtxPop: the program's CtxPop answers, for any context, what the reference's answers, in memory of its own. -/
import Derived.Test.YtiahmfpfimmbgaaGreatDoorRows
import Derived.Test.YtiahmfpfimmbgaaGreatDoorTie
import Derived.Test.YtiahmfpfimmbgaaGreatDoorCards
import Derived.ProofKit
import Derived.OpenShut
import Derived.LaidMore
import Derived.Lay
import Derived.LaidOnce
import Derived.SevenTiedAt
import Derived.Stop.Joined
import Derived.Test.YtiahmfpfimmbgaaGreatDoorJExCtxPop13
import Derived.Test.YtiahmfpfimmbgaaGreatDoorJExCtxPop14
/-! The program's closure of CtxPop. -/
namespace Go.Proofs.YtiahmfpfimmbgaaGreatDoor
open Go Go.RowKit

/-- The stack while its two lists are cut. -/
def PopI (lo : Nat) (W : World) (p g : Nat) (ds dx : List D) (ts tx : List T) (ms : List (Int × Int)) (A1 A2 : Option Addr) (c1 c2 c3 : Nat) (fa fb : Bool) (x : World) : Prop :=
  Below lo W x ∧ Stk lo x p (if fa then dx else ds) (if fb then tx else ts) ms A1 A2 (some ⟨g, 0, none⟩) c1 c2 c3
section
variable {lo p g : Nat} {W x x' : World} {ds dx : List D} {ts tx : List T} {ms : List (Int × Int)} {A1 A2 : Option Addr} {c1 c2 c3 : Nat} {fa fb : Bool}
theorem PopI.up (h : PopI lo W p g ds dx ts tx ms A1 A2 c1 c2 c3 fa fb x) (hb : Below x.heap.size x x') : PopI lo W p g ds dx ts tx ms A1 A2 c1 c2 c3 fa fb x' :=
  ⟨h.1.trans (hb.mono h.2.loW), h.2.up hb⟩
theorem PopI.at (h : PopI lo W p g ds dx ts tx ms A1 A2 c1 c2 c3 fa fb x) (ha : fa = false) (hb : fb = false) : Stk lo x p ds ts ms A1 A2 (some ⟨g, 0, none⟩) c1 c2 c3 := by subst ha hb; exact h.2
theorem PopI.cutD (h : PopI lo W p g ds dx ts tx ms A1 A2 c1 c2 c3 fa fb x) (ha : fa = false) (hb : fb = false) {a : Nat} (hd : dx = ds.take a) (hl : a ≤ ds.length) : PopI lo W p g ds dx ts tx ms A1 A2 c1 c2 c3 true fb (x.setCell ⟨p, 0, none⟩ (.slice A1 dx.length c1)) := by
  subst ha hb hd
  exact ⟨below_set9 h.1 h.2.lop _, h.2.setD (World.grownBy.refl _ _) (h.2.ds.take a hl)⟩
theorem PopI.cutT (h : PopI lo W p g ds dx ts tx ms A1 A2 c1 c2 c3 fa fb x) (ha : fa = true) (hb : fb = false) {b : Nat} (hd : tx = ts.take b) (hl : b ≤ ts.length) : PopI lo W p g ds dx ts tx ms A1 A2 c1 c2 c3 fa true (x.setCell ⟨p, 1, none⟩ (.slice A2 tx.length c2)) := by
  subst ha hb hd
  exact ⟨below_set9 h.1 h.2.lop _, h.2.setT (World.grownBy.refl _ _) (h.2.ts.take b hl)⟩
end
theorem size_mark (W : World) : (sizeOf (Tryz.prog.elem 80)).run Tryz.prog W = .ok 2 W := by kernel_rfl
set_option maxRecDepth 100000 in
set_option maxHeartbeats 8000000 in
theorem chgPop_cut (lo p : Nat) (ds : List D) (ts : List T) (mx my : List (Int × Int)) (m : Int × Int) (w : World) (h : StkE lo w p ds ts (mx ++ [m])) (hmx : mx.length ≤ 1048576) (a b : Nat) (hm : mx = [] ∨ mx = my ++ [((a : Int), (b : Int))]) (ha : a ≤ ds.length) (hb : b ≤ ts.length) (hd9 : ds.length ≤ 1048576) (ht9 : ts.length ≤ 1048576) :
    Calls Tryz.prog 66 #[.pointer (some ⟨p, 0, none⟩)] w fun e w' => e = .returned (.tuple #[]) ∧ (mx = [] → StkE lo w' p ds ts []) ∧ (mx ≠ [] → StkE lo w' p (ds.take a) (ts.take b) mx) ∧ Below lo w w' := by
  obtain ⟨ms, hms⟩ : ∃ ms, ms = mx ++ [m] := ⟨_, rfl⟩
  rw [← hms] at h
  have HMS := Lib.hid hms
  have HM := Lib.hid hm
  obtain ⟨A1, A2, A3, c1, c2, c3, h⟩ := h
  have hml : ms.length = mx.length + 1 := by rw [hms]; simp
  obtain ⟨g, rfl⟩ := h.ms.first (by omega)
  have HTK : Hid (OwnR Lay.mark 90 w lo (.slice (some ⟨g, 0, none⟩) mx.length c3) mx) := Lib.hid (by
    have h9 := h.ms.take mx.length (by omega)
    rw [show ms.take mx.length = mx from by rw [hms]; simp] at h9
    exact h9)
  have HSLM : Hid (∀ W : World, (Instr.slice 80 (.slice (some ⟨g, 0, none⟩) ms.length c3) none (some (.int .i64 (mx.length : Int))) none).run Tryz.prog W = .ok (.slice (some ⟨g, 0, none⟩) mx.length c3) W) := Lib.hid (by
    have h9 := (slice_hR (t := 80) Tryz.underlying80 size_mark (OwnL.rd h.ms) mx.length (by omega) (OwnL.capl h.ms)).1
    rw [show ms.take mx.length = mx from by rw [hms]; simp] at h9
    exact h9)
  have HST := Lib.hid h
  have d2 := Later.cell (cell_of_block h.box 2).1
  have hn1 : (ms.length : Int) - 1 = (mx.length : Int) := by omega
  have hloW := h.loW
  have HML := Lib.hid hml
  have hmb : ms.length ≤ 1048577 := by omega
  clear hms h hm hml
  go_enter Tryz.func66, Tryz.ntmps66
  go_wp2
  refine wp_region_shares [[], [], [(1, 3)], [(2, 4)], [(3, 5)], [], [(5, 7)], [(6, 8)], [(7, 9)], [(8, 10)], [(9, 11)], [(4, 6), (10, 12)], [(0, 2)], [(12, 14)], [(13, 15), (11, 13)]]
    [.eq (.pointer (some ⟨p, 0, none⟩)), .eq (.pointer (some ⟨p, 0, none⟩)), .eq (.pointer (some ⟨p, 0, none⟩)), .eq (.pointer (some ⟨p, 2, none⟩)), .eq (.slice (some ⟨g, 0, none⟩) ms.length c3), .eq (.pointer (some ⟨p, 0, none⟩)), .eq (.pointer (some ⟨p, 0, none⟩)), .eq (.pointer (some ⟨p, 2, none⟩)), .eq (.slice (some ⟨g, 0, none⟩) ms.length c3), .eq (.int .i64 (ms.length : Int)), .eq (.int .i64 (mx.length : Int)), .eq (.slice (some ⟨g, 0, none⟩) mx.length c3), .eq (.pointer (some ⟨p, 0, none⟩)), .eq (.pointer (some ⟨p, 2, none⟩)), Fact.stk lo w p ds ts mx]
    [14] [14] [] [14] [(0, 2), (1, 3), (2, 4), (3, 5), (4, 6), (5, 7), (6, 8), (7, 9), (8, 10), (9, 11), (10, 12), (11, 13), (12, 14), (13, 15)] (by kernel_rfl) (by kernel_rfl) (by kernel_rfl) (by kernel_rfl)
    ⟨?_, ?_, ?_, ?_, ?_, ?_, ?_, ?_, ?_, ?_, ?_, ?_, ?_, ?_, ?_, trivial⟩ ?_
  · intro vals z hC hF
    simp only [putsD, Act.put, List.setIfInBounds_toArray, List.set_cons_zero, List.set_cons_succ]
    go_wp2
    exact ⟨rfl, rfl, .inr (Below.refl _ _), .inr (.inl (by simp))⟩
  · intro vals z hC hF
    simp only [putsD, Act.put, List.setIfInBounds_toArray, List.set_cons_zero, List.set_cons_succ]
    go_wp2
    exact ⟨rfl, rfl, .inr (Below.refl _ _), .inr (.inl (by simp))⟩
  · intro vals z hC hF
    simp only [factsD, List.getD_cons_zero, List.getD_cons_succ, Fact.eq, Fact.row, Fact.lit, Fact.lit0, Fact.of, and_true, Fact.stk] at hF
    simp only [putsD, Act.put, List.setIfInBounds_toArray, List.set_cons_zero, List.set_cons_succ]
    simp only [hF]
    go_wp2
    exact ⟨rfl, rfl, .inr (Below.refl _ _), .inr (.inl (by simp))⟩
  · intro vals z hC hF
    simp only [factsD, List.getD_cons_zero, List.getD_cons_succ, Fact.eq, Fact.row, Fact.lit, Fact.lit0, Fact.of, and_true, Fact.stk] at hF
    simp only [putsD, Act.put, List.setIfInBounds_toArray, List.set_cons_zero, List.set_cons_succ]
    simp only [hF]
    go_wp2
    exact ⟨rfl, rfl, .inr (Below.refl _ _), .inr (.inl (by simp))⟩
  · intro vals z hC hF
    have hC := hC.resolve_left (by simp)
    have hsz := hC.size
    have e1 : z.cell? _ = _ := d2 ⟨z, hC⟩
    simp only [factsD, List.getD_cons_zero, List.getD_cons_succ, Fact.eq, Fact.row, Fact.lit, Fact.lit0, Fact.of, and_true, Fact.stk] at hF
    simp only [putsD, Act.put, List.setIfInBounds_toArray, List.set_cons_zero, List.set_cons_succ]
    simp only [hF]
    go_wp2
    exact ⟨rfl, rfl, .inr (Below.refl _ _), .inr (.inl (by simp))⟩
  · intro vals z hC hF
    simp only [putsD, Act.put, List.setIfInBounds_toArray, List.set_cons_zero, List.set_cons_succ]
    go_wp2
    exact ⟨rfl, rfl, .inr (Below.refl _ _), .inr (.inl (by simp))⟩
  · intro vals z hC hF
    simp only [factsD, List.getD_cons_zero, List.getD_cons_succ, Fact.eq, Fact.row, Fact.lit, Fact.lit0, Fact.of, and_true, Fact.stk] at hF
    simp only [putsD, Act.put, List.setIfInBounds_toArray, List.set_cons_zero, List.set_cons_succ]
    simp only [hF]
    go_wp2
    exact ⟨rfl, rfl, .inr (Below.refl _ _), .inr (.inl (by simp))⟩
  · intro vals z hC hF
    simp only [factsD, List.getD_cons_zero, List.getD_cons_succ, Fact.eq, Fact.row, Fact.lit, Fact.lit0, Fact.of, and_true, Fact.stk] at hF
    simp only [putsD, Act.put, List.setIfInBounds_toArray, List.set_cons_zero, List.set_cons_succ]
    simp only [hF]
    go_wp2
    exact ⟨rfl, rfl, .inr (Below.refl _ _), .inr (.inl (by simp))⟩
  · intro vals z hC hF
    have hC := hC.resolve_left (by simp)
    have hsz := hC.size
    have e1 : z.cell? _ = _ := d2 ⟨z, hC⟩
    simp only [factsD, List.getD_cons_zero, List.getD_cons_succ, Fact.eq, Fact.row, Fact.lit, Fact.lit0, Fact.of, and_true, Fact.stk] at hF
    simp only [putsD, Act.put, List.setIfInBounds_toArray, List.set_cons_zero, List.set_cons_succ]
    simp only [hF]
    go_wp2
    exact ⟨rfl, rfl, .inr (Below.refl _ _), .inr (.inl (by simp))⟩
  · intro vals z hC hF
    simp only [factsD, List.getD_cons_zero, List.getD_cons_succ, Fact.eq, Fact.row, Fact.lit, Fact.lit0, Fact.of, and_true, Fact.stk] at hF
    simp only [putsD, Act.put, List.setIfInBounds_toArray, List.set_cons_zero, List.set_cons_succ]
    simp only [hF]
    go_wp2
    exact ⟨rfl, rfl, .inr (Below.refl _ _), .inr (.inl (by simp))⟩
  · intro vals z hC hF
    simp only [factsD, List.getD_cons_zero, List.getD_cons_succ, Fact.eq, Fact.row, Fact.lit, Fact.lit0, Fact.of, and_true, Fact.stk] at hF
    simp only [putsD, Act.put, List.setIfInBounds_toArray, List.set_cons_zero, List.set_cons_succ]
    simp only [hF]
    go_wp2
    exact ⟨rfl, rfl, .inr (Below.refl _ _), .inr (.inl (by simp))⟩
  · intro vals z hC hF
    simp only [factsD, List.getD_cons_zero, List.getD_cons_succ, Fact.eq, Fact.row, Fact.lit, Fact.lit0, Fact.of, and_true, Fact.stk] at hF
    obtain ⟨e1, e2⟩ := hF
    have hsl := HSLM.out
    simp only [putsD, Act.put, List.setIfInBounds_toArray, List.set_cons_zero, List.set_cons_succ]
    simp only [e1, e2]
    go_wp2
    exact ⟨rfl, rfl, .inr (Below.refl _ _), .inr (.inl (by simp))⟩
  · intro vals z hC hF
    simp only [factsD, List.getD_cons_zero, List.getD_cons_succ, Fact.eq, Fact.row, Fact.lit, Fact.lit0, Fact.of, and_true, Fact.stk] at hF
    simp only [putsD, Act.put, List.setIfInBounds_toArray, List.set_cons_zero, List.set_cons_succ]
    simp only [hF]
    go_wp2
    exact ⟨rfl, rfl, .inr (Below.refl _ _), .inr (.inl (by simp))⟩
  · intro vals z hC hF
    simp only [factsD, List.getD_cons_zero, List.getD_cons_succ, Fact.eq, Fact.row, Fact.lit, Fact.lit0, Fact.of, and_true, Fact.stk] at hF
    simp only [putsD, Act.put, List.setIfInBounds_toArray, List.set_cons_zero, List.set_cons_succ]
    simp only [hF]
    go_wp2
    exact ⟨rfl, rfl, .inr (Below.refl _ _), .inr (.inl (by simp))⟩
  · intro vals z hC hF
    have hC := hC.resolve_left (by simp)
    have hsz := hC.size
    simp only [factsD, List.getD_cons_zero, List.getD_cons_succ, Fact.eq, Fact.row, Fact.lit, Fact.lit0, Fact.of, and_true, Fact.stk] at hF
    obtain ⟨e11, e8⟩ := hF
    have HS9 := HST.out.up hC
    have x1 := (cell_of_block HS9.box 2).1
    have x2 := (cell_of_block HS9.box 2).2
    have HSM := Lib.hid (HS9.setM (World.grownBy.refl _ _) (OwnR.up HTK.out hC))
    have HBL := Lib.hid (below_set9 (p := ⟨p, 2, none⟩) (hC.mono hloW) HST.out.lop (.slice (some ⟨g, 0, none⟩) mx.length c3))
    have HLW := Lib.hid HS9.loW
    clear HS9
    simp only [putsD, Act.put, List.setIfInBounds_toArray, List.set_cons_zero, List.set_cons_succ]
    simp only [e11, e8]
    go_wp2
    exact ⟨rfl, ⟨⟨_, _, _, _, _, _, HSM.out⟩, HBL.out, by rw [size_setCell]; exact HLW.out⟩, .inl (by simp), .inl (by simp)⟩
  · intro vals z hF
    simp only [facts, List.getD_cons_zero, List.getD_cons_succ, Fact.eq, Fact.row, Fact.lit, Fact.lit0, Fact.of, and_true, Fact.stk] at hF
    obtain ⟨hS9, hB9, _⟩ := hF
    simp only [putsD, Act.put, List.setIfInBounds_toArray, List.set_cons_zero, List.set_cons_succ]
    obtain ⟨B1, B2, B3, b1, b2, b3, hS⟩ := hS9
    have v2 := (cell_of_block hS.box 2).1
    have HSS := Lib.hid hS
    have HBB := Lib.hid hB9
    clear hS hB9 d2
    rcases HM.out with hm | hm
    · subst hm
      have v2 : z.cell? ⟨p, 2, none⟩ = some (.slice B3 0 b3) := v2
      go_wp2
      go_returns
      exact ⟨rfl, ⟨_, _, _, _, _, _, HSS.out⟩, HBB.out⟩
    · have hmn : mx ≠ [] := fun e => by rw [e] at hm; exact absurd hm.symm (by simp)
      have hmyl : mx.length = my.length + 1 := by rw [hm]; simp
      have hat : mx[my.length]'(by omega) = ((a : Int), (b : Int)) := by simp only [hm]; exact last_at my _ _
      obtain ⟨g2, rfl⟩ := HSS.out.ms.first (by omega)
      have hpos : (0 : Int) < (mx.length : Int) := by omega
      have hmk := HSS.out
      have hsd := (slice_hR (t := 55) Tryz.underlying55 size_decl (OwnL.rd hmk.ds) a ha (OwnL.capl hmk.ds)).1
      have hst := (slice_hR (t := 24) Tryz.underlying24 size_term (OwnL.rd hmk.ts) b hb (OwnL.capl hmk.ts)).1
      have hcd := OwnL.capl hmk.ds
      have hct := OwnL.capl hmk.ts
      obtain ⟨dx, hdx⟩ : ∃ dx, dx = ds.take a := ⟨_, rfl⟩
      obtain ⟨tx, htx⟩ : ∃ tx, tx = ts.take b := ⟨_, rfl⟩
      rw [← hdx] at hsd
      rw [← htx] at hst
      have HDX := Lib.hid hdx
      have HTX := Lib.hid htx
      have HSD := Lib.hid hsd
      have HSTT := Lib.hid hst
      have HAT : Hid (∀ (x : World), Stk lo x p ds ts mx B1 B2 (some ⟨g2, 0, none⟩) b1 b2 b3 → x.cell? ⟨g2, my.length * 2, none⟩ = some (.int .i64 (a : Int)) ∧ x.cell? ⟨g2, my.length * 2 + 1, none⟩ = some (.int .i64 (b : Int))) := Lib.hid (fun x hx => by
        obtain ⟨m1, m2, _⟩ := hx.ms.atMark (k := my.length) (by omega)
        rw [hat] at m1 m2
        exact ⟨m1, m2⟩)
      have HLA : Hid (∀ (x : World), Stk lo x p ds ts mx B1 B2 (some ⟨g2, 0, none⟩) b1 b2 b3 → Calls Tryz.prog 65 #[.pointer (some ⟨p, 0, none⟩)] x fun e w' => e = .returned (.pointer (some ⟨g2, my.length * 2, none⟩)) ∧ Below x.heap.size x w') := Lib.hid (fun x hx => last_any lo p g2 my.length ds ts mx B1 B2 b1 b2 b3 x hx hmyl (by omega))
      have HI0 : Hid (PopI lo w p g2 ds dx ts tx mx B1 B2 b1 b2 b3 false false z) := Lib.hid ⟨HBB.out, HSS.out⟩
      have HMN := Lib.hid hmn
      have HMYL := Lib.hid hmyl
      clear hm hat hmk hsd hst hdx htx hmn hmyl hn1
      go_wp2
      refine wp_region_rel4 [[], [], [], [(2, 24)], [(3, 25)], [(4, 26)], [], [(6, 28)], [(7, 29)], [(8, 30)], [(9, 31)], [(5, 27), (10, 32)], [], [(12, 34)], [(13, 35)], [(14, 36)], [], [(16, 38)], [(17, 39)], [(18, 40)], [(19, 41)], [(15, 37), (20, 42)], [(0, 22)], [(22, 44)], [(23, 45), (11, 33)], [(1, 23)], [(25, 46)], [(26, 47), (21, 43)]]
        (fun _ _ => True)
        []
        (fun f9 x9 => PopI lo w p g2 ds dx ts tx mx B1 B2 b1 b2 b3 (f9 24) (f9 27) x9)
        [fun vs9 _ => vs9 0 = (.pointer (some ⟨p, 0, none⟩)),
    fun vs9 _ => vs9 1 = (.pointer (some ⟨p, 0, none⟩)),
    fun vs9 _ => vs9 2 = (.pointer (some ⟨p, 0, none⟩)),
    fun vs9 _ => vs9 3 = (.pointer (some ⟨p, 0, none⟩)),
    fun vs9 _ => vs9 4 = (.pointer (some ⟨p, 0, none⟩)),
    fun vs9 _ => vs9 5 = (.slice B1 ds.length b1),
    fun vs9 _ => vs9 6 = (.pointer (some ⟨p, 0, none⟩)),
    fun vs9 _ => vs9 7 = (.pointer (some ⟨g2, my.length * 2, none⟩)),
    fun vs9 _ => vs9 8 = (.pointer (some ⟨g2, my.length * 2, none⟩)),
    fun vs9 _ => vs9 9 = (.pointer (some ⟨g2, my.length * 2, none⟩)),
    fun vs9 _ => vs9 10 = (.int .i64 (a : Int)),
    fun vs9 _ => vs9 11 = (.slice B1 dx.length b1),
    fun vs9 _ => vs9 12 = (.pointer (some ⟨p, 0, none⟩)),
    fun vs9 _ => vs9 13 = (.pointer (some ⟨p, 0, none⟩)),
    fun vs9 _ => vs9 14 = (.pointer (some ⟨p, 1, none⟩)),
    fun vs9 _ => vs9 15 = (.slice B2 ts.length b2),
    fun vs9 _ => vs9 16 = (.pointer (some ⟨p, 0, none⟩)),
    fun vs9 _ => vs9 17 = (.pointer (some ⟨g2, my.length * 2, none⟩)),
    fun vs9 _ => vs9 18 = (.pointer (some ⟨g2, my.length * 2, none⟩)),
    fun vs9 _ => vs9 19 = (.pointer (some ⟨g2, my.length * 2 + 1, none⟩)),
    fun vs9 _ => vs9 20 = (.int .i64 (b : Int)),
    fun vs9 _ => vs9 21 = (.slice B2 tx.length b2),
    fun vs9 _ => vs9 22 = (.pointer (some ⟨p, 0, none⟩)),
    fun vs9 _ => vs9 23 = (.pointer (some ⟨p, 0, none⟩)),
    fun _ _ => True,
    fun vs9 _ => vs9 25 = (.pointer (some ⟨p, 0, none⟩)),
    fun vs9 _ => vs9 26 = (.pointer (some ⟨p, 1, none⟩)),
    fun _ _ => True]
        [(0, 22), (1, 23), (2, 24), (3, 25), (4, 26), (5, 27), (6, 28), (7, 29), (8, 30), (9, 31), (10, 32), (11, 33), (12, 34), (13, 35), (14, 36), (15, 37), (16, 38), (17, 39), (18, 40), (19, 41), (20, 42), (21, 43), (22, 44), (23, 45), (25, 46), (26, 47)] (by kernel_rfl) (by kernel_rfl) (by kernel_rfl) (by kernel_rfl)
        (fun _ => trivial) trivial
        ⟨⟨.inr (fun _ _ _ h _ => h), trivial⟩,
    ⟨.inr (fun _ _ _ h _ => h), trivial⟩,
    ⟨.inr (fun _ _ _ h _ => h), trivial⟩,
    ⟨.inr (fun _ _ _ h _ => h), trivial⟩,
    ⟨.inr (fun _ _ _ h _ => h), trivial⟩,
    ⟨.inr (fun _ _ _ h _ => h), trivial⟩,
    ⟨.inr (fun _ _ _ h _ => h), trivial⟩,
    ⟨.inr (fun _ _ _ h _ => h), trivial⟩,
    ⟨.inr (fun _ _ _ h _ => h), trivial⟩,
    ⟨.inr (fun _ _ _ h _ => h), trivial⟩,
    ⟨.inr (fun _ _ _ h _ => h), trivial⟩,
    ⟨.inr (fun _ _ _ h _ => h), trivial⟩,
    ⟨.inr (fun _ _ _ h _ => h), trivial⟩,
    ⟨.inr (fun _ _ _ h _ => h), trivial⟩,
    ⟨.inr (fun _ _ _ h _ => h), trivial⟩,
    ⟨.inr (fun _ _ _ h _ => h), trivial⟩,
    ⟨.inr (fun _ _ _ h _ => h), trivial⟩,
    ⟨.inr (fun _ _ _ h _ => h), trivial⟩,
    ⟨.inr (fun _ _ _ h _ => h), trivial⟩,
    ⟨.inr (fun _ _ _ h _ => h), trivial⟩,
    ⟨.inr (fun _ _ _ h _ => h), trivial⟩,
    ⟨.inr (fun _ _ _ h _ => h), trivial⟩,
    ⟨.inr (fun _ _ _ h _ => h), trivial⟩,
    ⟨.inr (fun _ _ _ h _ => h), trivial⟩,
    ⟨.inr (fun _ _ _ h _ => h), trivial⟩,
    ⟨.inr (fun _ _ _ h _ => h), trivial⟩,
    ⟨.inr (fun _ _ _ h _ => h), trivial⟩,
    ⟨.inr (fun _ _ _ h _ => h), trivial⟩, trivial⟩ ⟨fun vs vs' x h _ hv => (by dsimp only at hv ⊢; first | (rw [← h]; exact hv) | exact hv),
    fun vs vs' x h _ hv => (by dsimp only at hv ⊢; first | (rw [← h]; exact hv) | exact hv),
    fun vs vs' x h _ hv => (by dsimp only at hv ⊢; first | (rw [← h]; exact hv) | exact hv),
    fun vs vs' x h _ hv => (by dsimp only at hv ⊢; first | (rw [← h]; exact hv) | exact hv),
    fun vs vs' x h _ hv => (by dsimp only at hv ⊢; first | (rw [← h]; exact hv) | exact hv),
    fun vs vs' x h _ hv => (by dsimp only at hv ⊢; first | (rw [← h]; exact hv) | exact hv),
    fun vs vs' x h _ hv => (by dsimp only at hv ⊢; first | (rw [← h]; exact hv) | exact hv),
    fun vs vs' x h _ hv => (by dsimp only at hv ⊢; first | (rw [← h]; exact hv) | exact hv),
    fun vs vs' x h _ hv => (by dsimp only at hv ⊢; first | (rw [← h]; exact hv) | exact hv),
    fun vs vs' x h _ hv => (by dsimp only at hv ⊢; first | (rw [← h]; exact hv) | exact hv),
    fun vs vs' x h _ hv => (by dsimp only at hv ⊢; first | (rw [← h]; exact hv) | exact hv),
    fun vs vs' x h _ hv => (by dsimp only at hv ⊢; first | (rw [← h]; exact hv) | exact hv),
    fun vs vs' x h _ hv => (by dsimp only at hv ⊢; first | (rw [← h]; exact hv) | exact hv),
    fun vs vs' x h _ hv => (by dsimp only at hv ⊢; first | (rw [← h]; exact hv) | exact hv),
    fun vs vs' x h _ hv => (by dsimp only at hv ⊢; first | (rw [← h]; exact hv) | exact hv),
    fun vs vs' x h _ hv => (by dsimp only at hv ⊢; first | (rw [← h]; exact hv) | exact hv),
    fun vs vs' x h _ hv => (by dsimp only at hv ⊢; first | (rw [← h]; exact hv) | exact hv),
    fun vs vs' x h _ hv => (by dsimp only at hv ⊢; first | (rw [← h]; exact hv) | exact hv),
    fun vs vs' x h _ hv => (by dsimp only at hv ⊢; first | (rw [← h]; exact hv) | exact hv),
    fun vs vs' x h _ hv => (by dsimp only at hv ⊢; first | (rw [← h]; exact hv) | exact hv),
    fun vs vs' x h _ hv => (by dsimp only at hv ⊢; first | (rw [← h]; exact hv) | exact hv),
    fun vs vs' x h _ hv => (by dsimp only at hv ⊢; first | (rw [← h]; exact hv) | exact hv),
    fun vs vs' x h _ hv => (by dsimp only at hv ⊢; first | (rw [← h]; exact hv) | exact hv),
    fun vs vs' x h _ hv => (by dsimp only at hv ⊢; first | (rw [← h]; exact hv) | exact hv),
    fun _ _ _ _ _ _ => trivial,
    fun vs vs' x h _ hv => (by dsimp only at hv ⊢; first | (rw [← h]; exact hv) | exact hv),
    fun vs vs' x h _ hv => (by dsimp only at hv ⊢; first | (rw [← h]; exact hv) | exact hv),
    fun _ _ _ _ _ _ => trivial, trivial⟩ (HI0.out.up (below_drewN (Below.refl _ _) 1)) ⟨?_, ?_, ?_, ?_, ?_, ?_, ?_, ?_, ?_, ?_, ?_, ?_, ?_, ?_, ?_, ?_, ?_, ?_, ?_, ?_, ?_, ?_, ?_, ?_, ?_, ?_, ?_, ?_, trivial⟩ ?_
      · intro vals xw f hf1 hf2 hf3 hI hF
        clear hf2 hf3
        dsimp only [owes4, bare]
        simp only [putsD, Act.put, List.setIfInBounds_toArray, List.set_cons_zero, List.set_cons_succ]
        go_wp2
        exact ⟨rfl, rfl, trivial, hI⟩
      · intro vals xw f hf1 hf2 hf3 hI hF
        clear hf2 hf3
        dsimp only [owes4, bare]
        simp only [putsD, Act.put, List.setIfInBounds_toArray, List.set_cons_zero, List.set_cons_succ]
        go_wp2
        exact ⟨rfl, rfl, trivial, hI⟩
      · intro vals xw f hf1 hf2 hf3 hI hF
        clear hf2 hf3
        dsimp only [owes4, bare]
        simp only [putsD, Act.put, List.setIfInBounds_toArray, List.set_cons_zero, List.set_cons_succ]
        go_wp2
        exact ⟨rfl, rfl, trivial, hI⟩
      · intro vals xw f hf1 hf2 hf3 hI hF
        clear hf2 hf3
        simp only [saysD, List.getD_cons_zero, List.getD_cons_succ, and_true] at hF
        dsimp only [owes4, bare]
        simp only [putsD, Act.put, List.setIfInBounds_toArray, List.set_cons_zero, List.set_cons_succ]
        simp only [hF]
        go_wp2
        exact ⟨rfl, rfl, trivial, hI⟩
      · intro vals xw f hf1 hf2 hf3 hI hF
        clear hf2 hf3
        simp only [saysD, List.getD_cons_zero, List.getD_cons_succ, and_true] at hF
        dsimp only [owes4, bare]
        simp only [putsD, Act.put, List.setIfInBounds_toArray, List.set_cons_zero, List.set_cons_succ]
        simp only [hF]
        go_wp2
        exact ⟨rfl, rfl, trivial, hI⟩
      · intro vals xw f hf1 hf2 hf3 hI hF
        have k24 : f 24 = false := hf3 24 (by kernel_rfl)
        have k27 : f 27 = false := hf3 27 (by kernel_rfl)
        clear hf2 hf3
        simp only [saysD, List.getD_cons_zero, List.getD_cons_succ, and_true] at hF
        dsimp only [owes4, bare]
        simp only [putsD, Act.put, List.setIfInBounds_toArray, List.set_cons_zero, List.set_cons_succ]
        simp only [hF]
        have d0 := (cell_of_block (hI.at k24 k27).box 0).1
        go_wp2
        exact ⟨rfl, rfl, trivial, hI⟩
      · intro vals xw f hf1 hf2 hf3 hI hF
        clear hf2 hf3
        dsimp only [owes4, bare]
        simp only [putsD, Act.put, List.setIfInBounds_toArray, List.set_cons_zero, List.set_cons_succ]
        go_wp2
        exact ⟨rfl, rfl, trivial, hI⟩
      · intro vals xw f hf1 hf2 hf3 hI hF
        have k24 : f 24 = false := hf3 24 (by kernel_rfl)
        have k27 : f 27 = false := hf3 27 (by kernel_rfl)
        clear hf2 hf3
        simp only [saysD, List.getD_cons_zero, List.getD_cons_succ, and_true] at hF
        have e1 := hF
        dsimp only [owes4, bare]
        simp only [putsD, Act.put, List.setIfInBounds_toArray, List.set_cons_zero, List.set_cons_succ]
        simp only [e1]
        have HL9 := Lib.hid (HLA.out xw (hI.at k24 k27))
        have HII := Lib.hid hI
        clear hI
        go_wp2_with fail
        refine HL9.out.mono ?_
        rintro e w9 ⟨rfl, hb9⟩
        have HB9 := Lib.hid (HII.out.up hb9)
        clear hb9
        go_wp2
        exact ⟨rfl, rfl, trivial, HB9.out⟩
      · intro vals xw f hf1 hf2 hf3 hI hF
        clear hf2 hf3
        simp only [saysD, List.getD_cons_zero, List.getD_cons_succ, and_true] at hF
        dsimp only [owes4, bare]
        simp only [putsD, Act.put, List.setIfInBounds_toArray, List.set_cons_zero, List.set_cons_succ]
        simp only [hF]
        go_wp2
        exact ⟨rfl, rfl, trivial, hI⟩
      · intro vals xw f hf1 hf2 hf3 hI hF
        clear hf2 hf3
        simp only [saysD, List.getD_cons_zero, List.getD_cons_succ, and_true] at hF
        dsimp only [owes4, bare]
        simp only [putsD, Act.put, List.setIfInBounds_toArray, List.set_cons_zero, List.set_cons_succ]
        simp only [hF]
        go_wp2
        exact ⟨rfl, rfl, trivial, hI⟩
      · intro vals xw f hf1 hf2 hf3 hI hF
        have k24 : f 24 = false := hf3 24 (by kernel_rfl)
        have k27 : f 27 = false := hf3 27 (by kernel_rfl)
        clear hf2 hf3
        simp only [saysD, List.getD_cons_zero, List.getD_cons_succ, and_true] at hF
        dsimp only [owes4, bare]
        simp only [putsD, Act.put, List.setIfInBounds_toArray, List.set_cons_zero, List.set_cons_succ]
        simp only [hF]
        have d0 := (HAT.out xw (hI.at k24 k27)).1
        go_wp2
        exact ⟨rfl, rfl, trivial, hI⟩
      · intro vals xw f hf1 hf2 hf3 hI hF
        clear hf2 hf3
        simp only [saysD, List.getD_cons_zero, List.getD_cons_succ, and_true] at hF
        obtain ⟨e1, e2⟩ := hF
        dsimp only [owes4, bare]
        simp only [putsD, Act.put, List.setIfInBounds_toArray, List.set_cons_zero, List.set_cons_succ]
        simp only [e1, e2]
        have hsd := HSD.out
        go_wp2
        exact ⟨rfl, rfl, trivial, hI⟩
      · intro vals xw f hf1 hf2 hf3 hI hF
        clear hf2 hf3
        dsimp only [owes4, bare]
        simp only [putsD, Act.put, List.setIfInBounds_toArray, List.set_cons_zero, List.set_cons_succ]
        go_wp2
        exact ⟨rfl, rfl, trivial, hI⟩
      · intro vals xw f hf1 hf2 hf3 hI hF
        clear hf2 hf3
        simp only [saysD, List.getD_cons_zero, List.getD_cons_succ, and_true] at hF
        dsimp only [owes4, bare]
        simp only [putsD, Act.put, List.setIfInBounds_toArray, List.set_cons_zero, List.set_cons_succ]
        simp only [hF]
        go_wp2
        exact ⟨rfl, rfl, trivial, hI⟩
      · intro vals xw f hf1 hf2 hf3 hI hF
        clear hf2 hf3
        simp only [saysD, List.getD_cons_zero, List.getD_cons_succ, and_true] at hF
        dsimp only [owes4, bare]
        simp only [putsD, Act.put, List.setIfInBounds_toArray, List.set_cons_zero, List.set_cons_succ]
        simp only [hF]
        go_wp2
        exact ⟨rfl, rfl, trivial, hI⟩
      · intro vals xw f hf1 hf2 hf3 hI hF
        have k24 : f 24 = false := hf3 24 (by kernel_rfl)
        have k27 : f 27 = false := hf3 27 (by kernel_rfl)
        clear hf2 hf3
        simp only [saysD, List.getD_cons_zero, List.getD_cons_succ, and_true] at hF
        dsimp only [owes4, bare]
        simp only [putsD, Act.put, List.setIfInBounds_toArray, List.set_cons_zero, List.set_cons_succ]
        simp only [hF]
        have d1 := (cell_of_block (hI.at k24 k27).box 1).1
        go_wp2
        exact ⟨rfl, rfl, trivial, hI⟩
      · intro vals xw f hf1 hf2 hf3 hI hF
        clear hf2 hf3
        dsimp only [owes4, bare]
        simp only [putsD, Act.put, List.setIfInBounds_toArray, List.set_cons_zero, List.set_cons_succ]
        go_wp2
        exact ⟨rfl, rfl, trivial, hI⟩
      · intro vals xw f hf1 hf2 hf3 hI hF
        have k24 : f 24 = false := hf3 24 (by kernel_rfl)
        have k27 : f 27 = false := hf3 27 (by kernel_rfl)
        clear hf2 hf3
        simp only [saysD, List.getD_cons_zero, List.getD_cons_succ, and_true] at hF
        have e1 := hF
        dsimp only [owes4, bare]
        simp only [putsD, Act.put, List.setIfInBounds_toArray, List.set_cons_zero, List.set_cons_succ]
        simp only [e1]
        have HL9 := Lib.hid (HLA.out xw (hI.at k24 k27))
        have HII := Lib.hid hI
        clear hI
        go_wp2_with fail
        refine HL9.out.mono ?_
        rintro e w9 ⟨rfl, hb9⟩
        have HB9 := Lib.hid (HII.out.up hb9)
        clear hb9
        go_wp2
        exact ⟨rfl, rfl, trivial, HB9.out⟩
      · intro vals xw f hf1 hf2 hf3 hI hF
        clear hf2 hf3
        simp only [saysD, List.getD_cons_zero, List.getD_cons_succ, and_true] at hF
        dsimp only [owes4, bare]
        simp only [putsD, Act.put, List.setIfInBounds_toArray, List.set_cons_zero, List.set_cons_succ]
        simp only [hF]
        go_wp2
        exact ⟨rfl, rfl, trivial, hI⟩
      · intro vals xw f hf1 hf2 hf3 hI hF
        clear hf2 hf3
        simp only [saysD, List.getD_cons_zero, List.getD_cons_succ, and_true] at hF
        dsimp only [owes4, bare]
        simp only [putsD, Act.put, List.setIfInBounds_toArray, List.set_cons_zero, List.set_cons_succ]
        simp only [hF]
        go_wp2
        exact ⟨rfl, rfl, trivial, hI⟩
      · intro vals xw f hf1 hf2 hf3 hI hF
        have k24 : f 24 = false := hf3 24 (by kernel_rfl)
        have k27 : f 27 = false := hf3 27 (by kernel_rfl)
        clear hf2 hf3
        simp only [saysD, List.getD_cons_zero, List.getD_cons_succ, and_true] at hF
        dsimp only [owes4, bare]
        simp only [putsD, Act.put, List.setIfInBounds_toArray, List.set_cons_zero, List.set_cons_succ]
        simp only [hF]
        have d0 := (HAT.out xw (hI.at k24 k27)).2
        go_wp2
        exact ⟨rfl, rfl, trivial, hI⟩
      · intro vals xw f hf1 hf2 hf3 hI hF
        clear hf2 hf3
        simp only [saysD, List.getD_cons_zero, List.getD_cons_succ, and_true] at hF
        obtain ⟨e1, e2⟩ := hF
        dsimp only [owes4, bare]
        simp only [putsD, Act.put, List.setIfInBounds_toArray, List.set_cons_zero, List.set_cons_succ]
        simp only [e1, e2]
        have hst := HSTT.out
        go_wp2
        exact ⟨rfl, rfl, trivial, hI⟩
      · intro vals xw f hf1 hf2 hf3 hI hF
        clear hf2 hf3
        simp only [saysD, List.getD_cons_zero, List.getD_cons_succ, and_true] at hF
        dsimp only [owes4, bare]
        simp only [putsD, Act.put, List.setIfInBounds_toArray, List.set_cons_zero, List.set_cons_succ]
        simp only [hF]
        go_wp2
        exact ⟨rfl, rfl, trivial, hI⟩
      · intro vals xw f hf1 hf2 hf3 hI hF
        clear hf2 hf3
        simp only [saysD, List.getD_cons_zero, List.getD_cons_succ, and_true] at hF
        dsimp only [owes4, bare]
        simp only [putsD, Act.put, List.setIfInBounds_toArray, List.set_cons_zero, List.set_cons_succ]
        simp only [hF]
        go_wp2
        exact ⟨rfl, rfl, trivial, hI⟩
      · intro vals xw f hf1 hf2 hf3 hI hF
        have k27 : f 27 = false := hf3 27 (by kernel_rfl)
        clear hf2 hf3
        simp only [saysD, List.getD_cons_zero, List.getD_cons_succ, and_true] at hF
        obtain ⟨e1, e2⟩ := hF
        dsimp only [owes4, bare]
        simp only [putsD, Act.put, List.setIfInBounds_toArray, List.set_cons_zero, List.set_cons_succ]
        simp only [e1, e2]
        have hst9 := hI.at hf1 k27
        have x1 := (cell_of_block hst9.box 0).1
        have x2 := (cell_of_block hst9.box 0).2
        have HN9 := Lib.hid (hI.cutD hf1 k27 HDX.out ha)
        clear hst9 hI
        go_wp2
        exact ⟨rfl, trivial, trivial, HN9.out⟩
      · intro vals xw f hf1 hf2 hf3 hI hF
        clear hf2 hf3
        simp only [saysD, List.getD_cons_zero, List.getD_cons_succ, and_true] at hF
        dsimp only [owes4, bare]
        simp only [putsD, Act.put, List.setIfInBounds_toArray, List.set_cons_zero, List.set_cons_succ]
        simp only [hF]
        go_wp2
        exact ⟨rfl, rfl, trivial, hI⟩
      · intro vals xw f hf1 hf2 hf3 hI hF
        clear hf2 hf3
        simp only [saysD, List.getD_cons_zero, List.getD_cons_succ, and_true] at hF
        dsimp only [owes4, bare]
        simp only [putsD, Act.put, List.setIfInBounds_toArray, List.set_cons_zero, List.set_cons_succ]
        simp only [hF]
        go_wp2
        exact ⟨rfl, rfl, trivial, hI⟩
      · intro vals xw f hf1 hf2 hf3 hI hF
        have k24 : f 24 = true := hf2 24 (by kernel_rfl)
        clear hf2 hf3
        simp only [saysD, List.getD_cons_zero, List.getD_cons_succ, and_true] at hF
        obtain ⟨e1, e2⟩ := hF
        dsimp only [owes4, bare]
        simp only [putsD, Act.put, List.setIfInBounds_toArray, List.set_cons_zero, List.set_cons_succ]
        simp only [e1, e2]
        have hst9 := hI.2
        have x1 := (cell_of_block hst9.box 1).1
        have x2 := (cell_of_block hst9.box 1).2
        have HN9 := Lib.hid (hI.cutT k24 hf1 HTX.out hb)
        rw [hf1] at x1
        clear hst9 hI
        go_wp2
        exact ⟨rfl, trivial, trivial, HN9.out⟩
      · intro vals xw f hall hI hF
        rw [show List.range _ = [0, 1, 2, 3, 4, 5, 6, 7, 8, 9, 10, 11, 12, 13, 14, 15, 16, 17, 18, 19, 20, 21, 22, 23, 24, 25, 26, 27] from rfl] at hF
        simp only [says, List.getD_cons_zero, List.getD_cons_succ, and_true] at hF
        simp only [putsD, Act.put, List.setIfInBounds_toArray, List.set_cons_zero, List.set_cons_succ]
        have k24 : f 24 = true := hall 24 (by decide)
        have k27 : f 27 = true := hall 27 (by decide)
        have hI9 : PopI lo w p g2 ds dx ts tx mx B1 B2 b1 b2 b3 (f 24) (f 27) xw := hI
        rw [k24, k27] at hI9
        have HI9 := Lib.hid hI9
        clear hI9 hI k24 k27 hF
        go_wp2
        go_returns
        exact ⟨rfl, fun h => absurd h HMN.out, fun _ => by rw [← HDX.out, ← HTX.out]; exact ⟨_, _, _, _, _, _, HI9.out.2⟩, HI9.out.1⟩
end Go.Proofs.YtiahmfpfimmbgaaGreatDoor

/-! CtxPop. -/
namespace Go.Proofs.YtiahmfpfimmbgaaGreatDoor
open Go Go.RowKit Go.ChangeShapes Go.WideShapes Go.ChangeAt Go.Deep

def ctxPop (c : List Ly) : List Ly × Bool := ctxCh c c.dropLast
theorem dropLast_app9 (xs : List Ly) (l : Ly) : (xs ++ [l]).dropLast = xs := by simp
theorem okC_pop9 {c : List Ly} (h : okC c) (hk : ctxOk c = true) : okC c.dropLast := by
  obtain ⟨xs, l, rfl⟩ := last_of (ctxOk_parts hk).1
  rw [dropLast_app9]
  exact h.pop
theorem ctxPop_sm {c : List Ly} (h : smLayers c) : smR (ctxPop c).1 := ctxCh_sm h fun hk => by
  obtain ⟨xs, l, rfl⟩ := last_of (ctxOk_parts hk).1
  rw [dropLast_app9]
  have h1 := h.1
  have h2 := h.2.2.1
  rw [List.length_append] at h1
  rw [mwL_app] at h2
  exact ⟨by omega, fun x hx => h.2.1 x (List.mem_append_left _ hx), by omega⟩
set_option maxRecDepth 100000 in
set_option maxHeartbeats 2000000 in
theorem implCtxPop_u (c : List Ly) (A : Option Addr) (q : Nat) (w : World) (h : Lay.layer.Rd w A c) (_ : c.length ≤ q) (hs : smLayers c) :
    Calls Tryz.prog 29 #[.slice A c.length q] w (RetCh (ctxPop c) w) := by
  have HCH := Lib.hid (changed_Pop A q c c.dropLast w h hs.2.2.2 (fun hk => okC_pop9 hs.2.2.2 hk) (fun hk z p hb hst => by
    have hd := hs.2.2.2.ds
    have ht := hs.2.2.2.ts
    have h6 := (ctxOk_parts hk).2.1
    obtain ⟨xs, l, rfl⟩ := last_of (ctxOk_parts hk).1
    rw [dropLast_app9]
    rw [msAll_app] at hst
    have hml : (msAll xs).length ≤ 1048576 := by rw [msAll_len]; rw [List.length_append] at h6; omega
    have hda : (dsAll xs).length ≤ (dsAll (xs ++ [l])).length := by rw [dsAll_app, List.length_append]; omega
    have hta : (tsAll xs).length ≤ (tsAll (xs ++ [l])).length := by rw [tsAll_app, List.length_append]; omega
    have hm : msAll xs = [] ∨ msAll xs = (msAll xs).dropLast ++ [(((dsAll xs).length : Int), ((tsAll xs).length : Int))] := by
      rcases List.eq_nil_or_concat xs with rfl | ⟨ys, m, rfl⟩
      · exact .inl rfl
      · right
        rw [List.concat_eq_append, msAll_app]
        simp
    refine (chgPop_cut w.heap.size p _ _ (msAll xs) (msAll xs).dropLast _ z hst hml (dsAll xs).length (tsAll xs).length hm hda hta hd ht).mono ?_
    rintro e w' ⟨h1, h2, h3, h4⟩
    refine ⟨h1, ?_, h4⟩
    by_cases hx : xs = []
    · subst hx
      exact ⟨_, _, h2 rfl, fun h => absurd rfl h⟩
    · have hx0 : msAll xs ≠ [] := fun e => hx (List.eq_nil_of_length_eq_zero (by rw [← msAll_len xs, e]; rfl))
      have h5 := h3 hx0
      rw [show (dsAll (xs ++ [l])).take (dsAll xs).length = dsAll xs from by rw [dsAll_app]; simp, show (tsAll (xs ++ [l])).take (tsAll xs).length = tsAll xs from by rw [tsAll_app]; simp] at h5
      exact StkC.of h5))
  clear h hs
  go_enter Tryz.func29, Tryz.ntmps29
  go_wp2_with fail
  refine HCH.out.mono ?_
  rintro e w1 ⟨A1, c1, rfl, hc1, hr, hb⟩
  have HRR := Lib.hid (And.intro hc1 (And.intro hr hb))
  clear hc1 hr hb HCH
  obtain ⟨r9, hr9⟩ : ∃ r9, r9 = ctxCh c c.dropLast := ⟨_, rfl⟩
  have HR9 := Lib.hid hr9
  rw [← hr9] at HRR ⊢
  clear hr9
  go_wp2
  refine bodyPost_ret (v := .tuple #[.slice A1 r9.1.length c1, .bool r9.2]) (by simp [results, Tryz.results29, go_sem]) rfl ?_
  rw [show ctxPop c = r9 from HR9.out.symm]
  exact ⟨A1, c1, rfl, HRR.out.1, HRR.out.2.1, HRR.out.2.2⟩
theorem size_layer (W : World) : (sizeOf (Tryz.prog.elem 26)).run Tryz.prog W = .ok 2 W := by kernel_rfl
set_option maxRecDepth 100000 in
set_option maxHeartbeats 4000000 in
theorem specCtxPop_u (c : List Ly) (A : Option Addr) (q : Nat) (w : World) (h : Lay.layer.Rd w A c) (hq : c.length ≤ q) (hs : smLayers c) :
    Calls Tryz.prog 28 #[.slice A c.length q] w (RetRd2 (ctxPop c) w) := by
  have hc := hs.2.2.2
  have HO := Lib.hid (specCtxOk_any A q c w h hq hc)
  have HCP := Lib.hid (fun (z : World) (hz : Lay.layer.Rd z A c) => l10Copy_any A q c z hz hc.len hs.2.1)
  obtain ⟨r, hr⟩ : ∃ r, r = ctxOk c := ⟨_, rfl⟩
  rw [← hr] at HO
  obtain ⟨x, hx⟩ : ∃ x, x = c.dropLast := ⟨_, rfl⟩
  have HXX := Lib.hid hx
  have HX : Hid (ctxPop c = if r = true then (if ctxOk x = true then (x, true) else (c, false)) else ([], false)) := Lib.hid (by rw [hr, hx]; rfl)
  have HOX : Hid (r = true → okC x) := Lib.hid (fun e => by rw [hx]; exact okC_pop9 hc (by rw [← hr]; exact e))
  have HN := Lib.hid (fun (B : Option Addr) (b : Nat) (z : World) (hz : Lay.layer.Rd z A c) (hz' : Lay.layer.Rd z B x) (hb : x.length ≤ b) (hr : r = true) => l10Now_any c x A B q b z hz hz' hb hc.len hs.2.1 (HOX.out hr))
  have HLN : Hid (r = true → 1 ≤ c.length) := Lib.hid (fun e => (ctxOk_parts (by rw [← hr]; exact e)).1)
  have HTD : Hid (x = c.take (c.length - 1)) := Lib.hid (by rw [hx, List.dropLast_eq_take])
  have hcl := hc.len
  have H := Lib.hid h
  clear hc hr hs h hx
  go_enter Tryz.func28, Tryz.ntmps28
  go_wp2_with fail
  refine HO.out.mono ?_
  rintro e w2 ⟨rfl, hb2⟩
  have HB2 := Lib.hid hb2
  cases r
  · have hal := hb2.alloc hb2.size (.cells #[] 58)
    have HAL := Lib.hid hal
    clear hal hb2
    go_wp2
    refine bodyPost_ret (v := .tuple #[.slice (some ⟨w2.heap.size, 0, none⟩) 0 0, .bool false]) (by simp [results, Tryz.results28, go_sem]) rfl ?_
    rw [show ctxPop c = ([], false) from by rw [HX.out]; rfl]
    exact ⟨_, _, rfl, Nat.zero_le _, RdO.nil _ _ _, HAL.out⟩
  · have HLC := Lib.hid (HCP.out w2 (H.out.up HB2.out))
    clear hb2
    go_wp2_with fail
    refine HLC.out.mono ?_
    rintro e w3 ⟨A3, c3, rfl, ho, hb3⟩
    have h1 := HLN.out trivial
    have HB3 := Lib.hid (bthen HB2.out hb3)
    have hrd := ho.rdR
    have hcap := ho.cap.2
    obtain ⟨n, hn⟩ : ∃ n, n = c.length - 1 := ⟨_, rfl⟩
    obtain ⟨hsl, hsr⟩ := (slice_hR (t := 26) Tryz.underlying26 size_layer hrd n (by omega) hcap)
    have HSR : Hid (Lay.layer.Rd w3 A3 x) := Lib.hid (by rw [HTD.out, ← hn]; exact hsr)
    clear hsr
    rw [show c.take n = x from by rw [HTD.out, hn]] at hsl
    have HXC : Hid (x.length ≤ c3) := Lib.hid (by rw [HTD.out, List.length_take]; omega)
    have hnk : (c.length : Int) - 1 = (n : Int) := by omega
    have HNN := Lib.hid hn
    clear ho hb3 HLC hrd h1 hn
    go_wp2_with fail
    refine (HN.out A3 c3 w3 (H.out.up HB3.out) HSR.out HXC.out trivial).mono ?_
    rintro e w9 ⟨A9, c9, rfl, hc9, hr9, hb9⟩
    have HRR := Lib.hid (And.intro hc9 (And.intro hr9 (bthen HB3.out hb9)))
    clear hc9 hr9 hb9
    have HXE : Hid (ctxPop c = if ctxOk x = true then (x, true) else (c, false)) := Lib.hid (by rw [HX.out]; rfl)
    clear HX
    generalize (if ctxOk x = true then (x, true) else (c, false)) = s9 at *
    go_wp2
    refine bodyPost_ret (v := .tuple #[.slice A9 s9.1.length c9, .bool s9.2]) (by simp [results, Tryz.results28, go_sem]) rfl ?_
    rw [HXE.out]
    exact ⟨A9, c9, rfl, HRR.out.1, HRR.out.2.1, HRR.out.2.2⟩
end Go.Proofs.YtiahmfpfimmbgaaGreatDoor

/-! What the rows list of the library's variables: tables that the proofs do not read. -/
namespace Go.Proofs.YtiahmfpfimmbgaaGreatDoor
open Go

theorem dr_own : ownKnob Tryz.prog.godebug = none := by kernel_rfl
abbrev laidU : List (String × DataW Unit) := [("unicode/utf8.acceptRanges", Rows.laid_unicode_utf8_acceptRanges), ("unicode/utf8.first", Rows.laid_unicode_utf8_first)]
end Go.Proofs.YtiahmfpfimmbgaaGreatDoor

/-! FnExactCtxPop: the program's CtxPop answers, for any context, what the reference's answers, in memory of its own. -/
namespace Go.Proofs.YtiahmfpfimmbgaaGreatDoor
open Go Go.RowKit Go.ChangeShapes Go.WideShapes Go.ChangeAt Go.Deep

set_option maxRecDepth 100000 in
set_option maxHeartbeats 4000000 in
theorem fnExactCtxPop_walk (W : World) {Ap0a : Option Addr} {cp0a : Nat} {x0 : List Ly} (_ : x0.length ≤ cp0a) (ok0 : okLs x0) (hp0a : Lay.layer.Rd W Ap0a x0) :
    Calls Tryz.prog 6 #[.slice Ap0a x0.length cp0a] W (LawC W) := by
  have HW0 : Hid (Below W.heap.size W W) := Lib.hid (Below.refl _ _)
  have Hp0a := hp0a
  clear hp0a
  have OK0 := Lib.hid ok0
  clear ok0
  go_enter Tryz.func6, Tryz.ntmps6
  have hb : Below W.heap.size W W := Below.refl _ _
  go_wp2_with fail
  refine (szLayers_u x0 Ap0a cp0a 1048576 _ (Hp0a.up hb) OK0.out (by omega) (by omega)).mono ?_
  rintro e u1 ⟨rfl, hbu1⟩
  have hb := bthen hb hbu1
  clear hbu1
  by_cases hbig0 : (1048576 : Int) < (wtL x0 : Nat)
  · have HSZ := Lib.hid (szRes_lt hbig0)
    clear hbig0
    rw [HSZ.out]
    go_wp2
    go_ret
    exact ⟨rfl, bthen HW0.out hb⟩
  have SM0 : Hid (smLayers x0) := Lib.hid (smLayers_of OK0.out (by omega))
  have HSZ0 := Lib.hid (szRes_ge hbig0)
  rw [HSZ0.out]
  have hln9 : (0 : Int) ≤ (1048576 - (wtL x0 : Nat)) := by omega
  clear hbig0
  generalize hr9 : ctxPop x0 = r9 at *
  have HR9 := Lib.hid hr9
  clear hr9
  have HRS0 := Lib.hid (show smR r9.1 by rw [← HR9.out]; exact ctxPop_sm SM0.out)
  have hne1 : (r9.2 != r9.2) = false := by simp
  go_wp2_with fail
  refine (toLayers_u x0 Ap0a cp0a _ (Hp0a.up hb) SM0.out).mono ?_
  rintro e u2 ⟨Aq0a, cq0a, rfl, hcq0a, sq0a, hbq0⟩
  have hb := bthen hb hbq0
  clear hbq0
  go_wp2_with fail
  refine (specCtxPop_u x0 Aq0a cq0a _ (sq0a.own_rd) hcq0a SM0.out).mono ?_
  rw [HR9.out]
  rintro e u3 ⟨Aw0a, cw0a, rfl, hcw0a, sw0a, hb9⟩
  clear sq0a
  have hb := bthen hb hb9
  clear hb9
  have Rw0a := sw0a.cp_of
  clear sw0a
  go_wp2_with fail
  have z0 : W.heap.size ≤ u3.heap.size := hb.size
  have hs : Below u3.heap.size u3 u3 := Below.refl _ _
  refine (toLayers_u x0 Ap0a cp0a _ (Hp0a.up hb) SM0.out).mono ?_
  rintro e u4 ⟨Ak0a, ck0a, rfl, hck0a, sk0a, hbk0⟩
  have hb := bthen hb hbk0
  have hs := bthen hs hbk0
  have Rw0a := Rw0a.cp_up hbk0
  clear hbk0
  go_wp2_with fail
  have Rk0a := sk0a.cp_of
  clear sk0a
  have z1 : u3.heap.size ≤ u4.heap.size := hs.size
  clear hs
  have hs : Below u4.heap.size u4 u4 := Below.refl _ _
  refine (implCtxPop_u x0 Ak0a ck0a _ (Rk0a.cp_rd) hck0a SM0.out).mono ?_
  rw [HR9.out]
  rintro e u5 ⟨Ag0a, cg0a, rfl, hcg0a, sg0a, hb9⟩
  have hb := bthen hb hb9
  have hs := bthen hs hb9
  have Rw0a := Rw0a.cp_up hb9
  have Rk0a := Rk0a.cp_up hb9
  clear hb9
  have Rg0a := sg0a.cp_of
  clear sg0a
  have z2 : u4.heap.size ≤ u5.heap.size := hs.size
  clear hs
  have hs : Below u5.heap.size u5 u5 := Below.refl _ _
  go_wp2_with fail
  refine (eqLayersR_u r9.1 Ag0a Aw0a cg0a cw0a _ Rg0a.cp_rd Rw0a.cp_rd HRS0.out).mono ?_
  rintro e u6 ⟨rfl, hb9⟩
  have hb := bthen hb hb9
  have hs := bthen hs hb9
  have Rw0a := Rw0a.cp_up hb9
  have Rk0a := Rk0a.cp_up hb9
  have Rg0a := Rg0a.cp_up hb9
  clear hb9
  go_wp2_with fail
  refine (toLayers_u x0 Ap0a cp0a _ (Hp0a.up hb) SM0.out).mono ?_
  rintro e u7 ⟨Ay0a, cy0a, rfl, hcy0a, sy0a, hby0⟩
  have hb := bthen hb hby0
  have hs := bthen hs hby0
  have Rw0a := Rw0a.cp_up hby0
  have Rk0a := Rk0a.cp_up hby0
  have Rg0a := Rg0a.cp_up hby0
  clear hby0
  go_wp2_with fail
  refine (eqLayers_u x0 Ak0a Ay0a ck0a cy0a _ Rk0a.cp_rd sy0a.own_rd SM0.out).mono ?_
  rintro e u8 ⟨rfl, hb9⟩
  clear sy0a
  have hb := bthen hb hb9
  have hs := bthen hs hb9
  have Rw0a := Rw0a.cp_up hb9
  have Rk0a := Rk0a.cp_up hb9
  have Rg0a := Rg0a.cp_up hb9
  clear hb9
  go_wp2_with fail
  refine (markLayers_u x0 Ak0a ck0a _ _ 1 _ Rk0a SM0.out (by omega) (by omega)).mono ?_
  rintro e u9 ⟨rfl, hd, _⟩
  clear hs
  have Rw0a := Rw0a.cp_dab hd (by intro b h1 h2 h3; have := h3.1; have := h3.2; omega)
  clear Rk0a
  have Rg0a := Rg0a.cp_dab hd (by intro b h1 h2 h3; have := h3.1; have := h3.2; omega)
  have hb := below_rng hb hd hb.size (by omega)
  clear hd
  obtain ⟨k9_1, hk9, hk9a, hk9b⟩ : ∃ k9 : Int, k9 = 1 + (mwL x0 : Nat) ∧ 1 ≤ k9 ∧ k9 ≤ 10000000 := ⟨_, rfl, by omega, by have := SM0.out.2.2.1; omega⟩
  rw [← hk9]
  clear hk9
  go_wp2_with fail
  refine (eqLayersR_u r9.1 Ag0a Aw0a cg0a cw0a _ Rg0a.cp_rd Rw0a.cp_rd HRS0.out).mono ?_
  rintro e u10 ⟨rfl, hb9⟩
  have hb := bthen hb hb9
  have Rw0a := Rw0a.cp_up hb9
  have Rg0a := Rg0a.cp_up hb9
  clear hb9
  go_wp2_with fail
  refine (markLayersR_u r9.1 Ag0a cg0a _ _ 1 _ Rg0a HRS0.out (by omega) (by omega)).mono ?_
  rintro e u11 ⟨rfl, hd, RM0⟩
  have Rw0a := Rw0a.cp_dab hd (by intro b h1 h2 h3; have := h3.1; have := h3.2; omega)
  clear Rg0a
  have hb := below_rng hb hd hb.size (by omega)
  clear hd
  obtain ⟨m9, hm9, hm9a⟩ : ∃ m9 : Int, m9 = 1 + (mwL r9.1 : Nat) ∧ 0 ≤ m9 := ⟨_, rfl, by omega⟩
  rw [← hm9]
  have HM9 := Lib.hid hm9
  have hmm9 : (m9 != m9) = false := by simp
  clear hm9
  go_wp2_with fail
  refine (heldLayersR_u r9.1 Ag0a cg0a 1 _ RM0.cp_rd HRS0.out (by omega) (by omega)).mono ?_
  rw [← HM9.out]
  rintro e u12 ⟨rfl, hb9⟩
  have hb := bthen hb hb9
  have Rw0a := Rw0a.cp_up hb9
  have RM0 := RM0.cp_up hb9
  clear hb9
  go_wp2_with fail
  refine (toLayers_u x0 Ap0a cp0a _ (Hp0a.up hb) SM0.out).mono ?_
  rintro e u13 ⟨Az0a, cz0a, rfl, hcz0a, sz0a, hbz0⟩
  have hb := bthen hb hbz0
  have Rw0a := Rw0a.cp_up hbz0
  have RM0 := RM0.cp_up hbz0
  clear hbz0
  go_wp2_with fail
  refine (implCtxPop_u x0 Az0a cz0a _ (sz0a.own_rd) hcz0a SM0.out).mono ?_
  rw [HR9.out]
  rintro e u14 ⟨Ah0a, ch0a, rfl, hch0a, sh0a, hb9⟩
  clear sz0a
  have hb := bthen hb hb9
  have Rw0a := Rw0a.cp_up hb9
  have RM0 := RM0.cp_up hb9
  clear hb9
  have Rh0a := sh0a.cp_of
  clear sh0a
  go_wp2_with fail
  refine (eqLayersR_u r9.1 Ah0a Aw0a ch0a cw0a _ Rh0a.cp_rd Rw0a.cp_rd HRS0.out).mono ?_
  rintro e u15 ⟨rfl, hb9⟩
  have hb := bthen hb hb9
  have Rw0a := Rw0a.cp_up hb9
  have RM0 := RM0.cp_up hb9
  have Rh0a := Rh0a.cp_up hb9
  clear hb9
  go_wp2_with fail
  refine (heldLayersR_u r9.1 Ag0a cg0a 1 _ RM0.cp_rd HRS0.out (by omega) (by omega)).mono ?_
  rw [← HM9.out]
  rintro e u16 ⟨rfl, hb9⟩
  have hb := bthen hb hb9
  have Rw0a := Rw0a.cp_up hb9
  have RM0 := RM0.cp_up hb9
  have Rh0a := Rh0a.cp_up hb9
  clear hb9
  go_wp2
  go_ret
  exact ⟨rfl, bthen HW0.out hb⟩

set_option maxRecDepth 100000 in
theorem fnExactCtxPop_lifted (os : Os) (started : os.Started) (H : Type) (enc : TypeId × Value → H) :
    ReturnsInHanded {} Tryz.checked os 6 .any (fun w args => (Rows.fnExactCtxPopSpec.pre enc Tryz.prog Tryz.f6 [] false w args ∧ laidMetH Tryz.prog laidU w) ∧ sizedMet enc Tryz.prog Tryz.f6 (OpenSpec.ofChange Rows.fnExactCtxPopSpec) false w args)
      (Rows.fnExactCtxPopSpec.post enc Tryz.prog Tryz.f6 false true false false) := by
  refine returnsInHanded_of_change_and (C := Tryz.checked) (X := fun w _ => laidMetH Tryz.prog laidU w) (fun _ _ _ hh h => h.of_heap hh) dr_own started (by kernel_rfl) Tryz.func6
    (ChangeSpec.witness_shaped (enc := enc) (C := Tryz.checked) (os := os) (X := fun w _ => laidMetH Tryz.prog laidU w) false (World.laidAll Tryz.prog os laidU) #[.slice none 0 0] 16 (World.laidAll_os _ _ _) (World.shaped_of_ZipB (by kernel_rfl) (by kernel_rfl)) (by kernel_rfl) (by kernel_rfl) (by kernel_rfl)
      (by rw [MakeChecks.laidMetH_plain _ _ _ (by kernel_rfl)]; exact laidMet_laidAll _ (by kernel_rfl) (by kernel_rfl))) ?_
  intro W base args ds gs before hval0 hW _ _ hL _
  have hval : ∀ (j : Nat) t v, Tryz.f6.params[j]? = some t → args[j]? = some v → Value.okWide Tryz.prog W .any base t v := hval0
  have hW' := hW
  obtain ⟨p, q, hA0, hV, rfl, hfz, hnd⟩ := hW
  have hA : DataW.TrodAll enc Tryz.prog W 0 (fun _ => true) true Tryz.f6.params.toList args.toList ds p := hA0
  rw [Tryz.params6] at hA hval
  obtain ⟨v0, vs0, d0, ds0, p0, q0, hargs, rfl, rfl, h0, r0⟩ := trodAll_cons hA
  obtain ⟨rfl, rfl, rfl⟩ := trodAll_nil r0
  obtain rfl : args = #[v0] := by cases args; simp_all
  obtain ⟨rfl, rfl⟩ := trodVars_none hV
  have k0 := h0
  have lt0 : ∀ x ∈ p0, x.block < W.heap.size := by obtain ⟨m, hm⟩ := k0; exact DataW.trod_lt m _ _ _ hm
  obtain ⟨A0, c0, x0, rfl, hc0, ok0, rd0⟩ := open_arg Tryz.underlying22 opens_layers (hval 0 22 v0 rfl rfl) h0
  clear hA0 hval0
  refine (fnExactCtxPop_walk W hc0 ok0 rd0).mono fun e W' ⟨he, bel⟩ => ?_
  subst he
  exact ⟨_, rfl, _, _, _, [], _, [], hW', trodAll_mk1 (shut_bool Tryz.underlying4 _), (trodAll_cons_mk (Below.trod (by kernel_rfl) (by kernel_rfl) (of_decide_eq_true (by kernel_rfl)) k0 bel lt0) trodAll_mk0), rfl, bel.frame _, fun h => by cases h⟩

/-- The given row. -/
theorem fnExactCtxPop_row : Rows.FnExactCtxPopSaid :=
  OpenClaim.holds_of_wide 6 Tryz.f6 rfl rfl rfl rfl rfl rfl rfl ⟨rfl, rfl, rfl, rfl, rfl⟩ rfl rfl rfl rfl rfl (by kernel_rfl) Tryz.func6 (by kernel_rfl)
    (of_decide_eq_true (by kernel_rfl)) (by unfold Func.isWrapper; first | (rw [if_pos (by decide +kernel)]; kernel_rfl) | (rw [if_neg (by decide +kernel)]; exact ⟨rfl, rfl⟩))
    (fun os started H enc _ => fnExactCtxPop_lifted os started H enc)
/-- The given statement: the row, what it lists tied to the program's text. -/
theorem fnExactCtxPop_holds : Rows.FnExactCtxPopCardSaid :=
  Claim7.holds_tied_plain_at .later [] [.data, .pinned] true Rows.fnExactCtxPopCard.stood.harness Rows.fnExactCtxPopCard.stood.looks
    fnExactCtxPop_row (fun _ h => by cases h) (by kernel_rfl) (fun _ h => by cases h) fnExactCtxPop_row_tie rfl ⟨rfl, rfl⟩ (by kernel_rfl) rfl
    (fun f fn hf hfn => by
      obtain rfl : f = 6 := Option.some.inj ((show Tryz.prog.funcNamed "loop.example/seedlip/laws.FnExactCtxPop" = some 6 by kernel_rfl).symm.trans hf) |>.symm
      obtain rfl : fn = Tryz.f6 := (Option.some.inj (Tryz.func6.symm.trans hfn)).symm
      exact ⟨by kernel_rfl, fun j t ht => by
        rw [Tryz.params6] at ht
        have hm : t ∈ [22] := by simpa using Array.mem_of_getElem? ht
        have hall : ([22].all fun u => !Tryz.prog.wantsStandIn u) = true := by kernel_rfl
        exact (show Tryz.prog.wantsStandIn t = false by simpa using List.all_eq_true.1 hall t hm)⟩)
    (by kernel_rfl)
#print axioms fnExactCtxPop_holds
end Go.Proofs.YtiahmfpfimmbgaaGreatDoor
