/- The reference's draws of terms: l2Leafy. -/
import Derived.Test.YtiahmfpfimmbgaaGreatDoorJFnCtxBent13
/-! The reference's draws of terms: l2Leafy. -/
namespace Go.Proofs.YtiahmfpfimmbgaaGreatDoor
open Go Go.RowKit

/-- The box of the answer has been stored: what is handed back. -/
theorem ret_box {w0 w9 : World} {r : Nat} {p M : Int} {o a c : Int} {n : ByteArray} {kA : Option Addr} {kc : Nat} {ks : List T} (h : T.All okT3 (.mk o a c n ks)) (hc : ks.length ≤ kc) (hk : TF w0.heap.size w9 kA ks) (hd : Drawn r p M w0 w9) :
    RetDT r p M w0 (.returned (.agg #[.int .i64 o, .int .i64 a, .int .i64 c, .string n, .slice kA ks.length kc])) w9 := ⟨.mk o a c n ks, kA, kc, rfl, hc, hk, h, hd⟩
theorem okT_leaf {o a b : Int} {n : ByteArray} (h0 : -9223372036854775808 ≤ o) (h1 : o ≤ 9223372036854775807) (hn : n.size ≤ 1048576) : T.All okT3 (.mk o a b n []) := .mk _ ⟨⟨by show ([] : List T).length ≤ _; simp, hn⟩, h0, h1⟩ (fun k hk => by cases hk)
set_option maxRecDepth 100000 in
set_option maxHeartbeats 8000000 in
theorem l2Leafy_any (r : Nat) (p s : Int) (A : Option Addr) (c : Nat) (ds : List D) (w : World) (h : Rdr w r p) (hd : Lay.decl.Rd w A ds) (ho : okD5 ds) (s0 : 0 ≤ s) (s1 : s ≤ 8) (p0 : 0 ≤ p) (p1 : p ≤ 900000000) :
    Calls Tryz.prog 113 #[.pointer (some ⟨r, 0, none⟩), .slice A ds.length c, .int .i64 s] w (RetDT r p 16 w) := by
  have hrl := h.lt
  have hal : Below w.heap.size w (w.alloc (.cells #[.int .i64 0, .int .i64 0, .int .i64 0, .string ⟨#[]⟩, .slice none 0 0] 48)) := (Below.refl _ _).alloc (Nat.le_refl _) _
  have HBX := Lib.hid (heap_alloc_new w (.cells #[.int .i64 0, .int .i64 0, .int .i64 0, .string ⟨#[]⟩, .slice none 0 0] 48))
  have HR := Lib.hid (h.up hal)
  have HH := Lib.hid h
  have HD := Lib.hid (decl_notR (hd.up hal) HR.out)
  have HG : Hid (Gr (IsR r) w (w.alloc (.cells #[.int .i64 0, .int .i64 0, .int .i64 0, .string ⟨#[]⟩, .slice none 0 0] 48))) := Lib.hid (.below hal)
  obtain ⟨hdl, hdd⟩ := ho
  have HDD := Lib.hid hdd
  obtain ⟨T9, T0, T1, hT9⟩ := l1Two_tt s s0 (by omega)
  have HT9 := Lib.hid hT9
  clear hal h hd hdd hT9
  by_cases hs0 : s = 0
  · subst hs0
    go_enter Tryz.func113, Tryz.ntmps113
    go_wp2
    have hal9 : Below w.heap.size w (w.alloc (.cells #[.int .i64 24, .int .i64 0, .int .i64 0, .string ⟨#[]⟩, .slice none 0 0] 48)) := (Below.refl _ _).alloc (Nat.le_refl _) _
    refine bodyPost_ret (v := .agg #[.int .i64 24, .int .i64 0, .int .i64 0, .string ⟨#[]⟩, .slice none 0 0]) (by simp [results, Tryz.results113, go_sem]) rfl ?_
    exact ret_box (okT_leaf (by omega) (by omega) (by decide)) (by simp) (Lay.Sl.nil _ _ _ _) ⟨p, by omega, by omega, HH.out.up hal9, .below hal9⟩
  · have gs0 : (s == 0) = false := by simpa using hs0
    go_enter Tryz.func113, Tryz.ntmps113
    go_wp2_with fail
    generalize w.alloc (.cells #[.int .i64 0, .int .i64 0, .int .i64 0, .string ⟨#[]⟩, .slice none 0 0] 48) = w0 at *
    refine (pick_any r p ds.length w0 HR.out (by omega) (by omega) (by omega) (by omega)).mono ?_
    rintro e w2 ⟨k, rfl, k0, k1, k2, hR2, hg2⟩
    have hg2 := Gr.one (S := IsR r) hg2 rfl
    have HK1 := Lib.hid k1
    have HR2 := Lib.hid hR2
    have HG2 := Lib.hid (HG.out.trans hg2)
    have HD2 := Lib.hid (HD.out.gr hg2)
    have HBX2 := Lib.hid (hg2.heap (by show ¬ _ = r; omega) HBX.out)
    have hk8 : k ≤ 8 := by
      by_cases h9 : 1 ≤ (ds.length : Int)
      · have := k1 h9; omega
      · have := k2 (by omega); omega
    clear k1 k2 hR2 hg2 HD HG HR HBX
    go_wp2
    go_loopw [9] (fun i wr => ∃ (j : Nat) (q : Int), j ≤ ds.length ∧ i = .int .i64 j ∧ p + 1 ≤ q ∧ q ≤ p + 1 + j ∧ Hid (Rdr wr r q) ∧ Hid (Gr (IsR r) w wr) ∧ Hid (Lay.decl.Sl wr (Ab (IsR r) wr) A ds) ∧ Hid (wr.heap[w.heap.size]? = some (.cells #[.int .i64 0, .int .i64 0, .int .i64 0, .string ⟨#[]⟩, .slice none 0 0] 48 (0, 0)))) (fun i _ => ds.length - (intOf i).toNat)
    case atStart => exact ⟨0, p + 1, Nat.zero_le _, rfl, by omega, by omega, HR2, HG2, HD2, HBX2⟩
    case round =>
      obtain ⟨j, q, hj, rfl, q0, q1, HR3, HG3, HD3, HBX3⟩ := hrel
      by_cases hlt : j < ds.length
      · have hj1 : (j : Int) < ds.length := by omega
        have k1 := HK1.out (by omega)
        go_wp2_with fail
        refine (pick_any r q 4 wr HR3.out (by omega) (by omega) (by omega) (by omega)).mono ?_
        rintro e w4 ⟨z, rfl, z0, z1, _, hR4, hg4⟩
        have z1 := z1 (by omega)
        have hg4 := Gr.one (S := IsR r) hg4 rfl
        have HR4 := Lib.hid hR4
        have HG4 := Lib.hid (HG3.out.trans hg4)
        have HD4 := Lib.hid (HD3.out.gr hg4)
        have HBX4 := Lib.hid (hg4.heap (by show ¬ _ = r; omega) HBX3.out)
        clear hR4 hg4 HR3 HG3 HD3 HBX3
        by_cases hz : 0 < z
        · have gz : decide (0 < z) = true := decide_eq_true hz
          obtain ⟨m, hm, hml⟩ : ∃ m : Nat, Int.tmod (k + j) ds.length = (m : Int) ∧ m < ds.length := by
            rw [Int.tmod_eq_emod_of_nonneg (by omega)]
            have h1 := Int.emod_nonneg (k + j) (show (ds.length : Int) ≠ 0 by omega)
            have h2 := Int.emod_lt_of_pos (k + j) (show (0 : Int) < ds.length by omega)
            exact ⟨((k + j) % (ds.length : Int)).toNat, by omega, by omega⟩
          obtain ⟨ad, rfl, hf, d1, d2⟩ := HD4.out.at_decl hml
          obtain ⟨n5, w1, w4'⟩ := HDD.out _ (List.getElem_mem hml)
          have hml1 : (m : Int) < ds.length := by omega
          have hnz : ¬ (ds.length : Int) = 0 := by omega
          have hnz2 : ((ds.length : Int) == 0) = false := by simpa using hnz
          generalize ds[m] = dm at *
          by_cases hw : dm.wide = s
          · have gw : (dm.wide == s) = true := by simpa using hw
            have b0 : w4.cell? ⟨w.heap.size, 0, none⟩ = _ ∧ w4.frozen? ⟨w.heap.size, 0, none⟩ = false := cell_of_block HBX4.out 0
            obtain ⟨c0, g0⟩ := b0
            have b1 : w4.cell? ⟨w.heap.size, 1, none⟩ = _ ∧ w4.frozen? ⟨w.heap.size, 1, none⟩ = false := cell_of_block HBX4.out 1
            obtain ⟨c1, g1⟩ := b1
            have b2 : w4.cell? ⟨w.heap.size, 2, none⟩ = _ ∧ w4.frozen? ⟨w.heap.size, 2, none⟩ = false := cell_of_block HBX4.out 2
            obtain ⟨c2, g2⟩ := b2
            have b3 : w4.cell? ⟨w.heap.size, 3, none⟩ = _ ∧ w4.frozen? ⟨w.heap.size, 3, none⟩ = false := cell_of_block HBX4.out 3
            obtain ⟨c3, g3⟩ := b3
            have b4 : w4.cell? ⟨w.heap.size, 4, none⟩ = _ ∧ w4.frozen? ⟨w.heap.size, 4, none⟩ = false := cell_of_block HBX4.out 4
            obtain ⟨c4, g4⟩ := b4
            go_wp2
            have hb5 := box5 (v0 := .int .i64 21) (v1 := .int .i64 0) (v2 := .int .i64 0) (v3 := .string dm.name) (v4 := .slice none 0 0) HBX4.out
            have HDN := Lib.hid (drawn_store (M := 16) (v0 := .int .i64 21) (v1 := .int .i64 0) (v2 := .int .i64 0) (v3 := .string dm.name) (v4 := .slice none 0 0) (show p ≤ q + 1 by omega) (by omega) HR4.out HG4.out (Nat.le_refl _) hrl)
            generalize (((((w4.setCell ⟨w.heap.size, 0, none⟩ (.int .i64 21)).setCell ⟨w.heap.size, 1, none⟩ (.int .i64 0)).setCell ⟨w.heap.size, 2, none⟩ (.int .i64 0)).setCell ⟨w.heap.size, 3, none⟩ (.string dm.name)).setCell ⟨w.heap.size, 4, none⟩ (.slice none 0 0)) = w9 at *
            have e0 := (cell_of_block hb5 0).1
            have e1 := (cell_of_block hb5 1).1
            have e2 := (cell_of_block hb5 2).1
            have e3 := (cell_of_block hb5 3).1
            have e4 := (cell_of_block hb5 4).1
            simp at e0 e1 e2 e3 e4
            refine bodyPost_ret (v := .agg #[.int .i64 21, .int .i64 0, .int .i64 0, .string dm.name, .slice none 0 0]) (by simp [results, Tryz.results113, go_sem, e0, e1, e2, e3, e4]) rfl ?_
            exact ret_box (okT_leaf (by omega) (by omega) (by omega)) (by simp) (Lay.Sl.nil _ _ _ _) HDN.out
          · have gw : (dm.wide == s) = false := by simpa using hw
            go_wp2
            go_roundw
            case rel => exact ⟨j + 1, q + 1, by omega, by go_num, by omega, by omega, HR4, HG4, HD4, HBX4⟩
            case measure => simp [intOf]; omega
        · have gz : decide (0 < z) = false := decide_eq_false hz
          go_wp2_with fail
          refine (HT9.out w4).mono ?_
          rintro e w5 ⟨rfl, rfl⟩
          go_wp2_with fail
          refine (pick_any r (q + 1) T9 w4 HR4.out (by omega) (by omega) (by omega) (by omega)).mono ?_
          rintro e w6 ⟨y, rfl, y0, y1, _, hR6, hg6⟩
          have y1 := y1 (by omega)
          have hg6 := Gr.one (S := IsR r) hg6 rfl
          have HR6 := Lib.hid hR6
          have HG6 := Lib.hid (HG4.out.trans hg6)
          have HBX6 := Lib.hid (hg6.heap (by show ¬ _ = r; omega) HBX4.out)
          clear hR6 hg6
          have b0 : w6.cell? ⟨w.heap.size, 0, none⟩ = _ ∧ w6.frozen? ⟨w.heap.size, 0, none⟩ = false := cell_of_block HBX6.out 0
          obtain ⟨c0, g0⟩ := b0
          have b1 : w6.cell? ⟨w.heap.size, 1, none⟩ = _ ∧ w6.frozen? ⟨w.heap.size, 1, none⟩ = false := cell_of_block HBX6.out 1
          obtain ⟨c1, g1⟩ := b1
          have b2 : w6.cell? ⟨w.heap.size, 2, none⟩ = _ ∧ w6.frozen? ⟨w.heap.size, 2, none⟩ = false := cell_of_block HBX6.out 2
          obtain ⟨c2, g2⟩ := b2
          have b3 : w6.cell? ⟨w.heap.size, 3, none⟩ = _ ∧ w6.frozen? ⟨w.heap.size, 3, none⟩ = false := cell_of_block HBX6.out 3
          obtain ⟨c3, g3⟩ := b3
          have b4 : w6.cell? ⟨w.heap.size, 4, none⟩ = _ ∧ w6.frozen? ⟨w.heap.size, 4, none⟩ = false := cell_of_block HBX6.out 4
          obtain ⟨c4, g4⟩ := b4
          go_wp2
          have hb5 := box5 (v0 := .int .i64 20) (v1 := .int .i64 s) (v2 := .int .i64 y) (v3 := .string ⟨#[]⟩) (v4 := .slice none 0 0) HBX6.out
          have HDN := Lib.hid (drawn_store (M := 16) (v0 := .int .i64 20) (v1 := .int .i64 s) (v2 := .int .i64 y) (v3 := .string ⟨#[]⟩) (v4 := .slice none 0 0) (show p ≤ q + 1 + 1 by omega) (by omega) HR6.out HG6.out (Nat.le_refl _) hrl)
          generalize (((((w6.setCell ⟨w.heap.size, 0, none⟩ (.int .i64 20)).setCell ⟨w.heap.size, 1, none⟩ (.int .i64 s)).setCell ⟨w.heap.size, 2, none⟩ (.int .i64 y)).setCell ⟨w.heap.size, 3, none⟩ (.string ⟨#[]⟩)).setCell ⟨w.heap.size, 4, none⟩ (.slice none 0 0)) = w9 at *
          have e0 := (cell_of_block hb5 0).1
          have e1 := (cell_of_block hb5 1).1
          have e2 := (cell_of_block hb5 2).1
          have e3 := (cell_of_block hb5 3).1
          have e4 := (cell_of_block hb5 4).1
          simp at e0 e1 e2 e3 e4
          refine bodyPost_ret (v := .agg #[.int .i64 20, .int .i64 s, .int .i64 y, .string ⟨#[]⟩, .slice none 0 0]) (by simp [results, Tryz.results113, go_sem, e0, e1, e2, e3, e4]) rfl ?_
          exact ret_box (okT_leaf (by omega) (by omega) (by decide)) (by simp) (Lay.Sl.nil _ _ _ _) HDN.out
      · have hj1 : ¬ (j : Int) < ds.length := by omega
        go_wp2_with fail
        refine (HT9.out wr).mono ?_
        rintro e w5 ⟨rfl, rfl⟩
        go_wp2_with fail
        refine (pick_any r (q) T9 wr HR3.out (by omega) (by omega) (by omega) (by omega)).mono ?_
        rintro e w6 ⟨y, rfl, y0, y1, _, hR6, hg6⟩
        have y1 := y1 (by omega)
        have hg6 := Gr.one (S := IsR r) hg6 rfl
        have HR6 := Lib.hid hR6
        have HG6 := Lib.hid (HG3.out.trans hg6)
        have HBX6 := Lib.hid (hg6.heap (by show ¬ _ = r; omega) HBX3.out)
        clear hR6 hg6
        have b0 : w6.cell? ⟨w.heap.size, 0, none⟩ = _ ∧ w6.frozen? ⟨w.heap.size, 0, none⟩ = false := cell_of_block HBX6.out 0
        obtain ⟨c0, g0⟩ := b0
        have b1 : w6.cell? ⟨w.heap.size, 1, none⟩ = _ ∧ w6.frozen? ⟨w.heap.size, 1, none⟩ = false := cell_of_block HBX6.out 1
        obtain ⟨c1, g1⟩ := b1
        have b2 : w6.cell? ⟨w.heap.size, 2, none⟩ = _ ∧ w6.frozen? ⟨w.heap.size, 2, none⟩ = false := cell_of_block HBX6.out 2
        obtain ⟨c2, g2⟩ := b2
        have b3 : w6.cell? ⟨w.heap.size, 3, none⟩ = _ ∧ w6.frozen? ⟨w.heap.size, 3, none⟩ = false := cell_of_block HBX6.out 3
        obtain ⟨c3, g3⟩ := b3
        have b4 : w6.cell? ⟨w.heap.size, 4, none⟩ = _ ∧ w6.frozen? ⟨w.heap.size, 4, none⟩ = false := cell_of_block HBX6.out 4
        obtain ⟨c4, g4⟩ := b4
        go_wp2
        have hb5 := box5 (v0 := .int .i64 20) (v1 := .int .i64 s) (v2 := .int .i64 y) (v3 := .string ⟨#[]⟩) (v4 := .slice none 0 0) HBX6.out
        have HDN := Lib.hid (drawn_store (M := 16) (v0 := .int .i64 20) (v1 := .int .i64 s) (v2 := .int .i64 y) (v3 := .string ⟨#[]⟩) (v4 := .slice none 0 0) (show p ≤ q + 1 by omega) (by omega) HR6.out HG6.out (Nat.le_refl _) hrl)
        generalize (((((w6.setCell ⟨w.heap.size, 0, none⟩ (.int .i64 20)).setCell ⟨w.heap.size, 1, none⟩ (.int .i64 s)).setCell ⟨w.heap.size, 2, none⟩ (.int .i64 y)).setCell ⟨w.heap.size, 3, none⟩ (.string ⟨#[]⟩)).setCell ⟨w.heap.size, 4, none⟩ (.slice none 0 0)) = w9 at *
        have e0 := (cell_of_block hb5 0).1
        have e1 := (cell_of_block hb5 1).1
        have e2 := (cell_of_block hb5 2).1
        have e3 := (cell_of_block hb5 3).1
        have e4 := (cell_of_block hb5 4).1
        simp at e0 e1 e2 e3 e4
        refine bodyPost_ret (v := .agg #[.int .i64 20, .int .i64 s, .int .i64 y, .string ⟨#[]⟩, .slice none 0 0]) (by simp [results, Tryz.results113, go_sem, e0, e1, e2, e3, e4]) rfl ?_
        exact ret_box (okT_leaf (by omega) (by omega) (by decide)) (by simp) (Lay.Sl.nil _ _ _ _) HDN.out
end Go.Proofs.YtiahmfpfimmbgaaGreatDoor
