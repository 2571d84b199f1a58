/- The reference's draws of terms: few kids. -/
import Derived.Test.YtiahmfpfimmbgaaGreatDoorJFnCtx23
/-! The reference's draws of terms: few kids. -/
namespace Go.Proofs.YtiahmfpfimmbgaaGreatDoor
open Go Go.RowKit

/-- A drawn term of few kids. -/
def RetDK (r : Nat) (p M : Int) (w : World) (e : Ending) (w' : World) : Prop :=
  ∃ (t : T) (A : Option Addr) (c : Nat), e = .returned (.agg #[.int .i64 t.op, .int .i64 t.a, .int .i64 t.b, .string t.name, .slice A t.kids.length c]) ∧ t.kids.length ≤ c ∧ TF w.heap.size w' A t.kids ∧ T.All okT5 t ∧ t.kids.length ≤ 12 ∧ Drawn r p M w w'
theorem ret_bk {w0 w9 : World} {r : Nat} {p M : Int} {o a c : Int} {n : ByteArray} {kA : Option Addr} {kc : Nat} {ks : List T} (hK : ks.length ≤ 12) (h : T.All okT5 (.mk o a c n ks)) (hc : ks.length ≤ kc) (hk : TF w0.heap.size w9 kA ks) (hd : Drawn r p M w0 w9) :
    RetDK r p M w0 (.returned (.agg #[.int .i64 o, .int .i64 a, .int .i64 c, .string n, .slice kA ks.length kc])) w9 := ⟨.mk o a c n ks, kA, kc, rfl, hc, hk, h, hK, hd⟩
theorem manyL_len : ∀ (ks : List T) (n d : Int), 0 ≤ n → (T.manyL ks n d).1 ≤ 20 → n + ks.length ≤ (T.manyL ks n d).1
  | [], n, d, h0, h => by simp [T.manyL]
  | k :: ks, n, d, h0, h => by
    have hk := (T.many_one k).1
    simp only [T.manyL] at h ⊢
    by_cases hn : n ≤ 20
    · rw [if_pos hn] at h ⊢
      have := manyL_len ks _ _ (by omega) h
      simp only [List.length_cons]; omega
    · rw [if_neg hn] at h
      exact absurd h hn
theorem kids_few (t : T) (h : t.many.1 < 12) : t.kids.length ≤ 12 := by
  rw [T.many_def] at h
  split at h
  · simp at h
  · have h : (T.manyL t.kids 1 0).1 < 12 := h
    have := manyL_len t.kids 1 0 (by omega) (by omega)
    omega
set_option maxRecDepth 100000 in
set_option maxHeartbeats 8000000 in
theorem l2LeafyK_any (r : Nat) (p s : Int) (A : Option Addr) (c : Nat) (ds : List D) (w : World) (h : Rdr w r p) (hd : Lay.decl.Rd w A ds) (ho : okD5 ds) (s0 : 0 ≤ s) (s1 : s ≤ 8) (p0 : 0 ≤ p) (p1 : p ≤ 900000000) :
    Calls Tryz.prog 113 #[.pointer (some ⟨r, 0, none⟩), .slice A ds.length c, .int .i64 s] w (RetDK r p 16 w) := by
  have hrl := h.lt
  have hal : Below w.heap.size w (w.alloc (.cells #[.int .i64 0, .int .i64 0, .int .i64 0, .string ⟨#[]⟩, .slice none 0 0] 48)) := (Below.refl _ _).alloc (Nat.le_refl _) _
  have HBX := Lib.hid (heap_alloc_new w (.cells #[.int .i64 0, .int .i64 0, .int .i64 0, .string ⟨#[]⟩, .slice none 0 0] 48))
  have HR := Lib.hid (h.up hal)
  have HH := Lib.hid h
  have HD := Lib.hid (decl_notR (hd.up hal) HR.out)
  have HG : Hid (Gr (IsR r) w (w.alloc (.cells #[.int .i64 0, .int .i64 0, .int .i64 0, .string ⟨#[]⟩, .slice none 0 0] 48))) := Lib.hid (.below hal)
  obtain ⟨hdl, hdd⟩ := ho
  have HDD := Lib.hid hdd
  obtain ⟨T9, T0, T1, hT9⟩ := l1Two_tt s s0 (by omega)
  have HT9 := Lib.hid hT9
  clear hal h hd hdd hT9
  by_cases hs0 : s = 0
  · subst hs0
    go_enter Tryz.func113, Tryz.ntmps113
    go_wp2
    have hal9 : Below w.heap.size w (w.alloc (.cells #[.int .i64 24, .int .i64 0, .int .i64 0, .string ⟨#[]⟩, .slice none 0 0] 48)) := (Below.refl _ _).alloc (Nat.le_refl _) _
    refine bodyPost_ret (v := .agg #[.int .i64 24, .int .i64 0, .int .i64 0, .string ⟨#[]⟩, .slice none 0 0]) (by simp [results, Tryz.results113, go_sem]) rfl ?_
    exact ret_bk (by simp) (okT_leaf (by omega) (by omega) (by decide)) (by simp) (Lay.Sl.nil _ _ _ _) ⟨p, by omega, by omega, HH.out.up hal9, .below hal9⟩
  · have gs0 : (s == 0) = false := by simpa using hs0
    go_enter Tryz.func113, Tryz.ntmps113
    go_wp2_with fail
    generalize w.alloc (.cells #[.int .i64 0, .int .i64 0, .int .i64 0, .string ⟨#[]⟩, .slice none 0 0] 48) = w0 at *
    refine (pick_any r p ds.length w0 HR.out (by omega) (by omega) (by omega) (by omega)).mono ?_
    rintro e w2 ⟨k, rfl, k0, k1, k2, hR2, hg2⟩
    have hg2 := Gr.one (S := IsR r) hg2 rfl
    have HK1 := Lib.hid k1
    have HR2 := Lib.hid hR2
    have HG2 := Lib.hid (HG.out.trans hg2)
    have HD2 := Lib.hid (HD.out.gr hg2)
    have HBX2 := Lib.hid (hg2.heap (by show ¬ _ = r; omega) HBX.out)
    have hk8 : k ≤ 8 := by
      by_cases h9 : 1 ≤ (ds.length : Int)
      · have := k1 h9; omega
      · have := k2 (by omega); omega
    clear k1 k2 hR2 hg2 HD HG HR HBX
    go_wp2
    go_loopw [9] (fun i wr => ∃ (j : Nat) (q : Int), j ≤ ds.length ∧ i = .int .i64 j ∧ p + 1 ≤ q ∧ q ≤ p + 1 + j ∧ Hid (Rdr wr r q) ∧ Hid (Gr (IsR r) w wr) ∧ Hid (Lay.decl.Sl wr (Ab (IsR r) wr) A ds) ∧ Hid (wr.heap[w.heap.size]? = some (.cells #[.int .i64 0, .int .i64 0, .int .i64 0, .string ⟨#[]⟩, .slice none 0 0] 48 (0, 0)))) (fun i _ => ds.length - (intOf i).toNat)
    case atStart => exact ⟨0, p + 1, Nat.zero_le _, rfl, by omega, by omega, HR2, HG2, HD2, HBX2⟩
    case round =>
      obtain ⟨j, q, hj, rfl, q0, q1, HR3, HG3, HD3, HBX3⟩ := hrel
      by_cases hlt : j < ds.length
      · have hj1 : (j : Int) < ds.length := by omega
        have k1 := HK1.out (by omega)
        go_wp2_with fail
        refine (pick_any r q 4 wr HR3.out (by omega) (by omega) (by omega) (by omega)).mono ?_
        rintro e w4 ⟨z, rfl, z0, z1, _, hR4, hg4⟩
        have z1 := z1 (by omega)
        have hg4 := Gr.one (S := IsR r) hg4 rfl
        have HR4 := Lib.hid hR4
        have HG4 := Lib.hid (HG3.out.trans hg4)
        have HD4 := Lib.hid (HD3.out.gr hg4)
        have HBX4 := Lib.hid (hg4.heap (by show ¬ _ = r; omega) HBX3.out)
        clear hR4 hg4 HR3 HG3 HD3 HBX3
        by_cases hz : 0 < z
        · have gz : decide (0 < z) = true := decide_eq_true hz
          obtain ⟨m, hm, hml⟩ : ∃ m : Nat, Int.tmod (k + j) ds.length = (m : Int) ∧ m < ds.length := by
            rw [Int.tmod_eq_emod_of_nonneg (by omega)]
            have h1 := Int.emod_nonneg (k + j) (show (ds.length : Int) ≠ 0 by omega)
            have h2 := Int.emod_lt_of_pos (k + j) (show (0 : Int) < ds.length by omega)
            exact ⟨((k + j) % (ds.length : Int)).toNat, by omega, by omega⟩
          obtain ⟨ad, rfl, hf, d1, d2⟩ := HD4.out.at_decl hml
          obtain ⟨n5, w1, w4'⟩ := HDD.out _ (List.getElem_mem hml)
          have hml1 : (m : Int) < ds.length := by omega
          have hnz : ¬ (ds.length : Int) = 0 := by omega
          have hnz2 : ((ds.length : Int) == 0) = false := by simpa using hnz
          generalize ds[m] = dm at *
          by_cases hw : dm.wide = s
          · have gw : (dm.wide == s) = true := by simpa using hw
            have b0 : w4.cell? ⟨w.heap.size, 0, none⟩ = _ ∧ w4.frozen? ⟨w.heap.size, 0, none⟩ = false := cell_of_block HBX4.out 0
            obtain ⟨c0, g0⟩ := b0
            have b1 : w4.cell? ⟨w.heap.size, 1, none⟩ = _ ∧ w4.frozen? ⟨w.heap.size, 1, none⟩ = false := cell_of_block HBX4.out 1
            obtain ⟨c1, g1⟩ := b1
            have b2 : w4.cell? ⟨w.heap.size, 2, none⟩ = _ ∧ w4.frozen? ⟨w.heap.size, 2, none⟩ = false := cell_of_block HBX4.out 2
            obtain ⟨c2, g2⟩ := b2
            have b3 : w4.cell? ⟨w.heap.size, 3, none⟩ = _ ∧ w4.frozen? ⟨w.heap.size, 3, none⟩ = false := cell_of_block HBX4.out 3
            obtain ⟨c3, g3⟩ := b3
            have b4 : w4.cell? ⟨w.heap.size, 4, none⟩ = _ ∧ w4.frozen? ⟨w.heap.size, 4, none⟩ = false := cell_of_block HBX4.out 4
            obtain ⟨c4, g4⟩ := b4
            go_wp2
            have hb5 := box5 (v0 := .int .i64 21) (v1 := .int .i64 0) (v2 := .int .i64 0) (v3 := .string dm.name) (v4 := .slice none 0 0) HBX4.out
            have HDN := Lib.hid (drawn_store (M := 16) (v0 := .int .i64 21) (v1 := .int .i64 0) (v2 := .int .i64 0) (v3 := .string dm.name) (v4 := .slice none 0 0) (show p ≤ q + 1 by omega) (by omega) HR4.out HG4.out (Nat.le_refl _) hrl)
            generalize (((((w4.setCell ⟨w.heap.size, 0, none⟩ (.int .i64 21)).setCell ⟨w.heap.size, 1, none⟩ (.int .i64 0)).setCell ⟨w.heap.size, 2, none⟩ (.int .i64 0)).setCell ⟨w.heap.size, 3, none⟩ (.string dm.name)).setCell ⟨w.heap.size, 4, none⟩ (.slice none 0 0)) = w9 at *
            have e0 := (cell_of_block hb5 0).1
            have e1 := (cell_of_block hb5 1).1
            have e2 := (cell_of_block hb5 2).1
            have e3 := (cell_of_block hb5 3).1
            have e4 := (cell_of_block hb5 4).1
            simp at e0 e1 e2 e3 e4
            refine bodyPost_ret (v := .agg #[.int .i64 21, .int .i64 0, .int .i64 0, .string dm.name, .slice none 0 0]) (by simp [results, Tryz.results113, go_sem, e0, e1, e2, e3, e4]) rfl ?_
            exact ret_bk (by simp) (okT_leaf (by omega) (by omega) (by omega)) (by simp) (Lay.Sl.nil _ _ _ _) HDN.out
          · have gw : (dm.wide == s) = false := by simpa using hw
            go_wp2
            go_roundw
            case rel => exact ⟨j + 1, q + 1, by omega, by go_num, by omega, by omega, HR4, HG4, HD4, HBX4⟩
            case measure => simp [intOf]; omega
        · have gz : decide (0 < z) = false := decide_eq_false hz
          go_wp2_with fail
          refine (HT9.out w4).mono ?_
          rintro e w5 ⟨rfl, rfl⟩
          go_wp2_with fail
          refine (pick_any r (q + 1) T9 w4 HR4.out (by omega) (by omega) (by omega) (by omega)).mono ?_
          rintro e w6 ⟨y, rfl, y0, y1, _, hR6, hg6⟩
          have y1 := y1 (by omega)
          have hg6 := Gr.one (S := IsR r) hg6 rfl
          have HR6 := Lib.hid hR6
          have HG6 := Lib.hid (HG4.out.trans hg6)
          have HBX6 := Lib.hid (hg6.heap (by show ¬ _ = r; omega) HBX4.out)
          clear hR6 hg6
          have b0 : w6.cell? ⟨w.heap.size, 0, none⟩ = _ ∧ w6.frozen? ⟨w.heap.size, 0, none⟩ = false := cell_of_block HBX6.out 0
          obtain ⟨c0, g0⟩ := b0
          have b1 : w6.cell? ⟨w.heap.size, 1, none⟩ = _ ∧ w6.frozen? ⟨w.heap.size, 1, none⟩ = false := cell_of_block HBX6.out 1
          obtain ⟨c1, g1⟩ := b1
          have b2 : w6.cell? ⟨w.heap.size, 2, none⟩ = _ ∧ w6.frozen? ⟨w.heap.size, 2, none⟩ = false := cell_of_block HBX6.out 2
          obtain ⟨c2, g2⟩ := b2
          have b3 : w6.cell? ⟨w.heap.size, 3, none⟩ = _ ∧ w6.frozen? ⟨w.heap.size, 3, none⟩ = false := cell_of_block HBX6.out 3
          obtain ⟨c3, g3⟩ := b3
          have b4 : w6.cell? ⟨w.heap.size, 4, none⟩ = _ ∧ w6.frozen? ⟨w.heap.size, 4, none⟩ = false := cell_of_block HBX6.out 4
          obtain ⟨c4, g4⟩ := b4
          go_wp2
          have hb5 := box5 (v0 := .int .i64 20) (v1 := .int .i64 s) (v2 := .int .i64 y) (v3 := .string ⟨#[]⟩) (v4 := .slice none 0 0) HBX6.out
          have HDN := Lib.hid (drawn_store (M := 16) (v0 := .int .i64 20) (v1 := .int .i64 s) (v2 := .int .i64 y) (v3 := .string ⟨#[]⟩) (v4 := .slice none 0 0) (show p ≤ q + 1 + 1 by omega) (by omega) HR6.out HG6.out (Nat.le_refl _) hrl)
          generalize (((((w6.setCell ⟨w.heap.size, 0, none⟩ (.int .i64 20)).setCell ⟨w.heap.size, 1, none⟩ (.int .i64 s)).setCell ⟨w.heap.size, 2, none⟩ (.int .i64 y)).setCell ⟨w.heap.size, 3, none⟩ (.string ⟨#[]⟩)).setCell ⟨w.heap.size, 4, none⟩ (.slice none 0 0)) = w9 at *
          have e0 := (cell_of_block hb5 0).1
          have e1 := (cell_of_block hb5 1).1
          have e2 := (cell_of_block hb5 2).1
          have e3 := (cell_of_block hb5 3).1
          have e4 := (cell_of_block hb5 4).1
          simp at e0 e1 e2 e3 e4
          refine bodyPost_ret (v := .agg #[.int .i64 20, .int .i64 s, .int .i64 y, .string ⟨#[]⟩, .slice none 0 0]) (by simp [results, Tryz.results113, go_sem, e0, e1, e2, e3, e4]) rfl ?_
          exact ret_bk (by simp) (okT_leaf (by omega) (by omega) (by decide)) (by simp) (Lay.Sl.nil _ _ _ _) HDN.out
      · have hj1 : ¬ (j : Int) < ds.length := by omega
        go_wp2_with fail
        refine (HT9.out wr).mono ?_
        rintro e w5 ⟨rfl, rfl⟩
        go_wp2_with fail
        refine (pick_any r (q) T9 wr HR3.out (by omega) (by omega) (by omega) (by omega)).mono ?_
        rintro e w6 ⟨y, rfl, y0, y1, _, hR6, hg6⟩
        have y1 := y1 (by omega)
        have hg6 := Gr.one (S := IsR r) hg6 rfl
        have HR6 := Lib.hid hR6
        have HG6 := Lib.hid (HG3.out.trans hg6)
        have HBX6 := Lib.hid (hg6.heap (by show ¬ _ = r; omega) HBX3.out)
        clear hR6 hg6
        have b0 : w6.cell? ⟨w.heap.size, 0, none⟩ = _ ∧ w6.frozen? ⟨w.heap.size, 0, none⟩ = false := cell_of_block HBX6.out 0
        obtain ⟨c0, g0⟩ := b0
        have b1 : w6.cell? ⟨w.heap.size, 1, none⟩ = _ ∧ w6.frozen? ⟨w.heap.size, 1, none⟩ = false := cell_of_block HBX6.out 1
        obtain ⟨c1, g1⟩ := b1
        have b2 : w6.cell? ⟨w.heap.size, 2, none⟩ = _ ∧ w6.frozen? ⟨w.heap.size, 2, none⟩ = false := cell_of_block HBX6.out 2
        obtain ⟨c2, g2⟩ := b2
        have b3 : w6.cell? ⟨w.heap.size, 3, none⟩ = _ ∧ w6.frozen? ⟨w.heap.size, 3, none⟩ = false := cell_of_block HBX6.out 3
        obtain ⟨c3, g3⟩ := b3
        have b4 : w6.cell? ⟨w.heap.size, 4, none⟩ = _ ∧ w6.frozen? ⟨w.heap.size, 4, none⟩ = false := cell_of_block HBX6.out 4
        obtain ⟨c4, g4⟩ := b4
        go_wp2
        have hb5 := box5 (v0 := .int .i64 20) (v1 := .int .i64 s) (v2 := .int .i64 y) (v3 := .string ⟨#[]⟩) (v4 := .slice none 0 0) HBX6.out
        have HDN := Lib.hid (drawn_store (M := 16) (v0 := .int .i64 20) (v1 := .int .i64 s) (v2 := .int .i64 y) (v3 := .string ⟨#[]⟩) (v4 := .slice none 0 0) (show p ≤ q + 1 by omega) (by omega) HR6.out HG6.out (Nat.le_refl _) hrl)
        generalize (((((w6.setCell ⟨w.heap.size, 0, none⟩ (.int .i64 20)).setCell ⟨w.heap.size, 1, none⟩ (.int .i64 s)).setCell ⟨w.heap.size, 2, none⟩ (.int .i64 y)).setCell ⟨w.heap.size, 3, none⟩ (.string ⟨#[]⟩)).setCell ⟨w.heap.size, 4, none⟩ (.slice none 0 0)) = w9 at *
        have e0 := (cell_of_block hb5 0).1
        have e1 := (cell_of_block hb5 1).1
        have e2 := (cell_of_block hb5 2).1
        have e3 := (cell_of_block hb5 3).1
        have e4 := (cell_of_block hb5 4).1
        simp at e0 e1 e2 e3 e4
        refine bodyPost_ret (v := .agg #[.int .i64 20, .int .i64 s, .int .i64 y, .string ⟨#[]⟩, .slice none 0 0]) (by simp [results, Tryz.results113, go_sem, e0, e1, e2, e3, e4]) rfl ?_
        exact ret_bk (by simp) (okT_leaf (by omega) (by omega) (by decide)) (by simp) (Lay.Sl.nil _ _ _ _) HDN.out
set_option maxRecDepth 100000 in
set_option maxHeartbeats 8000000 in
theorem l8SomeK_any (r : Nat) (p s : Int) (A : Option Addr) (c : Nat) (ds : List D) (w : World) (h : Rdr w r p) (hd : Lay.decl.Rd w A ds) (hcq : ds.length ≤ c) (ho : okD5 ds) (s0 : 0 ≤ s) (s1 : s ≤ 8) (p0 : 0 ≤ p) (p1 : p ≤ 800000000) :
    Calls Tryz.prog 88 #[.pointer (some ⟨r, 0, none⟩), .slice A ds.length c, .int .i64 s] w (RetDK r p 3000 w) := by
  have hrl := h.lt
  have hal : Below w.heap.size w (w.alloc (.cells #[.int .i64 0, .int .i64 0, .int .i64 0, .string ⟨#[]⟩, .slice none 0 0] 48)) := (Below.refl _ _).alloc (Nat.le_refl _) _
  have HBX := Lib.hid (heap_alloc_new w (.cells #[.int .i64 0, .int .i64 0, .int .i64 0, .string ⟨#[]⟩, .slice none 0 0] 48))
  have HR := Lib.hid (h.up hal)
  have HD := Lib.hid (decl_notR (hd.up hal) HR.out)
  have HG : Hid (Gr (IsR r) w (w.alloc (.cells #[.int .i64 0, .int .i64 0, .int .i64 0, .string ⟨#[]⟩, .slice none 0 0] 48))) := Lib.hid (.below hal)
  have HZ : Hid (w.heap.size + 1 ≤ (w.alloc (.cells #[.int .i64 0, .int .i64 0, .int .i64 0, .string ⟨#[]⟩, .slice none 0 0] 48)).heap.size) := Lib.hid (by simp)
  have HO := Lib.hid ho
  have HN : Hid (okNames ds) := Lib.hid (fun d hd => by have := (ho.2 d hd).1; omega)
  have hdl := ho.1
  have HCQ := Lib.hid hcq
  clear hal h hd ho hcq
  go_enter Tryz.func88, Tryz.ntmps88
  go_wp2_with fail
  generalize w.alloc (.cells #[.int .i64 0, .int .i64 0, .int .i64 0, .string ⟨#[]⟩, .slice none 0 0] 48) = w0 at *
  go_loopw [7] (fun i wr => ∃ (j : Nat) (q : Int), j ≤ 3 ∧ i = .int .i64 j ∧ p ≤ q ∧ q ≤ p + 940 * (3 - j) ∧ Hid (Rdr wr r q) ∧ Hid (Gr (IsR r) w wr) ∧ Hid (Lay.decl.Sl wr (Ab (IsR r) wr) A ds) ∧ Hid (wr.heap[w.heap.size]? = some (.cells #[.int .i64 0, .int .i64 0, .int .i64 0, .string ⟨#[]⟩, .slice none 0 0] 48 (0, 0))) ∧ Hid (w.heap.size + 1 ≤ wr.heap.size)) (fun i _ => (intOf i).toNat)
  case atStart => exact ⟨3, p, by omega, rfl, by omega, by omega, HR, HG, HD, HBX, HZ⟩
  case round =>
    obtain ⟨j, q, hj, rfl, q0, q1, HR3, HG3, HD3, HBX3, HZ3⟩ := hrel
    by_cases hlt : 0 < j
    · have hj1 : (0 : Int) < j := by omega
      have gj1 : decide ((0 : Int) < j) = true := decide_eq_true hj1
      have hpk := pk_le j hj
      have hpk9 : pk j ≤ 940 := by
        have : j = 0 ∨ j = 1 ∨ j = 2 ∨ j = 3 := by omega
        rcases this with rfl | rfl | rfl | rfl <;> decide
      have HT := Lib.hid (l2Term_any j hj r q s A c ds wr HR3.out HD3.out.ab_rd HO.out s0 s1 (by omega) (by omega))
      generalize pk j = P at *
      obtain ⟨P0, _⟩ := hpk
      go_wp2_with fail
      refine HT.out.mono ?_
      rintro e w5 ⟨t, A5, c5, rfl, hc5, hk5, ho5, q5, qa5, qb5, hR5, hg5⟩
      have HR5 := Lib.hid hR5
      have HG5 := Lib.hid (HG3.out.trans hg5)
      have HD5 := Lib.hid (HD3.out.gr hg5)
      have HBX5 := Lib.hid (hg5.heap (by show ¬ _ = r; omega) HBX3.out)
      have HZ5 : Hid (w.heap.size + 1 ≤ w5.heap.size) := Lib.hid (Nat.le_trans HZ3.out hg5.size)
      have HK5 : Hid (TF (w.heap.size + 1) w5 A5 t.kids) := Lib.hid (hk5.low HZ3.out)
      have HO5 := Lib.hid ho5
      have HC5 := Lib.hid hc5
      clear hR5 hg5 hk5 ho5 hc5
      obtain ⟨n, hn⟩ : ∃ n, n = t.many.1 := ⟨_, rfl⟩
      obtain ⟨n2, hn2⟩ : ∃ n, n = t.many.2 := ⟨_, rfl⟩
      obtain ⟨so, hso⟩ : ∃ n, n = tsort ds t := ⟨_, rfl⟩
      have HM := Lib.hid (fun (z : World) (hz : Lay.term.Rd z A5 t.kids) => specMany_any t (HO5.out.imp fun _ h => h.1) A5 c5 _ z hz (fun _ h => h))
      have HS := Lib.hid (fun (z : World) (hz : Lay.term.Rd z A5 t.kids) (hd : Lay.decl.Rd z A ds) => specTermSort_any ds t (HO5.out.imp fun _ h => h.1) HN.out (by omega) A5 A c5 c _ z hz hd (fun _ h => h) HCQ.out)
      have HKB : Hid (n < 12 → t.kids.length ≤ 12) := Lib.hid (fun h9 => kids_few t (by rw [← hn]; exact h9))
      rw [← hn, ← hn2] at HM
      rw [← hso] at HS
      clear hn hn2 hso
      go_wp2_with fail
      have hal6 : Below w5.heap.size w5 (w5.alloc (.cells #[.int .i64 t.op, .int .i64 t.a, .int .i64 t.b, .string t.name, .slice A5 t.kids.length c5] 48)) := (Below.refl _ _).alloc (Nat.le_refl _) _
      have hbx6 := heap_alloc_new w5 (.cells #[.int .i64 t.op, .int .i64 t.a, .int .i64 t.b, .string t.name, .slice A5 t.kids.length c5] 48)
      refine (HM.out _ (HK5.out.up hal6).rd).mono ?_
      rintro e w7 ⟨rfl, hb7⟩
      have hb57 := hal6.trans (hb7.mono hal6.size)
      have HR7 := Lib.hid (HR5.out.up hb57)
      have HG7 := Lib.hid (HG5.out.trans (.below hb57))
      have HD7 := Lib.hid (HD5.out.gr (.below hb57))
      have HBX7 := Lib.hid ((hb57.block _ (lt_of_block HBX5.out)).trans HBX5.out)
      have HTX7 := Lib.hid ((hb7.block _ (lt_of_block hbx6)).trans hbx6)
      have HZ7 : Hid (w.heap.size + 1 ≤ w7.heap.size) := Lib.hid (Nat.le_trans HZ5.out hb57.size)
      have HK7 := Lib.hid (HK5.out.up hb57)
      generalize w5.heap.size = b6 at *
      clear hb57 hb7 hal6 hbx6
      have a0 : w7.cell? ⟨b6, 0, none⟩ = _ := (cell_of_block HTX7.out 0).1
      have a1 : w7.cell? ⟨b6, 1, none⟩ = _ := (cell_of_block HTX7.out 1).1
      have a2 : w7.cell? ⟨b6, 2, none⟩ = _ := (cell_of_block HTX7.out 2).1
      have a3 : w7.cell? ⟨b6, 3, none⟩ = _ := (cell_of_block HTX7.out 3).1
      have a4 : w7.cell? ⟨b6, 4, none⟩ = _ := (cell_of_block HTX7.out 4).1
      go_wp2_with fail
      refine (HS.out _ HK7.out.rd HD7.out.ab_rd).mono ?_
      rintro e w8 ⟨rfl, hb8⟩
      have HR8 := Lib.hid (HR7.out.up hb8)
      have HG8 := Lib.hid (HG7.out.trans (.below hb8))
      have HD8 := Lib.hid (HD7.out.gr (.below hb8))
      have HBX8 := Lib.hid ((hb8.block _ (lt_of_block HBX7.out)).trans HBX7.out)
      have HTX8 := Lib.hid ((hb8.block _ (lt_of_block HTX7.out)).trans HTX7.out)
      have HZ8 : Hid (w.heap.size + 1 ≤ w8.heap.size) := Lib.hid (Nat.le_trans HZ7.out hb8.size)
      have HK8 := Lib.hid (HK7.out.up hb8)
      clear hb8 a0 a1 a2 a3 a4
      have gso : decide (0 ≤ so) = true ∨ decide (0 ≤ so) = false := by cases decide (0 ≤ so) <;> simp
      have gnn : decide (n < 12) = true ∨ decide (n < 12) = false := by cases decide (n < 12) <;> simp
      have a0 : w8.cell? ⟨b6, 0, none⟩ = _ := (cell_of_block HTX8.out 0).1
      have a1 : w8.cell? ⟨b6, 1, none⟩ = _ := (cell_of_block HTX8.out 1).1
      have a2 : w8.cell? ⟨b6, 2, none⟩ = _ := (cell_of_block HTX8.out 2).1
      have a3 : w8.cell? ⟨b6, 3, none⟩ = _ := (cell_of_block HTX8.out 3).1
      have a4 : w8.cell? ⟨b6, 4, none⟩ = _ := (cell_of_block HTX8.out 4).1
      have b0 : w8.cell? ⟨w.heap.size, 0, none⟩ = _ ∧ w8.frozen? ⟨w.heap.size, 0, none⟩ = false := cell_of_block HBX8.out 0
      obtain ⟨cc0, gg0⟩ := b0
      have b1 : w8.cell? ⟨w.heap.size, 1, none⟩ = _ ∧ w8.frozen? ⟨w.heap.size, 1, none⟩ = false := cell_of_block HBX8.out 1
      obtain ⟨cc1, gg1⟩ := b1
      have b2 : w8.cell? ⟨w.heap.size, 2, none⟩ = _ ∧ w8.frozen? ⟨w.heap.size, 2, none⟩ = false := cell_of_block HBX8.out 2
      obtain ⟨cc2, gg2⟩ := b2
      have b3 : w8.cell? ⟨w.heap.size, 3, none⟩ = _ ∧ w8.frozen? ⟨w.heap.size, 3, none⟩ = false := cell_of_block HBX8.out 3
      obtain ⟨cc3, gg3⟩ := b3
      have b4 : w8.cell? ⟨w.heap.size, 4, none⟩ = _ ∧ w8.frozen? ⟨w.heap.size, 4, none⟩ = false := cell_of_block HBX8.out 4
      obtain ⟨cc4, gg4⟩ := b4
      by_cases hso : 0 ≤ so
      · have gso : decide (0 ≤ so) = true := decide_eq_true hso
        by_cases hnn : n < 12
        · have gnn : decide (n < 12) = true := decide_eq_true hnn
          go_wp2
          have hb5 := box5 (v0 := .int .i64 t.op) (v1 := .int .i64 t.a) (v2 := .int .i64 t.b) (v3 := .string t.name) (v4 := .slice A5 t.kids.length c5) HBX8.out
          have HDN := Lib.hid (drawn_store (M := 3000) (v0 := .int .i64 t.op) (v1 := .int .i64 t.a) (v2 := .int .i64 t.b) (v3 := .string t.name) (v4 := .slice A5 t.kids.length c5) (show p ≤ q5 by omega) (by omega) HR8.out HG8.out (Nat.le_refl _) hrl)
          have HKF : Hid (TF w.heap.size (((((w8.setCell ⟨w.heap.size, 0, none⟩ (.int .i64 t.op)).setCell ⟨w.heap.size, 1, none⟩ (.int .i64 t.a)).setCell ⟨w.heap.size, 2, none⟩ (.int .i64 t.b)).setCell ⟨w.heap.size, 3, none⟩ (.string t.name)).setCell ⟨w.heap.size, 4, none⟩ (.slice A5 t.kids.length c5)) _ _) := Lib.hid (TF.low (HK8.out.box5 (Nat.lt_succ_self _)) (Nat.le_succ _))
          generalize (((((w8.setCell ⟨w.heap.size, 0, none⟩ (.int .i64 t.op)).setCell ⟨w.heap.size, 1, none⟩ (.int .i64 t.a)).setCell ⟨w.heap.size, 2, none⟩ (.int .i64 t.b)).setCell ⟨w.heap.size, 3, none⟩ (.string t.name)).setCell ⟨w.heap.size, 4, none⟩ (.slice A5 t.kids.length c5)) = w9 at *
          have e0 := (cell_of_block hb5 0).1
          have e1 := (cell_of_block hb5 1).1
          have e2 := (cell_of_block hb5 2).1
          have e3 := (cell_of_block hb5 3).1
          have e4 := (cell_of_block hb5 4).1
          simp at e0 e1 e2 e3 e4
          refine bodyPost_ret (v := .agg #[.int .i64 t.op, .int .i64 t.a, .int .i64 t.b, .string t.name, .slice A5 t.kids.length c5]) (by simp [results, Tryz.results88, go_sem, e0, e1, e2, e3, e4]) rfl ?_
          exact ret_bk (HKB.out hnn) (show T.All okT5 (.mk t.op t.a t.b t.name t.kids) by cases t; exact HO5.out) HC5.out HKF.out HDN.out
        · have gnn : decide (n < 12) = false := decide_eq_false hnn
          go_wp2
          go_roundw
          case rel => exact ⟨j - 1, q5, by omega, by rw [show ((j - 1 : Nat) : Int) = (j : Int) - 1 by omega], by omega, by omega, HR8, HG8, HD8, HBX8, HZ8⟩
          case measure => simp [intOf]; omega
      · have gso : decide (0 ≤ so) = false := decide_eq_false hso
        go_wp2
        go_roundw
        case rel => exact ⟨j - 1, q5, by omega, by rw [show ((j - 1 : Nat) : Int) = (j : Int) - 1 by omega], by omega, by omega, HR8, HG8, HD8, HBX8, HZ8⟩
        case measure => simp [intOf]; omega
    · have hj0 : j = 0 := by omega
      subst hj0
      go_wp2_with fail
      refine (l2LeafyK_any r q s A c ds wr HR3.out HD3.out.ab_rd HO.out s0 s1 (by omega) (by omega)).mono ?_
      rintro e w5 ⟨t, A5, c5, rfl, hc5, hk5, ho5, hkb5, q5, qa5, qb5, hR5, hg5⟩
      have HR5 := Lib.hid hR5
      have HG5 := Lib.hid (HG3.out.trans hg5)
      have HBX5 := Lib.hid (hg5.heap (by show ¬ _ = r; omega) HBX3.out)
      have HK5 : Hid (TF (w.heap.size + 1) w5 A5 t.kids) := Lib.hid (hk5.low HZ3.out)
      have HO5 := Lib.hid ho5
      have HC5 := Lib.hid hc5
      clear hR5 hg5 hk5 ho5 hc5
      have b0 : w5.cell? ⟨w.heap.size, 0, none⟩ = _ ∧ w5.frozen? ⟨w.heap.size, 0, none⟩ = false := cell_of_block HBX5.out 0
      obtain ⟨cc0, gg0⟩ := b0
      have b1 : w5.cell? ⟨w.heap.size, 1, none⟩ = _ ∧ w5.frozen? ⟨w.heap.size, 1, none⟩ = false := cell_of_block HBX5.out 1
      obtain ⟨cc1, gg1⟩ := b1
      have b2 : w5.cell? ⟨w.heap.size, 2, none⟩ = _ ∧ w5.frozen? ⟨w.heap.size, 2, none⟩ = false := cell_of_block HBX5.out 2
      obtain ⟨cc2, gg2⟩ := b2
      have b3 : w5.cell? ⟨w.heap.size, 3, none⟩ = _ ∧ w5.frozen? ⟨w.heap.size, 3, none⟩ = false := cell_of_block HBX5.out 3
      obtain ⟨cc3, gg3⟩ := b3
      have b4 : w5.cell? ⟨w.heap.size, 4, none⟩ = _ ∧ w5.frozen? ⟨w.heap.size, 4, none⟩ = false := cell_of_block HBX5.out 4
      obtain ⟨cc4, gg4⟩ := b4
      go_wp2
      have hb5 := box5 (v0 := .int .i64 t.op) (v1 := .int .i64 t.a) (v2 := .int .i64 t.b) (v3 := .string t.name) (v4 := .slice A5 t.kids.length c5) HBX5.out
      have HDN := Lib.hid (drawn_store (M := 3000) (v0 := .int .i64 t.op) (v1 := .int .i64 t.a) (v2 := .int .i64 t.b) (v3 := .string t.name) (v4 := .slice A5 t.kids.length c5) (show p ≤ q5 by omega) (by omega) HR5.out HG5.out (Nat.le_refl _) hrl)
      have HKF : Hid (TF w.heap.size (((((w5.setCell ⟨w.heap.size, 0, none⟩ (.int .i64 t.op)).setCell ⟨w.heap.size, 1, none⟩ (.int .i64 t.a)).setCell ⟨w.heap.size, 2, none⟩ (.int .i64 t.b)).setCell ⟨w.heap.size, 3, none⟩ (.string t.name)).setCell ⟨w.heap.size, 4, none⟩ (.slice A5 t.kids.length c5)) _ _) := Lib.hid (TF.low (HK5.out.box5 (Nat.lt_succ_self _)) (Nat.le_succ _))
      generalize (((((w5.setCell ⟨w.heap.size, 0, none⟩ (.int .i64 t.op)).setCell ⟨w.heap.size, 1, none⟩ (.int .i64 t.a)).setCell ⟨w.heap.size, 2, none⟩ (.int .i64 t.b)).setCell ⟨w.heap.size, 3, none⟩ (.string t.name)).setCell ⟨w.heap.size, 4, none⟩ (.slice A5 t.kids.length c5)) = w9 at *
      have e0 := (cell_of_block hb5 0).1
      have e1 := (cell_of_block hb5 1).1
      have e2 := (cell_of_block hb5 2).1
      have e3 := (cell_of_block hb5 3).1
      have e4 := (cell_of_block hb5 4).1
      simp at e0 e1 e2 e3 e4
      refine bodyPost_ret (v := .agg #[.int .i64 t.op, .int .i64 t.a, .int .i64 t.b, .string t.name, .slice A5 t.kids.length c5]) (by simp [results, Tryz.results88, go_sem, e0, e1, e2, e3, e4]) rfl ?_
      exact ret_bk hkb5 (show T.All okT5 (.mk t.op t.a t.b t.name t.kids) by cases t; exact HO5.out) HC5.out HKF.out HDN.out
end Go.Proofs.YtiahmfpfimmbgaaGreatDoor
