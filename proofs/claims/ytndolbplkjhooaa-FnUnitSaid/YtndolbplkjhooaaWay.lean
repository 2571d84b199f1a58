/- The laws' own counting: wpWay, wpFollows. -/
import Derived.Test.YtndolbplkjhooaaCount
namespace Go.Proofs.Ytndolbplkjhooaa
open Go Go.RowKit

theorem src_bools {w : World} {F : Nat → Prop} {A : Option Addr} {xs : List Bool} (h : Lay.bool.Sl w F A xs) : Src w 1 A xs.length (xs.map Value.bool) := by
  refine ⟨by simp, fun h0 => ?_⟩
  obtain ⟨ad, rfl, _, hc⟩ := h h0
  refine ⟨ad, rfl, fun j u hu => ?_⟩
  rw [List.getElem?_map] at hu
  cases hx : xs[j]? with
  | none => rw [hx] at hu; cases hu
  | some x =>
    rw [hx] at hu
    injection hu with hu
    subst hu
    obtain ⟨vs, rfl, hcell⟩ := hc j x hx
    have := hcell 0 _ rfl
    rw [show Lay.bool.size = 1 from rfl, Nat.mul_one, Nat.add_zero] at this
    exact this
theorem bools_one (xs : List Bool) : ∀ u ∈ xs.map Value.bool, u.oneCell' = true := by
  intro u hu
  obtain ⟨b, _, rfl⟩ := List.mem_map.1 hu
  rfl
theorem sl_noneB {w : World} {F : Nat → Prop} {A : Option Addr} {xs : List Bool} (h : Lay.bool.Sl w F A xs) : A = none → xs.length = 0 := fun e => by
  rcases Nat.eq_zero_or_pos xs.length with h0 | h0
  · exact h0
  · obtain ⟨ad, e', _⟩ := h h0; rw [e] at e'; cases e'
def RetWay (vs : List Bool) (w : World) (e : Ending) (w' : World) : Prop :=
  ∃ A' c' out b, e = .returned (.tuple #[.slice A' (List.length out) c', .bool b]) ∧ out.length = vs.length ∧ Lay.bool.Rd w' A' out ∧ Below w.heap.size w w' ∧ (b = true → Next vs out) ∧ (b = false → vs = List.replicate vs.length true)
set_option maxRecDepth 100000 in
set_option maxHeartbeats 1000000 in
theorem wpWay_any (vs : List Bool) (A : Option Addr) (c : Nat) (w : World) (h : Lay.bool.Rd w A vs) (hn : vs.length ≤ 1048576) :
    Calls Try.prog 59 #[.slice A vs.length c] w (RetWay vs w) := by
  obtain ⟨i0, hi0, hz0, hz1, hz2⟩ := info_parts bool_info
  have hA := sl_noneB h
  have hsrc := src_bools (h.up ((Below.refl _ _).alloc (Nat.le_refl _) (.cells #[] 4)))
  have e0 : IntKind.i64.wrap ((vs.length : Int) - 1) = (vs.length : Int) - 1 := IntWalk.i64_in _ (by omega)
  go_enter Try.func59, Try.ntmps59
  go_wp2_with (at_builtin; refine wpList_append_src _ (by rfl) (.tmp 6) (.tmp 7) _ (by rfl) w.heap.size 4 i0 _ 1 1 Try.underlying51 hi0 hz0 hz1 hz2 (by rfl) (by omega) (.slice (some ⟨w.heap.size, 0, none⟩) 0 0) 0 [] (by rfl) (own_lit0 rfl) A vs.length c (vs.map Value.bool) (by rfl) hsrc (bools_one _) vs.length (by omega) (by unfold maxLen; omega) (by omega) (by simp) hA ?_; intro A1 c1 w1 hown1 hb1 _)
  have hbw : Below w.heap.size w w1 := ((Below.refl _ _).alloc (Nat.le_refl _) _).trans hb1
  have hown : OwnB w1 w.heap.size (.slice A1 vs.length c1) vs := by unfold OwnB; simpa using hown1
  clear hsrc hb1 hown1 hi0 hz0 hz1 hz2 hA h
  go_loopw [5] (fun i wr => ∃ (j : Int) (cur : List Bool), -1 ≤ j ∧ j < vs.length ∧ i = .int .i64 j ∧ CountAt vs cur (j + 1).toNat ∧ OwnB wr w.heap.size (.slice A1 cur.length c1) cur ∧ Below w.heap.size w wr) (fun i _ => (intOf i + 1).toNat)
  case atStart => exact ⟨(vs.length : Int) - 1, vs, by omega, by omega, rfl, by rw [show ((vs.length : Int) - 1 + 1).toNat = vs.length by omega]; exact CountAt.start vs, hown, hbw⟩
  case round =>
    obtain ⟨j, cur, j0, j1, rfl, hca, hown, hb⟩ := hrel
    have HCA := Lib.hid hca
    have HCL := Lib.hid hca.len
    clear hca
    by_cases hge : 0 ≤ j
    · obtain ⟨k, rfl⟩ := Int.eq_ofNat_of_zero_le hge
      have hk : k < vs.length := by omega
      have hkc : k < cur.length := by rw [HCL.out]; exact hk
      obtain ⟨g, rfl, hgw⟩ : ∃ g, A1 = some ⟨g, 0, none⟩ ∧ w.heap.size ≤ g := by
        rcases hown.2 with ⟨_, e2⟩ | ⟨g, cap, cu, e1, hg, _⟩
        · omega
        · injection e1 with e1; exact ⟨g, e1, hg⟩
      rw [show ((k : Int) + 1).toNat = k + 1 by omega] at HCA
      obtain ⟨hc0, hf0⟩ := hown.cell hkc
      rw [HCA.out.get hkc hk] at hc0
      have hkb : (k : Int) < vs.length := by omega
      cases hbk : vs[k]
      · rw [hbk] at hc0
        have HN := Lib.hid (HCA.out.stop hk hbk)
        have HO := Lib.hid (hown.set (k := k) true)
        have HB := Lib.hid (hb.setCell (p := ⟨g, k, none⟩) hgw (.bool true))
        have hki : ¬ ((k : Int) < 0) := by omega
        clear hown hb hbk
        go_wp2
        go_ret2
        refine ⟨some ⟨g, 0, none⟩, c1, cur.set k true, true, by rw [List.length_set, HCL.out]; rfl, by rw [List.length_set, HCL.out], ?_, HB.out, fun _ => HN.out, fun e => (by cases e)⟩
        have h9 := HO.out
        rw [show cur.length = (cur.set k true).length by simp] at h9
        exact h9.rd
      · rw [hbk] at hc0
        have HN := Lib.hid (HCA.out.go hk hbk)
        have HO := Lib.hid (hown.set (k := k) false)
        have HB := Lib.hid (hb.setCell (p := ⟨g, k, none⟩) hgw (.bool false))
        clear hown hb hbk
        go_wp2
        go_roundw
        case rel => exact ⟨(k : Int) - 1, _, by omega, by omega, by first | rfl | go_num, by rw [show ((k : Int) - 1 + 1).toNat = k by omega]; exact HN.out, by rw [List.length_set]; exact HO.out, HB.out⟩
        case measure => first | (simp [intOf]; done) | (simp [intOf]; omega)
    · have hj : j = -1 := by omega
      subst hj
      have HA := Lib.hid (HCA.out.all)
      have HB := Lib.hid hb
      have HR := Lib.hid hown.rd
      clear hown hb
      go_wp2
      go_ret2
      exact ⟨A1, c1, cur, false, by rw [HCL.out]; rfl, HCL.out, HR.out, HB.out, fun e => (by cases e), fun _ => HA.out.1⟩
set_option maxRecDepth 100000 in
set_option maxHeartbeats 1000000 in
theorem wpFollows_any (x : C) (cl : List Int) (A B : Option Addr) (c d M : Nat) (w : World) (h : Lay.int.slice.Rd w A x.list) (sx : smCnf x) (hcl : Lay.int.Rd w B cl) (hn : cl.length ≤ 1048576) (hi : i64s cl) (hM : x.many = (M : Int)) (hM7 : M ≤ 20)
    (hf : ∀ vs, cnfHas x vs = true → clHas vs cl = true) :
    Calls Try.prog 29 #[.agg #[.int .i64 x.many, .slice A x.list.length c], .slice B cl.length d] w (RetB w true) := by
  obtain ⟨i0, hi0, hz0, hz1, hz2⟩ := info_parts bool_info
  have hw : Below w.heap.size w (w.alloc (.cells #[.int .i64 (M : Int), .slice A x.list.length c] 28)) := (Below.refl _ _).alloc (Nat.le_refl _) _
  have hb0 : (w.alloc (.cells #[.int .i64 (M : Int), .slice A x.list.length c] 28)).heap[w.heap.size]? = some (.cells #[.int .i64 (M : Int), .slice A x.list.length c] 28 (0, 0)) := heap_alloc_new _ _
  have HX := Lib.hid (h.up hw)
  have HCL := Lib.hid (hcl.up hw)
  have HW := Lib.hid hw
  have HB0 := Lib.hid hb0
  have HF := Lib.hid hf
  have SX := Lib.hid sx
  have HI := Lib.hid hi
  have HMM := Lib.hid hM
  rw [hM]
  have c0 : (w.alloc (.cells #[.int .i64 (M : Int), .slice A x.list.length c] 28)).cell? ⟨w.heap.size, 0, none⟩ = some (.int .i64 (M : Int)) := (cell_of_block hb0 0).1
  have hlt0 := lt_of_block hb0
  clear h hcl hw hb0 hf sx hi hM
  generalize hW : w.alloc (.cells #[.int .i64 (M : Int), .slice A x.list.length c] 28) = W at *
  go_enter Try.func29, Try.ntmps29
  go_wp2_with (at_make; refine wpList_make_full W rfl _ _ 51 rfl W.heap.size 4 i0 _ 1 Try.underlying51 hi0 hz0 hz1 .i64 .i64 _ _ M rfl rfl rfl rfl (by rw [hz2]; omega) (by unfold maxLen; omega) (Nat.le_refl _) ?_; intro w2 hown hg1)
  have hb2 : Below W.heap.size W w2 := (Below.refl _ _).grown hg1 (Nat.le_refl _) (by simp)
  rw [show (madeCells (Value.bool false).cells (M * 1)).toList = (List.replicate M false).map Value.bool from by
    rw [show (Value.bool false).cells = #[Value.bool false] from rfl, toList_madeCells_one]; simp] at hown
  have hown0 : OwnB w2 W.heap.size (.slice (some ⟨W.heap.size, 0, none⟩) (List.replicate M false).length M) (List.replicate M false) := by unfold OwnB; simpa using hown
  have hrd0 := hown0.rd
  clear c0 hg1 hi0 hz0 hz1 hz2 hown hown0 hW
  go_loopw [5, 6] (fun v b wr => ∃ (A1 : Option Addr) (c1 : Nat) (cur : List Bool) (ok : Bool), v = .slice A1 M c1 ∧ b = .bool ok ∧ cur.length = M ∧ Lay.bool.Rd wr A1 cur ∧ Below W.heap.size W wr) (fun v b wr => match b with | .bool true => 2 ^ M + 1 - bval (bitsOf wr v) 0 | _ => 0)
  case atStart => exact ⟨_, M, _, true, by rfl, rfl, by simp, hrd0, hb2⟩
  case round =>
    obtain ⟨A1, c1, cur, ok, rfl, rfl, hcl, hrd, hB⟩ := hrel
    cases ok
    · have HB := Lib.hid (bthen HW.out hB)
      go_wp2
      go_ret
      exact ⟨rfl, HB.out⟩
    have HXr := Lib.hid (HX.out.up hB)
    have HCr := Lib.hid (HCL.out.up hB)
    have HB0r := Lib.hid ((hB.block _ hlt0).trans HB0.out)
    have c0 : wr.cell? ⟨w.heap.size, 0, none⟩ = some (.int .i64 (M : Int)) := (cell_of_block HB0r.out 0).1
    have c1' : wr.cell? ⟨w.heap.size, 1, none⟩ = some (.slice A x.list.length c) := (cell_of_block HB0r.out 1).1
    have HBIT : Hid (bitsOf wr (.slice A1 M c1) = cur) := Lib.hid (by rw [← hcl]; exact bitsOf_rd hrd)
    have hca := cnfHas_any x cur A A1 c c1 wr HXr.out SX.out hrd (by omega)
    rw [hcl, HMM.out] at hca
    have HCA := Lib.hid hca
    have HFC := Lib.hid (HF.out cur)
    have HB := Lib.hid hB
    have HRD := Lib.hid hrd
    have HLEN := Lib.hid hcl
    clear hca hB hrd hcl
    go_wp2_with fail
    clear c0 c1'
    refine HCA.out.mono ?_
    clear HCA
    cases hhas : cnfHas x cur
    · clear hhas
      rintro e w3 ⟨rfl, hb3⟩
      have hway := wpWay_any cur A1 c1 w3 (HRD.out.up hb3) (by have := HLEN.out; omega)
      rw [HLEN.out] at hway
      have HWAY := Lib.hid hway
      have HB3 := Lib.hid (HB.out.trans (hb3.mono HB.out.size))
      clear hway hb3
      go_wp2_with fail
      refine HWAY.out.mono ?_
      clear HWAY
      rintro e w4 ⟨A4, c4, o4, b4, rfl, hl4, hr4, hb4, hn4, _⟩
      rw [HLEN.out] at hl4
      have HB4 := Lib.hid (HB3.out.trans (hb4.mono HB3.out.size))
      have HN4 := Lib.hid hn4
      have HL4 := Lib.hid hl4
      have HR4 := Lib.hid hr4
      have HBIT4 : Hid (bitsOf w4 (.slice A4 M c4) = o4) := Lib.hid (by rw [← hl4]; exact bitsOf_rd hr4)
      rw [hl4]
      clear hb4 hn4 hr4 hl4
      go_wp2
      go_roundw
      case rel => exact ⟨A4, c4, o4, b4, rfl, rfl, HL4.out, HR4.out, HB4.out⟩
      case measure =>
        rw [HBIT.out, HBIT4.out]
        have h1 := bval_lt o4
        have h2 := bval_lt cur
        rw [HL4.out] at h1
        rw [HLEN.out] at h2
        cases b4
        · simp; omega
        · have := (HN4.out rfl).val
          simp; omega
    · have HCH := Lib.hid (HFC.out hhas)
      clear hhas
      rintro e w3 ⟨rfl, hb3⟩
      have hch := clauseHas_any cl cur B A1 d c1 w3 (HCr.out.up hb3) hn HI.out (HRD.out.up hb3) (by have := HLEN.out; omega)
      rw [HCH.out, HLEN.out] at hch
      have HH := Lib.hid hch
      have HB3 := Lib.hid (HB.out.trans (hb3.mono HB.out.size))
      have HRD3 := Lib.hid (HRD.out.up hb3)
      clear hch hb3
      go_wp2_with fail
      refine HH.out.mono ?_
      clear HH
      rintro e w5 ⟨rfl, hb5⟩
      have hway := wpWay_any cur A1 c1 w5 (HRD3.out.up hb5) (by have := HLEN.out; omega)
      rw [HLEN.out] at hway
      have HWAY := Lib.hid hway
      have HB5 := Lib.hid (HB3.out.trans (hb5.mono HB3.out.size))
      clear hway hb5
      go_wp2_with fail
      refine HWAY.out.mono ?_
      clear HWAY
      rintro e w4 ⟨A4, c4, o4, b4, rfl, hl4, hr4, hb4, hn4, _⟩
      rw [HLEN.out] at hl4
      have HB4 := Lib.hid (HB5.out.trans (hb4.mono HB5.out.size))
      have HN4 := Lib.hid hn4
      have HL4 := Lib.hid hl4
      have HR4 := Lib.hid hr4
      have HBIT4 : Hid (bitsOf w4 (.slice A4 M c4) = o4) := Lib.hid (by rw [← hl4]; exact bitsOf_rd hr4)
      rw [hl4]
      clear hb4 hn4 hr4 hl4
      go_wp2
      go_roundw
      case rel => exact ⟨A4, c4, o4, b4, rfl, rfl, HL4.out, HR4.out, HB4.out⟩
      case measure =>
        rw [HBIT.out, HBIT4.out]
        have h1 := bval_lt o4
        have h2 := bval_lt cur
        rw [HL4.out] at h1
        rw [HLEN.out] at h2
        cases b4
        · simp; omega
        · have := (HN4.out rfl).val
          simp; omega
end Go.Proofs.Ytndolbplkjhooaa
