/- Counting through truth values: the program's countUp, CnfLeast; the laws' wpWay, wpFollows. The laws' own counting: wpWay, wpFollows. The reference's search: what it does, the plain law. No program is named here. The reference's search keeps its trail right: the plain law. No program is named here. The reference's steps keep a search right: the plain law. No program is named here. -/
import Derived.Test.YtbljfhmcebgdaaaJFnProof2
import Derived.Test.YtbljfhmcebgdaaaJFnProof5
import Derived.Test.YtbljfhmcebgdaaaJFnProof6
/-! Counting through truth values: the program's countUp, CnfLeast; the laws' wpWay, wpFollows. -/
namespace Go.Proofs.Ytbljfhmcebgdaaa
open Go Go.RowKit

def Next (bs bs' : List Bool) : Prop := ∃ pre m, bs = pre ++ false :: List.replicate m true ∧ bs' = pre ++ true :: List.replicate m false
theorem Next.length {bs bs' : List Bool} (h : Next bs bs') : bs'.length = bs.length := by
  obtain ⟨pre, m, rfl, rfl⟩ := h; simp
theorem Next.val {bs bs' : List Bool} (h : Next bs bs') : bval bs' 0 = bval bs 0 + 1 := by
  obtain ⟨pre, m, rfl, rfl⟩ := h; exact bval_next pre m
/-- Where counting stands: from place m on all were true, and are false. -/
def CountAt (bs cur : List Bool) (m : Nat) : Prop := m ≤ bs.length ∧ bs.drop m = List.replicate (bs.length - m) true ∧ cur = bs.take m ++ List.replicate (bs.length - m) false
theorem CountAt.start (bs : List Bool) : CountAt bs bs bs.length := ⟨Nat.le_refl _, by simp, by simp⟩
theorem CountAt.len {bs cur : List Bool} {m : Nat} (h : CountAt bs cur m) : cur.length = bs.length := by
  obtain ⟨h1, _, h3⟩ := h
  rw [h3]; simp; omega
theorem CountAt.get {bs cur : List Bool} {k : Nat} (h : CountAt bs cur (k + 1)) (hk : k < cur.length) (hk' : k < bs.length) : cur[k] = bs[k] := by
  obtain ⟨h1, _, h3⟩ := h
  subst h3
  rw [List.getElem_append_left (by simp; omega), List.getElem_take]
theorem CountAt.tail {bs cur : List Bool} {k : Nat} (h : CountAt bs cur (k + 1)) (b : Bool) : cur.set k b = bs.take k ++ b :: List.replicate (bs.length - (k + 1)) false := by
  obtain ⟨h1, _, h3⟩ := h
  subst h3
  rw [List.set_append_left _ _ (by simp; omega), List.take_succ_eq_append_getElem (by omega), List.set_append_right _ _ (by simp; omega)]
  simp [Nat.min_eq_left (show k ≤ bs.length by omega)]
theorem CountAt.go {bs cur : List Bool} {k : Nat} (h : CountAt bs cur (k + 1)) (hk : k < bs.length) (hb : bs[k] = true) : CountAt bs (cur.set k false) k := by
  refine ⟨by omega, ?_, ?_⟩
  · rw [List.drop_eq_getElem_cons hk, hb, h.2.1, ← List.replicate_succ]; congr 1; omega
  · rw [h.tail, ← List.replicate_succ]; congr 2; omega
theorem CountAt.stop {bs cur : List Bool} {k : Nat} (h : CountAt bs cur (k + 1)) (hk : k < bs.length) (hb : bs[k] = false) : Next bs (cur.set k true) := by
  refine ⟨bs.take k, bs.length - (k + 1), ?_, h.tail true⟩
  rw [← h.2.1, ← hb, ← List.drop_eq_getElem_cons hk, List.take_append_drop]
theorem CountAt.all {bs cur : List Bool} (h : CountAt bs cur 0) : bs = List.replicate bs.length true ∧ cur = List.replicate bs.length false := by
  obtain ⟨_, h2, h3⟩ := h
  exact ⟨by simpa using h2, by simpa using h3⟩
/-- What lies in a row of bools. -/
def bitsIn (w : World) : Value → List Bool
  | .slice (some a) n _ => (List.range n).map fun i => match w.cell? (a.add i) with | some (.bool b) => b | _ => false
  | _ => []
theorem bitsIn_rd {w : World} {F : Nat → Prop} {A : Option Addr} {c : Nat} {bs : List Bool} (h : Lay.bool.Sl w F A bs) : bitsIn w (.slice A bs.length c) = bs := by
  rcases Nat.eq_zero_or_pos bs.length with h0 | h0
  · have : bs = [] := List.eq_nil_of_length_eq_zero h0
    subst this
    cases A <;> rfl
  · obtain ⟨ad, rfl, _⟩ := h h0
    refine List.ext_getElem (by simp [bitsIn]) fun i h1 h2 => ?_
    obtain ⟨ad', e, _, hc⟩ := h.at_bool h2
    injection e with e; subst e
    simp only [bitsIn, List.getElem_map, List.getElem_range]
    rw [hc]
end Go.Proofs.Ytbljfhmcebgdaaa

/-! The laws' own counting: wpWay, wpFollows. -/
namespace Go.Proofs.Ytbljfhmcebgdaaa
open Go Go.RowKit

def RetWay (vs : List Bool) (w : World) (e : Ending) (w' : World) : Prop :=
  ∃ A' c' out b, e = .returned (.tuple #[.slice A' (List.length out) c', .bool b]) ∧ out.length = vs.length ∧ Lay.bool.Rd w' A' out ∧ Below w.heap.size w w' ∧ (b = true → Next vs out) ∧ (b = false → vs = List.replicate vs.length true)
set_option maxRecDepth 100000 in
set_option maxHeartbeats 1000000 in
theorem wpWay_any (vs : List Bool) (A : Option Addr) (c : Nat) (w : World) (h : Lay.bool.Rd w A vs) (hn : vs.length ≤ 1048576) :
    Calls Try.prog 49 #[.slice A vs.length c] w (RetWay vs w) := by
  obtain ⟨i0, hi0, hz0, hz1, hz2⟩ := info_parts bool_info
  have hA := sl_noneB h
  have hsrc := src_bools (h.up ((Below.refl _ _).alloc (Nat.le_refl _) (.cells #[] 4)))
  have e0 : IntKind.i64.wrap ((vs.length : Int) - 1) = (vs.length : Int) - 1 := IntWalk.i64_in _ (by omega)
  go_enter Try.func49, Try.ntmps49
  go_wp2_with (at_builtin; refine wpList_append_src _ (by rfl) (.tmp 6) (.tmp 7) _ (by rfl) w.heap.size 4 i0 _ 1 1 Try.underlying38 hi0 hz0 hz1 hz2 (by rfl) (by omega) (.slice (some ⟨w.heap.size, 0, none⟩) 0 0) 0 [] (by rfl) (own_lit0 rfl) A vs.length c (vs.map Value.bool) (by rfl) hsrc (bools_one _) vs.length (by omega) (by unfold maxLen; omega) (by omega) (by simp) hA ?_; intro A1 c1 w1 hown1 hb1 _)
  have hbw : Below w.heap.size w w1 := ((Below.refl _ _).alloc (Nat.le_refl _) _).trans hb1
  have hown : OwnB w1 w.heap.size (.slice A1 vs.length c1) vs := by unfold OwnB; simpa using hown1
  clear hsrc hb1 hown1 hi0 hz0 hz1 hz2 hA h
  go_loopw [5] (fun i wr => ∃ (j : Int) (cur : List Bool), -1 ≤ j ∧ j < vs.length ∧ i = .int .i64 j ∧ CountAt vs cur (j + 1).toNat ∧ OwnB wr w.heap.size (.slice A1 cur.length c1) cur ∧ Below w.heap.size w wr) (fun i _ => (intOf i + 1).toNat)
  case atStart => exact ⟨(vs.length : Int) - 1, vs, by omega, by omega, rfl, by rw [show ((vs.length : Int) - 1 + 1).toNat = vs.length by omega]; exact CountAt.start vs, hown, hbw⟩
  case round =>
    obtain ⟨j, cur, j0, j1, rfl, hca, hown, hb⟩ := hrel
    have HCA := Lib.hid hca
    have HCL := Lib.hid hca.len
    clear hca
    by_cases hge : 0 ≤ j
    · obtain ⟨k, rfl⟩ := Int.eq_ofNat_of_zero_le hge
      have hk : k < vs.length := by omega
      have hkc : k < cur.length := by rw [HCL.out]; exact hk
      obtain ⟨g, rfl, hgw⟩ : ∃ g, A1 = some ⟨g, 0, none⟩ ∧ w.heap.size ≤ g := by
        rcases hown.2 with ⟨_, e2⟩ | ⟨g, cap, cu, e1, hg, _⟩
        · omega
        · injection e1 with e1; exact ⟨g, e1, hg⟩
      rw [show ((k : Int) + 1).toNat = k + 1 by omega] at HCA
      obtain ⟨hc0, hf0⟩ := hown.cell hkc
      rw [HCA.out.get hkc hk] at hc0
      have hkb : (k : Int) < vs.length := by omega
      cases hbk : vs[k]
      · rw [hbk] at hc0
        have HN := Lib.hid (HCA.out.stop hk hbk)
        have HO := Lib.hid (hown.set (k := k) true)
        have HB := Lib.hid (hb.setCell (p := ⟨g, k, none⟩) hgw (.bool true))
        have hki : ¬ ((k : Int) < 0) := by omega
        clear hown hb hbk
        go_wp2
        go_ret2
        refine ⟨some ⟨g, 0, none⟩, c1, cur.set k true, true, by rw [List.length_set, HCL.out]; rfl, by rw [List.length_set, HCL.out], ?_, HB.out, fun _ => HN.out, fun e => (by cases e)⟩
        have h9 := HO.out
        rw [show cur.length = (cur.set k true).length by simp] at h9
        exact h9.rd
      · rw [hbk] at hc0
        have HN := Lib.hid (HCA.out.go hk hbk)
        have HO := Lib.hid (hown.set (k := k) false)
        have HB := Lib.hid (hb.setCell (p := ⟨g, k, none⟩) hgw (.bool false))
        clear hown hb hbk
        go_wp2
        go_roundw
        case rel => exact ⟨(k : Int) - 1, _, by omega, by omega, by first | rfl | go_num, by rw [show ((k : Int) - 1 + 1).toNat = k by omega]; exact HN.out, by rw [List.length_set]; exact HO.out, HB.out⟩
        case measure => first | (simp [intOf]; done) | (simp [intOf]; omega)
    · have hj : j = -1 := by omega
      subst hj
      have HA := Lib.hid (HCA.out.all)
      have HB := Lib.hid hb
      have HR := Lib.hid hown.rd
      clear hown hb
      go_wp2
      go_ret2
      exact ⟨A1, c1, cur, false, by rw [HCL.out]; rfl, HCL.out, HR.out, HB.out, fun e => (by cases e), fun _ => HA.out.1⟩
set_option maxRecDepth 100000 in
set_option maxHeartbeats 1000000 in
theorem wpFollows_any (x : C) (cl : List Int) (A B : Option Addr) (c d M : Nat) (w : World) (h : Lay.int.slice.Rd w A x.list) (sx : smCnf x) (hcl : Lay.int.Rd w B cl) (hn : cl.length ≤ 1048576) (hi : i64s cl) (hM : x.many = (M : Int)) (hM7 : M ≤ 20)
    (hf : ∀ vs, cnfHas x vs = true → clHas vs cl = true) :
    Calls Try.prog 12 #[.agg #[.int .i64 x.many, .slice A x.list.length c], .slice B cl.length d] w (RetB w true) := by
  obtain ⟨i0, hi0, hz0, hz1, hz2⟩ := info_parts bool_info
  have hw : Below w.heap.size w (w.alloc (.cells #[.int .i64 (M : Int), .slice A x.list.length c] 25)) := (Below.refl _ _).alloc (Nat.le_refl _) _
  have hb0 : (w.alloc (.cells #[.int .i64 (M : Int), .slice A x.list.length c] 25)).heap[w.heap.size]? = some (.cells #[.int .i64 (M : Int), .slice A x.list.length c] 25 (0, 0)) := heap_alloc_new _ _
  have HX := Lib.hid (h.up hw)
  have HCL := Lib.hid (hcl.up hw)
  have HW := Lib.hid hw
  have HB0 := Lib.hid hb0
  have HF := Lib.hid hf
  have SX := Lib.hid sx
  have HI := Lib.hid hi
  have HMM := Lib.hid hM
  rw [hM]
  have c0 : (w.alloc (.cells #[.int .i64 (M : Int), .slice A x.list.length c] 25)).cell? ⟨w.heap.size, 0, none⟩ = some (.int .i64 (M : Int)) := (cell_of_block hb0 0).1
  have hlt0 := lt_of_block hb0
  clear h hcl hw hb0 hf sx hi hM
  generalize hW : w.alloc (.cells #[.int .i64 (M : Int), .slice A x.list.length c] 25) = W at *
  go_enter Try.func12, Try.ntmps12
  go_wp2_with (at_make; refine wpList_make_full W rfl _ _ 38 rfl W.heap.size 4 i0 _ 1 Try.underlying38 hi0 hz0 hz1 .i64 .i64 _ _ M rfl rfl rfl rfl (by rw [hz2]; omega) (by unfold maxLen; omega) (Nat.le_refl _) ?_; intro w2 hown hg1)
  have hb2 : Below W.heap.size W w2 := (Below.refl _ _).grown hg1 (Nat.le_refl _) (by simp)
  rw [show (madeCells (Value.bool false).cells (M * 1)).toList = (List.replicate M false).map Value.bool from by
    rw [show (Value.bool false).cells = #[Value.bool false] from rfl, toList_madeCells_one]; simp] at hown
  have hown0 : OwnB w2 W.heap.size (.slice (some ⟨W.heap.size, 0, none⟩) (List.replicate M false).length M) (List.replicate M false) := by unfold OwnB; simpa using hown
  have hrd0 := hown0.rd
  clear c0 hg1 hi0 hz0 hz1 hz2 hown hown0 hW
  go_loopw [5, 6] (fun v b wr => ∃ (A1 : Option Addr) (c1 : Nat) (cur : List Bool) (ok : Bool), v = .slice A1 M c1 ∧ b = .bool ok ∧ cur.length = M ∧ Lay.bool.Rd wr A1 cur ∧ Below W.heap.size W wr) (fun v b wr => match b with | .bool true => 2 ^ M + 1 - bval (bitsIn wr v) 0 | _ => 0)
  case atStart => exact ⟨_, M, _, true, by rfl, rfl, by simp, hrd0, hb2⟩
  case round =>
    obtain ⟨A1, c1, cur, ok, rfl, rfl, hcl, hrd, hB⟩ := hrel
    cases ok
    · have HB := Lib.hid (bthen HW.out hB)
      go_wp2
      go_ret
      exact ⟨rfl, HB.out⟩
    have HXr := Lib.hid (HX.out.up hB)
    have HCr := Lib.hid (HCL.out.up hB)
    have HB0r := Lib.hid ((hB.block _ hlt0).trans HB0.out)
    have c0 : wr.cell? ⟨w.heap.size, 0, none⟩ = some (.int .i64 (M : Int)) := (cell_of_block HB0r.out 0).1
    have c1' : wr.cell? ⟨w.heap.size, 1, none⟩ = some (.slice A x.list.length c) := (cell_of_block HB0r.out 1).1
    have HBIT : Hid (bitsIn wr (.slice A1 M c1) = cur) := Lib.hid (by rw [← hcl]; exact bitsIn_rd hrd)
    have hca := cnfHas_any x cur A A1 c c1 wr HXr.out SX.out hrd (by omega)
    rw [hcl, HMM.out] at hca
    have HCA := Lib.hid hca
    have HFC := Lib.hid (HF.out cur)
    have HB := Lib.hid hB
    have HRD := Lib.hid hrd
    have HLEN := Lib.hid hcl
    clear hca hB hrd hcl
    go_wp2_with fail
    clear c0 c1'
    refine HCA.out.mono ?_
    clear HCA
    cases hhas : cnfHas x cur
    · clear hhas
      rintro e w3 ⟨rfl, hb3⟩
      have hway := wpWay_any cur A1 c1 w3 (HRD.out.up hb3) (by have := HLEN.out; omega)
      rw [HLEN.out] at hway
      have HWAY := Lib.hid hway
      have HB3 := Lib.hid (HB.out.trans (hb3.mono HB.out.size))
      clear hway hb3
      go_wp2_with fail
      refine HWAY.out.mono ?_
      clear HWAY
      rintro e w4 ⟨A4, c4, o4, b4, rfl, hl4, hr4, hb4, hn4, _⟩
      rw [HLEN.out] at hl4
      have HB4 := Lib.hid (HB3.out.trans (hb4.mono HB3.out.size))
      have HN4 := Lib.hid hn4
      have HL4 := Lib.hid hl4
      have HR4 := Lib.hid hr4
      have HBIT4 : Hid (bitsIn w4 (.slice A4 M c4) = o4) := Lib.hid (by rw [← hl4]; exact bitsIn_rd hr4)
      rw [hl4]
      clear hb4 hn4 hr4 hl4
      go_wp2
      go_roundw
      case rel => exact ⟨A4, c4, o4, b4, rfl, rfl, HL4.out, HR4.out, HB4.out⟩
      case measure =>
        rw [HBIT.out, HBIT4.out]
        have h1 := bval_lt o4
        have h2 := bval_lt cur
        rw [HL4.out] at h1
        rw [HLEN.out] at h2
        cases b4
        · simp; omega
        · have := (HN4.out rfl).val
          simp; omega
    · have HCH := Lib.hid (HFC.out hhas)
      clear hhas
      rintro e w3 ⟨rfl, hb3⟩
      have hch := clauseHas_any cl cur B A1 d c1 w3 (HCr.out.up hb3) hn HI.out (HRD.out.up hb3) (by have := HLEN.out; omega)
      rw [HCH.out, HLEN.out] at hch
      have HH := Lib.hid hch
      have HB3 := Lib.hid (HB.out.trans (hb3.mono HB.out.size))
      have HRD3 := Lib.hid (HRD.out.up hb3)
      clear hch hb3
      go_wp2_with fail
      refine HH.out.mono ?_
      clear HH
      rintro e w5 ⟨rfl, hb5⟩
      have hway := wpWay_any cur A1 c1 w5 (HRD3.out.up hb5) (by have := HLEN.out; omega)
      rw [HLEN.out] at hway
      have HWAY := Lib.hid hway
      have HB5 := Lib.hid (HB3.out.trans (hb5.mono HB3.out.size))
      clear hway hb5
      go_wp2_with fail
      refine HWAY.out.mono ?_
      clear HWAY
      rintro e w4 ⟨A4, c4, o4, b4, rfl, hl4, hr4, hb4, hn4, _⟩
      rw [HLEN.out] at hl4
      have HB4 := Lib.hid (HB5.out.trans (hb4.mono HB5.out.size))
      have HN4 := Lib.hid hn4
      have HL4 := Lib.hid hl4
      have HR4 := Lib.hid hr4
      have HBIT4 : Hid (bitsIn w4 (.slice A4 M c4) = o4) := Lib.hid (by rw [← hl4]; exact bitsIn_rd hr4)
      rw [hl4]
      clear hb4 hn4 hr4 hl4
      go_wp2
      go_roundw
      case rel => exact ⟨A4, c4, o4, b4, rfl, rfl, HL4.out, HR4.out, HB4.out⟩
      case measure =>
        rw [HBIT.out, HBIT4.out]
        have h1 := bval_lt o4
        have h2 := bval_lt cur
        rw [HL4.out] at h1
        rw [HLEN.out] at h2
        cases b4
        · simp; omega
        · have := (HN4.out rfl).val
          simp; omega
end Go.Proofs.Ytbljfhmcebgdaaa

/-! The reference's search: what it does, the plain law. No program is named here. -/
namespace Go.Proofs.Ytbljfhmcebgdaaa
open Go Go.RowKit

/-- How many decisions there are. -/
def negs : List Int → Int
  | [] => 0
  | k :: ks => (if k < 0 then 1 else 0) + negs ks
theorem negs_app : ∀ (xs ys : List Int), negs (xs ++ ys) = negs xs + negs ys
  | [], ys => by simp [negs]
  | x :: xs, ys => by simp only [List.cons_append, negs, negs_app xs ys]; omega
theorem negs_nn : ∀ xs : List Int, 0 ≤ negs xs
  | [] => Int.le_refl _
  | x :: xs => by
    have := negs_nn xs
    simp only [negs]
    split <;> omega
theorem negs_step {why : List Int} {i : Nat} (h : i < why.length) : negs (why.take (i + 1)) = negs (why.take i) + if why[i] < 0 then 1 else 0 := by
  rw [List.take_succ_eq_append_getElem h, negs_app]
  simp [negs]
theorem negs_mono {why : List Int} {i j : Nat} (h : i ≤ j) : negs (why.take i) ≤ negs (why.take j) := by
  have e : why.take i = (why.take j).take i := by rw [List.take_take, Nat.min_eq_left h]
  conv => rhs; rw [← List.take_append_drop i (why.take j), negs_app, ← e]
  have := negs_nn ((why.take j).drop i)
  omega
/-- The level of a mark. -/
def lev : List Int → List Int → Int → Nat → Int
  | m :: ms, k :: ks, lv, v => if m.natAbs = v then lv + (if k < 0 then 1 else 0) else lev ms ks (lv + (if k < 0 then 1 else 0)) v
  | _, _, _, _ => 0
theorem lev_at : ∀ (put why : List Int) (lv : Int) (i : Nat) (m k : Int), (put.map Int.natAbs).Nodup → put[i]? = some m → why[i]? = some k → lev put why lv m.natAbs = lv + negs (why.take (i + 1))
  | [], _, _, i, m, k, _, h, _ => by simp at h
  | _ :: _, [], _, i, m, k, _, _, h => by simp at h
  | m0 :: ms, k0 :: ks, lv, 0, m, k, hn, h, h' => by
    simp at h h'
    subst h h'
    simp [lev, negs]
  | m0 :: ms, k0 :: ks, lv, i + 1, m, k, hn, h, h' => by
    have h : ms[i]? = some m := by simpa using h
    have h' : ks[i]? = some k := by simpa using h'
    rw [List.map_cons, List.nodup_cons] at hn
    have hne : ¬ m0.natAbs = m.natAbs := fun e => hn.1 (by rw [e]; exact List.mem_map.2 ⟨m, List.mem_of_getElem? h, rfl⟩)
    simp only [lev]
    rw [if_neg hne, lev_at ms ks _ i m k hn.2 h h']
    simp only [List.take_succ_cons, negs]
    omega
/-- One mark more. -/
theorem lev_snoc : ∀ (put why : List Int) (lv m k : Int) (v : Nat), put.length = why.length → ((put ++ [m]).map Int.natAbs).Nodup → lev (put ++ [m]) (why ++ [k]) lv v = if m.natAbs = v then lv + negs (why ++ [k]) else lev put why lv v
  | [], [], lv, m, k, v, _, _ => by simp [lev, negs]
  | [], _ :: _, _, _, _, _, h, _ => by simp at h
  | _ :: _, [], _, _, _, _, h, _ => by simp at h
  | m0 :: ms, k0 :: ks, lv, m, k, v, h, hn => by
    simp only [List.cons_append, lev, negs]
    rw [List.cons_append, List.map_cons, List.nodup_cons] at hn
    rw [lev_snoc ms ks _ m k v (by simpa using h) hn.2]
    by_cases h0 : m0.natAbs = v
    · have : ¬ m.natAbs = v := fun e => hn.1 (by rw [h0, ← e]; exact List.mem_map.2 ⟨m, by simp, rfl⟩)
      rw [if_pos h0, if_pos h0, if_neg this]
    · rw [if_neg h0, if_neg h0]
      by_cases h1 : m.natAbs = v
      · rw [if_pos h1, if_pos h1]; omega
      · rw [if_neg h1, if_neg h1]
/-- The greatest level of a clause, and how many are of it. -/
def topP (lv : Nat → Int) : List Int → Int → Int → Int × Int
  | [], t, n => (t, n)
  | l :: ls, t, n => if t < lv l.natAbs then topP lv ls (lv l.natAbs) 1 else if lv l.natAbs = t then topP lv ls t (n + 1) else topP lv ls t n
theorem topP_drop {lv : Nat → Int} {cl : List Int} {k : Nat} {t n : Int} (h : k < cl.length) : topP lv (cl.drop k) t n = if t < lv cl[k].natAbs then topP lv (cl.drop (k + 1)) (lv cl[k].natAbs) 1 else if lv cl[k].natAbs = t then topP lv (cl.drop (k + 1)) t (n + 1) else topP lv (cl.drop (k + 1)) t n := by
  rw [List.drop_eq_getElem_cons h]; rfl
def cntP (lv : Nat → Int) (t : Int) (cl : List Int) : Int := ((cl.filter fun l => lv l.natAbs == t).length : Nat)
theorem cntP_cons (lv : Nat → Int) (t l : Int) (ls : List Int) : cntP lv t (l :: ls) = (if lv l.natAbs = t then 1 else 0) + cntP lv t ls := by
  unfold cntP
  rw [List.filter_cons]
  by_cases h : lv l.natAbs = t
  · rw [if_pos h, if_pos (by simpa using h), List.length_cons]; omega
  · rw [if_neg h, if_neg (by simpa using h)]; omega
theorem topP_spec {lv : Nat → Int} : ∀ (cl : List Int) (t n : Int), t ≤ (topP lv cl t n).1 ∧ (∀ l ∈ cl, lv l.natAbs ≤ (topP lv cl t n).1) ∧ (topP lv cl t n).2 = (if (topP lv cl t n).1 = t then n else 0) + cntP lv (topP lv cl t n).1 cl
  | [], t, n => by simp [topP, cntP]
  | l :: ls, t, n => by
    simp only [topP]
    split
    · rename_i h
      obtain ⟨h1, h2, h3⟩ := topP_spec (lv := lv) ls (lv l.natAbs) 1
      refine ⟨by omega, fun x hx => ?_, ?_⟩
      · rcases List.mem_cons.1 hx with rfl | hx
        · exact h1
        · exact h2 x hx
      · rw [h3, cntP_cons]
        have e : ¬ (topP lv ls (lv l.natAbs) 1).1 = t := by omega
        rw [if_neg e]
        by_cases h9 : (topP lv ls (lv l.natAbs) 1).1 = lv l.natAbs
        · rw [if_pos h9, if_pos h9.symm]; omega
        · rw [if_neg h9, if_neg fun e => h9 e.symm]; omega
    · rename_i h
      split
      · rename_i h9
        obtain ⟨h1, h2, h3⟩ := topP_spec (lv := lv) ls t (n + 1)
        refine ⟨h1, fun x hx => ?_, ?_⟩
        · rcases List.mem_cons.1 hx with rfl | hx
          · omega
          · exact h2 x hx
        · rw [h3, cntP_cons]
          by_cases h8 : (topP lv ls t (n + 1)).1 = t
          · rw [if_pos h8, if_pos h8, if_pos (by omega)]; omega
          · rw [if_neg h8, if_neg h8, if_neg (by omega)]; omega
      · rename_i h9
        obtain ⟨h1, h2, h3⟩ := topP_spec (lv := lv) ls t n
        refine ⟨h1, fun x hx => ?_, ?_⟩
        · rcases List.mem_cons.1 hx with rfl | hx
          · omega
          · exact h2 x hx
        · rw [h3, cntP_cons]
          have e : ¬ lv l.natAbs = (topP lv ls t n).1 := by omega
          rw [if_neg e]; omega
def hasM (cl : List Int) (v : Nat) : Bool := cl.any fun l => l.natAbs == v
theorem hasM_iff {cl : List Int} {v : Nat} : hasM cl v = true ↔ ∃ l ∈ cl, l.natAbs = v := by
  unfold hasM
  rw [List.any_eq_true]
  constructor
  · rintro ⟨l, h1, h2⟩; exact ⟨l, h1, by simpa using h2⟩
  · rintro ⟨l, h1, h2⟩; exact ⟨l, h1, by simpa using h2⟩
/-- The place of the mark that was put last, of the first n. -/
def lastP (put cl : List Int) : Nat → Int
  | 0 => -1
  | i + 1 => if hasM cl (put.getD i 0).natAbs then (i : Int) else lastP put cl i
theorem lastP_spec (put cl : List Int) : ∀ n : Nat, -1 ≤ lastP put cl n ∧ lastP put cl n < n ∧ (0 ≤ lastP put cl n → hasM cl (put.getD (lastP put cl n).toNat 0).natAbs = true) ∧ ∀ j : Nat, lastP put cl n < j → j < n → hasM cl (put.getD j 0).natAbs = false
  | 0 => ⟨Int.le_refl _, by simp [lastP], fun h => by simp [lastP] at h, fun j _ h => by omega⟩
  | i + 1 => by
    obtain ⟨h1, h2, h3, h4⟩ := lastP_spec put cl i
    simp only [lastP]
    split
    · rename_i h
      exact ⟨by omega, by omega, fun _ => by rw [Int.toNat_natCast]; exact h, fun j hj hj' => by omega⟩
    · rename_i h
      refine ⟨h1, by omega, h3, fun j hj hj' => ?_⟩
      by_cases e : j = i
      · subst e; simpa using h
      · exact h4 j hj (by omega)
/-- The number of a mark in a clause, or 0: the last one. -/
def litOf : List Int → Nat → Int
  | [], _ => 0
  | l :: ls, v => if hasM ls v then litOf ls v else if l.natAbs = v then l else 0
theorem litOf_app : ∀ (xs ys : List Int) (v : Nat), litOf (xs ++ ys) v = if hasM ys v then litOf ys v else litOf xs v
  | [], ys, v => by
    simp only [List.nil_append]
    split
    · rfl
    · rename_i h
      have : litOf ys v = 0 := by
        cases ys with
        | nil => rfl
        | cons y ys =>
          have h : ¬ (hasM (y :: ys) v = true) := h
          rw [hasM_iff] at h
          have h1 : ¬ hasM ys v = true := fun e => by
            obtain ⟨l, hl, e⟩ := hasM_iff.1 e
            exact h ⟨l, List.mem_cons_of_mem _ hl, e⟩
          simp only [litOf]
          rw [if_neg h1, if_neg fun e => h ⟨y, List.mem_cons_self .., e⟩]
      rw [this]; rfl
  | x :: xs, ys, v => by
    simp only [List.cons_append, litOf]
    rw [litOf_app xs ys v]
    have e : hasM (xs ++ ys) v = (hasM xs v || hasM ys v) := by unfold hasM; rw [List.any_append]
    rw [e]
    cases hy : hasM ys v <;> cases hx : hasM xs v <;> simp
theorem litOf_mem : ∀ {cl : List Int} {v : Nat}, litOf cl v ≠ 0 → litOf cl v ∈ cl ∧ (litOf cl v).natAbs = v
  | [], v, h => absurd rfl h
  | l :: ls, v, h => by
    simp only [litOf] at h ⊢
    by_cases h1 : hasM ls v = true
    · rw [if_pos h1] at h ⊢
      obtain ⟨h2, h3⟩ := litOf_mem h
      exact ⟨List.mem_cons_of_mem _ h2, h3⟩
    · rw [if_neg h1] at h ⊢
      by_cases h2 : l.natAbs = v
      · rw [if_pos h2] at h ⊢; exact ⟨List.mem_cons_self .., h2⟩
      · rw [if_neg h2] at h; exact absurd rfl h
/-- Two clauses together, without a mark: of the marks a+1 to a+n. -/
def joinF (ab : List Int) (m : Nat) : Nat → Nat → List Int
  | _, 0 => []
  | a, n + 1 => (if a + 1 ≠ m ∧ litOf ab (a + 1) ≠ 0 then [litOf ab (a + 1)] else []) ++ joinF ab m (a + 1) n
def joinP (M : Nat) (a b : List Int) (m : Nat) : List Int := joinF (a ++ b) m 0 M
theorem joinF_mem {ab : List Int} {m : Nat} : ∀ {n a : Nat} {l : Int}, l ∈ joinF ab m a n → l ∈ ab ∧ l ≠ 0 ∧ l.natAbs ≠ m ∧ a < l.natAbs ∧ l.natAbs ≤ a + n
  | 0, a, l, h => by simp [joinF] at h
  | n + 1, a, l, h => by
    simp only [joinF] at h
    rcases List.mem_append.1 h with h | h
    · split at h
      · rename_i h9
        rw [List.mem_singleton.1 h]
        obtain ⟨h1, h2⟩ := litOf_mem h9.2
        exact ⟨h1, h9.2, by rw [h2]; exact h9.1, by omega, by omega⟩
      · simp at h
    · obtain ⟨h1, h2, h3, h4, h5⟩ := joinF_mem h
      exact ⟨h1, h2, h3, by omega, by omega⟩
theorem joinF_cOk {ab : List Int} {m : Nat} {M : Int} : ∀ {n a : Nat}, (a + n : Int) ≤ M → cOk M a (joinF ab m a n) = true
  | 0, a, _ => rfl
  | n + 1, a, h => by
    have ih := joinF_cOk (ab := ab) (m := m) (M := M) (n := n) (a := a + 1) (by omega)
    simp only [joinF]
    split
    · rename_i h9
      obtain ⟨h1, h2⟩ := litOf_mem h9.2
      simp only [List.singleton_append, cOk, Bool.and_eq_true, decide_eq_true_eq]
      refine ⟨⟨⟨by omega, by omega⟩, by omega⟩, ?_⟩
      rw [show ((litOf ab (a + 1)).natAbs : Int) = ((a + 1 : Nat) : Int) by rw [h2]]
      exact ih
    · simp only [List.nil_append]
      exact cOk_low ih
where cOk_low {M : Int} {a : Nat} : ∀ {cl : List Int}, cOk M ((a + 1 : Nat) : Int) cl = true → cOk M (a : Int) cl = true
  | [], _ => rfl
  | l :: ls, h => by
    simp only [cOk, Bool.and_eq_true, decide_eq_true_eq] at h ⊢
    exact ⟨⟨h.1.1, by omega⟩, h.2⟩
theorem joinP_clOk (M : Nat) (a b : List Int) (m : Nat) : clOk (M : Int) (joinP M a b m) = true := by
  have h := joinF_cOk (ab := a ++ b) (m := m) (M := (M : Int)) (n := M) (a := 0) (by simp)
  exact h
/-- The clauses' reasons, place by place. -/
theorem whysF_iff {cs : List (List Int)} : ∀ {pre put why : List Int}, put.length = why.length → (whysF cs pre put why = true ↔ ∀ (i : Nat) (m k : Int), put[i]? = some m → why[i]? = some k → whyOk cs (pre ++ put.take i) m k = true)
  | pre, [], [], _ => ⟨fun _ i m k h => by simp at h, fun _ => rfl⟩
  | pre, [], _ :: _, h => by simp at h
  | pre, _ :: _, [], h => by simp at h
  | pre, m :: ms, k :: ks, h => by
    simp only [whysF, Bool.and_eq_true]
    rw [whysF_iff (pre := pre ++ [m]) (by simpa using h)]
    constructor
    · rintro ⟨h1, h2⟩ i m' k' hm hk
      rcases i with _ | i
      · simp at hm hk; subst hm hk; simpa using h1
      · have := h2 i m' k' (by simpa using hm) (by simpa using hk)
        simpa using this
    · intro h2
      refine ⟨by simpa using h2 0 m k rfl rfl, fun i m' k' hm hk => ?_⟩
      have := h2 (i + 1) m' k' (by simpa using hm) (by simpa using hk)
      simpa using this
end Go.Proofs.Ytbljfhmcebgdaaa

/-! The reference's search keeps its trail right: the plain law. No program is named here. -/
namespace Go.Proofs.Ytbljfhmcebgdaaa
open Go Go.RowKit

theorem pos_eq {put : List Int} (hn : (put.map Int.natAbs).Nodup) {i j : Nat} {x y : Int} (hi : put[i]? = some x) (hj : put[j]? = some y) (h : x.natAbs = y.natAbs) : i = j := by
  obtain ⟨h1, e1⟩ := List.getElem?_eq_some_iff.1 hi
  obtain ⟨h2, e2⟩ := List.getElem?_eq_some_iff.1 hj
  have hp := List.pairwise_iff_getElem.1 hn
  rcases Nat.lt_trichotomy i j with h9 | h9 | h9
  · exact absurd (by rw [List.getElem_map, List.getElem_map, e1, e2]; exact h) (hp i j (by simpa using h1) (by simpa using h2) h9)
  · exact h9
  · exact absurd (by rw [List.getElem_map, List.getElem_map, e1, e2]; exact h.symm) (hp j i (by simpa using h2) (by simpa using h1) h9)
theorem take_pos {put : List Int} {p : Nat} {x : Int} (h : x ∈ put.take p) : ∃ i, i < p ∧ put[i]? = some x := by
  obtain ⟨i, hi, e⟩ := List.getElem_of_mem h
  rw [List.length_take] at hi
  refine ⟨i, by omega, ?_⟩
  rw [List.getElem_take] at e
  rw [← e]
  exact List.getElem?_eq_getElem (by omega)
theorem pos_take {put : List Int} {p i : Nat} {x : Int} (h : put[i]? = some x) (hi : i < p) : x ∈ put.take p := by
  refine List.mem_of_getElem? (i := i) ?_
  rw [List.getElem?_take, if_pos hi, h]
theorem nodup_const {v : Nat} : ∀ {l : List Nat}, l.Nodup → (∀ x ∈ l, x = v) → l.length ≤ 1
  | [], _, _ => by simp
  | [x], _, _ => by simp
  | x :: y :: l, hn, h => by
    have h1 := h x (by simp)
    have h2 := h y (by simp)
    rw [List.nodup_cons] at hn
    exact absurd (by rw [h1, ← h2]; simp) hn.1
theorem clOk_nodup {many : Int} {cl : List Int} (h : clOk many cl = true) : (cl.map Int.natAbs).Nodup := by
  have hg := (cOk_good (Int.le_refl 0) h).1.nodup
  rw [List.map_map] at hg
  rw [show Int.natAbs = Int.natAbs ∘ (fun l : Int => -l) from by funext l; simp]
  exact hg
/-- A step of learning: the last mark of the clause has a reason, and what comes of both stands further ahead. -/
theorem learn_step {M : Nat} {cs : List (List Int)} {put why cl : List Int} (hg : Good M put) (hl : put.length = why.length) (hw : whysF cs [] put why = true) (hc : clOk M cl = true) {p : Nat} (hf : ∀ l ∈ cl, -l ∈ put.take p) (hn : 1 < (topP (lev put why 0) cl 0 0).2) :
    ∃ (i : Nat) (m k : Int), lastP put cl put.length = i ∧ i < p ∧ put[i]? = some m ∧ why[i]? = some k ∧ 0 ≤ k ∧ k < cs.length ∧ (∀ l ∈ cs.getD k.toNat [], l = m ∨ -l ∈ put.take i) ∧ ∀ l ∈ joinP M cl (cs.getD k.toNat []) m.natAbs, -l ∈ put.take i := by
  obtain ⟨t1, t2, t3⟩ := topP_spec (lv := lev put why 0) cl 0 0
  generalize (topP (lev put why 0) cl 0 0).1 = t at *
  have hcnt : 1 < cntP (lev put why 0) t cl := by rw [t3] at hn; split at hn <;> omega
  -- where the last mark stands
  obtain ⟨l1, l2, l3, l4⟩ := lastP_spec put cl put.length
  have hat : ∀ l ∈ cl, ∃ j, j < p ∧ put[j]? = some (-l) ∧ (j : Int) ≤ lastP put cl put.length := fun l hl9 => by
    obtain ⟨j, hj, e⟩ := take_pos (hf l hl9)
    refine ⟨j, hj, e, ?_⟩
    rcases Int.lt_or_le (lastP put cl put.length) j with h9 | h9
    · have hjl := (List.getElem?_eq_some_iff.1 e).1
      have := l4 j h9 hjl
      have h8 : hasM cl (put.getD j 0).natAbs = true := hasM_iff.2 ⟨l, hl9, by rw [List.getD_eq_getElem?_getD, e]; simp⟩
      rw [h8] at this; cases this
    · exact h9
  have hne : ∃ l0, l0 ∈ cl := by
    cases cl with
    | nil => simp [cntP] at hcnt
    | cons x xs => exact ⟨x, by simp⟩
  obtain ⟨l0, hl0⟩ := hne
  obtain ⟨j0, _, _, hj0⟩ := hat l0 hl0
  obtain ⟨i, hi⟩ : ∃ i : Nat, lastP put cl put.length = i := ⟨(lastP put cl put.length).toNat, by omega⟩
  rw [hi] at l2 l3 hat
  have l3 := l3 (by omega)
  rw [Int.toNat_natCast] at l3
  have hil : i < put.length := by omega
  obtain ⟨m, hm⟩ : ∃ m, put[i]? = some m := ⟨_, List.getElem?_eq_getElem hil⟩
  obtain ⟨k, hk⟩ : ∃ k, why[i]? = some k := ⟨_, List.getElem?_eq_getElem (by omega)⟩
  have hgm : put.getD i 0 = m := by rw [List.getD_eq_getElem?_getD, hm]; rfl
  rw [hgm] at l3
  obtain ⟨x, hx, hxm⟩ := hasM_iff.1 l3
  obtain ⟨j, hjp, hjx, _⟩ := hat x hx
  have hji : j = i := pos_eq hg.nodup hjx hm (by rw [Int.natAbs_neg]; exact hxm)
  subst hji
  have hrs := (whysF_iff hl).1 hw j m k hm hk
  rw [List.nil_append] at hrs
  have hiw : j < why.length := by omega
  have hwk : why[j] = k := (List.getElem?_eq_some_iff.1 hk).2
  have hk0 : 0 ≤ k := by
    rcases Int.lt_or_le k 0 with hneg | h9
    · exfalso
      have hstep := negs_step hiw
      rw [hwk, if_pos hneg] at hstep
      have hlv : ∀ l ∈ cl, ∃ q, q ≤ j ∧ put[q]? = some (-l) ∧ lev put why 0 l.natAbs = negs (why.take (q + 1)) := fun l hl9 => by
        obtain ⟨q, hq, hq1, hq2⟩ := hat l hl9
        have hql := (List.getElem?_eq_some_iff.1 hq1).1
        refine ⟨q, by omega, hq1, ?_⟩
        have := lev_at put why 0 q (-l) _ hg.nodup hq1 (List.getElem?_eq_getElem (show q < why.length by omega))
        rw [Int.natAbs_neg] at this
        rw [this]; omega
      have hall : ∀ l ∈ cl.filter (fun l => lev put why 0 l.natAbs == t), l.natAbs = m.natAbs := fun l hl9 => by
        obtain ⟨h1, h2⟩ := List.mem_filter.1 hl9
        have h2 : lev put why 0 l.natAbs = t := by simpa using h2
        obtain ⟨q, hq, hq1, hq2⟩ := hlv l h1
        obtain ⟨q', hq', hq1', hq2'⟩ := hlv x hx
        have e' : q' = j := pos_eq hg.nodup hq1' hm (by rw [Int.natAbs_neg]; exact hxm)
        have hx2 := t2 x hx
        rw [hq2', e', hstep] at hx2
        rcases Nat.lt_or_ge q j with h9 | h9
        · have := negs_mono (why := why) (show q + 1 ≤ j by omega)
          omega
        · have e : q = j := by omega
          subst e
          rw [hm] at hq1
          injection hq1 with hq1
          rw [hq1, Int.natAbs_neg]
      have hnd : ((cl.filter (fun l => lev put why 0 l.natAbs == t)).map Int.natAbs).Nodup := ((List.filter_sublist ..).map _).nodup (clOk_nodup hc)
      have := nodup_const hnd (v := m.natAbs) fun y hy => by
        obtain ⟨l, h1, rfl⟩ := List.mem_map.1 hy
        exact hall l h1
      rw [List.length_map] at this
      unfold cntP at hcnt
      omega
    · exact h9
  unfold whyOk at hrs
  have hk1 : (k == -1) = false := by simp; omega
  rw [hk1, Bool.false_or, Bool.and_eq_true, Bool.and_eq_true, decide_eq_true_eq, decide_eq_true_eq] at hrs
  obtain ⟨⟨_, hkc⟩, hbc⟩ := hrs
  unfold because at hbc
  rw [Bool.and_eq_true, List.all_eq_true] at hbc
  have hr : ∀ l ∈ cs.getD k.toNat [], l = m ∨ -l ∈ put.take j := fun l hl9 => by
    have := hbc.2 l hl9
    simpa using this
  refine ⟨j, m, k, hi, hjp, hm, hk, hk0, hkc, hr, fun l hl9 => ?_⟩
  obtain ⟨h1, h2, h3, _, _⟩ := joinF_mem hl9
  rcases List.mem_append.1 h1 with h1 | h1
  · obtain ⟨q, _, hq1, hq2⟩ := hat l h1
    have hqj : q ≠ j := fun e => by
      subst e
      rw [hm] at hq1
      injection hq1 with hq1
      exact h3 (by rw [hq1, Int.natAbs_neg])
    exact pos_take hq1 (by omega)
  · rcases hr l h1 with h9 | h9
    · exact absurd (by rw [h9]) h3
    · exact h9
/-- The clause that is learned. -/
def learnP (M : Nat) (cs : List (List Int)) (put why : List Int) : Nat → List Int → List Int
  | 0, cl => cl
  | p + 1, cl => if 1 < (topP (lev put why 0) cl 0 0).2 then learnP M cs put why p (joinP M cl (cs.getD (why.getD (lastP put cl put.length).toNat 0).toNat []) (put.getD (lastP put cl put.length).toNat 0).natAbs) else cl
/-- One step of the loop. -/
theorem learnP_more {M : Nat} {cs : List (List Int)} {put why cl : List Int} (hg : Good M put) (hl : put.length = why.length) (hw : whysF cs [] put why = true) (hc : clOk M cl = true) {p : Nat} (hf : ∀ l ∈ cl, -l ∈ put.take p) (hn : 1 < (topP (lev put why 0) cl 0 0).2) :
    ∃ (i : Nat) (m k : Int), lastP put cl put.length = i ∧ i < p ∧ put[i]? = some m ∧ why[i]? = some k ∧ 0 ≤ k ∧ k < cs.length ∧ clOk M (joinP M cl (cs.getD k.toNat []) m.natAbs) = true ∧ (∀ l ∈ joinP M cl (cs.getD k.toNat []) m.natAbs, -l ∈ put.take (p - 1)) ∧
      (∀ l ∈ cs.getD k.toNat [], -(M : Int) ≤ l ∧ l ≤ M) ∧ learnP M cs put why p cl = learnP M cs put why (p - 1) (joinP M cl (cs.getD k.toNat []) m.natAbs) := by
  obtain ⟨i, m, k, h1, h2, h3, h4, h5, h6, h7, h8⟩ := learn_step hg hl hw hc hf hn
  refine ⟨i, m, k, h1, h2, h3, h4, h5, h6, joinP_clOk _ _ _ _, fun l hl9 => ?_, fun l hl9 => ?_, ?_⟩
  · obtain ⟨q, hq, hq1⟩ := take_pos (h8 l hl9)
    exact pos_take hq1 (by omega)
  · rcases h7 l hl9 with h9 | h9
    · rw [h9]; exact (hg.rng m (List.mem_of_getElem? h3)).2
    · have := (hg.rng _ (List.mem_of_mem_take h9)).2
      omega
  · obtain ⟨p, rfl⟩ : ∃ q, p = q + 1 := ⟨p - 1, by omega⟩
    have e1 : why.getD i 0 = k := by rw [List.getD_eq_getElem?_getD, h4]; rfl
    have e2 : put.getD i 0 = m := by rw [List.getD_eq_getElem?_getD, h3]; rfl
    rw [Nat.add_sub_cancel]
    show (if _ then _ else _) = _
    rw [if_pos hn, h1, Int.toNat_natCast, e1, e2]
theorem learnP_done {M : Nat} {cs : List (List Int)} {put why cl : List Int} {p : Nat} (hn : ¬ 1 < (topP (lev put why 0) cl 0 0).2) : learnP M cs put why p cl = cl := by
  cases p with
  | zero => rfl
  | succ p =>
    show (if _ then _ else _) = _
    rw [if_neg hn]
theorem learnP_ok {M : Nat} {cs : List (List Int)} {put why : List Int} (hg : Good M put) (hl : put.length = why.length) (hw : whysF cs [] put why = true) : ∀ (p : Nat) (cl : List Int), clOk M cl = true → (∀ l ∈ cl, -l ∈ put.take p) → clOk M (learnP M cs put why p cl) = true ∧ ∀ l ∈ learnP M cs put why p cl, -l ∈ put
  | 0, cl, hc, hf => ⟨hc, fun l hl9 => by have := hf l hl9; simp at this⟩
  | p + 1, cl, hc, hf => by
    by_cases hn : 1 < (topP (lev put why 0) cl 0 0).2
    · obtain ⟨i, m, k, h1, h2, h3, h4, h5, h6, h7, h8, _, h9⟩ := learnP_more hg hl hw hc hf hn
      rw [h9]
      rw [Nat.add_sub_cancel] at h8 ⊢
      exact learnP_ok hg hl hw p _ h7 h8
    · rw [learnP_done hn]
      exact ⟨hc, fun l hl9 => List.mem_of_mem_take (hf l hl9)⟩
end Go.Proofs.Ytbljfhmcebgdaaa

/-! The reference's steps keep a search right: the plain law. No program is named here. -/
namespace Go.Proofs.Ytbljfhmcebgdaaa
open Go Go.RowKit

/-- What the first false clause and the first unit are. -/
theorem fd_at {put : List Int} : ∀ {cs : List (List Int)} {k u f : Int}, 0 ≤ k →
    (0 ≤ (fd put cs k u f).1 → ∃ (i : Nat) (cl : List Int) (m : Int), (fd put cs k u f).1 = k + i ∧ cs[i]? = some cl ∧ lk put cl 0 0 = some (0, m)) ∧
    ((fd put cs k u f).1 < 0 → ((fd put cs k u f).2.1 = u ∧ (fd put cs k u f).2.2 = f) ∨ ∃ (i : Nat) (cl : List Int), (fd put cs k u f).2.1 = k + i ∧ cs[i]? = some cl ∧ lk put cl 0 0 = some (1, (fd put cs k u f).2.2))
  | [], k, u, f, _ => by simp [fd]
  | cl :: cls, k, u, f, hk => by
    have ih := fun u f => @fd_at put cls (k + 1) u f (by omega)
    have lift : ∀ (u f : Int), (0 ≤ (fd put cls (k + 1) u f).1 → ∃ (i : Nat) (c : List Int) (m : Int), (fd put cls (k + 1) u f).1 = k + i ∧ (cl :: cls)[i]? = some c ∧ lk put c 0 0 = some (0, m)) := fun u f h => by
      obtain ⟨i, c, m, h1, h2, h3⟩ := (ih u f).1 h
      exact ⟨i + 1, c, m, by omega, by simpa using h2, h3⟩
    have lift2 : ∀ (u f : Int), (fd put cls (k + 1) u f).1 < 0 → ((fd put cls (k + 1) u f).2.1 = u ∧ (fd put cls (k + 1) u f).2.2 = f) ∨ ∃ (i : Nat) (c : List Int), (fd put cls (k + 1) u f).2.1 = k + i ∧ (cl :: cls)[i]? = some c ∧ lk put c 0 0 = some (1, (fd put cls (k + 1) u f).2.2) := fun u f h => by
      rcases (ih u f).2 h with h9 | ⟨i, c, h1, h2, h3⟩
      · exact .inl h9
      · exact .inr ⟨i + 1, c, by omega, by simpa using h2, h3⟩
    simp only [fd]
    cases hl : lk put cl 0 0 with
    | none => exact ⟨lift u f, lift2 u f⟩
    | some p =>
      obtain ⟨n, m⟩ := p
      dsimp only
      by_cases h0 : n = 0
      · rw [if_pos h0]
        subst h0
        exact ⟨fun _ => ⟨0, cl, m, by simp, rfl, hl⟩, fun h => by dsimp only at h; omega⟩
      rw [if_neg h0]
      by_cases h1 : n = 1 ∧ u < 0
      · rw [if_pos h1]
        refine ⟨lift k m, fun h => ?_⟩
        rcases lift2 k m h with ⟨h2, h3⟩ | h9
        · exact .inr ⟨0, cl, by rw [h2]; simp, rfl, by rw [hl, h3, h1.1]⟩
        · exact .inr h9
      · rw [if_neg h1]; exact ⟨lift u f, lift2 u f⟩
/-- The greatest level below another. -/
def belowP (lv : Nat → Int) (top : Int) : List Int → Int → Int
  | [], o => o
  | l :: ls, o => belowP lv top ls (if lv l.natAbs < top then (if o > lv l.natAbs then o else lv l.natAbs) else o)
/-- How many marks stay. -/
def backN (level : Int) : List Int → Int → Nat
  | [], _ => 0
  | w :: ws, k => if level < k + (if w < 0 then 1 else 0) then 0 else 1 + backN level ws (k + (if w < 0 then 1 else 0))
theorem backN_le (level : Int) : ∀ (ws : List Int) (k : Int), backN level ws k ≤ ws.length
  | [], _ => Nat.le_refl _
  | w :: ws, k => by
    simp only [backN, List.length_cons]
    have := backN_le level ws (k + (if w < 0 then 1 else 0))
    by_cases h : level < k + (if w < 0 then 1 else 0)
    · rw [if_pos h]; exact Nat.zero_le _
    · rw [if_neg h]; omega
/-- The clauses, given and learned. -/
def allC (c : C) (s : S) : List (List Int) := c.list ++ s.learned
/-- What comes of a false clause. -/
def clashP (M : Nat) (c : C) (s : S) (cl : List Int) : S :=
  if (topP (lev s.put s.why 0) cl 0 0).1 = 0 then ⟨s.put, s.why, s.learned, 2⟩
  else if 300 ≤ s.learned.length then ⟨s.put, s.why, s.learned, 3⟩
  else ⟨s.put.take (backN (belowP (lev s.put s.why 0) (topP (lev s.put s.why 0) cl 0 0).1 (learnP M (allC c s) s.put s.why s.put.length cl) 0) s.why 0), s.why.take (backN (belowP (lev s.put s.why 0) (topP (lev s.put s.why 0) cl 0 0).1 (learnP M (allC c s) s.put s.why s.put.length cl) 0) s.why 0), s.learned ++ [learnP M (allC c s) s.put s.why s.put.length cl], s.code⟩
/-- The first free mark from m on. -/
def freeP (put : List Int) : Nat → Nat → Nat
  | 0, m => m
  | n + 1, m => if sg put m ≠ 0 then freeP put n (m + 1) else m
/-- One step. -/
def doP (M : Nat) (c : C) (s : S) : S :=
  if 0 ≤ (fdS s.put (allC c s)).1 then clashP M c s ((allC c s).getD (fdS s.put (allC c s)).1.toNat [])
  else if 0 ≤ (fdS s.put (allC c s)).2.1 then ⟨s.put ++ [(fdS s.put (allC c s)).2.2], s.why ++ [(fdS s.put (allC c s)).2.1], s.learned, s.code⟩
  else if (s.put.length : Int) = c.many then ⟨s.put, s.why, s.learned, 1⟩
  else ⟨s.put ++ [-(freeP s.put M 1 : Int)], s.why ++ [-1], s.learned, s.code⟩
def runP (M : Nat) (c : C) : Nat → S → S
  | 0, s => s
  | n + 1, s => if s.code = 0 then runP M c n (doP M c s) else s
theorem whyOk_more {cs : List (List Int)} {x pre : List Int} {m k : Int} (h : whyOk cs pre m k = true) : whyOk (cs ++ [x]) pre m k = true := by
  unfold whyOk at h ⊢
  rw [Bool.or_eq_true] at h ⊢
  rcases h with h | h
  · exact .inl h
  · right
    rw [Bool.and_eq_true, Bool.and_eq_true, decide_eq_true_eq, decide_eq_true_eq] at h ⊢
    refine ⟨⟨h.1.1, by rw [List.length_append]; omega⟩, ?_⟩
    rw [List.getD_eq_getElem?_getD, List.getElem?_append_left (by omega), ← List.getD_eq_getElem?_getD]
    exact h.2
theorem Good.take {many : Int} {put : List Int} (h : Good many put) (n : Nat) : Good many (put.take n) :=
  ⟨fun l hl => h.rng l (List.mem_of_mem_take hl), ((List.take_sublist n put).map _).nodup h.nodup⟩
/-- A false clause gives a right search. -/
theorem clash_ok {M : Nat} {c : C} {s : S} {cl : List Int} (h : SatGood c s) (hM : c.many = M) (hc : clOk M cl = true) (hf : ∀ l ∈ cl, -l ∈ s.put) : SatGood c (clashP M c s cl) := by
  unfold clashP
  have hg : Good M s.put := by rw [← hM]; exact h.good
  by_cases h1 : (topP (lev s.put s.why 0) cl 0 0).1 = 0
  · rw [if_pos h1]
    exact ⟨h.cnf, h.learned, by show (0 : Int) ≤ 2; decide, by show (2 : Int) ≤ 3; decide, h.len, h.good, h.cls, h.whys⟩
  rw [if_neg h1]
  by_cases h2 : 300 ≤ s.learned.length
  · rw [if_pos h2]
    exact ⟨h.cnf, h.learned, by show (0 : Int) ≤ 3; decide, by show (3 : Int) ≤ 3; decide, h.len, h.good, h.cls, h.whys⟩
  rw [if_neg h2]
  obtain ⟨k1, k2⟩ := learnP_ok hg h.len (cs := allC c s) h.whys s.put.length cl hc (by rw [List.take_length]; exact hf)
  generalize learnP M (allC c s) s.put s.why s.put.length cl = x at *
  generalize backN (belowP (lev s.put s.why 0) (topP (lev s.put s.why 0) cl 0 0).1 x 0) s.why 0 = n at *
  refine ⟨h.cnf, by show (s.learned ++ [x]).length ≤ 300; rw [List.length_append, List.length_singleton]; omega, h.code0, h.code1, by show (s.put.take n).length = (s.why.take n).length; rw [List.length_take, List.length_take, h.len], h.good.take n, fun y hy => ?_, ?_⟩
  · rcases List.mem_append.1 hy with hy | hy
    · exact h.cls y hy
    · rw [List.mem_singleton.1 hy, hM]; exact k1
  · show whysF (c.list ++ (s.learned ++ [x])) [] (s.put.take n) (s.why.take n) = true
    rw [whysF_iff (by rw [List.length_take, List.length_take, h.len])]
    intro i m k hm hk
    rw [List.getElem?_take] at hm hk
    split at hm
    · rename_i hin
      rw [if_pos hin] at hk
      have := (whysF_iff h.len).1 h.whys i m k hm hk
      rw [← List.append_assoc]
      rw [List.take_take, Nat.min_eq_left (by omega)]
      exact whyOk_more this
    · cases hm
/-- One mark more, for a reason. -/
theorem put_ok {c : C} {s : S} {m k : Int} (h : SatGood c s) (h0 : m ≠ 0) (h1 : -c.many ≤ m) (h2 : m ≤ c.many) (h3 : m ∉ s.put) (h4 : -m ∉ s.put) (hw : whyOk (allC c s) s.put m k = true) : SatGood c ⟨s.put ++ [m], s.why ++ [k], s.learned, s.code⟩ := by
  refine ⟨h.cnf, h.learned, h.code0, h.code1, by simp [h.len], h.good.snoc h0 h1 h2 h3 h4, h.cls, ?_⟩
  show whysF (c.list ++ s.learned) [] (s.put ++ [m]) (s.why ++ [k]) = true
  rw [whysF_iff (by simp [h.len])]
  intro i m' k' hm hk
  rcases Nat.lt_or_ge i s.put.length with hi | hi
  · rw [List.getElem?_append_left hi] at hm
    rw [List.getElem?_append_left (by rw [← h.len]; exact hi)] at hk
    have := (whysF_iff h.len).1 h.whys i m' k' hm hk
    rw [List.take_append_of_le_length (by omega)]
    exact this
  · rw [List.getElem?_append_right hi] at hm
    rw [List.getElem?_append_right (by rw [← h.len]; exact hi)] at hk
    have hi0 : i = s.put.length := by
      have := (List.getElem?_eq_some_iff.1 hm).1
      simp at this; omega
    subst hi0
    rw [Nat.sub_self] at hm
    rw [← h.len, Nat.sub_self] at hk
    simp at hm hk
    subst hm hk
    rw [List.take_append_of_le_length (Nat.le_refl _), List.take_length, List.nil_append]
    exact hw
theorem allC_clOk {c : C} {s : S} (h : SatGood c s) : ∀ cl ∈ allC c s, clOk c.many cl = true := fun cl hcl => by
  rcases List.mem_append.1 hcl with hcl | hcl
  · have := h.cnf
    simp only [cnfOk, Bool.and_eq_true, List.all_eq_true] at this
    exact this.2 cl hcl
  · exact h.cls cl hcl
/-- What a false clause is. -/
theorem fdS_clash {c : C} {s : S} (hk : 0 ≤ (fdS s.put (allC c s)).1) : ∃ (i : Nat) (cl : List Int), (fdS s.put (allC c s)).1 = i ∧ (allC c s)[i]? = some cl ∧ ∀ l ∈ cl, -l ∈ s.put := by
  have h1 : (fdS s.put (allC c s)).1 = (fd s.put (allC c s) 0 (-1) 0).1 := by unfold fdS; split <;> rfl
  rw [h1] at hk ⊢
  obtain ⟨i, cl, m, h2, h3, h4⟩ := (fd_at (Int.le_refl 0)).1 hk
  exact ⟨i, cl, by omega, h3, ((lk_some h4).2.2.1 rfl).2⟩
/-- What a unit is. -/
theorem fdS_unit {c : C} {s : S} (hk : ¬ 0 ≤ (fdS s.put (allC c s)).1) (hu : 0 ≤ (fdS s.put (allC c s)).2.1) : ∃ (i : Nat) (cl : List Int), (fdS s.put (allC c s)).2.1 = i ∧ (allC c s)[i]? = some cl ∧ (fdS s.put (allC c s)).2.2 ∈ cl ∧ (fdS s.put (allC c s)).2.2 ∉ s.put ∧ -(fdS s.put (allC c s)).2.2 ∉ s.put ∧ ∀ l ∈ cl, l = (fdS s.put (allC c s)).2.2 ∨ -l ∈ s.put := by
  have h1 : (fdS s.put (allC c s)) = fd s.put (allC c s) 0 (-1) 0 := by
    unfold fdS at hk ⊢
    split
    · rename_i h9; rw [if_pos h9] at hk; exact absurd h9 hk
    · rfl
  rw [h1] at hk hu ⊢
  rcases (fd_at (put := s.put) (cs := allC c s) (k := 0) (u := -1) (f := 0) (Int.le_refl 0)).2 (by omega) with ⟨h2, _⟩ | ⟨i, cl, h2, h3, h4⟩
  · omega
  · obtain ⟨a, _, _, d⟩ := lk_some h4
    obtain ⟨d1, d2, d3⟩ := d rfl
    exact ⟨i, cl, by omega, h3, d1, a _ d1, d2, d3⟩
/-- There is a free mark, and the search for it ends there. -/
theorem freeP_spec {M : Nat} {put : List Int} : ∀ (n m : Nat), (∃ v, m ≤ v ∧ v < m + n ∧ sg put v = 0) → m ≤ freeP put n m ∧ freeP put n m < m + n ∧ sg put (freeP put n m) = 0 ∧ ∀ v, m ≤ v → v < freeP put n m → sg put v ≠ 0
  | 0, m, ⟨v, h1, h2, _⟩ => by omega
  | n + 1, m, ⟨v, h1, h2, h3⟩ => by
    simp only [freeP]
    by_cases h9 : sg put m = 0
    · rw [if_neg fun h => h h9]
      exact ⟨Nat.le_refl _, by omega, h9, fun v hv hv' => by omega⟩
    · rw [if_pos h9]
      have hvm : v ≠ m := fun e => h9 (by rw [← e]; exact h3)
      obtain ⟨a, b, c, d⟩ := freeP_spec (M := M) (put := put) n (m + 1) ⟨v, by omega, by omega, h3⟩
      refine ⟨by omega, by omega, c, fun x hx hx' => ?_⟩
      by_cases e : x = m
      · rw [e]; exact h9
      · exact d x (by omega) hx'
theorem sg_zero {put : List Int} {v : Int} (h : sg put v = 0) : v ∉ put ∧ -v ∉ put := by
  unfold sg at h
  split at h
  · omega
  · split at h
    · omega
    · exact ⟨by assumption, by assumption⟩
theorem sg_free {put : List Int} {v : Int} (h : v ∉ put) (h' : -v ∉ put) : sg put v = 0 := by
  unfold sg
  rw [if_neg h, if_neg h']
theorem cover_len : ∀ (M : Nat) (l : List Nat), (∀ v, 1 ≤ v → v ≤ M → v ∈ l) → M ≤ l.length
  | 0, _, _ => Nat.zero_le _
  | M + 1, l, h => by
    have h1 := h (M + 1) (by omega) (Nat.le_refl _)
    have h2 := cover_len M (l.erase (M + 1)) fun v hv hv' => (List.mem_erase_of_ne (by omega)).2 (h v hv (by omega))
    rw [List.length_erase_of_mem h1] at h2
    have := List.length_pos_of_mem h1
    omega
/-- Fewer marks are put than there are: one is free. -/
theorem free_is {M : Nat} {put : List Int} (hg : Good M put) (hl : put.length < M) : ∃ v : Nat, 1 ≤ v ∧ v < 1 + M ∧ sg put v = 0 := by
  refine Classical.byContradiction fun hno => ?_
  have hall : ∀ v : Nat, 1 ≤ v → v ≤ M → v ∈ put.map Int.natAbs := fun v h1 h2 => Classical.byContradiction fun h9 => hno ⟨v, h1, by omega, by
    have := mt (mem_natAbs (put := put) (l := (v : Int))).2 (by simpa using h9)
    exact sg_free (fun h => this (.inl h)) (fun h => this (.inr h))⟩
  have := cover_len M (put.map Int.natAbs) hall
  rw [List.length_map] at this
  omega
theorem do_ok {M : Nat} {c : C} {s : S} (h : SatGood c s) (hM : c.many = M) : SatGood c (doP M c s) := by
  have hg : Good M s.put := by rw [← hM]; exact h.good
  unfold doP
  by_cases h1 : 0 ≤ (fdS s.put (allC c s)).1
  · rw [if_pos h1]
    obtain ⟨i, cl, e1, e2, e3⟩ := fdS_clash h1
    rw [e1, Int.toNat_natCast, List.getD_eq_getElem?_getD, e2]
    exact clash_ok h hM (by rw [← hM]; exact allC_clOk h cl (List.mem_of_getElem? e2)) e3
  rw [if_neg h1]
  by_cases h2 : 0 ≤ (fdS s.put (allC c s)).2.1
  · rw [if_pos h2]
    obtain ⟨i, cl, e1, e2, e3, e4, e5, e6⟩ := fdS_unit h1 h2
    have hr := clOk_rng (allC_clOk h cl (List.mem_of_getElem? e2)) _ e3
    refine put_ok h hr.1 hr.2.1 hr.2.2 e4 e5 ?_
    have hil := (List.getElem?_eq_some_iff.1 e2).1
    unfold whyOk
    rw [Bool.or_eq_true]
    right
    rw [Bool.and_eq_true, Bool.and_eq_true, decide_eq_true_eq, decide_eq_true_eq]
    refine ⟨⟨h2, by omega⟩, ?_⟩
    rw [e1, Int.toNat_natCast, List.getD_eq_getElem?_getD, e2]
    unfold because
    rw [Bool.and_eq_true, decide_eq_true_eq, List.all_eq_true]
    exact ⟨e3, fun l hl => by simpa using e6 l hl⟩
  rw [if_neg h2]
  by_cases h3 : (s.put.length : Int) = c.many
  · rw [if_pos h3]
    exact ⟨h.cnf, h.learned, by show (0 : Int) ≤ 1; decide, by show (1 : Int) ≤ 3; decide, h.len, h.good, h.cls, h.whys⟩
  rw [if_neg h3]
  have hlt : s.put.length < M := by
    have := hg.length
    rw [Int.toNat_natCast] at this
    omega
  obtain ⟨a, b, e, _⟩ := freeP_spec (M := M) (put := s.put) M 1 (free_is hg hlt)
  obtain ⟨n1, n2⟩ := sg_zero e
  exact put_ok h (by omega) (by omega) (by omega) n2 (by rw [Int.neg_neg]; exact n1) (by unfold whyOk; simp)
theorem run_ok {M : Nat} {c : C} (hM : c.many = M) : ∀ (n : Nat) (s : S), SatGood c s → SatGood c (runP M c n s)
  | 0, s, h => h
  | n + 1, s, h => by
    simp only [runP]
    split
    · exact run_ok hM n _ (do_ok h hM)
    · exact h
theorem sat_new {c : C} (h : cnfOk c = true) : SatGood c ⟨[], [], [], 0⟩ := ⟨h, by simp, by simp, by simp, rfl, Good.nil _, by simp, rfl⟩
end Go.Proofs.Ytbljfhmcebgdaaa
