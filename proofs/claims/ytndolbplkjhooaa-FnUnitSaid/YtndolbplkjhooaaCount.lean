/- Counting through truth values: the program's countUp, CnfLeast; the laws' wpWay, wpFollows. -/
import Derived.Test.YtndolbplkjhooaaHas
import Derived.Test.YtndolbplkjhooaaSatS4
import Derived.Test.YtndolbplkjhooaaDr
namespace Go.Proofs.Ytndolbplkjhooaa
open Go Go.RowKit

def Next (bs bs' : List Bool) : Prop := ∃ pre m, bs = pre ++ false :: List.replicate m true ∧ bs' = pre ++ true :: List.replicate m false
theorem Next.length {bs bs' : List Bool} (h : Next bs bs') : bs'.length = bs.length := by
  obtain ⟨pre, m, rfl, rfl⟩ := h; simp
theorem Next.val {bs bs' : List Bool} (h : Next bs bs') : bval bs' 0 = bval bs 0 + 1 := by
  obtain ⟨pre, m, rfl, rfl⟩ := h; exact bval_next pre m
theorem last_val {bs : List Bool} (h : bs = List.replicate bs.length true) : bval bs 0 + 1 = 2 ^ bs.length := by
  have := bval_ones bs.length
  rw [← h] at this; exact this
/-- Where counting stands: from place m on all were true, and are false. -/
def CountAt (bs cur : List Bool) (m : Nat) : Prop := m ≤ bs.length ∧ bs.drop m = List.replicate (bs.length - m) true ∧ cur = bs.take m ++ List.replicate (bs.length - m) false
theorem CountAt.start (bs : List Bool) : CountAt bs bs bs.length := ⟨Nat.le_refl _, by simp, by simp⟩
theorem CountAt.len {bs cur : List Bool} {m : Nat} (h : CountAt bs cur m) : cur.length = bs.length := by
  obtain ⟨h1, _, h3⟩ := h
  rw [h3]; simp; omega
theorem CountAt.get {bs cur : List Bool} {k : Nat} (h : CountAt bs cur (k + 1)) (hk : k < cur.length) (hk' : k < bs.length) : cur[k] = bs[k] := by
  obtain ⟨h1, _, h3⟩ := h
  subst h3
  rw [List.getElem_append_left (by simp; omega), List.getElem_take]
theorem CountAt.tail {bs cur : List Bool} {k : Nat} (h : CountAt bs cur (k + 1)) (b : Bool) : cur.set k b = bs.take k ++ b :: List.replicate (bs.length - (k + 1)) false := by
  obtain ⟨h1, _, h3⟩ := h
  subst h3
  rw [List.set_append_left _ _ (by simp; omega), List.take_succ_eq_append_getElem (by omega), List.set_append_right _ _ (by simp; omega)]
  simp [Nat.min_eq_left (show k ≤ bs.length by omega)]
theorem CountAt.go {bs cur : List Bool} {k : Nat} (h : CountAt bs cur (k + 1)) (hk : k < bs.length) (hb : bs[k] = true) : CountAt bs (cur.set k false) k := by
  refine ⟨by omega, ?_, ?_⟩
  · rw [List.drop_eq_getElem_cons hk, hb, h.2.1, ← List.replicate_succ]; congr 1; omega
  · rw [h.tail, ← List.replicate_succ]; congr 2; omega
theorem CountAt.stop {bs cur : List Bool} {k : Nat} (h : CountAt bs cur (k + 1)) (hk : k < bs.length) (hb : bs[k] = false) : Next bs (cur.set k true) := by
  refine ⟨bs.take k, bs.length - (k + 1), ?_, h.tail true⟩
  rw [← h.2.1, ← hb, ← List.drop_eq_getElem_cons hk, List.take_append_drop]
theorem CountAt.all {bs cur : List Bool} (h : CountAt bs cur 0) : bs = List.replicate bs.length true ∧ cur = List.replicate bs.length false := by
  obtain ⟨_, h2, h3⟩ := h
  exact ⟨by simpa using h2, by simpa using h3⟩
def OwnB (w : World) (lo : Nat) (v : Value) (bs : List Bool) : Prop := w.ownsRow lo 4 1 v bs.length (bs.map Value.bool)
theorem OwnB.rd {w : World} {lo c : Nat} {A : Option Addr} {bs : List Bool} (h : OwnB w lo (.slice A bs.length c) bs) : Lay.bool.Rd w A bs := ((own_bools h).2.2).own_rd
theorem OwnB.gr {S : Nat → Prop} {w w' : World} {lo : Nat} {v : Value} {bs : List Bool} (h : OwnB w lo v bs) (hg : Gr S w w') (hr : ∀ b, S b → b < lo) : OwnB w' lo v bs :=
  own_of_heap h fun g hg' => hg.block g (h.lt g hg').2 (fun e => by have := hr g e; have := (h.lt g hg').1; omega)
theorem OwnB.up {w w' : World} {lo : Nat} {v : Value} {bs : List Bool} (h : OwnB w lo v bs) (hb : Below w.heap.size w w') : OwnB w' lo v bs := own_below h hb (Nat.le_refl _)
theorem OwnB.set {w : World} {lo g c k : Nat} {bs : List Bool} (h : OwnB w lo (.slice (some ⟨g, 0, none⟩) bs.length c) bs) (b : Bool) : OwnB (w.setCell ⟨g, k, none⟩ (.bool b)) lo (.slice (some ⟨g, 0, none⟩) bs.length c) (bs.set k b) := by
  have := (h.stored k (.bool b)).1
  unfold OwnB
  rw [List.length_set, List.map_set]
  exact this
theorem OwnB.cell {w : World} {lo g c k : Nat} {bs : List Bool} (h : OwnB w lo (.slice (some ⟨g, 0, none⟩) bs.length c) bs) (hk : k < bs.length) : w.cell? ⟨g, k, none⟩ = some (.bool bs[k]) ∧ w.frozen? ⟨g, k, none⟩ = false := by
  refine ⟨?_, h.frozenAt k⟩
  have hc := h.2
  rcases hc with ⟨e, _⟩ | ⟨g', cap, cur, e, _, _, h3, _⟩
  · cases e
  · have hx := h.cellAt k (by simp; omega)
    rw [hx, List.getElem?_map, List.getElem?_eq_getElem hk]; rfl
def RetCount (bs : List Bool) (lo g c : Nat) (w : World) (e : Ending) (w' : World) : Prop :=
  Gr (fun b => b = g) w w' ∧ ((e = .returned (.bool true) ∧ ∃ bs', Next bs bs' ∧ OwnB w' lo (.slice (some ⟨g, 0, none⟩) bs'.length c) bs') ∨ (e = .returned (.bool false) ∧ bs = List.replicate bs.length true))
set_option maxRecDepth 100000 in
set_option maxHeartbeats 1000000 in
theorem countUp_any (bs : List Bool) (lo g c : Nat) (w : World) (h : OwnB w lo (.slice (some ⟨g, 0, none⟩) bs.length c) bs) (hn : bs.length ≤ 1048576) :
    Calls Try.prog 61 #[.slice (some ⟨g, 0, none⟩) bs.length c] w (RetCount bs lo g c w) := by
  have e0 : IntKind.i64.wrap ((bs.length : Int) - 1) = (bs.length : Int) - 1 := IntWalk.i64_in _ (by omega)
  go_enter Try.func61, Try.ntmps61
  go_wp2
  go_loopw [3] (fun i wr => ∃ (j : Int) (cur : List Bool), -1 ≤ j ∧ j < bs.length ∧ i = .int .i64 j ∧ CountAt bs cur (j + 1).toNat ∧ OwnB wr lo (.slice (some ⟨g, 0, none⟩) cur.length c) cur ∧ Gr (fun b => b = g) w wr) (fun i _ => (intOf i + 1).toNat)
  case atStart => exact ⟨(bs.length : Int) - 1, bs, by omega, by omega, rfl, by rw [show ((bs.length : Int) - 1 + 1).toNat = bs.length by omega]; exact CountAt.start bs, h, Gr.refl _ _⟩
  case round =>
    obtain ⟨j, cur, j0, j1, rfl, hca, hown, hg⟩ := hrel
    have HCA := Lib.hid hca
    have hcl := hca.len
    clear hca
    by_cases hge : 0 ≤ j
    · obtain ⟨k, rfl⟩ := Int.eq_ofNat_of_zero_le hge
      have hk : k < bs.length := by omega
      have hkc : k < cur.length := by omega
      rw [show ((k : Int) + 1).toNat = k + 1 by omega] at HCA
      obtain ⟨hc0, hf0⟩ := hown.cell hkc
      rw [HCA.out.get hkc hk] at hc0
      have hkb : (k : Int) < bs.length := by omega
      have HCL := Lib.hid hcl
      cases hbk : bs[k]
      · rw [hbk] at hc0
        have HN := Lib.hid (HCA.out.stop hk hbk)
        have HO := Lib.hid (hown.set (k := k) true)
        have HG := Lib.hid (hg.set g k (.bool true) (.inl rfl))
        clear hown hg hbk hcl
        go_wp2
        go_ret
        exact ⟨HG.out, .inl ⟨rfl, _, HN.out, by rw [List.length_set]; exact HO.out⟩⟩
      · rw [hbk] at hc0
        have HN := Lib.hid (HCA.out.go hk hbk)
        have HO := Lib.hid (hown.set (k := k) false)
        have HG := Lib.hid (hg.set g k (.bool false) (.inl rfl))
        clear hown hg hbk hcl
        go_wp2
        go_roundw
        case rel => exact ⟨(k : Int) - 1, _, by omega, by omega, by first | rfl | go_num, by rw [show ((k : Int) - 1 + 1).toNat = k by omega]; exact HN.out, by rw [List.length_set]; exact HO.out, HG.out⟩
        case measure => first | (simp [intOf]; done) | (simp [intOf]; omega)
    · have hj : j = -1 := by omega
      subst hj
      have HA := Lib.hid (HCA.out.all)
      have HG := Lib.hid hg
      clear hown hg hcl
      go_wp2
      go_ret
      exact ⟨HG.out, .inr ⟨rfl, HA.out.1⟩⟩
/-- What lies in a row of bools. -/
def bitsOf (w : World) : Value → List Bool
  | .slice (some a) n _ => (List.range n).map fun i => match w.cell? (a.add i) with | some (.bool b) => b | _ => false
  | _ => []
theorem bitsOf_rd {w : World} {F : Nat → Prop} {A : Option Addr} {c : Nat} {bs : List Bool} (h : Lay.bool.Sl w F A bs) : bitsOf w (.slice A bs.length c) = bs := by
  rcases Nat.eq_zero_or_pos bs.length with h0 | h0
  · have : bs = [] := List.eq_nil_of_length_eq_zero h0
    subst this
    cases A <;> rfl
  · obtain ⟨ad, rfl, _⟩ := h h0
    refine List.ext_getElem (by simp [bitsOf]) fun i h1 h2 => ?_
    obtain ⟨ad', e, _, hc⟩ := h.at_bool h2
    injection e with e; subst e
    simp only [bitsOf, List.getElem_map, List.getElem_range]
    rw [hc]
/-- The first way, or none. -/
def RetLeast (x : C) (w : World) (e : Ending) (w' : World) : Prop :=
  Below w.heap.size w w' ∧ ((∃ A vs c, e = .returned (.tuple #[.slice A (List.length vs) c, .bool true]) ∧ cnfHas x vs = true) ∨ (e = .returned (.tuple #[.slice none 0 0, .bool false]) ∧ (x.many ≤ 10 → ∀ vs, cnfHas x vs = false)))
theorem not_has {x : C} (h : cnfOk x = false) (vs : List Bool) : cnfHas x vs = false := by unfold cnfHas; rw [h]; rfl
set_option maxRecDepth 100000 in
set_option maxHeartbeats 1000000 in
theorem cnfLeast_any (x : C) (A : Option Addr) (c : Nat) (w : World) (h : Lay.int.slice.Rd w A x.list) (sx : smCnf x) :
    Calls Try.prog 30 #[.agg #[.int .i64 x.many, .slice A x.list.length c]] w (RetLeast x w) := by
  obtain ⟨i0, hi0, hz0, hz1, hz2⟩ := info_parts bool_info
  have hw : Below w.heap.size w (w.alloc (.cells #[.int .i64 x.many, .slice A x.list.length c] 28)) := (Below.refl _ _).alloc (Nat.le_refl _) _
  have hb0 : (w.alloc (.cells #[.int .i64 x.many, .slice A x.list.length c] 28)).heap[w.heap.size]? = some (.cells #[.int .i64 x.many, .slice A x.list.length c] 28 (0, 0)) := heap_alloc_new _ _
  have hX := h.up hw
  have HOK := Lib.hid (cnfOkP_any x A c _ _ hX (fun _ h => h) sx.1 (by have := sx.2.1; omega) sx.ints)
  have HW := Lib.hid hw
  have HB0 := Lib.hid hb0
  have SX := Lib.hid sx
  clear h hb0 hw sx
  go_enter Try.func30, Try.ntmps30
  go_wp2_with fail
  generalize w.alloc (.cells #[.int .i64 x.many, .slice A x.list.length c] 28) = W at *
  refine HOK.out.mono ?_
  clear HOK
  rintro e w1 ⟨rfl, hb1⟩
  have HB0 := Lib.hid ((hb1.block _ (lt_of_block HB0.out)).trans HB0.out)
  have c0 : w1.cell? ⟨w.heap.size, 0, none⟩ = some (.int .i64 x.many) := (cell_of_block HB0.out 0).1
  have hX := hX.up hb1
  have HBB := Lib.hid (bthen HW.out hb1)
  have hlt0 := lt_of_block HB0.out
  clear hb1
  cases hok : cnfOk x
  · have HN := Lib.hid (not_has hok)
    clear hok
    go_wp2
    go_ret2
    exact ⟨HBB.out, .inr ⟨rfl, fun _ => HN.out⟩⟩
  have hi := (cnfOk_iff x).1 hok
  have HOKX := Lib.hid hok
  obtain ⟨M, hM⟩ := Int.eq_ofNat_of_zero_le hi.1
  clear hok hi
  by_cases h10 : 10 < x.many
  · go_wp2
    go_ret2
    exact ⟨HBB.out, .inr ⟨rfl, fun h9 => by omega⟩⟩
  have hM10 : M ≤ 10 := by omega
  have HMM := Lib.hid hM
  rw [hM] at c0
  clear hM
  go_wp2_with (at_make; refine wpList_make_full w1 rfl _ _ 51 rfl w1.heap.size 4 i0 _ 1 Try.underlying51 hi0 hz0 hz1 .i64 .i64 _ _ M rfl rfl rfl rfl (by rw [hz2]; omega) (by unfold maxLen; omega) (Nat.le_refl _) ?_; intro w2 hown hg1)
  have hb2 : Below w1.heap.size w1 w2 := (Below.refl _ _).grown hg1 (Nat.le_refl _) (by simp)
  rw [show (madeCells (Value.bool false).cells (M * 1)).toList = (List.replicate M false).map Value.bool from by
    rw [show (Value.bool false).cells = #[Value.bool false] from rfl, toList_madeCells_one]; simp] at hown
  clear c0 hg1 hi0 hz0 hz1 hz2 h10
  have hown0 : OwnB w2 w1.heap.size (.slice (some ⟨w1.heap.size, 0, none⟩) (List.replicate M false).length M) (List.replicate M false) := by unfold OwnB; simpa using hown
  clear hown
  go_loopw [] (fun wr => ∃ cur : List Bool, cur.length = M ∧ OwnB wr w1.heap.size (.slice (some ⟨w1.heap.size, 0, none⟩) cur.length M) cur ∧ Below w1.heap.size w1 wr ∧ ∀ vs, bval vs 0 < bval cur 0 → cnfHas x vs = false ∨ vs.length ≠ M) (fun wr => 2 ^ M - bval (bitsOf wr (.slice (some ⟨w1.heap.size, 0, none⟩) M M)) 0)
  case atStart => exact ⟨_, by simp, hown0, hb2, fun vs h9 => by rw [bval_zeros] at h9; omega⟩
  case round =>
    obtain ⟨cur, hcl, hown, hB, hlow⟩ := hrel
    have hXr := hX.up hB
    have c1 : wr.cell? ⟨w.heap.size, 1, none⟩ = some (.slice A x.list.length c) := (cell_of_block ((hB.block _ hlt0).trans HB0.out) 1).1
    have HCL := Lib.hid hcl
    have HBIT : Hid (bitsOf wr (.slice (some ⟨w1.heap.size, 0, none⟩) M M) = cur) := Lib.hid (by rw [← hcl] at hown ⊢; exact bitsOf_rd hown.rd)
    have HLOW := Lib.hid hlow
    have HA := holdsAll_any x.list cur A (some ⟨w1.heap.size, 0, none⟩) c M wr hXr (by have := SX.out.2.1; omega) SX.out.ints hown.rd (by omega)
    rw [hcl] at HA
    have HHAS : Hid (cnfHas x cur = x.list.all (clHas cur)) := Lib.hid (by unfold cnfHas; rw [HOKX.out, decide_eq_true (by rw [hcl, HMM.out])]; simp)
    have HA := Lib.hid HA
    have HO := Lib.hid hown
    have HBR := Lib.hid hB
    clear hcl hlow hown hXr hB
    go_wp2_with fail
    refine HA.out.mono ?_
    clear HA c1
    cases hall : x.list.all (clHas cur)
    · rw [hall] at HHAS
      clear hall
      rintro e w3 ⟨rfl, hb3⟩
      have hown3 := HO.out.up hb3
      have hB3 := HBR.out.trans (hb3.mono HBR.out.size)
      have hc := countUp_any cur w1.heap.size w1.heap.size M w3 hown3 (by have := HCL.out; omega)
      rw [HCL.out] at hc
      have HC := Lib.hid hc
      clear hc hb3
      go_wp2_with fail
      refine HC.out.mono ?_
      clear HC
      rintro e w4 ⟨hg4, ⟨rfl, bs', hn, ho4⟩ | ⟨rfl, hlast⟩⟩
      · have hB4 : Below w1.heap.size w1 w4 := hB3.trans (Gr.to_below' hg4 (by have := hB3.size; omega) (fun y hy => by rw [hy]; exact Nat.le_refl _))
        have hl4 : bs'.length = M := by rw [hn.length, HCL.out]
        have hlt := bval_lt bs'
        rw [hl4] at hlt
        have hv4 := hn.val
        have HBIT4 : Hid (bitsOf w4 (.slice (some ⟨w1.heap.size, 0, none⟩) M M) = bs') := Lib.hid (by rw [← hl4] at ho4 ⊢; exact bitsOf_rd ho4.rd)
        have HLOW4 : Hid (∀ vs, bval vs 0 < bval bs' 0 → cnfHas x vs = false ∨ vs.length ≠ M) := Lib.hid fun vs h9 => by
          rcases Nat.lt_or_ge (bval vs 0) (bval cur 0) with h8 | h8
          · exact HLOW.out vs h8
          · by_cases hvl : vs.length = M
            · left
              rw [bval_inj (cs := vs) (bs := cur) (by rw [hvl, HCL.out]) (by omega)]
              exact HHAS.out
            · exact .inr hvl
        have HLT := Lib.hid hlt
        have HV4 := Lib.hid hv4
        clear hn hg4 hlt hv4
        go_wp2
        go_roundw
        case rel => exact ⟨bs', hl4, ho4, hB4, HLOW4.out⟩
        case measure => rw [HBIT4.out, HBIT.out]; have := HLT.out; have := HV4.out; omega
      · have hB4 : Below w1.heap.size w1 w4 := hB3.trans (Gr.to_below' hg4 (by have := hB3.size; omega) (fun y hy => by rw [hy]; exact Nat.le_refl _))
        have HN : Hid (∀ vs, cnfHas x vs = false) := Lib.hid fun vs => by
          by_cases hvl : vs.length = M
          · have h1 := bval_lt vs
            have h2 := last_val hlast
            rw [HCL.out] at h2
            rw [hvl] at h1
            rcases Nat.lt_or_ge (bval vs 0) (bval cur 0) with h8 | h8
            · exact (HLOW.out vs h8).resolve_right (fun h => h hvl)
            · rw [bval_inj (cs := vs) (bs := cur) (by rw [hvl, HCL.out]) (by omega)]
              exact HHAS.out
          · unfold cnfHas
            rw [decide_eq_false (by rw [HMM.out]; omega)]; simp
        have HB4 := Lib.hid (bthen HBB.out hB4)
        clear hg4 hlast hB4
        go_wp2
        go_ret2
        exact ⟨HB4.out, .inr ⟨rfl, fun _ => HN.out⟩⟩
    · rw [hall] at HHAS
      clear hall
      rintro e w3 ⟨rfl, hb3⟩
      have HB3 := Lib.hid (bthen HBB.out (HBR.out.trans (hb3.mono HBR.out.size)))
      clear hb3
      go_wp2
      go_ret2
      exact ⟨HB3.out, .inl ⟨some ⟨w1.heap.size, 0, none⟩, cur, M, by rw [HCL.out]; rfl, HHAS.out⟩⟩
end Go.Proofs.Ytndolbplkjhooaa
