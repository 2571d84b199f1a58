/- The reference's check of what is put: l5Marks; UnitAll. -/
import Derived.Test.YtndolbplkjhooaaCnf5
namespace Go.Proofs.Ytndolbplkjhooaa
open Go Go.RowKit

/-- The row says which variables are put. -/
def SeenOk (M : Nat) (put : List Int) (sn : List Bool) : Prop := sn.length = M + 1 ∧ ∀ v : Nat, 1 ≤ v → v ≤ M → sn[v]? = some (decide (∃ l ∈ put, l.natAbs = v))
theorem SeenOk.snoc {M : Nat} {put : List Int} {sn : List Bool} (h : SeenOk M put sn) (l : Int) (h1 : l.natAbs ≤ M) : SeenOk M (put ++ [l]) (sn.set l.natAbs true) := by
  refine ⟨by rw [List.length_set]; exact h.1, fun v hv1 hv2 => ?_⟩
  by_cases e : l.natAbs = v
  · rw [← e, List.getElem?_set_self (by rw [h.1]; omega), decide_eq_true ⟨l, by simp, rfl⟩]
  · rw [List.getElem?_set_ne e, h.2 v hv1 hv2]
    congr 1
    rw [Bool.eq_iff_iff, decide_eq_true_eq, decide_eq_true_eq]
    constructor
    · rintro ⟨x, hx, he⟩; exact ⟨x, List.mem_append_left _ hx, he⟩
    · rintro ⟨x, hx, he⟩
      rcases List.mem_append.1 hx with hx | hx
      · exact ⟨x, hx, he⟩
      · rw [List.mem_singleton.1 hx] at he; exact absurd he e
theorem SeenOk.is {M : Nat} {put : List Int} {sn : List Bool} (h : SeenOk M put sn) {l : Int} (h0 : l ≠ 0) (h1 : l.natAbs ≤ M) : sn[l.natAbs]? = some (decide (l ∈ put ∨ -l ∈ put)) := by
  rw [h.2 _ (by omega) h1]
  congr 1
  rw [Bool.eq_iff_iff, decide_eq_true_eq, decide_eq_true_eq]
  constructor
  · rintro ⟨x, hx, he⟩
    have : x = l ∨ x = -l := by omega
    rcases this with e | e
    · exact .inl (e ▸ hx)
    · exact .inr (e ▸ hx)
  · rintro (hx | hx)
    · exact ⟨_, hx, rfl⟩
    · exact ⟨_, hx, by omega⟩


def RetM (M : Nat) (put : List Int) (w : World) (e : Ending) (w' : World) : Prop := ∃ b, e = .returned (.bool b) ∧ (b = true ↔ Good M put) ∧ Below w.heap.size w w'
set_option maxRecDepth 100000 in
set_option maxHeartbeats 2000000 in
theorem l5Marks_any (A B : Option Addr) (p q M : Nat) (x : C) (put : List Int) (G : Nat → Prop) (w : World) (hM : x.many = (M : Int)) (hM2 : M ≤ 1000000) (h : Lay.int.Sl w G B put) (hG : ∀ b, G b → b < w.heap.size) (hn : put.length ≤ 1048576) (hi : ∀ l ∈ put, -9223372036854775808 ≤ l ∧ l ≤ 9223372036854775807) :
    Calls Try.prog 51 #[.agg #[.int .i64 x.many, .slice A x.list.length p], .slice B put.length q] w (RetM M put w) := by
  obtain ⟨i0, hi0, hz0, hz1, hz2⟩ := info_parts bool_info
  have hw : Below w.heap.size w (w.alloc (.cells #[.int .i64 x.many, .slice A x.list.length p] 28)) := (Below.refl _ _).alloc (Nat.le_refl _) _
  have K := h.below hw hG
  have hGW : ∀ b, G b → b < (w.alloc (.cells #[.int .i64 x.many, .slice A x.list.length p] 28)).heap.size := fun b h9 => Nat.lt_of_lt_of_le (hG b h9) hw.size
  rw [hM] at *
  have v0 : (w.alloc (.cells #[.int .i64 (M : Int), .slice A x.list.length p] 28)).cell? ⟨w.heap.size, 0, none⟩ = some (.int .i64 M) := by simp [go_sem]
  go_enter Try.func51, Try.ntmps51
  go_wp2_with (at_make; refine wpList_make_full _ rfl _ _ 51 rfl (w.alloc (.cells #[.int .i64 (M : Int), .slice A x.list.length p] 28)).heap.size 4 i0 _ 1 Try.underlying51 hi0 hz0 hz1 .i64 .i64 _ _ (M + 1) rfl rfl (by push_cast; rfl) (by push_cast; rfl) (by rw [hz2]; omega) (by unfold maxLen; omega) (Nat.le_refl _) ?_; intro w1 hown hg1)
  have H1 := Lib.hid hg1
  clear hg1 hi0 hz0 hz1 hz2
  have hWS : (w.alloc (.cells #[.int .i64 (M : Int), .slice A x.list.length p] 28)).heap.size = w.heap.size + 1 := by simp
  generalize w.alloc (.cells #[.int .i64 (M : Int), .slice A x.list.length p] 28) = W at *
  have hb1 : Below W.heap.size W w1 := (Below.refl _ _).grown H1.out (Nat.le_refl _) (by simp)
  rw [show (madeCells (Value.bool false).cells ((M + 1) * 1)).toList = (List.replicate (M + 1) false).map Value.bool from by
    rw [show (Value.bool false).cells = #[Value.bool false] from rfl, toList_madeCells_one]; simp] at hown
  rw [hWS] at hown
  have hWle : W.heap.size ≤ w.heap.size + 1 := by omega
  have HWS := Lib.hid hWS
  clear hWS
  have HWW := Lib.hid hw
  have HI := Lib.hid hi
  have HK := Lib.hid K
  have HGW := Lib.hid hGW
  have HWL := Lib.hid hWle
  clear hw hi K hGW hG h
  go_loopw [6] (fun i wr => ∃ (k : Nat) (sn : List Bool), k ≤ put.length ∧ i = .int .i64 k ∧ Below W.heap.size W wr ∧ wr.ownsRow (w.heap.size + 1) 4 1 (.slice (some ⟨w.heap.size + 1, 0, none⟩) (M + 1) (M + 1)) (M + 1) (sn.map Value.bool) ∧ SeenOk M (put.take k) sn ∧ Good M (put.take k))
    (fun i _ => put.length - (intOf i).toNat)
  case atStart => exact ⟨0, _, Nat.zero_le _, rfl, hb1, hown, ⟨by simp, fun v h1 h2 => by rw [List.getElem?_replicate, if_pos (by omega)]; simp⟩, by simpa using Good.nil M⟩
  case round =>
    obtain ⟨k, sn, hk, rfl, hb, ho, hsn, hgk⟩ := hrel
    have v1 := (hb.cell (World.block_lt_of_cell? W _ v0)).trans v0
    have HV := Lib.hid hsn
    have HG := Lib.hid hgk
    clear hsn hgk
    have HO := Lib.hid ho
    have HB := Lib.hid hb
    clear ho hb
    by_cases hlt : k < put.length
    · obtain ⟨ad, rfl, hf, hc⟩ := (HK.out.below HB.out HGW.out).at_int hlt
      have hk1 : (k : Int) < put.length := by omega
      have hmem : put[k] ∈ put := List.getElem_mem hlt
      obtain ⟨i1, i2⟩ := HI.out _ hmem
      have htk : put.take (k + 1) = put.take k ++ [put[k]] := List.take_succ_eq_append_getElem hlt
      have hrng : Good M put → put[k] ≠ 0 ∧ -(M : Int) ≤ put[k] ∧ put[k] ≤ M := fun hg => hg.rng _ hmem
      have hat : Good M put → ¬ (put[k] ∈ put.take k ∨ -put[k] ∈ put.take k) := fun hg => fun h9 => h9.elim (hg.at hlt).1 (hg.at hlt).2
      generalize put[k] = a at *
      have HTK := Lib.hid htk
      have HR := Lib.hid hrng
      have HAT := Lib.hid hat
      clear htk hrng hat hmem
      by_cases h0 : a = 0
      · have HN := Lib.hid (show ¬ Good M put from fun hg => by have := HR.out hg; omega)
        clear i1 i2 hf
        subst h0
        go_wp2
        go_quiet (fail)
        go_wp2
        go_ret
        exact ⟨false, rfl, by simp [HN.out], below_drewN (bthen HWW.out HB.out) _⟩
      have d0 : (a == 0) = false := by simpa using h0
      by_cases h1 : a < -(M : Int)
      · have HN := Lib.hid (show ¬ Good M put from fun hg => by have := HR.out hg; omega)
        have d1 : decide (a < -(M : Int)) = true := by simpa using h1
        have e1 : IntKind.i64.wrap (-(M : Int)) = -(M : Int) := IntWalk.i64_in _ (by omega)
        clear i1 i2 hf h0 h1
        go_wp2
        go_quiet (fail)
        go_wp2
        go_ret
        exact ⟨false, rfl, by simp [HN.out], below_drewN (bthen HWW.out HB.out) _⟩
      have d1 : decide (a < -(M : Int)) = false := by simpa using h1
      by_cases h2 : (M : Int) < a
      · have HN := Lib.hid (show ¬ Good M put from fun hg => by have := HR.out hg; omega)
        have d2 : decide ((M : Int) < a) = true := by simpa using h2
        have e1 : IntKind.i64.wrap (-(M : Int)) = -(M : Int) := IntWalk.i64_in _ (by omega)
        clear i1 i2 hf h0 h1 h2
        go_wp2
        go_quiet (fail)
        go_wp2
        go_ret
        exact ⟨false, rfl, by simp [HN.out], below_drewN (bthen HWW.out HB.out) _⟩
      have d2 : decide ((M : Int) < a) = false := by simpa using h2
      have hl1 : a.natAbs ≤ M := by omega
      have z2 : wr.cell? ⟨w.heap.size + 1, a.natAbs, none⟩ = some (.bool (decide (a ∈ put.take k ∨ -a ∈ put.take k))) := by
        have := HO.out.cellAt a.natAbs (by omega)
        rw [this, List.getElem?_map, HV.out.is h0 hl1]; rfl
      obtain ⟨na, hna⟩ : ∃ na : Int, na = a.natAbs := ⟨_, rfl⟩
      have qa : ∀ W : World, Calls Try.prog 64 #[.int .i64 a] W fun e w' => e = .returned (.int .i64 na) ∧ W = w' := fun W => by rw [hna]; exact l4Abs_any a W (by omega) (by omega)
      have Qa := Lib.hid qa
      have hn0 : 0 ≤ na := by omega
      have hn1 : na < (M : Int) + 1 := by omega
      have hn2 : na < ((M + 1 : Nat) : Int) := by omega
      have hn3 : na.toNat = a.natAbs := by omega
      rw [← hn3] at z2
      have e1 : IntKind.i64.wrap (-(M : Int)) = -(M : Int) := IntWalk.i64_in _ (by omega)
      by_cases hs : a ∈ put.take k ∨ -a ∈ put.take k
      · have HN := Lib.hid (show ¬ Good M put from fun hg => HAT.out hg hs)
        rw [decide_eq_true hs] at z2
        clear hs qa hna hn3 h0 h1 h2 i1 i2 hf hl1
        go_wp2
        go_quiet ((go_at_call 64; with_reducible exact quiet_left (Qa.out _)))
        go_wp2
        go_ret
        exact ⟨false, rfl, by simp [HN.out], below_drewN (bthen HWW.out HB.out) _⟩
      · rw [decide_eq_false hs] at z2
        have HGN : Hid (Good M (put.take (k + 1))) := Lib.hid (by rw [HTK.out]; exact HG.out.snoc h0 (by omega) (by omega) (fun h9 => hs (.inl h9)) (fun h9 => hs (.inr h9)))
        have HSN : Hid (SeenOk M (put.take (k + 1)) (sn.set na.toNat true)) := Lib.hid (by rw [HTK.out, hn3]; exact HV.out.snoc a hl1)
        clear hs qa hna hn3 h0 h1 h2 i1 i2 hf hl1
        go_wp2
        go_quiet ((go_at_call 64; with_reducible exact quiet_left (Qa.out _)))
        have z3 : (wr.drewN nq).frozen? ⟨w.heap.size + 1, na.toNat, none⟩ = false := HO.out.frozenAt na.toNat
        have z4 : (wr.drewN nq).cell? ⟨w.heap.size + 1, na.toNat, none⟩ = some (.bool false) := z2
        have hc2 : (wr.drewN nq).cell? (ad.add k) = some (.int .i64 a) := hc
        have HO2 : Hid ((wr.drewN nq).ownsRow (w.heap.size + 1) 4 1 (.slice (some ⟨w.heap.size + 1, 0, none⟩) (M + 1) (M + 1)) (M + 1) (sn.map Value.bool)) := Lib.hid (own_below HO.out (below_drewN (Below.refl _ _) nq) (Nat.le_refl _))
        have HB2 := Lib.hid (below_drewN HB.out nq)
        clear e1 d0 d1 d2 z2 hc
        generalize wr.drewN nq = wq at *
        go_wp2_with fail
        refine (Qa.out _).mono ?_
        rintro e w' ⟨rfl, rfl⟩
        go_wp2
        go_roundw
        case rel => exact ⟨k + 1, _, by omega, by go_num, HB2.out.setCell HWL.out _, by rw [List.map_set]; exact (HO2.out.stored _ _).1, HSN.out, HGN.out⟩
        case measure => simp [intOf]; omega
    · have hke : k = put.length := by omega
      subst hke
      have hg := HG.out
      rw [List.take_length] at hg
      have HG2 := Lib.hid hg
      clear hg
      go_wp2
      go_ret
      exact ⟨true, rfl, by simp [HG2.out], bthen HWW.out HB.out⟩

end Go.Proofs.Ytndolbplkjhooaa
