/- Contracts of the reference's unit propagation: l5Vals, l5Units, l5Rup, RupOk. Contracts of the reference's l5Rup and RupOk. What growing and setting leave. No program is named here. The program's trail: what lies in memory; what is asked of it. The program's trail: next, push. -/
import Derived.Test.YtbljfhmcebgdaaaJFnProof0
import Derived.Test.YtbljfhmcebgdaaaJFnProof1
import Derived.Test.YtbljfhmcebgdaaaJFnProof2
/-! Contracts of the reference's unit propagation: l5Vals, l5Units, l5Rup, RupOk. -/
namespace Go.Proofs.Ytbljfhmcebgdaaa
open Go Go.RowKit

theorem sg_snoc {put : List Int} {l v : Int} (h1 : l ∉ put) (h2 : -l ∉ put) (hv : 0 < v) : sg (put ++ [l]) v = if v = l then 1 else if v = -l then -1 else sg put v := by
  unfold sg
  by_cases e1 : v = l
  · subst e1; simp
  by_cases e2 : v = -l
  · subst e2
    have h3 : - -l = l := by omega
    simp [e1, h2, h3]
  · have e3 : -v ≠ l := fun e => e2 (by omega)
    simp [e1, e2, e3]
theorem Good.at {many : Int} {put : List Int} (h : Good many put) {k : Nat} (hk : k < put.length) : put[k] ∉ put.take k ∧ -put[k] ∉ put.take k := by
  have hp := List.pairwise_iff_getElem.1 h.nodup
  refine ⟨fun hm => ?_, fun hm => ?_⟩
  all_goals
    obtain ⟨i, hi, e⟩ := List.getElem_of_mem hm
    have hik : i < k := by simp at hi; omega
    rw [List.getElem_take] at e
    exact hp i k (by simp <;> omega) (by simpa using hk) hik (by simp only [List.getElem_map, e] <;> omega)

theorem ret_slice {A : Option Addr} {n m c : Nat} (h : n = m) : Ending.returned (.slice A n c) = .returned (.slice A m c) := by rw [h]
def RetV (M : Nat) (put : List Int) (w : World) (e : Ending) (w' : World) : Prop :=
  ∃ A c vs, e = .returned (.slice A vs.length c) ∧ Vals M put vs ∧ Lay.int.Rd w' A vs ∧ Below w.heap.size w w'
set_option maxHeartbeats 1000000 in
theorem l5Vals_any (A B : Option Addr) (p q M : Nat) (x : C) (put : List Int) (G : Nat → Prop) (w : World) (hM : x.many = (M : Int)) (hM2 : M ≤ 1000000) (h : Lay.int.Sl w G B put) (hG : ∀ b, G b → b < w.heap.size) (hg : Good M put) (hn : put.length ≤ 1048576) :
    Calls Try.prog 53 #[.agg #[.int .i64 x.many, .slice A x.list.length p], .slice B put.length q] w (RetV M put w) := by
  obtain ⟨i0, hi0, hz0, hz1, hz2⟩ := info_parts int_info
  have hw : Below w.heap.size w (w.alloc (.cells #[.int .i64 x.many, .slice A x.list.length p] 25)) := (Below.refl _ _).alloc (Nat.le_refl _) _
  have K := h.below hw hG
  have hGW : ∀ b, G b → b < (w.alloc (.cells #[.int .i64 x.many, .slice A x.list.length p] 25)).heap.size := fun b h9 => Nat.lt_of_lt_of_le (hG b h9) hw.size
  rw [hM] at *
  go_enter Try.func53, Try.ntmps53
  go_wp2_with (at_make; refine wpList_make_full _ rfl _ _ 26 rfl (w.alloc (.cells #[.int .i64 (M : Int), .slice A x.list.length p] 25)).heap.size 3 i0 _ 1 Try.underlying26 hi0 hz0 hz1 .i64 .i64 _ _ (M + 1) rfl rfl (by push_cast; rfl) (by push_cast; rfl) (by rw [hz2]; omega) (by unfold maxLen; omega) (Nat.le_refl _) ?_; intro w1 hown hg1)
  have H1 := Lib.hid hg1
  clear hg1 hi0 hz0 hz1 hz2
  have hWS : (w.alloc (.cells #[.int .i64 (M : Int), .slice A x.list.length p] 25)).heap.size = w.heap.size + 1 := by simp
  generalize w.alloc (.cells #[.int .i64 (M : Int), .slice A x.list.length p] 25) = W at *
  have hb1 : Below W.heap.size W w1 := (Below.refl _ _).grown H1.out (Nat.le_refl _) (by simp)
  rw [show (madeCells (Value.int .i64 0).cells ((M + 1) * 1)).toList = (List.replicate (M + 1) (0 : Int)).map (Value.int .i64) from by
    rw [show (Value.int .i64 0).cells = #[Value.int .i64 0] from rfl, toList_madeCells_one]; simp] at hown
  rw [hWS] at hown
  have hWle : W.heap.size ≤ w.heap.size + 1 := by omega
  have HWS := Lib.hid hWS
  clear hWS
  go_loopw [6] (fun i wr => ∃ (k : Nat) (vs : List Int), k ≤ put.length ∧ i = .int .i64 k ∧ Below W.heap.size W wr ∧ wr.ownsRow (w.heap.size + 1) 3 1 (.slice (some ⟨w.heap.size + 1, 0, none⟩) (M + 1) (M + 1)) (M + 1) (vs.map (Value.int .i64)) ∧ Vals M (put.take k) vs)
    (fun i _ => put.length - (intOf i).toNat)
  case atStart => exact ⟨0, _, Nat.zero_le _, rfl, hb1, hown, by simp, fun v h1 h2 => by rw [List.getElem?_replicate, if_pos (by omega)]; rfl⟩
  case round =>
    obtain ⟨k, vs, hk, rfl, hb, ho, hvs⟩ := hrel
    have HV := Lib.hid hvs
    clear hvs
    by_cases hlt : k < put.length
    · obtain ⟨ad, rfl, hf, hc⟩ := (K.below hb hGW).at_int hlt
      have hk1 : (k : Int) < put.length := by omega
      obtain ⟨hr0, hr1, hr2⟩ := hg.rng _ (List.getElem_mem hlt)
      obtain ⟨hm1, hm2⟩ := hg.at hlt
      have htk : put.take (k + 1) = put.take k ++ [put[k]] := List.take_succ_eq_append_getElem hlt
      have hsn : ∀ v : Int, 0 < v → sg (put.take (k + 1)) v = if v = put[k] then 1 else if v = -put[k] then -1 else sg (put.take k) v := fun v hv => by rw [htk]; exact sg_snoc hm1 hm2 hv
      have HSN := Lib.hid hsn
      clear hsn htk hm1 hm2
      generalize put[k] = l at *
      have hlen : vs.length = M + 1 := HV.out.1
      by_cases hp : 0 < l
      · have hi : l.toNat < M + 1 := by omega
        have hi0 : (0 : Int) ≤ l := by omega
        have hi1 : l < ((M + 1 : Nat) : Int) := by omega
        have hi2 : l < (M : Int) + 1 := by omega
        have hst := ho.stored l.toNat (.int .i64 1)
        have hold : wr.cell? ⟨w.heap.size + 1, l.toNat, none⟩ = _ := ho.cellAt l.toNat (by omega)
        rw [List.getElem?_map, List.getElem?_eq_getElem (by omega), Option.map_some] at hold
        have hfr : wr.frozen? ⟨w.heap.size + 1, l.toNat, none⟩ = false := ho.frozenAt l.toNat
        have HVN : Hid (Vals M (put.take (k + 1)) (vs.set l.toNat 1)) := Lib.hid ⟨by simp [hlen], fun v h1 h2 => by
          rw [HSN.out v (by omega), List.getElem?_set]
          by_cases e : l.toNat = v
          · rw [if_pos e, if_pos (by omega), if_pos (by omega)]
          · rw [if_neg e, HV.out.2 v h1 h2, if_neg (by omega), if_neg (by omega)]⟩
        have HST := Lib.hid hst.1
        clear hst
        go_wp2
        go_roundw
        case rel => exact ⟨k + 1, _, by omega, by go_num, hb.setCell hWle _, by rw [List.map_set]; exact HST.out, HVN.out⟩
        case measure => simp [intOf]; omega
      · have hi : (-l).toNat < M + 1 := by omega
        have hi0 : (0 : Int) ≤ -l := by omega
        have hi1 : -l < ((M + 1 : Nat) : Int) := by omega
        have hi2 : -l < (M : Int) + 1 := by omega
        have hst := ho.stored (-l).toNat (.int .i64 (-1))
        have hold : wr.cell? ⟨w.heap.size + 1, (-l).toNat, none⟩ = _ := ho.cellAt (-l).toNat (by omega)
        rw [List.getElem?_map, List.getElem?_eq_getElem (by omega), Option.map_some] at hold
        have hfr : wr.frozen? ⟨w.heap.size + 1, (-l).toNat, none⟩ = false := ho.frozenAt (-l).toNat
        have HVN : Hid (Vals M (put.take (k + 1)) (vs.set (-l).toNat (-1))) := Lib.hid ⟨by simp [hlen], fun v h1 h2 => by
          rw [HSN.out v (by omega), List.getElem?_set]
          by_cases e : (-l).toNat = v
          · rw [if_pos e, if_pos (by omega), if_neg (by omega), if_pos (by omega)]
          · rw [if_neg e, HV.out.2 v h1 h2, if_neg (by omega), if_neg (by omega)]⟩
        have HST := Lib.hid hst.1
        clear hst
        go_wp2
        go_roundw
        case rel => exact ⟨k + 1, _, by omega, by go_num, hb.setCell hWle _, by rw [List.map_set]; exact HST.out, HVN.out⟩
        case measure => simp [intOf]; omega
    · have hke : k = put.length := by omega
      subst hke
      have hlen : vs.length = M + 1 := HV.out.1
      have hvs := HV.out
      rw [List.take_length] at hvs
      have HV2 := Lib.hid hvs
      have hrd : Lay.int.Rd wr (some ⟨w.heap.size + 1, 0, none⟩) vs := (sl_ints_of_own (F := fun b => b < wr.heap.size) ho (fun g _ h9 => h9)).1
      have HL := Lib.hid hlen
      clear hlen hvs
      go_wp2
      go_ret
      exact ⟨some ⟨w.heap.size + 1, 0, none⟩, M + 1, vs, ret_slice (by rw [HL.out]), HV2.out, hrd, bthen hw hb⟩

def ValsAt (M : Nat) (put : List Int) (v : Value) (x : World) : Prop := ∃ (A : Option Addr) (c : Nat) (vs : List Int), v = .slice A vs.length c ∧ Vals M put vs ∧ Lay.int.Rd x A vs
theorem ValsAt.up {M : Nat} {put : List Int} {v : Value} {x x' : World} (h : ValsAt M put v x) (hb : Below x.heap.size x x') : ValsAt M put v x' := by
  obtain ⟨A, c, vs, h1, h2, h3⟩ := h
  exact ⟨A, c, vs, h1, h2, h3.up hb⟩
def Fact.vals (M : Nat) (put : List Int) : Fact := .of (ValsAt M put) fun _ _ _ h hb => h.up hb
def Fact.lit9 : Fact := .of (fun v _ => ∃ b, v = .slice (some ⟨b, 0, none⟩) 0 0) fun _ _ _ h _ => h
def Fact.val9 (W : World) (u : Value) : Fact := .of (fun v x => v = u ∧ Below W.heap.size W x) fun _ _ _ ⟨h1, h2⟩ hb => ⟨h1, bthen h2 hb⟩
def lenOf : Value → Nat
  | .slice _ n _ => n
  | _ => 0
def RetU (w : World) (r : List Int × Bool) (e : Ending) (w' : World) : Prop :=
  ∃ A c, e = .returned (.tuple #[.slice A r.1.length c, .bool r.2]) ∧ OwnI w' w.heap.size (.slice A r.1.length c) r.1 ∧ Below w.heap.size w w'
theorem fdS_conf {put : List Int} {cs : List (List Int)} : (0 ≤ (fdS put cs).1 ↔ 0 ≤ (fd put cs 0 (-1) 0).1) ∧ (¬ 0 ≤ (fd put cs 0 (-1) 0).1 → fdS put cs = fd put cs 0 (-1) 0) := by
  unfold fdS
  split
  · exact ⟨by simp_all, fun h => absurd (by assumption) h⟩
  · exact ⟨Iff.rfl, fun _ => rfl⟩

set_option maxRecDepth 100000 in
set_option maxHeartbeats 8000000 in
theorem l5Units_any (A B : Option Addr) (p q M : Nat) (x : C) (put : List Int) (F G : Nat → Prop) (w : World) (hM : x.many = (M : Int)) (hM2 : M ≤ 700) (h : Lay.int.slice.Sl w F A x.list) (hF : ∀ b, F b → b < w.heap.size)
    (hp : Lay.int.Sl w G B put) (hG : ∀ b, G b → b < w.heap.size) (hB : B = none → put.length = 0) (hg : Good M put) (hr : ∀ cl ∈ x.list, (∀ l ∈ cl, l ≠ 0 ∧ -(M : Int) ≤ l ∧ l ≤ M) ∧ cl.length ≤ 1048576) (hn : x.list.length ≤ 1048576) :
    Calls Try.prog 82 #[.agg #[.int .i64 x.many, .slice A x.list.length p], .slice B put.length q] w (RetU w (units M x.list put)) := by
  obtain ⟨i0, hi0, hz0, hz1, hz2⟩ := info_parts int_info
  have HMM := Lib.hid hM
  clear hM
  have hpl := hg.length
  have hpn : put.length ≤ 1048576 := by omega
  have hw : Below w.heap.size w (w.alloc (.cells #[.int .i64 x.many, .slice A x.list.length p] 25)) := (Below.refl _ _).alloc (Nat.le_refl _) _
  have K := h.below hw hF
  have KP := hp.below hw hG
  have hFW : ∀ b, F b → b < (w.alloc (.cells #[.int .i64 x.many, .slice A x.list.length p] 25)).heap.size := fun b h9 => Nat.lt_of_lt_of_le (hF b h9) hw.size
  have hGW : ∀ b, G b → b < (w.alloc (.cells #[.int .i64 x.many, .slice A x.list.length p] 25)).heap.size := fun b h9 => Nat.lt_of_lt_of_le (hG b h9) hw.size
  have v0 : (w.alloc (.cells #[.int .i64 x.many, .slice A x.list.length p] 25)).cell? ⟨w.heap.size, 0, none⟩ = some (.int .i64 x.many) := by simp [go_sem]
  have v1 : (w.alloc (.cells #[.int .i64 x.many, .slice A x.list.length p] 25)).cell? ⟨w.heap.size, 1, none⟩ = some (.slice A x.list.length p) := by simp [go_sem]
  have hlo : w.heap.size ≤ (w.alloc (.cells #[.int .i64 x.many, .slice A x.list.length p] 25)).heap.size := hw.size
  have hsrc := src_ints (Lay.Sl.below KP ((Below.refl _ _).alloc (Nat.le_refl _) (.cells #[] 3)) hGW)
  go_enter Try.func82, Try.ntmps82
  go_wp2_with (at_builtin; refine wpList_append_src _ (by rfl) (.tmp 10) (.tmp 11) _ (by rfl) (w.heap.size + 1) 3 i0 _ 1 8 Try.underlying26 hi0 hz0 hz1 hz2 (by rfl) (by omega) (.slice (some ⟨w.heap.size + 1, 0, none⟩) 0 0) 0 [] (by rfl) (own_lit0 (by simp)) B put.length q (put.map (Value.int .i64)) (by rfl) hsrc (ints_one _) put.length (by omega) (by unfold maxLen; omega) (by omega) (by simp) hB ?_; intro A1 c1 w1 hown1 hb1 _)
  clear hsrc
  have hWS : (w.alloc (.cells #[.int .i64 x.many, .slice A x.list.length p] 25)).heap.size = w.heap.size + 1 := by simp
  rw [← hWS] at hown1 hb1
  have hb1 : Below (w.alloc (.cells #[.int .i64 x.many, .slice A x.list.length p] 25)).heap.size (w.alloc (.cells #[.int .i64 x.many, .slice A x.list.length p] 25)) w1 := ((Below.refl _ _).alloc (Nat.le_refl _) _).trans hb1
  generalize w.alloc (.cells #[.int .i64 x.many, .slice A x.list.length p] 25) = W at *
  clear hWS
  have hown1 : OwnI w1 W.heap.size (.slice A1 put.length c1) put := by unfold OwnI; simpa using hown1
  have hSW : w.heap.size < W.heap.size := World.block_lt_of_cell? W _ v0
  clear h hp
  go_loopw [6] (fun s wr => ∃ (cur : List Int) (A2 : Option Addr) (c2 : Nat), s = .slice A2 cur.length c2 ∧ OwnI wr W.heap.size (.slice A2 cur.length c2) cur ∧ Good M cur ∧ units M x.list put = units M x.list cur ∧ Below W.heap.size W wr) (fun s _ => M - lenOf s)
  case atStart => exact ⟨put, A1, c1, rfl, hown1, hg, rfl, hb1⟩
  case round =>
    obtain ⟨cur, A2, c2, rfl, hown, hgc, hun, hb⟩ := hrel
    have HU := Lib.hid hun
    have hcl := hgc.length
    have d0 := Later.cell ((hb.cell (World.block_lt_of_cell? W _ v0)).trans v0)
    have d1 := Later.cell ((hb.cell (World.block_lt_of_cell? W _ v1)).trans v1)
    have hstep := units_step (many := (M : Int)) (cs := x.list) hcl
    obtain ⟨hcf1, hcf2⟩ := fdS_conf (put := cur) (cs := x.list)
    generalize hR : fdS cur x.list = R at *
    have HR := Lib.hid hR
    have HF1 := Lib.hid hcf1
    have HF2 := Lib.hid hcf2
    have HST := Lib.hid hstep
    clear hun hR hcf1 hcf2 hstep
    go_wp2

    refine wp_region_shares [[], [], [], [], [(2, 16), (3, 17)], [(0, 14), (1, 15), (4, 18)], [(5, 19)], [(6, 13)], [(6, 13)], [(6, 13)], [(7, 20)], [(8, 21)], [(9, 22)]]
      [.eq (.agg #[.int .i64 x.many, .slice A x.list.length p]), Fact.lit9, .eq (.agg #[.int .i64 x.many, .slice A x.list.length p]), .eq (.slice A2 cur.length c2), Fact.vals M cur, Fact.val9 wr (.tuple #[.int .i64 R.1, .int .i64 R.2.1, .int .i64 R.2.2]), Fact.val9 wr (.tuple #[.int .i64 R.1, .int .i64 R.2.1, .int .i64 R.2.2]), Fact.val9 wr (.int .i64 R.1), Fact.val9 wr (.int .i64 R.2.1), Fact.val9 wr (.int .i64 R.2.2), Fact.val9 wr (.int .i64 R.1), Fact.val9 wr (.int .i64 R.2.1), Fact.val9 wr (.int .i64 R.2.2)]
      [] [] [] [7, 8, 9, 10, 11, 12] [(0, 14), (1, 15), (2, 16), (3, 17), (4, 18), (5, 19), (6, 13), (7, 20), (8, 21), (9, 22), (10, 7), (11, 8), (12, 9)] (by kernel_rfl) (by kernel_rfl) (by kernel_rfl) (by kernel_rfl)
      ⟨?_, ?_, ?_, ?_, ?_, ?_, ?_, ?_, ?_, ?_, ?_, ?_, ?_, trivial⟩ ?_
    · intro vals xw hC hF
      have hC := hC.resolve_left (by simp)
      have hsz := hC.size
      have e1 : xw.cell? _ = _ := d0 ⟨xw, hC⟩
      have e2 : xw.cell? _ = _ := d1 ⟨xw, hC⟩
      simp only [putsD, Act.put, List.setIfInBounds_toArray, List.set_cons_zero, List.set_cons_succ]
      go_wp2
      exact ⟨rfl, rfl, .inr (Below.refl _ _), .inr (.inl (by simp))⟩
    · intro vals xw hC hF
      have hC := hC.resolve_left (by simp)
      have hsz := hC.size
      simp only [putsD, Act.put, List.setIfInBounds_toArray, List.set_cons_zero, List.set_cons_succ]
      go_wp2
      exact ⟨rfl, ⟨_, rfl⟩, .inr ((Below.refl _ _).alloc (Nat.le_refl _) _), .inr (.inl (by simp))⟩
    · intro vals xw hC hF
      have hC := hC.resolve_left (by simp)
      have hsz := hC.size
      have e1 : xw.cell? _ = _ := d0 ⟨xw, hC⟩
      have e2 : xw.cell? _ = _ := d1 ⟨xw, hC⟩
      simp only [putsD, Act.put, List.setIfInBounds_toArray, List.set_cons_zero, List.set_cons_succ]
      go_wp2
      exact ⟨rfl, rfl, .inr (Below.refl _ _), .inr (.inl (by simp))⟩
    · intro vals xw hC hF
      simp only [putsD, Act.put, List.setIfInBounds_toArray, List.set_cons_zero, List.set_cons_succ]
      go_wp2
      exact ⟨rfl, rfl, .inr (Below.refl _ _), .inr (.inl (by simp))⟩
    · intro vals xw hC hF
      have hC := hC.resolve_left (by simp)
      have hsz := hC.size
      simp only [factsD, List.getD_cons_zero, List.getD_cons_succ, Fact.eq, Fact.row, Fact.lit, Fact.lit0, Fact.of, and_true, Fact.vals, Fact.lit9, Fact.val9] at hF
      simp only [putsD, Act.put, List.setIfInBounds_toArray, List.set_cons_zero, List.set_cons_succ]
      simp only [hF]
      go_wp2_with fail
      refine (l5Vals_any A A2 p c2 M x cur _ xw HMM.out (by omega) (OwnI.rd (hown.up hC)) (fun _ h9 => h9) hgc (by omega)).mono ?_
      rintro e wx ⟨A9, c9, vs9, rfl, hv9, hr9, hb9⟩
      go_wp2
      exact ⟨rfl, ⟨A9, c9, vs9, rfl, hv9, hr9⟩, .inr hb9, .inr (.inl (by simp))⟩
    · intro vals xw hC hF
      have hC := hC.resolve_left (by simp)
      have hsz := hC.size
      simp only [factsD, List.getD_cons_zero, List.getD_cons_succ, Fact.eq, Fact.row, Fact.lit, Fact.lit0, Fact.of, and_true, Fact.vals, Fact.lit9, Fact.val9] at hF
      obtain ⟨e14, ⟨b9, e15⟩, A9, c9, vs9, e18, hv9, hr9⟩ := hF
      simp only [putsD, Act.put, List.setIfInBounds_toArray, List.set_cons_zero, List.set_cons_succ]
      simp only [e14, e15, e18]
      go_wp2_with fail
      have hfind := l5Find_any A (some ⟨b9, 0, none⟩) A9 p 0 c9 x [] M cur vs9 _ _ _ xw (Lay.Sl.up (K.below hb hFW |>.mono (fun b h9 => Nat.lt_of_lt_of_le (hFW b h9) hb.size)) hC) (Lay.Sl.nil _ _ (fun b => b < xw.heap.size) _) hr9 (fun _ h9 => h9) (fun _ h9 => h9) (fun _ h9 => h9) hgc hv9 (by omega) (by simpa using hr) hn (by simp)
      rw [List.append_nil, HR.out] at hfind
      refine hfind.mono ?_
      rintro e wx ⟨rfl, hb9⟩
      go_wp2
      exact ⟨rfl, ⟨rfl, bthen hC hb9⟩, .inr hb9, .inr (.inl (by simp))⟩
    · intro vals xw hC hF
      have hC := hC.resolve_left (by simp)
      have hsz := hC.size
      simp only [factsD, List.getD_cons_zero, List.getD_cons_succ, Fact.eq, Fact.row, Fact.lit, Fact.lit0, Fact.of, and_true, Fact.vals, Fact.lit9, Fact.val9] at hF
      obtain ⟨e9, _⟩ := hF
      simp only [putsD, Act.put, List.setIfInBounds_toArray, List.set_cons_zero, List.set_cons_succ]
      simp only [e9]
      go_wp2
      exact ⟨rfl, ⟨rfl, hC⟩, .inr (Below.refl _ _), .inr (.inl (by simp))⟩
    · intro vals xw hC hF
      have hC := hC.resolve_left (by simp)
      have hsz := hC.size
      simp only [factsD, List.getD_cons_zero, List.getD_cons_succ, Fact.eq, Fact.row, Fact.lit, Fact.lit0, Fact.of, and_true, Fact.vals, Fact.lit9, Fact.val9] at hF
      obtain ⟨e9, _⟩ := hF
      simp only [putsD, Act.put, List.setIfInBounds_toArray, List.set_cons_zero, List.set_cons_succ]
      simp only [e9]
      go_wp2
      exact ⟨rfl, ⟨rfl, hC⟩, .inr (Below.refl _ _), .inr (.inl (by simp))⟩
    · intro vals xw hC hF
      have hC := hC.resolve_left (by simp)
      have hsz := hC.size
      simp only [factsD, List.getD_cons_zero, List.getD_cons_succ, Fact.eq, Fact.row, Fact.lit, Fact.lit0, Fact.of, and_true, Fact.vals, Fact.lit9, Fact.val9] at hF
      obtain ⟨e9, _⟩ := hF
      simp only [putsD, Act.put, List.setIfInBounds_toArray, List.set_cons_zero, List.set_cons_succ]
      simp only [e9]
      go_wp2
      exact ⟨rfl, ⟨rfl, hC⟩, .inr (Below.refl _ _), .inr (.inl (by simp))⟩
    · intro vals xw hC hF
      have hC := hC.resolve_left (by simp)
      have hsz := hC.size
      simp only [factsD, List.getD_cons_zero, List.getD_cons_succ, Fact.eq, Fact.row, Fact.lit, Fact.lit0, Fact.of, and_true, Fact.vals, Fact.lit9, Fact.val9] at hF
      obtain ⟨e9, _⟩ := hF
      simp only [putsD, Act.put, List.setIfInBounds_toArray, List.set_cons_zero, List.set_cons_succ]
      simp only [e9]
      go_wp2
      exact ⟨rfl, ⟨rfl, hC⟩, .inr (Below.refl _ _), .inr (.inl (by simp))⟩
    · intro vals xw hC hF
      have hC := hC.resolve_left (by simp)
      have hsz := hC.size
      simp only [factsD, List.getD_cons_zero, List.getD_cons_succ, Fact.eq, Fact.row, Fact.lit, Fact.lit0, Fact.of, and_true, Fact.vals, Fact.lit9, Fact.val9] at hF
      obtain ⟨e9, _⟩ := hF
      simp only [putsD, Act.put, List.setIfInBounds_toArray, List.set_cons_zero, List.set_cons_succ]
      simp only [e9]
      go_wp2
      exact ⟨rfl, ⟨rfl, hC⟩, .inr (Below.refl _ _), .inr (.inl (by simp))⟩
    · intro vals xw hC hF
      have hC := hC.resolve_left (by simp)
      have hsz := hC.size
      simp only [factsD, List.getD_cons_zero, List.getD_cons_succ, Fact.eq, Fact.row, Fact.lit, Fact.lit0, Fact.of, and_true, Fact.vals, Fact.lit9, Fact.val9] at hF
      obtain ⟨e9, _⟩ := hF
      simp only [putsD, Act.put, List.setIfInBounds_toArray, List.set_cons_zero, List.set_cons_succ]
      simp only [e9]
      go_wp2
      exact ⟨rfl, ⟨rfl, hC⟩, .inr (Below.refl _ _), .inr (.inl (by simp))⟩
    · intro vals xw hC hF
      have hC := hC.resolve_left (by simp)
      have hsz := hC.size
      simp only [factsD, List.getD_cons_zero, List.getD_cons_succ, Fact.eq, Fact.row, Fact.lit, Fact.lit0, Fact.of, and_true, Fact.vals, Fact.lit9, Fact.val9] at hF
      obtain ⟨e9, _⟩ := hF
      simp only [putsD, Act.put, List.setIfInBounds_toArray, List.set_cons_zero, List.set_cons_succ]
      simp only [e9]
      go_wp2
      exact ⟨rfl, ⟨rfl, hC⟩, .inr (Below.refl _ _), .inr (.inl (by simp))⟩
    · intro vals xw hF
      simp only [facts, List.getD_cons_zero, List.getD_cons_succ, Fact.eq, Fact.row, Fact.lit, Fact.lit0, Fact.of, and_true, Fact.vals, Fact.lit9, Fact.val9] at hF
      obtain ⟨⟨e20, _⟩, ⟨e21, _⟩, ⟨e22, _⟩, ⟨e7, _⟩, ⟨e8, _⟩, e9, hbx⟩ := hF
      simp only [putsD, Act.put, List.setIfInBounds_toArray, List.set_cons_zero, List.set_cons_succ]
      simp only [e7, e8, e9]
      clear e20 e21 e22 e7 e8 e9 d0 d1
      have hown := hown.up hbx
      have hb := bthen hb hbx
      by_cases hc0 : 0 ≤ R.1
      · have HE := Lib.hid (show units M x.list put = (cur, true) by rw [HU.out, HST.out, if_pos (HF1.out.1 hc0)])
        have HO := Lib.hid hown
        clear hown
        go_wp2
        go_ret2
        rw [HE.out]
        exact ⟨A2, c2, rfl, own_mono HO.out hlo, bthen hw hb⟩
      have hc0' : ¬ 0 ≤ (fd cur x.list 0 (-1) 0).1 := fun h9 => hc0 (HF1.out.2 h9)
      have hRf := HF2.out (by omega)
      by_cases hu0 : R.2.1 < 0
      · have HE := Lib.hid (show units M x.list put = (cur, false) by rw [HU.out, HST.out, if_neg hc0', ← hRf, if_pos hu0])
        have HO := Lib.hid hown
        clear hown hc0' hRf
        go_wp2
        go_ret2
        rw [HE.out]
        exact ⟨A2, c2, rfl, own_mono HO.out hlo, bthen hw hb⟩
      have HE := Lib.hid (show units M x.list put = units M x.list (cur ++ [R.2.2]) by rw [HU.out, HST.out, if_neg hc0', ← hRf, if_neg hu0])
      have hgn : Good M (cur ++ [R.2.2]) := by rw [hRf]; exact hgc.next (fun cl h9 => (hr cl h9).1) (by rw [← hRf]; omega)
      have HGN := Lib.hid hgn
      have hnl := hgn.length
      rw [List.length_append, List.length_cons, List.length_nil] at hnl
      have HO : Hid (xw.ownsRow W.heap.size 3 1 (.slice A2 cur.length c2) cur.length (cur.map (Value.int .i64))) := Lib.hid hown
      have hsz9 := hb.size
      clear hown hc0' hRf hgn
      have hlo9 : W.heap.size ≤ xw.heap.size := hsz9
      go_wp2_with (at_builtin; refine wpList_append1 rfl _ _ 26 rfl W.heap.size 3 i0 _ 8 Try.underlying26 hi0 hz0 hz1 hz2 rfl (.slice A2 cur.length c2) cur.length _ (.int .i64 R.2.2) _ rfl HO.out rfl rfl (by unfold maxLen; omega) (by omega) hlo9 ?_; intro v6 w6 hown6 hb6)
      have ho6 : OwnI w6 W.heap.size v6 (cur ++ [R.2.2]) := by unfold OwnI; simpa using hown6
      obtain ⟨A6, c6, rfl, _, _⟩ := ho6.form
      have HO6 := Lib.hid ho6
      clear hown6 ho6
      have hb6' : Below W.heap.size W w6 := hb.trans hb6
      go_wp2
      go_roundw
      case rel => exact ⟨cur ++ [R.2.2], A6, c6, rfl, HO6.out, HGN.out, HE.out, hb6'⟩
      case measure => simp [lenOf]; omega
end Go.Proofs.Ytbljfhmcebgdaaa

/-! Contracts of the reference's l5Rup and RupOk. -/
namespace Go.Proofs.Ytbljfhmcebgdaaa
open Go Go.RowKit

set_option maxRecDepth 100000 in
set_option maxHeartbeats 4000000 in
theorem l5Rup_any (A B : Option Addr) (p q M : Nat) (x : C) (cl : List Int) (F G : Nat → Prop) (w : World) (hM : x.many = (M : Int)) (hM2 : M ≤ 700) (h : Lay.int.slice.Sl w F A x.list) (hF : ∀ b, F b → b < w.heap.size)
    (hp : Lay.int.Sl w G B cl) (hG : ∀ b, G b → b < w.heap.size) (hg : Good M (cl.map fun l => -l)) (hcl : ∀ l ∈ cl, l ≠ 0 ∧ -(M : Int) ≤ l ∧ l ≤ M) (hr : ∀ cl ∈ x.list, (∀ l ∈ cl, l ≠ 0 ∧ -(M : Int) ≤ l ∧ l ≤ M) ∧ cl.length ≤ 1048576) (hn : x.list.length ≤ 1048576) (hcn : cl.length ≤ 1048576) :
    Calls Try.prog 46 #[.agg #[.int .i64 x.many, .slice A x.list.length p], .slice B cl.length q] w (RetB w (units M x.list (cl.map fun l => -l)).2) := by
  obtain ⟨i0, hi0, hz0, hz1, hz2⟩ := info_parts int_info
  have HMM := Lib.hid hM
  clear hM
  have hw : Below w.heap.size w (w.alloc (.cells #[.int .i64 x.many, .slice A x.list.length p] 25)) := (Below.refl _ _).alloc (Nat.le_refl _) _
  have K := h.below hw hF
  have KP := hp.below hw hG
  have hFW : ∀ b, F b → b < (w.alloc (.cells #[.int .i64 x.many, .slice A x.list.length p] 25)).heap.size := fun b h9 => Nat.lt_of_lt_of_le (hF b h9) hw.size
  have hGW : ∀ b, G b → b < (w.alloc (.cells #[.int .i64 x.many, .slice A x.list.length p] 25)).heap.size := fun b h9 => Nat.lt_of_lt_of_le (hG b h9) hw.size
  have v0 : (w.alloc (.cells #[.int .i64 x.many, .slice A x.list.length p] 25)).cell? ⟨w.heap.size, 0, none⟩ = some (.int .i64 x.many) := by simp [go_sem]
  have v1 : (w.alloc (.cells #[.int .i64 x.many, .slice A x.list.length p] 25)).cell? ⟨w.heap.size, 1, none⟩ = some (.slice A x.list.length p) := by simp [go_sem]
  have hb1 : Below (w.alloc (.cells #[.int .i64 x.many, .slice A x.list.length p] 25)).heap.size (w.alloc (.cells #[.int .i64 x.many, .slice A x.list.length p] 25)) ((w.alloc (.cells #[.int .i64 x.many, .slice A x.list.length p] 25)).alloc (.cells #[] 3)) := (Below.refl _ _).alloc (Nat.le_refl _) _
  have hown1 : ((w.alloc (.cells #[.int .i64 x.many, .slice A x.list.length p] 25)).alloc (.cells #[] 3)).ownsRow (w.heap.size + 1) 3 1 (.slice (some ⟨w.heap.size + 1, 0, none⟩) 0 0) 0 [] := own_lit0 (by simp)
  have hWS : (w.alloc (.cells #[.int .i64 x.many, .slice A x.list.length p] 25)).heap.size = w.heap.size + 1 := by simp
  go_enter Try.func46, Try.ntmps46
  go_wp2
  generalize (w.alloc (.cells #[.int .i64 x.many, .slice A x.list.length p] 25)).alloc (.cells #[] 3) = W1 at *
  generalize w.alloc (.cells #[.int .i64 x.many, .slice A x.list.length p] 25) = W at *
  have hSW : w.heap.size < W.heap.size := World.block_lt_of_cell? W _ v0
  have hWle : W.heap.size ≤ w.heap.size + 1 := by omega
  clear h hp hWS
  go_loopw [5, 6] (fun s i wr => ∃ (k : Nat) (A2 : Option Addr) (c2 : Nat), k ≤ cl.length ∧ i = .int .i64 k ∧ s = .slice A2 k c2 ∧ wr.ownsRow (w.heap.size + 1) 3 1 (.slice A2 k c2) k (((cl.map fun l => -l).take k).map (Value.int .i64)) ∧ Below W.heap.size W wr) (fun _ i _ => cl.length - (intOf i).toNat)
  case atStart => exact ⟨0, some ⟨w.heap.size + 1, 0, none⟩, 0, Nat.zero_le _, rfl, rfl, by simpa using hown1, hb1⟩
  case round =>
    obtain ⟨k, A2, c2, hk, rfl, rfl, ho, hb⟩ := hrel
    by_cases hlt : k < cl.length
    · obtain ⟨ad, rfl, hf, hc⟩ := (KP.below hb hGW).at_int hlt
      have hk1 : (k : Int) < cl.length := by omega
      obtain ⟨r0, r1, r2⟩ := hcl _ (List.getElem_mem hlt)
      have htk : (cl.map fun l => -l).take (k + 1) = (cl.map fun l => -l).take k ++ [-cl[k]] := by
        rw [List.take_succ_eq_append_getElem (by simpa using hlt)]; simp
      have HT := Lib.hid htk
      clear htk
      generalize cl[k] = a at *
      have hlo9 : w.heap.size + 1 ≤ wr.heap.size := Nat.le_trans hSW hb.size
      have HO := Lib.hid ho
      clear ho
      go_wp2_with (at_builtin; refine wpList_append1 rfl _ _ 26 rfl (w.heap.size + 1) 3 i0 _ 8 Try.underlying26 hi0 hz0 hz1 hz2 rfl (.slice A2 k c2) k _ (.int .i64 (-a)) _ rfl HO.out rfl rfl (by unfold maxLen; omega) (by omega) hlo9 ?_; intro v6 w6 hown6 hb6)
      have hb6' : Below W.heap.size W w6 := hb.trans (hb6.mono hWle)
      have hf6 : ∃ A6 c6, v6 = .slice A6 (k + 1) c6 := by
        rcases hown6.2 with ⟨_, h9⟩ | ⟨g, cap, cur, h9, _⟩
        · omega
        · exact ⟨_, cap, h9⟩
      obtain ⟨A6, c6, rfl⟩ := hf6
      have HO6 : Hid (w6.ownsRow (w.heap.size + 1) 3 1 (.slice A6 (k + 1) c6) (k + 1) (((cl.map fun l => -l).take (k + 1)).map (Value.int .i64))) := Lib.hid (by rw [HT.out, List.map_append]; exact hown6)
      clear hown6
      go_wp2
      go_roundw
      case rel => exact ⟨k + 1, A6, c6, by omega, by go_num, rfl, HO6.out, hb6'⟩
      case measure => simp [intOf]; omega
    · have hke : k = cl.length := by omega
      subst hke
      have hml : (cl.map fun l => -l).length = cl.length := by simp
      have ho2 : OwnI wr (w.heap.size + 1) (.slice A2 (cl.map fun l => -l).length c2) (cl.map fun l => -l) := by
        unfold OwnI; rw [← hml, List.take_length] at ho; exact ho
      have c0 := (hb.cell (World.block_lt_of_cell? W _ v0)).trans v0
      have c1 := (hb.cell (World.block_lt_of_cell? W _ v1)).trans v1
      have hun := l5Units_any A A2 p c2 M x (cl.map fun l => -l) _ _ wr HMM.out hM2 (K.below hb hFW) (fun b h9 => Nat.lt_of_lt_of_le (hFW b h9) hb.size) (OwnI.rd ho2) (fun _ h9 => h9) (by
        intro e; subst e
        rcases ho2.2 with ⟨e, _⟩ | ⟨g, cap, cur, e, _⟩
        · injection e
        · injection e with e; cases e) hg hr hn
      rw [hml] at hun
      generalize hRR : units M x.list (cl.map fun l => -l) = R at *
      have HRR := Lib.hid hRR
      clear hRR
      have HUN := Lib.hid hun
      clear hun ho ho2 hml
      go_wp2_with fail
      refine HUN.out.mono ?_
      rintro e wx ⟨A9, c9, rfl, _, hb9⟩
      go_wp2
      go_ret
      exact ⟨ret_bool (by rw [HRR.out]), bthen (bthen hw hb) hb9⟩

end Go.Proofs.Ytbljfhmcebgdaaa

/-! What growing and setting leave. No program is named here. -/
namespace Go.Proofs.Ytbljfhmcebgdaaa
open Go Go.RowKit

theorem grown_then {a w w' : World} {row : Option Nat} (h : Below a.heap.size a w) (h' : w.grownBy w' row) : a.grownBy w' row :=
  ⟨h'.os.trans h.os, h'.tape.trans h.tape, h'.output.trans h.output, Nat.le_trans h.size h'.size, fun i hi hne => (h'.block i (Nat.lt_of_lt_of_le hi h.size) hne).trans (h.block i hi)⟩
theorem heap_set_same (w : World) (r : Nat) (o : Nat) (u : Value) (cs : Array Value) (t : TypeId) (h : w.heap[r]? = some (.cells cs t (0, 0))) : (w.setCell ⟨r, o, none⟩ u).heap[r]? = some (.cells (cs.setIfInBounds o u) t (0, 0)) := by
  unfold World.setCell
  simp only [Array.getElem?_modify, if_true]
  rw [h]
  rfl
theorem cell_of_block {w : World} {r : Nat} {cs : Array Value} {t : TypeId} (h : w.heap[r]? = some (.cells cs t (0, 0))) (i : Nat) : w.cell? ⟨r, i, none⟩ = cs[i]? ∧ w.frozen? ⟨r, i, none⟩ = false := by
  unfold World.cell? World.frozen?
  simp [h]
theorem size_setCell (w : World) (a : Addr) (v : Value) : (w.setCell a v).heap.size = w.heap.size := by simp [World.setCell]
theorem rows_kept {w w' : World} {base : Nat} {e : TypeId} {size n : Nat} {v : Value} {xs : List Value} {b : Option Nat} (h : w.ownsRow base e size v n xs) (hg : w.grownBy w' b) (hd : ∀ g, v.ownBlock = some g → b ≠ some g) : w'.ownsRow base e size v n xs :=
  h.kept hg (by
    rcases hv : v.ownBlock with _ | g
    · exact .inl rfl
    · exact .inr (fun e => hd g hv e.symm))
theorem rows_set {w : World} {base : Nat} {e : TypeId} {size n : Nat} {v : Value} {xs : List Value} (h : w.ownsRow base e size v n xs) (r o : Nat) (u : Value) (hd : v.ownBlock ≠ some r) : (w.setCell ⟨r, o, none⟩ u).ownsRow base e size v n xs :=
  rows_kept h (only_setCell (World.grownBy.refl w (some r)) o u) (fun g e e' => hd (e.trans e'.symm))

end Go.Proofs.Ytbljfhmcebgdaaa

/-! The program's trail: what lies in memory; what is asked of it. -/
namespace Go.Proofs.Ytbljfhmcebgdaaa
open Go Go.RowKit

theorem variable_any (n : Int) (w : World) (h0 : -9223372036854775808 < n) (h1 : n ≤ 9223372036854775807) :
    Calls Try.prog 93 #[.int .i64 n] w fun e w' => e = .returned (.int .i64 n.natAbs) ∧ w = w' := by
  by_cases h : n < 0
  all_goals
    go_enter Try.func93, Try.ntmps93
    go_wp2
    go_ret
    exact ⟨ret_int (by omega), rfl⟩
def litOk (s m : Int) : Bool := decide (s ≠ 0 ∧ -m ≤ s ∧ s ≤ m)
theorem litOf_any (s m : Int) (w : World) (h0 : -9223372036854775808 ≤ s) (h1 : s ≤ 9223372036854775807) (m0 : 0 ≤ m) (m1 : m ≤ 9223372036854775807) :
    Calls Try.prog 103 #[.int .i64 s, .int .i64 m] w fun e w' => e = .returned (.bool (litOk s m)) ∧ w = w' := by
  by_cases hs : s = 0
  · subst hs
    go_enter Try.func103, Try.ntmps103
    go_wp2
    go_ret
    exact ⟨by simp [litOk], rfl⟩
  · by_cases ha : -m ≤ s
    · go_enter Try.func103, Try.ntmps103
      go_wp2
      go_ret
      exact ⟨ret_bool (by simp [litOk, hs, ha]), rfl⟩
    · go_enter Try.func103, Try.ntmps103
      go_wp2
      go_ret
      exact ⟨ret_bool (by simp [litOk, hs]; omega), rfl⟩

/-- The places say of each variable where it is put, plus one; 0 if it is not. -/
def PlacesOk (M : Nat) (put pl : List Int) : Prop :=
  pl.length = M + 1 ∧ ∀ v : Nat, 1 ≤ v → v ≤ M → (∃ k, ∃ h : k < put.length, put[k].natAbs = v ∧ pl[v]? = some ((k : Int) + 1)) ∨ ((∀ l ∈ put, l.natAbs ≠ v) ∧ pl[v]? = some 0)
/-- Block t leads to three rows. -/
structure TrB (lo : Nat) (S : Nat → Prop) (M : Nat) (w : World) (t : Nat) (put ls : List Int) (A B : Option Addr) (c d Q : Nat) (pl : List Int) : Prop where
  blk : w.heap[t]? = some (.cells #[.slice A put.length c, .slice (some ⟨Q, 0, none⟩) (M + 1) (M + 1), .slice B ls.length d] 108 (0, 0))
  hlo : lo ≤ t
  hput : OwnI w lo (.slice A put.length c) put
  hpl : w.ownsRow lo 3 1 (.slice (some ⟨Q, 0, none⟩) (M + 1) (M + 1)) (M + 1) (pl.map (Value.int .i64))
  hls : OwnI w lo (.slice B ls.length d) ls
  d1 : (Value.slice A put.length c).ownBlock ≠ some Q
  d2 : (Value.slice B ls.length d).ownBlock ≠ some Q
  d3 : ∀ g, (Value.slice A put.length c).ownBlock = some g → (Value.slice B ls.length d).ownBlock ≠ some g
  d4 : ∀ x, S x → x < w.heap.size ∧ x ≠ t ∧ x ≠ Q ∧ (Value.slice A put.length c).ownBlock ≠ some x ∧ (Value.slice B ls.length d).ownBlock ≠ some x
/-- Block t is a trail. -/
structure TrAt (lo : Nat) (S : Nat → Prop) (M : Nat) (w : World) (t : Nat) (put ls : List Int) (A B : Option Addr) (c d Q : Nat) (pl : List Int) : Prop extends TrB lo S M w t put ls A B c d Q pl where
  ok : PlacesOk M put pl
  len : ls.length = put.length
  lv : ∀ x ∈ ls, 0 ≤ x ∧ x ≤ ls.length
theorem TrB.up {lo M : Nat} {S : Nat → Prop} {w w' : World} {t : Nat} {put ls : List Int} {A B : Option Addr} {c d Q : Nat} {pl : List Int} (h : TrB lo S M w t put ls A B c d Q pl) (hb : Below w.heap.size w w') : TrB lo S M w' t put ls A B c d Q pl :=
  ⟨(hb.block t (lt_of_block h.blk)).trans h.blk, h.hlo, h.hput.up hb, own_below h.hpl hb (Nat.le_refl _), h.hls.up hb, h.d1, h.d2, h.d3, fun x hx => ⟨Nat.lt_of_lt_of_le (h.d4 x hx).1 hb.size, (h.d4 x hx).2⟩⟩
def Tr (lo : Nat) (S : Nat → Prop) (M : Nat) (w : World) (t : Nat) (put ls : List Int) : Prop := ∃ A B c d Q pl, TrAt lo S M w t put ls A B c d Q pl
theorem TrAt.up {lo M : Nat} {S : Nat → Prop} {w w' : World} {t : Nat} {put ls : List Int} {A B : Option Addr} {c d Q : Nat} {pl : List Int} (h : TrAt lo S M w t put ls A B c d Q pl) (hb : Below w.heap.size w w') : TrAt lo S M w' t put ls A B c d Q pl :=
  ⟨h.toTrB.up hb, h.ok, h.len, h.lv⟩
theorem Tr.up {lo M : Nat} {S : Nat → Prop} {w w' : World} {t : Nat} {put ls : List Int} (h : Tr lo S M w t put ls) (hb : Below w.heap.size w w') : Tr lo S M w' t put ls := by
  obtain ⟨A, B, c, d, Q, pl, h⟩ := h
  exact ⟨A, B, c, d, Q, pl, h.up hb⟩
theorem Tr.lt {lo M : Nat} {S : Nat → Prop} {w : World} {t : Nat} {put ls : List Int} (h : Tr lo S M w t put ls) : lo ≤ t ∧ t < w.heap.size := by
  obtain ⟨A, B, c, d, Q, pl, h⟩ := h
  exact ⟨h.hlo, lt_of_block h.blk⟩
theorem quiet_drawn {P : Program} {f : FuncId} {args : Array Value} {w : World} {n : Nat} {v : Value}
    (h : Calls P f args (w.drewN n) fun e w' => e = .returned v ∧ ∃ k, w' = (w.drewN n).drewN k) : Calls P f args (w.drewN n) fun e w'' => e = .returned v ∧ ∃ m, w'' = w.drewN m :=
  h.mono fun _ _ ⟨he, k, hk⟩ => ⟨he, n + k, by rw [hk, World.drewN_drewN]⟩
/-- The mark's variable is put. -/
def isPut (put : List Int) (l : Int) : Bool := decide (l ∈ put ∨ -l ∈ put)
theorem places_at {M : Nat} {put pl : List Int} (h : PlacesOk M put pl) {l : Int} (h0 : l ≠ 0) (h1 : -(M : Int) ≤ l) (h2 : l ≤ M) :
    ∃ p : Int, pl[l.natAbs]? = some p ∧ ((isPut put l = true ∧ ∃ k, ∃ hk : k < put.length, put[k].natAbs = l.natAbs ∧ p = (k : Int) + 1) ∨ (isPut put l = false ∧ p = 0)) := by
  rcases h.2 l.natAbs (by omega) (by omega) with ⟨k, hk, he, hp⟩ | ⟨hn, hp⟩
  · refine ⟨_, hp, .inl ⟨?_, k, hk, he, rfl⟩⟩
    unfold isPut
    rw [decide_eq_true_eq]
    have hm : put[k] ∈ put := List.getElem_mem hk
    have : put[k] = l ∨ put[k] = -l := by omega
    rcases this with e | e
    · exact .inl (e ▸ hm)
    · exact .inr (e ▸ hm)
  · refine ⟨_, hp, .inr ⟨?_, rfl⟩⟩
    unfold isPut
    rw [decide_eq_false_iff_not]
    rintro (hm | hm)
    · exact hn _ hm rfl
    · exact hn _ hm (by omega)

theorem assigned_any (lo : Nat) (S : Nat → Prop) (M t : Nat) (put ls : List Int) (l : Int) (w : World) (h : Tr lo S M w t put ls) (h0 : l ≠ 0) (h1 : -(M : Int) ≤ l) (h2 : l ≤ M) (hM : M ≤ 1000000) :
    Calls Try.prog 104 #[.pointer (some ⟨t, 0, none⟩), .int .i64 l] w fun e w' => e = .returned (.bool (isPut put l)) ∧ ∃ n, w' = w.drewN n := by
  obtain ⟨A, B, c, d, Q, pl, h⟩ := h
  obtain ⟨p, hp, hcase⟩ := places_at h.ok h0 h1 h2
  have z1 : w.cell? ⟨t, 1, none⟩ = some (.slice (some ⟨Q, 0, none⟩) (M + 1) (M + 1)) := (cell_of_block h.blk 1).1
  have hlt : l.natAbs < M + 1 := by omega
  have z2 : w.cell? ⟨Q, l.natAbs, none⟩ = some (.int .i64 p) := by
    have := h.hpl.cellAt l.natAbs (by omega)
    rw [this, List.getElem?_map, hp]; rfl
  have hq : (p != 0) = isPut put l := by
    rcases hcase with ⟨e, k, _, _, rfl⟩ | ⟨e, rfl⟩
    · rw [e]; simp; omega
    · rw [e]; simp
  obtain ⟨na, hna⟩ : ∃ na : Int, na = l.natAbs := ⟨_, rfl⟩
  have qa : ∀ W : World, Calls Try.prog 93 #[.int .i64 l] W fun e w' => e = .returned (.int .i64 na) ∧ W = w' := fun W => by rw [hna]; exact variable_any l W (by omega) (by omega)
  have Qa := Lib.hid qa
  have hn0 : 0 ≤ na := by omega
  have hn1 : na < (M : Int) + 1 := by omega
  have hn2 : na < ((M + 1 : Nat) : Int) := by omega
  have hn3 : na.toNat = l.natAbs := by omega
  rw [← hn3] at z2
  have HQ := Lib.hid hq
  clear qa hna hp hcase hq hn3
  go_enter Try.func104, Try.ntmps104
  go_wp2
  go_quiet ((go_at_call 93; with_reducible exact quiet_left (Qa.out _)))
  go_wp2
  go_ret
  exact ⟨ret_bool (by rw [← HQ.out]), _, rfl⟩

theorem isTrue_any (lo : Nat) (S : Nat → Prop) (M t : Nat) (put ls : List Int) (l : Int) (w : World) (h : Tr lo S M w t put ls) (hg : Good M put) (h0 : l ≠ 0) (h1 : -(M : Int) ≤ l) (h2 : l ≤ M) (hM : M ≤ 1000000) :
    Calls Try.prog 112 #[.pointer (some ⟨t, 0, none⟩), .int .i64 l] w fun e w' => e = .returned (.bool (decide (l ∈ put))) ∧ ∃ n, w' = w.drewN n := by
  have has : ∀ n, Calls Try.prog 104 #[.pointer (some ⟨t, 0, none⟩), .int .i64 l] (w.drewN n) fun e w' => e = .returned (.bool (isPut put l)) ∧ ∃ k, w' = (w.drewN n).drewN k :=
    fun n => assigned_any lo S M t put ls l (w.drewN n) (h.up (below_drewN (Below.refl _ _) n)) h0 h1 h2 hM
  obtain ⟨A, B, c, d, Q, pl, h⟩ := h
  obtain ⟨p, hp, hcase⟩ := places_at h.ok h0 h1 h2
  rcases hcase with ⟨e, k, hk, hek, rfl⟩ | ⟨e, rfl⟩
  · have HAS := Lib.hid has
    have z0 : w.cell? ⟨t, 0, none⟩ = some (.slice A put.length c) := (cell_of_block h.blk 0).1
    have z1 : w.cell? ⟨t, 1, none⟩ = some (.slice (some ⟨Q, 0, none⟩) (M + 1) (M + 1)) := (cell_of_block h.blk 1).1
    have z2 : w.cell? ⟨Q, l.natAbs, none⟩ = some (.int .i64 ((k : Int) + 1)) := by
      have := h.hpl.cellAt l.natAbs (by omega)
      rw [this, List.getElem?_map, hp]; rfl
    obtain ⟨ad, rfl, _, z3⟩ := (OwnI.rd h.hput).at_int hk
    have hml := hg.length
    have hkb : k < 1000001 := by omega
    have hmem : (put[k] == l) = decide (l ∈ put) := by
      have hm : put[k] ∈ put := List.getElem_mem hk
      have hor : put[k] = l ∨ put[k] = -l := by omega
      rw [Bool.eq_iff_iff]
      simp only [beq_iff_eq, decide_eq_true_eq]
      constructor
      · intro e; exact e ▸ hm
      · intro hl
        rcases hor with e | e
        · exact e
        · exact (hg.apart hl (e ▸ hm)).elim
    have HMEM := Lib.hid hmem
    obtain ⟨na, hna⟩ : ∃ na : Int, na = l.natAbs := ⟨_, rfl⟩
    have qa : ∀ W : World, Calls Try.prog 93 #[.int .i64 l] W fun e w' => e = .returned (.int .i64 na) ∧ W = w' := fun W => by rw [hna]; exact variable_any l W (by omega) (by omega)
    have Qa := Lib.hid qa
    have hn0 : 0 ≤ na := by omega
    have hn1 : na < (M : Int) + 1 := by omega
    have hn2 : na < ((M + 1 : Nat) : Int) := by omega
    have hn3 : na.toNat = l.natAbs := by omega
    rw [← hn3] at z2
    have hk0 : (0 : Int) ≤ k := by omega
    have hk1 : (k : Int) < put.length := by omega
    have e1 : IntKind.i64.wrap ((k : Int) + 1 - 1) = (k : Int) := by rw [Int.add_sub_cancel]; exact IntWalk.i64_in _ (by omega)
    have hee := e
    rw [e] at has HAS
    have HAS := HAS
    generalize put[k] = a at *
    clear qa hna hp hn3 has e hee hek hmem
    go_enter Try.func112, Try.ntmps112
    go_wp2
    go_quiet ((first | (go_at_call 93; with_reducible exact quiet_left (Qa.out _)) | (go_at_call 104; with_reducible exact quiet_drawn (HAS.out _))))
    go_wp2
    go_ret
    exact ⟨ret_bool (by rw [← HMEM.out]), _, rfl⟩
  · rw [e] at has
    have HAS := Lib.hid has
    have HM : Hid (decide (l ∈ put) = false) := Lib.hid (by unfold isPut at e; rw [decide_eq_false_iff_not] at e ⊢; exact fun h9 => e (.inl h9))
    clear has e hp
    go_enter Try.func112, Try.ntmps112
    go_wp2
    go_quiet ((go_at_call 104; with_reducible exact quiet_drawn (HAS.out _)))
    go_wp2
    go_ret
    exact ⟨ret_bool (by rw [HM.out]), _, rfl⟩

theorem Tr.drewN {lo M : Nat} {S : Nat → Prop} {w : World} {t : Nat} {put ls : List Int} (h : Tr lo S M w t put ls) (n : Nat) : Tr lo S M (w.drewN n) t put ls := h.up (below_drewN (Below.refl _ _) n)
/-- What the program's look gives. -/
def lkT (put cl : List Int) : Bool × Int × Int := match lk put cl 0 0 with | none => (true, 0, 0) | some p => (false, p.1, p.2)
theorem ret_look {a a' : Bool} {b b' c c' : Int} (h1 : a = a') (h2 : b = b') (h3 : c = c') : Ending.returned (.tuple #[.bool a, .int .i64 b, .int .i64 c]) = .returned (.tuple #[.bool a', .int .i64 b', .int .i64 c']) := by rw [h1, h2, h3]
set_option maxHeartbeats 1000000 in
theorem look_any (lo : Nat) (S : Nat → Prop) (M t : Nat) (put ls cl : List Int) (B : Option Addr) (q : Nat) (G : Nat → Prop) (w : World) (h : Tr lo S M w t put ls) (hcl : Lay.int.Sl w G B cl) (hg : Good M put) (hr : ∀ l ∈ cl, l ≠ 0 ∧ -(M : Int) ≤ l ∧ l ≤ M) (hn : cl.length ≤ 1048576) (hM : M ≤ 1000000) :
    Calls Try.prog 118 #[.pointer (some ⟨t, 0, none⟩), .slice B cl.length q] w fun e w' => e = .returned (.tuple #[.bool (lkT put cl).1, .int .i64 (lkT put cl).2.1, .int .i64 (lkT put cl).2.2]) ∧ ∃ n, w' = w.drewN n := by
  go_enter Try.func118, Try.ntmps118
  go_wp2
  go_loopw [5, 6, 11] (fun x y i wr => ∃ (k m : Nat) (n f : Int), k ≤ cl.length ∧ i = .int .i64 k ∧ x = .int .i64 n ∧ y = .int .i64 f ∧ wr = w.drewN m ∧ 0 ≤ n ∧ n ≤ k ∧ lk put cl 0 0 = lk put (cl.drop k) n f) (fun _ _ i _ => cl.length - (intOf i).toNat)
  case atStart => exact ⟨0, 0, 0, 0, Nat.zero_le _, rfl, rfl, rfl, rfl, by omega, by simp, by simp⟩
  case round =>
    obtain ⟨k, m, n, f, hk, rfl, rfl, rfl, rfl, n0, n1, ht⟩ := hrel
    have HT := Lib.hid ht
    clear ht
    by_cases hlt : k < cl.length
    · obtain ⟨ad, rfl, hf, hc⟩ := (hcl.drewN m).at_int hlt
      have hk1 : (k : Int) < cl.length := by omega
      obtain ⟨r0, r1, r2⟩ := hr _ (List.getElem_mem hlt)
      have hd := lk_drop (put := put) (n := n) (f := f) hlt
      generalize cl[k] = a at *
      have hs := fun m => isTrue_any lo S M t put ls a (w.drewN m) (h.drewN m) hg r0 r1 r2 hM
      have ha := fun m => assigned_any lo S M t put ls a (w.drewN m) (h.drewN m) r0 r1 r2 hM
      unfold isPut at ha
      by_cases h1 : a ∈ put
      · rw [if_pos h1] at hd
        rw [decide_eq_true h1] at hs
        have HD := Lib.hid (show lkT put cl = (true, 0, 0) by unfold lkT; rw [HT.out, hd])
        have HS := Lib.hid hs
        clear hd hs ha
        go_wp2_with fail
        refine (HS.out m).mono ?_
        rintro e w' ⟨rfl, k9, rfl⟩
        go_wp2
        go_ret3
        exact ⟨ret_look (by rw [HD.out]) (by rw [HD.out]) (by rw [HD.out]), m + k9, by first | rfl | rw [World.drewN_drewN]⟩
      rw [decide_eq_false h1] at hs
      by_cases h2 : -a ∈ put
      · rw [if_neg h1, if_pos h2] at hd
        rw [decide_eq_true (Or.inr h2)] at ha
        have HD := Lib.hid hd
        have HS := Lib.hid hs
        have HA := Lib.hid ha
        clear hd hs ha
        go_wp2_with fail
        refine (HS.out m).mono ?_
        rintro e w' ⟨rfl, k9, rfl⟩
        rw [World.drewN_drewN]
        go_wp2_with fail
        refine (HA.out _).mono ?_
        rintro e w' ⟨rfl, k8, rfl⟩
        rw [World.drewN_drewN]
        go_wp2
        go_roundw
        case rel => exact ⟨k + 1, _, n, f, by omega, by go_num, rfl, rfl, rfl, n0, by omega, by rw [HT.out, HD.out]⟩
        case measure => simp [intOf]; omega
      · rw [if_neg h1, if_neg h2] at hd
        rw [decide_eq_false (fun h9 => h9.elim h1 h2)] at ha
        have HD := Lib.hid hd
        have HS := Lib.hid hs
        have HA := Lib.hid ha
        clear hd hs ha
        go_wp2_with fail
        refine (HS.out m).mono ?_
        rintro e w' ⟨rfl, k9, rfl⟩
        rw [World.drewN_drewN]
        go_wp2_with fail
        refine (HA.out _).mono ?_
        rintro e w' ⟨rfl, k8, rfl⟩
        rw [World.drewN_drewN]
        go_wp2
        go_roundw
        case rel => exact ⟨k + 1, _, n + 1, a, by omega, by go_num, rfl, rfl, rfl, by omega, by omega, by rw [HT.out, HD.out]⟩
        case measure => simp [intOf]; omega
    · have hke : k = cl.length := by omega
      subst hke
      have HE := Lib.hid (show lkT put cl = (false, n, f) by unfold lkT; rw [HT.out, List.drop_length]; rfl)
      go_wp2
      go_ret3
      exact ⟨ret_look (by rw [HE.out]) (by rw [HE.out]) (by rw [HE.out]), m, rfl⟩
end Go.Proofs.Ytbljfhmcebgdaaa

/-! The program's trail: next, push. -/
namespace Go.Proofs.Ytbljfhmcebgdaaa
open Go Go.RowKit

theorem look_cons (put : List Int) (cl : List Int) (cls : List (List Int)) (k u f : Int) :
    (lkT put cl = (true, 0, 0) ∧ fd put (cl :: cls) k u f = fd put cls (k + 1) u f) ∨ ∃ n m, lkT put cl = (false, n, m) ∧
      ((n = 0 ∧ fd put (cl :: cls) k u f = (k, u, f)) ∨ (n = 1 ∧ u < 0 ∧ fd put (cl :: cls) k u f = fd put cls (k + 1) k m) ∨ (n ≠ 0 ∧ ¬ (n = 1 ∧ u < 0) ∧ fd put (cl :: cls) k u f = fd put cls (k + 1) u f)) := by
  unfold lkT
  cases hl : lk put cl 0 0 with
  | none => exact .inl ⟨rfl, by simp only [fd, hl]⟩
  | some p =>
    obtain ⟨n, m⟩ := p
    refine .inr ⟨n, m, rfl, ?_⟩
    by_cases h0 : n = 0
    · exact .inl ⟨h0, by simp only [fd, hl, h0, if_true]⟩
    by_cases h1 : n = 1 ∧ u < 0
    · exact .inr (.inl ⟨h1.1, h1.2, by obtain ⟨rfl, hu⟩ := h1; simp [fd, hl, hu]⟩)
    · exact .inr (.inr ⟨h0, h1, by simp only [fd, hl, h0, if_false, h1]⟩)
set_option maxRecDepth 100000 in
set_option maxHeartbeats 4000000 in
theorem next_any (lo : Nat) (S : Nat → Prop) (M t : Nat) (put ls : List Int) (lists : List (List (List Int))) (B : Option Addr) (q : Nat) (G : Nat → Prop) (w : World) (h : Tr lo S M w t put ls) (hl : Lay.int.slice.slice.Sl w G B lists) (hg : Good M put)
    (hr : ∀ cls ∈ lists, cls.length ≤ 1048576 ∧ ∀ cl ∈ cls, (∀ l ∈ cl, l ≠ 0 ∧ -(M : Int) ≤ l ∧ l ≤ M) ∧ cl.length ≤ 1048576) (hn : lists.length ≤ 1048576) (hM : M ≤ 1000000) (hall : lists.flatten.length ≤ 1000000000) :
    Calls Try.prog 106 #[.pointer (some ⟨t, 0, none⟩), .slice B lists.length q] w
      fun e w' => e = .returned (.tuple #[.int .i64 (fd put lists.flatten 0 (-1) 0).1, .int .i64 (fd put lists.flatten 0 (-1) 0).2.1, .int .i64 (fd put lists.flatten 0 (-1) 0).2.2]) ∧ ∃ n, w' = w.drewN n := by
  go_enter Try.func106, Try.ntmps106
  go_wp2
  go_loopw [4, 5, 6, 7, 17] (fun v x y z i wr => v = .int .i64 (-1) ∧ ∃ (j m : Nat) (u f : Int), j ≤ lists.length ∧ i = .int .i64 j ∧ x = .int .i64 u ∧ y = .int .i64 f ∧ z = .int .i64 ((lists.take j).flatten.length : Nat) ∧ wr = w.drewN m ∧
     fd put lists.flatten 0 (-1) 0 = fd put (lists.drop j).flatten ((lists.take j).flatten.length : Nat) u f) (fun _ _ _ _ i _ => lists.length - (intOf i).toNat)
  case atStart => exact ⟨rfl, 0, 0, -1, 0, Nat.zero_le _, rfl, rfl, rfl, by simp, rfl, by simp⟩
  case round =>
    obtain ⟨rfl, j, m, u, f, hj, rfl, rfl, rfl, rfl, rfl, ht⟩ := hrel
    have HT := Lib.hid ht
    clear ht
    by_cases hlt : j < lists.length
    · obtain ⟨ad, A', c', rfl, hf, k1, hl1, s1⟩ := (hl.drewN m).at_slice hlt
      have hj1 : (j : Int) < lists.length := by omega
      obtain ⟨hr1, hr2⟩ := hr _ (List.getElem_mem hlt)
      have hd1 : (lists.drop j).flatten = lists[j] ++ (lists.drop (j + 1)).flatten := by rw [List.drop_eq_getElem_cons hlt, List.flatten_cons]
      have hd2 : (lists.take (j + 1)).flatten.length = (lists.take j).flatten.length + lists[j].length := by rw [List.take_succ_eq_append_getElem hlt, List.flatten_append]; simp
      have hd3 : (lists.take j).flatten.length + lists[j].length ≤ 1000000000 := by
        have : lists.flatten.length = (lists.take j).flatten.length + (lists.drop j).flatten.length := by rw [← List.length_append, ← List.flatten_append, List.take_append_drop]
        rw [hd1, List.length_append] at this
        omega
      have HD1 := Lib.hid hd1
      have HD2 := Lib.hid hd2
      have hsl := s1
      generalize hcs : lists[j] = cs at *
      generalize hat : (lists.take j).flatten.length = at0 at *
      have HAT := Lib.hid hat
      clear hd1 hd2 hcs hat
      generalize hrest : (lists.drop (j + 1)).flatten = rest at *
      have HREST := Lib.hid hrest
      clear hrest
      go_wp2
      go_loopw [4, 5, 6, 7, 23] (fun v x y z i wr => v = .int .i64 (-1) ∧ ∃ (k m : Nat) (u f : Int), k ≤ cs.length ∧ i = .int .i64 k ∧ x = .int .i64 u ∧ y = .int .i64 f ∧ z = .int .i64 ((at0 : Int) + k) ∧ wr = w.drewN m ∧
         fd put lists.flatten 0 (-1) 0 = fd put (cs.drop k ++ rest) ((at0 : Int) + k) u f) (fun _ _ _ _ i _ => cs.length - (intOf i).toNat)
      case atStart => exact ⟨rfl, 0, m, u, f, Nat.zero_le _, rfl, rfl, rfl, by simp, rfl, by rw [HT.out, HD1.out]; simp⟩
      case round =>
        obtain ⟨rfl, k, m2, u2, f2, hk, rfl, rfl, rfl, rfl, rfl, ht⟩ := hrel
        have HT2 := Lib.hid ht
        clear ht
        by_cases hlt2 : k < cs.length
        · obtain ⟨ad2, A2, c2, rfl, hf2, k2, hl2, s2⟩ := ((Lay.Sl.drewN s1 0).keep (w' := w.drewN m2) (fun _ _ => rfl)).at_slice hlt2
          have hk1 : (k : Int) < cs.length := by omega
          obtain ⟨hr3, hr4⟩ := hr2 _ (List.getElem_mem hlt2)
          have hdrop : cs.drop k ++ rest = cs[k] :: (cs.drop (k + 1) ++ rest) := by rw [List.drop_eq_getElem_cons hlt2]; rfl
          have hlc := look_cons put cs[k] (cs.drop (k + 1) ++ rest) ((at0 : Int) + k) u2 f2
          have hlook := look_any lo S M t put ls cs[k] A2 c2 G (w.drewN m2) (h.drewN m2) s2 hg hr3 hr4 hM
          rw [← hdrop, ← HT2.out] at hlc
          have hat1 : (at0 : Int) + k < 1000000000 := by omega
          have hat2 : (0 : Int) ≤ (at0 : Int) + k := by omega
          have hat3 : ((at0 : Int) + k) + 1 = (at0 : Int) + ((k + 1 : Nat) : Int) := by omega
          have HAT3 := Lib.hid hat3
          generalize cs[k] = cl at *
          have HL := Lib.hid hlc
          have HK := Lib.hid hlook
          clear hlc hlook hdrop hat3
          generalize hz : (at0 : Int) + (k : Int) = z9 at *
          have HZ := Lib.hid hz
          clear hz
          rcases HL.out with ⟨h1, h2⟩ | ⟨n, mm, h1, hh⟩
          · have hk9 := HK.out
            rw [h1] at hk9
            have HK9 := Lib.hid hk9
            have HE := Lib.hid h2
            clear h1 h2 hk9
            go_wp2_with fail
            refine HK9.out.mono ?_
            rintro e w' ⟨rfl, m9, rfl⟩
            go_wp2
            go_roundw
            case rel => exact ⟨rfl, k + 1, m2 + m9, u2, f2, by omega, by go_num, rfl, rfl, by rw [← HAT3.out], by first | rfl | rw [World.drewN_drewN], by rw [HE.out, HAT3.out]⟩
            case measure => simp [intOf]; omega
          · have hk9 := HK.out
            rw [h1] at hk9
            have HK9 := Lib.hid hk9
            clear h1 hk9
            rcases hh with ⟨rfl, h2⟩ | ⟨rfl, hu, h2⟩ | ⟨hn0, hn1, h2⟩
            · have HE := Lib.hid h2
              clear h2
              go_wp2_with fail
              refine HK9.out.mono ?_
              rintro e w' ⟨rfl, m9, rfl⟩
              go_wp2
              go_ret3
              exact ⟨ret_three (by rw [HE.out]) (by rw [HE.out]) (by rw [HE.out]), m2 + m9, by first | rfl | rw [World.drewN_drewN]⟩
            · have HE := Lib.hid h2
              clear h2
              go_wp2_with fail
              refine HK9.out.mono ?_
              rintro e w' ⟨rfl, m9, rfl⟩
              go_wp2
              go_roundw
              case rel => exact ⟨rfl, k + 1, m2 + m9, z9, mm, by omega, by go_num, rfl, rfl, by rw [← HAT3.out], by first | rfl | rw [World.drewN_drewN], by rw [HE.out, HAT3.out]⟩
              case measure => simp [intOf]; omega
            · have HE := Lib.hid h2
              have z0 : (n == 0) = false := by simp [hn0]
              clear h2 hn0
              by_cases z1 : n = 1
              · have hu : ¬ u2 < 0 := fun h9 => hn1 ⟨z1, h9⟩
                have z1b : (n == 1) = true := by simp [z1]
                clear hn1 z1
                go_wp2_with fail
                refine HK9.out.mono ?_
                rintro e w' ⟨rfl, m9, rfl⟩
                go_wp2
                go_roundw
                case rel => exact ⟨rfl, k + 1, m2 + m9, u2, f2, by omega, by go_num, rfl, rfl, by rw [← HAT3.out], by first | rfl | rw [World.drewN_drewN], by rw [HE.out, HAT3.out]⟩
                case measure => simp [intOf]; omega
              · have z1b : (n == 1) = false := by simp [z1]
                clear hn1 z1
                go_wp2_with fail
                refine HK9.out.mono ?_
                rintro e w' ⟨rfl, m9, rfl⟩
                go_wp2
                go_roundw
                case rel => exact ⟨rfl, k + 1, m2 + m9, u2, f2, by omega, by go_num, rfl, rfl, by rw [← HAT3.out], by first | rfl | rw [World.drewN_drewN], by rw [HE.out, HAT3.out]⟩
                case measure => simp [intOf]; omega
        · have hke : k = cs.length := by omega
          subst hke
          have HE := Lib.hid (show fd put lists.flatten 0 (-1) 0 = fd put (lists.drop (j + 1)).flatten ((lists.take (j + 1)).flatten.length : Nat) u2 f2 by
            rw [HT2.out, List.drop_length, List.nil_append, HD2.out, HREST.out]; push_cast; rfl)
          have HN := Lib.hid (show (at0 : Int) + cs.length = (((lists.take (j + 1)).flatten.length : Nat) : Int) by rw [HD2.out]; push_cast; rfl)
          go_wp2
          go_roundw
          case rel => exact ⟨rfl, j + 1, m2, u2, f2, by omega, by go_num, rfl, rfl, by rw [← HN.out], rfl, HE.out⟩
          case measure => simp [intOf]; omega
    · have hje : j = lists.length := by omega
      subst hje
      have HE := Lib.hid (show fd put lists.flatten 0 (-1) 0 = (-1, u, f) by rw [HT.out, List.drop_length]; rfl)
      go_wp2
      go_ret3
      exact ⟨ret_three (by rw [HE.out]) (by rw [HE.out]) (by rw [HE.out]), m, rfl⟩

end Go.Proofs.Ytbljfhmcebgdaaa
