/- Contracts of the reference's unit propagation: l5Vals, l5Units, l5Rup, RupOk. -/
import Derived.Test.YtndolbplkjhooaaCnf3
namespace Go.Proofs.Ytndolbplkjhooaa
open Go Go.RowKit

/-- The call's own row of integers. -/
def OwnI (w : World) (base : Nat) (v : Value) (xs : List Int) : Prop := w.ownsRow base 3 1 v xs.length (xs.map (Value.int .i64))
theorem OwnI.up {w w' : World} {base : Nat} {v : Value} {xs : List Int} (h : OwnI w base v xs) (hb : Below w.heap.size w w') : OwnI w' base v xs := own_below h hb (Nat.le_refl _)
theorem OwnI.form {w : World} {base : Nat} {v : Value} {xs : List Int} (h : OwnI w base v xs) : ∃ A c, v = .slice A xs.length c ∧ xs.length ≤ c ∧ Lay.int.Sl w (fun b => base ≤ b ∧ b < w.heap.size) A xs := by
  have hh := h
  unfold OwnI at h
  rcases h.2 with ⟨h1, h2⟩ | ⟨g, cap, cur, h1, _, _, h3, _⟩
  · subst h1
    have : xs = [] := List.eq_nil_of_length_eq_zero h2
    subst this
    exact ⟨none, 0, rfl, by simp, .nil _ _ _ _⟩
  · subst h1
    exact ⟨_, cap, rfl, h3, (sl_ints_of_own hh (fun g h1 h2 => ⟨h1, h2⟩)).1⟩
theorem OwnI.rd {w : World} {base c : Nat} {A : Option Addr} {xs : List Int} (h : OwnI w base (.slice A xs.length c) xs) : Lay.int.Rd w A xs := by
  obtain ⟨A', c', e, h1, h2⟩ := h.form
  injection e with e1 e2 e3
  subst e1
  exact h2.rd
theorem src_ints {w : World} {F : Nat → Prop} {A : Option Addr} {xs : List Int} (h : Lay.int.Sl w F A xs) : Src w 1 A xs.length (xs.map (Value.int .i64)) := by
  refine ⟨by simp, fun h0 => ?_⟩
  obtain ⟨ad, rfl, _, hc⟩ := h h0
  refine ⟨ad, rfl, fun j u hu => ?_⟩
  rw [List.getElem?_map] at hu
  cases hx : xs[j]? with
  | none => rw [hx] at hu; cases hu
  | some x =>
    rw [hx] at hu
    injection hu with hu
    subst hu
    obtain ⟨vs, rfl, hcell⟩ := hc j x hx
    have := hcell 0 _ rfl
    rw [show Lay.int.size = 1 from rfl, Nat.mul_one, Nat.add_zero] at this
    exact this
theorem ints_one (xs : List Int) : ∀ u ∈ xs.map (Value.int .i64), u.oneCell' = true := by
  intro u hu
  obtain ⟨x, _, rfl⟩ := List.mem_map.1 hu
  rfl
theorem sg_snoc {put : List Int} {l v : Int} (h1 : l ∉ put) (h2 : -l ∉ put) (hv : 0 < v) : sg (put ++ [l]) v = if v = l then 1 else if v = -l then -1 else sg put v := by
  unfold sg
  by_cases e1 : v = l
  · subst e1; simp
  by_cases e2 : v = -l
  · subst e2
    have h3 : - -l = l := by omega
    simp [e1, h2, h3]
  · have e3 : -v ≠ l := fun e => e2 (by omega)
    simp [e1, e2, e3]
theorem Good.at {many : Int} {put : List Int} (h : Good many put) {k : Nat} (hk : k < put.length) : put[k] ∉ put.take k ∧ -put[k] ∉ put.take k := by
  have hp := List.pairwise_iff_getElem.1 h.nodup
  refine ⟨fun hm => ?_, fun hm => ?_⟩
  all_goals
    obtain ⟨i, hi, e⟩ := List.getElem_of_mem hm
    have hik : i < k := by simp at hi; omega
    rw [List.getElem_take] at e
    exact hp i k (by simp <;> omega) (by simpa using hk) hik (by simp only [List.getElem_map, e] <;> omega)

theorem ret_slice {A : Option Addr} {n m c : Nat} (h : n = m) : Ending.returned (.slice A n c) = .returned (.slice A m c) := by rw [h]
def RetV (M : Nat) (put : List Int) (w : World) (e : Ending) (w' : World) : Prop :=
  ∃ A c vs, e = .returned (.slice A vs.length c) ∧ Vals M put vs ∧ Lay.int.Rd w' A vs ∧ Below w.heap.size w w'
set_option maxHeartbeats 1000000 in
theorem l5Vals_any (A B : Option Addr) (p q M : Nat) (x : C) (put : List Int) (G : Nat → Prop) (w : World) (hM : x.many = (M : Int)) (hM2 : M ≤ 1000000) (h : Lay.int.Sl w G B put) (hG : ∀ b, G b → b < w.heap.size) (hg : Good M put) (hn : put.length ≤ 1048576) :
    Calls Try.prog 62 #[.agg #[.int .i64 x.many, .slice A x.list.length p], .slice B put.length q] w (RetV M put w) := by
  obtain ⟨i0, hi0, hz0, hz1, hz2⟩ := info_parts int_info
  have hw : Below w.heap.size w (w.alloc (.cells #[.int .i64 x.many, .slice A x.list.length p] 28)) := (Below.refl _ _).alloc (Nat.le_refl _) _
  have K := h.below hw hG
  have hGW : ∀ b, G b → b < (w.alloc (.cells #[.int .i64 x.many, .slice A x.list.length p] 28)).heap.size := fun b h9 => Nat.lt_of_lt_of_le (hG b h9) hw.size
  rw [hM] at *
  go_enter Try.func62, Try.ntmps62
  go_wp2_with (at_make; refine wpList_make_full _ rfl _ _ 25 rfl (w.alloc (.cells #[.int .i64 (M : Int), .slice A x.list.length p] 28)).heap.size 3 i0 _ 1 Try.underlying25 hi0 hz0 hz1 .i64 .i64 _ _ (M + 1) rfl rfl (by push_cast; rfl) (by push_cast; rfl) (by rw [hz2]; omega) (by unfold maxLen; omega) (Nat.le_refl _) ?_; intro w1 hown hg1)
  have H1 := Lib.hid hg1
  clear hg1 hi0 hz0 hz1 hz2
  have hWS : (w.alloc (.cells #[.int .i64 (M : Int), .slice A x.list.length p] 28)).heap.size = w.heap.size + 1 := by simp
  generalize w.alloc (.cells #[.int .i64 (M : Int), .slice A x.list.length p] 28) = W at *
  have hb1 : Below W.heap.size W w1 := (Below.refl _ _).grown H1.out (Nat.le_refl _) (by simp)
  rw [show (madeCells (Value.int .i64 0).cells ((M + 1) * 1)).toList = (List.replicate (M + 1) (0 : Int)).map (Value.int .i64) from by
    rw [show (Value.int .i64 0).cells = #[Value.int .i64 0] from rfl, toList_madeCells_one]; simp] at hown
  rw [hWS] at hown
  have hWle : W.heap.size ≤ w.heap.size + 1 := by omega
  have HWS := Lib.hid hWS
  clear hWS
  go_loopw [6] (fun i wr => ∃ (k : Nat) (vs : List Int), k ≤ put.length ∧ i = .int .i64 k ∧ Below W.heap.size W wr ∧ wr.ownsRow (w.heap.size + 1) 3 1 (.slice (some ⟨w.heap.size + 1, 0, none⟩) (M + 1) (M + 1)) (M + 1) (vs.map (Value.int .i64)) ∧ Vals M (put.take k) vs)
    (fun i _ => put.length - (intOf i).toNat)
  case atStart => exact ⟨0, _, Nat.zero_le _, rfl, hb1, hown, by simp, fun v h1 h2 => by rw [List.getElem?_replicate, if_pos (by omega)]; rfl⟩
  case round =>
    obtain ⟨k, vs, hk, rfl, hb, ho, hvs⟩ := hrel
    have HV := Lib.hid hvs
    clear hvs
    by_cases hlt : k < put.length
    · obtain ⟨ad, rfl, hf, hc⟩ := (K.below hb hGW).at_int hlt
      have hk1 : (k : Int) < put.length := by omega
      obtain ⟨hr0, hr1, hr2⟩ := hg.rng _ (List.getElem_mem hlt)
      obtain ⟨hm1, hm2⟩ := hg.at hlt
      have htk : put.take (k + 1) = put.take k ++ [put[k]] := List.take_succ_eq_append_getElem hlt
      have hsn : ∀ v : Int, 0 < v → sg (put.take (k + 1)) v = if v = put[k] then 1 else if v = -put[k] then -1 else sg (put.take k) v := fun v hv => by rw [htk]; exact sg_snoc hm1 hm2 hv
      have HSN := Lib.hid hsn
      clear hsn htk hm1 hm2
      generalize put[k] = l at *
      have hlen : vs.length = M + 1 := HV.out.1
      by_cases hp : 0 < l
      · have hi : l.toNat < M + 1 := by omega
        have hi0 : (0 : Int) ≤ l := by omega
        have hi1 : l < ((M + 1 : Nat) : Int) := by omega
        have hi2 : l < (M : Int) + 1 := by omega
        have hst := ho.stored l.toNat (.int .i64 1)
        have hold : wr.cell? ⟨w.heap.size + 1, l.toNat, none⟩ = _ := ho.cellAt l.toNat (by omega)
        rw [List.getElem?_map, List.getElem?_eq_getElem (by omega), Option.map_some] at hold
        have hfr : wr.frozen? ⟨w.heap.size + 1, l.toNat, none⟩ = false := ho.frozenAt l.toNat
        have HVN : Hid (Vals M (put.take (k + 1)) (vs.set l.toNat 1)) := Lib.hid ⟨by simp [hlen], fun v h1 h2 => by
          rw [HSN.out v (by omega), List.getElem?_set]
          by_cases e : l.toNat = v
          · rw [if_pos e, if_pos (by omega), if_pos (by omega)]
          · rw [if_neg e, HV.out.2 v h1 h2, if_neg (by omega), if_neg (by omega)]⟩
        have HST := Lib.hid hst.1
        clear hst
        go_wp2
        go_roundw
        case rel => exact ⟨k + 1, _, by omega, by go_num, hb.setCell hWle _, by rw [List.map_set]; exact HST.out, HVN.out⟩
        case measure => simp [intOf]; omega
      · have hi : (-l).toNat < M + 1 := by omega
        have hi0 : (0 : Int) ≤ -l := by omega
        have hi1 : -l < ((M + 1 : Nat) : Int) := by omega
        have hi2 : -l < (M : Int) + 1 := by omega
        have hst := ho.stored (-l).toNat (.int .i64 (-1))
        have hold : wr.cell? ⟨w.heap.size + 1, (-l).toNat, none⟩ = _ := ho.cellAt (-l).toNat (by omega)
        rw [List.getElem?_map, List.getElem?_eq_getElem (by omega), Option.map_some] at hold
        have hfr : wr.frozen? ⟨w.heap.size + 1, (-l).toNat, none⟩ = false := ho.frozenAt (-l).toNat
        have HVN : Hid (Vals M (put.take (k + 1)) (vs.set (-l).toNat (-1))) := Lib.hid ⟨by simp [hlen], fun v h1 h2 => by
          rw [HSN.out v (by omega), List.getElem?_set]
          by_cases e : (-l).toNat = v
          · rw [if_pos e, if_pos (by omega), if_neg (by omega), if_pos (by omega)]
          · rw [if_neg e, HV.out.2 v h1 h2, if_neg (by omega), if_neg (by omega)]⟩
        have HST := Lib.hid hst.1
        clear hst
        go_wp2
        go_roundw
        case rel => exact ⟨k + 1, _, by omega, by go_num, hb.setCell hWle _, by rw [List.map_set]; exact HST.out, HVN.out⟩
        case measure => simp [intOf]; omega
    · have hke : k = put.length := by omega
      subst hke
      have hlen : vs.length = M + 1 := HV.out.1
      have hvs := HV.out
      rw [List.take_length] at hvs
      have HV2 := Lib.hid hvs
      have hrd : Lay.int.Rd wr (some ⟨w.heap.size + 1, 0, none⟩) vs := (sl_ints_of_own (F := fun b => b < wr.heap.size) ho (fun g _ h9 => h9)).1
      have HL := Lib.hid hlen
      clear hlen hvs
      go_wp2
      go_ret
      exact ⟨some ⟨w.heap.size + 1, 0, none⟩, M + 1, vs, ret_slice (by rw [HL.out]), HV2.out, hrd, bthen hw hb⟩

def ValsAt (M : Nat) (put : List Int) (v : Value) (x : World) : Prop := ∃ (A : Option Addr) (c : Nat) (vs : List Int), v = .slice A vs.length c ∧ Vals M put vs ∧ Lay.int.Rd x A vs
theorem ValsAt.up {M : Nat} {put : List Int} {v : Value} {x x' : World} (h : ValsAt M put v x) (hb : Below x.heap.size x x') : ValsAt M put v x' := by
  obtain ⟨A, c, vs, h1, h2, h3⟩ := h
  exact ⟨A, c, vs, h1, h2, h3.up hb⟩
def Fact.vals (M : Nat) (put : List Int) : Fact := .of (ValsAt M put) fun _ _ _ h hb => h.up hb
def Fact.lit9 : Fact := .of (fun v _ => ∃ b, v = .slice (some ⟨b, 0, none⟩) 0 0) fun _ _ _ h _ => h
def Fact.val9 (W : World) (u : Value) : Fact := .of (fun v x => v = u ∧ Below W.heap.size W x) fun _ _ _ ⟨h1, h2⟩ hb => ⟨h1, bthen h2 hb⟩
def lenOf : Value → Nat
  | .slice _ n _ => n
  | _ => 0
def RetU (w : World) (r : List Int × Bool) (e : Ending) (w' : World) : Prop :=
  ∃ A c, e = .returned (.tuple #[.slice A r.1.length c, .bool r.2]) ∧ OwnI w' w.heap.size (.slice A r.1.length c) r.1 ∧ Below w.heap.size w w'
theorem fdS_conf {put : List Int} {cs : List (List Int)} : (0 ≤ (fdS put cs).1 ↔ 0 ≤ (fd put cs 0 (-1) 0).1) ∧ (¬ 0 ≤ (fd put cs 0 (-1) 0).1 → fdS put cs = fd put cs 0 (-1) 0) := by
  unfold fdS
  split
  · exact ⟨by simp_all, fun h => absurd (by assumption) h⟩
  · exact ⟨Iff.rfl, fun _ => rfl⟩

set_option maxRecDepth 100000 in
set_option maxHeartbeats 8000000 in
theorem l5Units_any (A B : Option Addr) (p q M : Nat) (x : C) (put : List Int) (F G : Nat → Prop) (w : World) (hM : x.many = (M : Int)) (hM2 : M ≤ 700) (h : Lay.int.slice.Sl w F A x.list) (hF : ∀ b, F b → b < w.heap.size)
    (hp : Lay.int.Sl w G B put) (hG : ∀ b, G b → b < w.heap.size) (hB : B = none → put.length = 0) (hg : Good M put) (hr : ∀ cl ∈ x.list, (∀ l ∈ cl, l ≠ 0 ∧ -(M : Int) ≤ l ∧ l ≤ M) ∧ cl.length ≤ 1048576) (hn : x.list.length ≤ 1048576) :
    Calls Try.prog 52 #[.agg #[.int .i64 x.many, .slice A x.list.length p], .slice B put.length q] w (RetU w (units M x.list put)) := by
  obtain ⟨i0, hi0, hz0, hz1, hz2⟩ := info_parts int_info
  have HMM := Lib.hid hM
  clear hM
  have hpl := hg.length
  have hpn : put.length ≤ 1048576 := by omega
  have hw : Below w.heap.size w (w.alloc (.cells #[.int .i64 x.many, .slice A x.list.length p] 28)) := (Below.refl _ _).alloc (Nat.le_refl _) _
  have K := h.below hw hF
  have KP := hp.below hw hG
  have hFW : ∀ b, F b → b < (w.alloc (.cells #[.int .i64 x.many, .slice A x.list.length p] 28)).heap.size := fun b h9 => Nat.lt_of_lt_of_le (hF b h9) hw.size
  have hGW : ∀ b, G b → b < (w.alloc (.cells #[.int .i64 x.many, .slice A x.list.length p] 28)).heap.size := fun b h9 => Nat.lt_of_lt_of_le (hG b h9) hw.size
  have v0 : (w.alloc (.cells #[.int .i64 x.many, .slice A x.list.length p] 28)).cell? ⟨w.heap.size, 0, none⟩ = some (.int .i64 x.many) := by simp [go_sem]
  have v1 : (w.alloc (.cells #[.int .i64 x.many, .slice A x.list.length p] 28)).cell? ⟨w.heap.size, 1, none⟩ = some (.slice A x.list.length p) := by simp [go_sem]
  have hlo : w.heap.size ≤ (w.alloc (.cells #[.int .i64 x.many, .slice A x.list.length p] 28)).heap.size := hw.size
  have hsrc := src_ints (Lay.Sl.below KP ((Below.refl _ _).alloc (Nat.le_refl _) (.cells #[] 3)) hGW)
  go_enter Try.func52, Try.ntmps52
  go_wp2_with (at_builtin; refine wpList_append_src _ (by rfl) (.tmp 10) (.tmp 11) _ (by rfl) (w.heap.size + 1) 3 i0 _ 1 8 Try.underlying25 hi0 hz0 hz1 hz2 (by rfl) (by omega) (.slice (some ⟨w.heap.size + 1, 0, none⟩) 0 0) 0 [] (by rfl) (own_lit0 (by simp)) B put.length q (put.map (Value.int .i64)) (by rfl) hsrc (ints_one _) put.length (by omega) (by unfold maxLen; omega) (by omega) (by simp) hB ?_; intro A1 c1 w1 hown1 hb1 _)
  clear hsrc
  have hWS : (w.alloc (.cells #[.int .i64 x.many, .slice A x.list.length p] 28)).heap.size = w.heap.size + 1 := by simp
  rw [← hWS] at hown1 hb1
  have hb1 : Below (w.alloc (.cells #[.int .i64 x.many, .slice A x.list.length p] 28)).heap.size (w.alloc (.cells #[.int .i64 x.many, .slice A x.list.length p] 28)) w1 := ((Below.refl _ _).alloc (Nat.le_refl _) _).trans hb1
  generalize w.alloc (.cells #[.int .i64 x.many, .slice A x.list.length p] 28) = W at *
  clear hWS
  have hown1 : OwnI w1 W.heap.size (.slice A1 put.length c1) put := by unfold OwnI; simpa using hown1
  have hSW : w.heap.size < W.heap.size := World.block_lt_of_cell? W _ v0
  clear h hp
  go_loopw [6] (fun s wr => ∃ (cur : List Int) (A2 : Option Addr) (c2 : Nat), s = .slice A2 cur.length c2 ∧ OwnI wr W.heap.size (.slice A2 cur.length c2) cur ∧ Good M cur ∧ units M x.list put = units M x.list cur ∧ Below W.heap.size W wr) (fun s _ => M - lenOf s)
  case atStart => exact ⟨put, A1, c1, rfl, hown1, hg, rfl, hb1⟩
  case round =>
    obtain ⟨cur, A2, c2, rfl, hown, hgc, hun, hb⟩ := hrel
    have HU := Lib.hid hun
    have hcl := hgc.length
    have d0 := Later.cell ((hb.cell (World.block_lt_of_cell? W _ v0)).trans v0)
    have d1 := Later.cell ((hb.cell (World.block_lt_of_cell? W _ v1)).trans v1)
    have hstep := units_step (many := (M : Int)) (cs := x.list) hcl
    obtain ⟨hcf1, hcf2⟩ := fdS_conf (put := cur) (cs := x.list)
    generalize hR : fdS cur x.list = R at *
    have HR := Lib.hid hR
    have HF1 := Lib.hid hcf1
    have HF2 := Lib.hid hcf2
    have HST := Lib.hid hstep
    clear hun hR hcf1 hcf2 hstep
    go_wp2

    refine wp_region_shares [[], [], [], [], [(2, 16), (3, 17)], [(0, 14), (1, 15), (4, 18)], [(5, 19)], [(6, 13)], [(6, 13)], [(6, 13)], [(7, 20)], [(8, 21)], [(9, 22)]]
      [.eq (.agg #[.int .i64 x.many, .slice A x.list.length p]), Fact.lit9, .eq (.agg #[.int .i64 x.many, .slice A x.list.length p]), .eq (.slice A2 cur.length c2), Fact.vals M cur, Fact.val9 wr (.tuple #[.int .i64 R.1, .int .i64 R.2.1, .int .i64 R.2.2]), Fact.val9 wr (.tuple #[.int .i64 R.1, .int .i64 R.2.1, .int .i64 R.2.2]), Fact.val9 wr (.int .i64 R.1), Fact.val9 wr (.int .i64 R.2.1), Fact.val9 wr (.int .i64 R.2.2), Fact.val9 wr (.int .i64 R.1), Fact.val9 wr (.int .i64 R.2.1), Fact.val9 wr (.int .i64 R.2.2)]
      [] [] [] [7, 8, 9, 10, 11, 12] [(0, 14), (1, 15), (2, 16), (3, 17), (4, 18), (5, 19), (6, 13), (7, 20), (8, 21), (9, 22), (10, 7), (11, 8), (12, 9)] (by kernel_rfl) (by kernel_rfl) (by kernel_rfl) (by kernel_rfl)
      ⟨?_, ?_, ?_, ?_, ?_, ?_, ?_, ?_, ?_, ?_, ?_, ?_, ?_, trivial⟩ ?_
    · intro vals xw hC hF
      have hC := hC.resolve_left (by simp)
      have hsz := hC.size
      have e1 : xw.cell? _ = _ := d0 ⟨xw, hC⟩
      have e2 : xw.cell? _ = _ := d1 ⟨xw, hC⟩
      simp only [putsD, Act.put, List.setIfInBounds_toArray, List.set_cons_zero, List.set_cons_succ]
      go_wp2
      exact ⟨rfl, rfl, .inr (Below.refl _ _), .inr (.inl (by simp))⟩
    · intro vals xw hC hF
      have hC := hC.resolve_left (by simp)
      have hsz := hC.size
      simp only [putsD, Act.put, List.setIfInBounds_toArray, List.set_cons_zero, List.set_cons_succ]
      go_wp2
      exact ⟨rfl, ⟨_, rfl⟩, .inr ((Below.refl _ _).alloc (Nat.le_refl _) _), .inr (.inl (by simp))⟩
    · intro vals xw hC hF
      have hC := hC.resolve_left (by simp)
      have hsz := hC.size
      have e1 : xw.cell? _ = _ := d0 ⟨xw, hC⟩
      have e2 : xw.cell? _ = _ := d1 ⟨xw, hC⟩
      simp only [putsD, Act.put, List.setIfInBounds_toArray, List.set_cons_zero, List.set_cons_succ]
      go_wp2
      exact ⟨rfl, rfl, .inr (Below.refl _ _), .inr (.inl (by simp))⟩
    · intro vals xw hC hF
      simp only [putsD, Act.put, List.setIfInBounds_toArray, List.set_cons_zero, List.set_cons_succ]
      go_wp2
      exact ⟨rfl, rfl, .inr (Below.refl _ _), .inr (.inl (by simp))⟩
    · intro vals xw hC hF
      have hC := hC.resolve_left (by simp)
      have hsz := hC.size
      simp only [factsD, List.getD_cons_zero, List.getD_cons_succ, Fact.eq, Fact.row, Fact.lit, Fact.lit0, Fact.of, and_true, Fact.vals, Fact.lit9, Fact.val9] at hF
      simp only [putsD, Act.put, List.setIfInBounds_toArray, List.set_cons_zero, List.set_cons_succ]
      simp only [hF]
      go_wp2_with fail
      refine (l5Vals_any A A2 p c2 M x cur _ xw HMM.out (by omega) (OwnI.rd (hown.up hC)) (fun _ h9 => h9) hgc (by omega)).mono ?_
      rintro e wx ⟨A9, c9, vs9, rfl, hv9, hr9, hb9⟩
      go_wp2
      exact ⟨rfl, ⟨A9, c9, vs9, rfl, hv9, hr9⟩, .inr hb9, .inr (.inl (by simp))⟩
    · intro vals xw hC hF
      have hC := hC.resolve_left (by simp)
      have hsz := hC.size
      simp only [factsD, List.getD_cons_zero, List.getD_cons_succ, Fact.eq, Fact.row, Fact.lit, Fact.lit0, Fact.of, and_true, Fact.vals, Fact.lit9, Fact.val9] at hF
      obtain ⟨e14, ⟨b9, e15⟩, A9, c9, vs9, e18, hv9, hr9⟩ := hF
      simp only [putsD, Act.put, List.setIfInBounds_toArray, List.set_cons_zero, List.set_cons_succ]
      simp only [e14, e15, e18]
      go_wp2_with fail
      have hfind := l5Find_any A (some ⟨b9, 0, none⟩) A9 p 0 c9 x [] M cur vs9 _ _ _ xw (Lay.Sl.up (K.below hb hFW |>.mono (fun b h9 => Nat.lt_of_lt_of_le (hFW b h9) hb.size)) hC) (Lay.Sl.nil _ _ (fun b => b < xw.heap.size) _) hr9 (fun _ h9 => h9) (fun _ h9 => h9) (fun _ h9 => h9) hgc hv9 (by omega) (by simpa using hr) hn (by simp)
      rw [List.append_nil, HR.out] at hfind
      refine hfind.mono ?_
      rintro e wx ⟨rfl, hb9⟩
      go_wp2
      exact ⟨rfl, ⟨rfl, bthen hC hb9⟩, .inr hb9, .inr (.inl (by simp))⟩
    · intro vals xw hC hF
      have hC := hC.resolve_left (by simp)
      have hsz := hC.size
      simp only [factsD, List.getD_cons_zero, List.getD_cons_succ, Fact.eq, Fact.row, Fact.lit, Fact.lit0, Fact.of, and_true, Fact.vals, Fact.lit9, Fact.val9] at hF
      obtain ⟨e9, _⟩ := hF
      simp only [putsD, Act.put, List.setIfInBounds_toArray, List.set_cons_zero, List.set_cons_succ]
      simp only [e9]
      go_wp2
      exact ⟨rfl, ⟨rfl, hC⟩, .inr (Below.refl _ _), .inr (.inl (by simp))⟩
    · intro vals xw hC hF
      have hC := hC.resolve_left (by simp)
      have hsz := hC.size
      simp only [factsD, List.getD_cons_zero, List.getD_cons_succ, Fact.eq, Fact.row, Fact.lit, Fact.lit0, Fact.of, and_true, Fact.vals, Fact.lit9, Fact.val9] at hF
      obtain ⟨e9, _⟩ := hF
      simp only [putsD, Act.put, List.setIfInBounds_toArray, List.set_cons_zero, List.set_cons_succ]
      simp only [e9]
      go_wp2
      exact ⟨rfl, ⟨rfl, hC⟩, .inr (Below.refl _ _), .inr (.inl (by simp))⟩
    · intro vals xw hC hF
      have hC := hC.resolve_left (by simp)
      have hsz := hC.size
      simp only [factsD, List.getD_cons_zero, List.getD_cons_succ, Fact.eq, Fact.row, Fact.lit, Fact.lit0, Fact.of, and_true, Fact.vals, Fact.lit9, Fact.val9] at hF
      obtain ⟨e9, _⟩ := hF
      simp only [putsD, Act.put, List.setIfInBounds_toArray, List.set_cons_zero, List.set_cons_succ]
      simp only [e9]
      go_wp2
      exact ⟨rfl, ⟨rfl, hC⟩, .inr (Below.refl _ _), .inr (.inl (by simp))⟩
    · intro vals xw hC hF
      have hC := hC.resolve_left (by simp)
      have hsz := hC.size
      simp only [factsD, List.getD_cons_zero, List.getD_cons_succ, Fact.eq, Fact.row, Fact.lit, Fact.lit0, Fact.of, and_true, Fact.vals, Fact.lit9, Fact.val9] at hF
      obtain ⟨e9, _⟩ := hF
      simp only [putsD, Act.put, List.setIfInBounds_toArray, List.set_cons_zero, List.set_cons_succ]
      simp only [e9]
      go_wp2
      exact ⟨rfl, ⟨rfl, hC⟩, .inr (Below.refl _ _), .inr (.inl (by simp))⟩
    · intro vals xw hC hF
      have hC := hC.resolve_left (by simp)
      have hsz := hC.size
      simp only [factsD, List.getD_cons_zero, List.getD_cons_succ, Fact.eq, Fact.row, Fact.lit, Fact.lit0, Fact.of, and_true, Fact.vals, Fact.lit9, Fact.val9] at hF
      obtain ⟨e9, _⟩ := hF
      simp only [putsD, Act.put, List.setIfInBounds_toArray, List.set_cons_zero, List.set_cons_succ]
      simp only [e9]
      go_wp2
      exact ⟨rfl, ⟨rfl, hC⟩, .inr (Below.refl _ _), .inr (.inl (by simp))⟩
    · intro vals xw hC hF
      have hC := hC.resolve_left (by simp)
      have hsz := hC.size
      simp only [factsD, List.getD_cons_zero, List.getD_cons_succ, Fact.eq, Fact.row, Fact.lit, Fact.lit0, Fact.of, and_true, Fact.vals, Fact.lit9, Fact.val9] at hF
      obtain ⟨e9, _⟩ := hF
      simp only [putsD, Act.put, List.setIfInBounds_toArray, List.set_cons_zero, List.set_cons_succ]
      simp only [e9]
      go_wp2
      exact ⟨rfl, ⟨rfl, hC⟩, .inr (Below.refl _ _), .inr (.inl (by simp))⟩
    · intro vals xw hC hF
      have hC := hC.resolve_left (by simp)
      have hsz := hC.size
      simp only [factsD, List.getD_cons_zero, List.getD_cons_succ, Fact.eq, Fact.row, Fact.lit, Fact.lit0, Fact.of, and_true, Fact.vals, Fact.lit9, Fact.val9] at hF
      obtain ⟨e9, _⟩ := hF
      simp only [putsD, Act.put, List.setIfInBounds_toArray, List.set_cons_zero, List.set_cons_succ]
      simp only [e9]
      go_wp2
      exact ⟨rfl, ⟨rfl, hC⟩, .inr (Below.refl _ _), .inr (.inl (by simp))⟩
    · intro vals xw hF
      simp only [facts, List.getD_cons_zero, List.getD_cons_succ, Fact.eq, Fact.row, Fact.lit, Fact.lit0, Fact.of, and_true, Fact.vals, Fact.lit9, Fact.val9] at hF
      obtain ⟨⟨e20, _⟩, ⟨e21, _⟩, ⟨e22, _⟩, ⟨e7, _⟩, ⟨e8, _⟩, e9, hbx⟩ := hF
      simp only [putsD, Act.put, List.setIfInBounds_toArray, List.set_cons_zero, List.set_cons_succ]
      simp only [e7, e8, e9]
      clear e20 e21 e22 e7 e8 e9 d0 d1
      have hown := hown.up hbx
      have hb := bthen hb hbx
      by_cases hc0 : 0 ≤ R.1
      · have HE := Lib.hid (show units M x.list put = (cur, true) by rw [HU.out, HST.out, if_pos (HF1.out.1 hc0)])
        have HO := Lib.hid hown
        clear hown
        go_wp2
        go_ret2
        rw [HE.out]
        exact ⟨A2, c2, rfl, own_mono HO.out hlo, bthen hw hb⟩
      have hc0' : ¬ 0 ≤ (fd cur x.list 0 (-1) 0).1 := fun h9 => hc0 (HF1.out.2 h9)
      have hRf := HF2.out (by omega)
      by_cases hu0 : R.2.1 < 0
      · have HE := Lib.hid (show units M x.list put = (cur, false) by rw [HU.out, HST.out, if_neg hc0', ← hRf, if_pos hu0])
        have HO := Lib.hid hown
        clear hown hc0' hRf
        go_wp2
        go_ret2
        rw [HE.out]
        exact ⟨A2, c2, rfl, own_mono HO.out hlo, bthen hw hb⟩
      have HE := Lib.hid (show units M x.list put = units M x.list (cur ++ [R.2.2]) by rw [HU.out, HST.out, if_neg hc0', ← hRf, if_neg hu0])
      have hgn : Good M (cur ++ [R.2.2]) := by rw [hRf]; exact hgc.next (fun cl h9 => (hr cl h9).1) (by rw [← hRf]; omega)
      have HGN := Lib.hid hgn
      have hnl := hgn.length
      rw [List.length_append, List.length_cons, List.length_nil] at hnl
      have HO : Hid (xw.ownsRow W.heap.size 3 1 (.slice A2 cur.length c2) cur.length (cur.map (Value.int .i64))) := Lib.hid hown
      have hsz9 := hb.size
      clear hown hc0' hRf hgn
      have hlo9 : W.heap.size ≤ xw.heap.size := hsz9
      go_wp2_with (at_builtin; refine wpList_append1 rfl _ _ 25 rfl W.heap.size 3 i0 _ 8 Try.underlying25 hi0 hz0 hz1 hz2 rfl (.slice A2 cur.length c2) cur.length _ (.int .i64 R.2.2) _ rfl HO.out rfl rfl (by unfold maxLen; omega) (by omega) hlo9 ?_; intro v6 w6 hown6 hb6)
      have ho6 : OwnI w6 W.heap.size v6 (cur ++ [R.2.2]) := by unfold OwnI; simpa using hown6
      obtain ⟨A6, c6, rfl, _, _⟩ := ho6.form
      have HO6 := Lib.hid ho6
      clear hown6 ho6
      have hb6' : Below W.heap.size W w6 := hb.trans hb6
      go_wp2
      go_roundw
      case rel => exact ⟨cur ++ [R.2.2], A6, c6, rfl, HO6.out, HGN.out, HE.out, hb6'⟩
      case measure => simp [lenOf]; omega
end Go.Proofs.Ytndolbplkjhooaa
