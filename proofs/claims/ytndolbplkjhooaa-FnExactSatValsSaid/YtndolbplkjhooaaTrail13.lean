/- The program's SatVals, SatOk. -/
import Derived.Test.YtndolbplkjhooaaTrail12
namespace Go.Proofs.Ytndolbplkjhooaa
open Go Go.RowKit

theorem implSatOk_u (x : C) (A : Option Addr) (a : Nat) (s : S) (P Q D : Option Addr) (p q d : Nat) (w : World) (h : Lay.int.slice.Rd w A x.list) (_ : x.list.length ≤ a) (hp : Lay.int.Rd w P s.put) (hq : Lay.int.Rd w Q s.why) (hd : Lay.int.slice.Rd w D s.learned)
    (_ : s.put.length ≤ p) (_ : s.why.length ≤ q) (_ : s.learned.length ≤ d) (sx : smCnf x) (ss : smS s) :
    Calls Try.prog 26 #[.agg #[.int .i64 x.many, .slice A x.list.length a], .agg #[.slice P s.put.length p, .slice Q s.why.length q, .slice D s.learned.length d, .int .i64 s.code]] w (RetB w (satOk x s)) := by
  obtain ⟨hw, hB0, hB1, hWS⟩ := two_boxes w (.cells #[.int .i64 x.many, .slice A x.list.length a] 28) (.cells #[.slice P s.put.length p, .slice Q s.why.length q, .slice D s.learned.length d, .int .i64 s.code] 46)
  generalize hW : (w.alloc (.cells #[.int .i64 x.many, .slice A x.list.length a] 28)).alloc (.cells #[.slice P s.put.length p, .slice Q s.why.length q, .slice D s.learned.length d, .int .i64 s.code] 46) = W at *
  have HC := Lib.hid (readSat_any x A a s P Q D p q d W (h.up hw) (hp.up hw) (hq.up hw) (hd.up hw) sx ss)
  have c0 : W.cell? ⟨w.heap.size, 0, none⟩ = some (.int .i64 x.many) := (cell_of_block hB0 0).1
  have c1 : W.cell? ⟨w.heap.size, 1, none⟩ = some (.slice A x.list.length a) := (cell_of_block hB0 1).1
  have d0 : W.cell? ⟨w.heap.size + 1, 0, none⟩ = some (.slice P s.put.length p) := (cell_of_block hB1 0).1
  have d1 : W.cell? ⟨w.heap.size + 1, 1, none⟩ = some (.slice Q s.why.length q) := (cell_of_block hB1 1).1
  have d2 : W.cell? ⟨w.heap.size + 1, 2, none⟩ = some (.slice D s.learned.length d) := (cell_of_block hB1 2).1
  have d3 : W.cell? ⟨w.heap.size + 1, 3, none⟩ = some (.int .i64 s.code) := (cell_of_block hB1 3).1
  have HW := Lib.hid hw
  clear h hp hq hd sx ss hw hB0 hB1 hWS
  go_enter Try.func26, Try.ntmps26
  go_wp2_with fail
  clear c0 c1 d0 d1 d2 d3 hW
  refine HC.out.mono ?_
  rintro e w1 ⟨hb, ⟨h1, r, rfl, _⟩ | ⟨h1, rfl⟩⟩
  all_goals
    have HB := Lib.hid (bthen HW.out hb)
    have HE := Lib.hid h1
    clear h1 hb
    go_wp2
    go_ret
    exact ⟨ret_bool (by rw [HE.out]), HB.out⟩

/-- What the marks say, of the first so many variables. -/
def BitsOf (M : Nat) (put : List Int) (bs : List Bool) : Prop := bs.length = M ∧ ∀ i (h : i < bs.length), bs[i] = decide (((i : Int) + 1) ∈ put)
theorem BitsOf.put {M : Nat} {put : List Int} {bs : List Bool} {l : Int} (h : BitsOf M put bs) (hg : Good M (put ++ [l])) : BitsOf M (put ++ [l]) (bs.set (l.natAbs - 1) (decide (0 < l))) := by
  have hr := hg.rng l (by simp)
  refine ⟨by simpa using h.1, fun i hi => ?_⟩
  rw [List.getElem_set]
  have hi' : i < bs.length := by simpa using hi
  split
  · rename_i he
    have hne : l.natAbs = i + 1 := by omega
    by_cases hl : 0 < l
    · rw [decide_eq_true hl, eq_comm, decide_eq_true_eq, show ((i : Int) + 1) = l by omega]; simp
    · rw [decide_eq_false hl, eq_comm, decide_eq_false_iff_not]
      intro hm
      exact hg.apart hm (by rw [show -((i : Int) + 1) = l by omega]; simp)
  · rename_i he
    rw [h.2 i hi']
    have : ((i : Int) + 1 ∈ put ++ [l]) ↔ ((i : Int) + 1 ∈ put) := by
      rw [List.mem_append, List.mem_singleton]
      constructor
      · rintro (h9 | h9)
        · exact h9
        · omega
      · exact .inl
    simp [this]
theorem BitsOf.done {x : C} {s : S} {bs : List Bool} (h : BitsOf x.many.toNat s.put bs) : bs = valsP x s := by
  refine List.ext_getElem (by rw [h.1, valsP_len]) fun i h1 h2 => ?_
  rw [h.2 i h1, valsP_get]
set_option maxRecDepth 100000 in
set_option maxHeartbeats 1000000 in
theorem vals_any (lo r M : Nat) (x : C) (s : S) (w : World) (h : SrAt lo w r x s) (hM : x.many = (M : Int)) (hg : Good M s.put) (hM7 : M ≤ 700) :
    Calls Try.prog 63 #[.pointer (some ⟨r, 0, none⟩)] w (ResB (valsP x s) w) := by
  obtain ⟨i0, hi0, hz0, hz1, hz2⟩ := info_parts bool_info
  obtain ⟨A, a, t, W, D, d, ls, hs, A', B', c', d', Q', pl', ht⟩ := h
  have hml := hg.length
  have c0 : w.cell? ⟨r, 0, none⟩ = some (.int .i64 (M : Int)) := by have := (cell_of_block hs 0).1; rw [hM] at this; exact this
  have c2 : w.cell? ⟨r, 2, none⟩ = some (.pointer (some ⟨t, 0, none⟩)) := (cell_of_block hs 2).1
  have z0 : w.cell? ⟨t, 0, none⟩ = some (.slice A' s.put.length c') := (cell_of_block ht.blk 0).1
  have HRD := Lib.hid (OwnI.rd ht.hput)
  have HMN := Lib.hid (show x.many.toNat = M by omega)
  have hl1 := World.block_lt_of_cell? w _ c2
  have hl2 := World.block_lt_of_cell? w _ z0
  have HG := Lib.hid hg
  clear hs ht hM hg
  go_enter Try.func63, Try.ntmps63
  go_wp2_with (at_make; refine wpList_make_full w rfl _ _ 51 rfl w.heap.size 4 i0 _ 1 Try.underlying51 hi0 hz0 hz1 .i64 .i64 _ _ M rfl rfl rfl rfl (by rw [hz2]; omega) (by unfold maxLen; omega) (Nat.le_refl _) ?_; intro w1 hown hg1; have hb1 : Below w.heap.size w w1 := (Below.refl _ _).grown hg1 (Nat.le_refl _) (by simp); have C2 := (hb1.cell (p := ⟨r, 2, none⟩) hl1).trans c2; have Z0 := (hb1.cell (p := ⟨t, 0, none⟩) hl2).trans z0; clear c2 z0 c0 hg1 hi0 hz0 hz1 hz2)
  rw [show (madeCells (Value.bool false).cells (M * 1)).toList = (List.replicate M false).map Value.bool from by
    rw [show (Value.bool false).cells = #[Value.bool false] from rfl, toList_madeCells_one]; simp] at hown
  clear C2 Z0
  go_loopw [20] (fun i wr => ∃ (k : Nat) (bs : List Bool), k ≤ s.put.length ∧ i = .int .i64 k ∧ Below w.heap.size w wr ∧ wr.ownsRow w.heap.size 4 1 (.slice (some ⟨w.heap.size, 0, none⟩) M M) M (bs.map Value.bool) ∧ BitsOf M (s.put.take k) bs) (fun i _ => s.put.length - (intOf i).toNat)
  case atStart => exact ⟨0, _, Nat.zero_le _, rfl, hb1, hown, by simp, fun i h => by simp⟩
  case round =>
    obtain ⟨k, bs, hk, rfl, hb, ho, hbs⟩ := hrel
    have HBS := Lib.hid hbs
    clear hbs
    by_cases hlt : k < s.put.length
    · obtain ⟨ad, rfl, hf, hc⟩ := (HRD.out.up hb).at_int hlt
      have hk1 : (k : Int) < s.put.length := by omega
      have htk : s.put.take (k + 1) = s.put.take k ++ [s.put[k]] := List.take_succ_eq_append_getElem hlt
      have hgk : Good M (s.put.take (k + 1)) := ⟨fun l hl => HG.out.rng l (List.mem_of_mem_take hl), by rw [List.map_take]; exact List.Pairwise.sublist (List.take_sublist _ _) HG.out.nodup⟩
      have hrng := HG.out.rng _ (List.getElem_mem hlt)
      generalize s.put[k] = m at *
      rw [htk] at hgk
      have HTK := Lib.hid htk
      have HBN := Lib.hid (HBS.out.put hgk)
      obtain ⟨na, hna⟩ : ∃ na : Int, na = m.natAbs := ⟨_, rfl⟩
      have qa : ∀ V : World, Calls Try.prog 90 #[.int .i64 m] V fun e w' => e = .returned (.int .i64 na) ∧ V = w' := fun V => by rw [hna]; exact variable_any m V (by omega) (by omega)
      have Qa := Lib.hid qa
      have hn0 : 0 ≤ na - 1 := by omega
      have hn1 : na - 1 < (M : Int) := by omega
      have e1 : IntKind.i64.wrap (na - 1) = na - 1 := IntWalk.i64_in _ (by omega)
      have HNA := Lib.hid (show (na.toNat - 1) = m.natAbs - 1 by omega)
      have hbl : bs.length = M := HBS.out.1
      obtain ⟨v0, hold⟩ : ∃ v0, wr.cell? ⟨w.heap.size, (na.toNat - 1), none⟩ = some v0 := ⟨_, by rw [ho.cellAt (na.toNat - 1) (by omega), List.getElem?_map, List.getElem?_eq_getElem (by omega), Option.map_some]⟩
      have hfr : wr.frozen? ⟨w.heap.size, (na.toNat - 1), none⟩ = false := ho.frozenAt _
      have hst := (ho.stored (na.toNat - 1) (.bool (decide (0 < m)))).1
      rw [← List.map_set] at hst
      have HST := Lib.hid hst
      have HB := Lib.hid hb
      clear hst hna qa htk hgk hrng ho hb hbl
      go_wp2_with fail
      refine (Qa.out _).mono ?_
      rintro e w' ⟨rfl, rfl⟩
      go_wp2
      go_roundw
      case rel => exact ⟨k + 1, _, by omega, by go_num, HB.out.setCell (Nat.le_refl _) _, HST.out, by rw [HTK.out, HNA.out]; exact HBN.out⟩
      case measure => simp [intOf]; omega
    · have hke : k = s.put.length := by omega
      subst hke
      rw [List.take_length] at HBS
      have HD := Lib.hid (BitsOf.done (x := x) (s := s) (by rw [HMN.out]; exact HBS.out))
      have HO := Lib.hid ho
      have HB := Lib.hid hb
      clear ho hb
      go_wp2
      go_ret
      rw [← HD.out]
      exact resB_of HO.out (Nat.le_refl _) HB.out
theorem resB_nil (w : World) : ResB [] w (.returned (.slice none 0 0)) w := ⟨none, 0, rfl, Nat.le_refl _, Lay.Sl.nil _ _ _ _, Below.refl _ _⟩
theorem ResB.then {r : List Bool} {w w1 : World} {e : Ending} {w' : World} (h : ResB r w1 e w') (hb : Below w.heap.size w w1) : ResB r w e w' := by
  obtain ⟨A, c, h1, h2, h3, h4⟩ := h
  exact ⟨A, c, h1, h2, h3.own_mono hb.size, bthen hb h4⟩
theorem implSatVals_u (x : C) (A : Option Addr) (a : Nat) (s : S) (P Q D : Option Addr) (p q d : Nat) (w : World) (h : Lay.int.slice.Rd w A x.list) (_ : x.list.length ≤ a) (hp : Lay.int.Rd w P s.put) (hq : Lay.int.Rd w Q s.why) (hd : Lay.int.slice.Rd w D s.learned)
    (_ : s.put.length ≤ p) (_ : s.why.length ≤ q) (_ : s.learned.length ≤ d) (sx : smCnf x) (ss : smS s) :
    Calls Try.prog 32 #[.agg #[.int .i64 x.many, .slice A x.list.length a], .agg #[.slice P s.put.length p, .slice Q s.why.length q, .slice D s.learned.length d, .int .i64 s.code]] w (ResB (satVals x s) w) := by
  obtain ⟨hw, hB0, hB1, hWS⟩ := two_boxes w (.cells #[.int .i64 x.many, .slice A x.list.length a] 28) (.cells #[.slice P s.put.length p, .slice Q s.why.length q, .slice D s.learned.length d, .int .i64 s.code] 46)
  generalize hW : (w.alloc (.cells #[.int .i64 x.many, .slice A x.list.length a] 28)).alloc (.cells #[.slice P s.put.length p, .slice Q s.why.length q, .slice D s.learned.length d, .int .i64 s.code] 46) = W at *
  have HC := Lib.hid (readSat_any x A a s P Q D p q d W (h.up hw) (hp.up hw) (hq.up hw) (hd.up hw) sx ss)
  have c0 : W.cell? ⟨w.heap.size, 0, none⟩ = some (.int .i64 x.many) := (cell_of_block hB0 0).1
  have c1 : W.cell? ⟨w.heap.size, 1, none⟩ = some (.slice A x.list.length a) := (cell_of_block hB0 1).1
  have d0 : W.cell? ⟨w.heap.size + 1, 0, none⟩ = some (.slice P s.put.length p) := (cell_of_block hB1 0).1
  have d1 : W.cell? ⟨w.heap.size + 1, 1, none⟩ = some (.slice Q s.why.length q) := (cell_of_block hB1 1).1
  have d2 : W.cell? ⟨w.heap.size + 1, 2, none⟩ = some (.slice D s.learned.length d) := (cell_of_block hB1 2).1
  have d3 : W.cell? ⟨w.heap.size + 1, 3, none⟩ = some (.int .i64 s.code) := (cell_of_block hB1 3).1
  have HW := Lib.hid hw
  clear h hp hq hd sx ss hw hB0 hB1 hWS
  go_enter Try.func32, Try.ntmps32
  go_wp2_with fail
  clear c0 c1 d0 d1 d2 d3 hW
  refine HC.out.mono ?_
  rintro e w1 ⟨hb, ⟨h1, r, rfl, hsr⟩ | ⟨h1, rfl⟩⟩
  · have HB := Lib.hid (bthen HW.out hb)
    have hG := (satOk_iff x s).1 h1
    have hi := (cnfOk_iff x).1 hG.cnf
    obtain ⟨M, hM⟩ := Int.eq_ofNat_of_zero_le hi.1
    have HV := Lib.hid (vals_any _ r M x s w1 hsr hM (by rw [← hM]; exact hG.good) (by have := hi.2.1; omega))
    have HE := Lib.hid (show satVals x s = valsP x s by unfold satVals; rw [h1]; rfl)
    clear h1 hb hG hi hM hsr
    go_wp2_with fail
    refine HV.out.mono ?_
    rintro e w2 ⟨A9, c9, rfl, hc9, hs9, hb9⟩
    have HF : Hid (ResB (satVals x s) w (.returned (.slice A9 (valsP x s).length c9)) w2) := Lib.hid (by rw [HE.out]; exact ResB.then ⟨A9, c9, rfl, hc9, hs9, hb9⟩ HB.out)
    clear hc9 hs9 hb9
    go_wp2
    go_ret
    exact HF.out
  · have HB := Lib.hid (bthen HW.out hb)
    have HF : Hid (ResB (satVals x s) w (.returned (.slice none 0 0)) w1) := Lib.hid (by rw [show satVals x s = [] by unfold satVals; rw [h1]; rfl]; exact (resB_nil w1).then HB.out)
    clear h1 hb
    go_wp2
    go_ret
    exact HF.out
end Go.Proofs.Ytndolbplkjhooaa
