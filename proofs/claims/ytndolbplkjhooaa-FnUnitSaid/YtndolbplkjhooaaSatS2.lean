/- The reference's SatOk: the reasons; whole. -/
import Derived.Test.YtndolbplkjhooaaSatS
namespace Go.Proofs.Ytndolbplkjhooaa
open Go Go.RowKit

theorem whyOk_low {cs : List (List Int)} {pre : List Int} {m k : Int} (h : k < -1) : whyOk cs pre m k = false := by
  unfold whyOk
  have h1 : (k == -1) = false := by simp; omega
  have h2 : decide (0 ≤ k) = false := by simp; omega
  rw [h1, h2]; rfl
theorem whyOk_high {cs : List (List Int)} {pre : List Int} {m k : Int} (h : (cs.length : Int) ≤ k) : whyOk cs pre m k = false := by
  unfold whyOk
  have h1 : (k == -1) = false := by simp; omega
  have h2 : decide (k < cs.length) = false := by simp only [decide_eq_false_iff_not]; omega
  rw [h1, h2]; simp
theorem whyOk_in {cs : List (List Int)} {pre : List Int} {m : Int} {k : Nat} (h : k < cs.length) : whyOk cs pre m k = because pre (cs.getD k []) m := by
  unfold whyOk
  have h1 : ((k : Int) == -1) = false := by simp only [beq_eq_false_iff_ne]; omega
  have h2 : decide ((0 : Int) ≤ (k : Int)) = true := by simp only [decide_eq_true_eq]; omega
  have h3 : decide ((k : Int) < cs.length) = true := by simp only [decide_eq_true_eq]; omega
  rw [h1, h2, h3]; simp
theorem Vals.put {M : Nat} {pre vs : List Int} {l : Int} (h : Vals M pre vs) (h0 : l ≠ 0) (h1 : l ∉ pre) (h2 : -l ∉ pre) (h3 : l.natAbs ≤ M) : Vals M (pre ++ [l]) (vs.set l.natAbs (if l < 0 then -1 else 1)) := by
  refine ⟨by rw [List.length_set]; exact h.1, fun v hv1 hv2 => ?_⟩
  rw [sg_snoc h1 h2 (by omega), List.getElem?_set]
  by_cases e : l.natAbs = v
  · rw [if_pos e, if_pos (by rw [h.1]; omega)]
    by_cases hn : l < 0
    · rw [if_pos hn, if_neg (by omega), if_pos (by omega)]
    · rw [if_neg hn, if_pos (by omega)]
  · rw [if_neg e, h.2 v hv1 hv2, if_neg (by omega), if_neg (by omega)]
/-- The reference's world at the reasons: both boxes, the row of values. -/
def RetWh (c : C) (s : S) (w : World) (e : Ending) (w' : World) : Prop := e = .returned (.bool (whysF (c.list ++ s.learned) [] s.put s.why)) ∧ Below w.heap.size w w'
set_option maxRecDepth 100000 in
set_option maxHeartbeats 4000000 in
theorem l5Whys_any (x : C) (s : S) (A P Q D : Option Addr) (a p q d M : Nat) (F G : Nat → Prop) (w : World) (h : Lay.int.slice.Sl w F A x.list) (hF : ∀ b, F b → b < w.heap.size) (hs : SatR w G P Q D s) (hG : ∀ b, G b → b < w.heap.size)
    (hM : x.many = (M : Int)) (hM7 : M ≤ 700) (hg : Good M s.put) (hlen : s.put.length = s.why.length) (hcl : ∀ cl ∈ x.list ++ s.learned, clOk M cl = true) (hn : ∀ cl ∈ x.list ++ s.learned, cl.length ≤ 1048576) (hx : x.list.length ≤ 1048576) (hl : s.learned.length ≤ 1048576) (hw64 : ∀ k ∈ s.why, okInt k) :
    Calls Try.prog 55 #[.agg #[.int .i64 x.many, .slice A x.list.length a], .agg #[.slice P s.put.length p, .slice Q s.why.length q, .slice D s.learned.length d, .int .i64 s.code]] w (RetWh x s w) := by
  obtain ⟨i0, hi0, hz0, hz1, hz2⟩ := info_parts int_info
  have hpl := hg.length
  have hpn : s.put.length ≤ 1048576 := by omega
  have HMM := Lib.hid hM
  rw [hM]
  clear hM
  have hw1 : Below w.heap.size w (w.alloc (.cells #[.int .i64 (M : Int), .slice A x.list.length a] 28)) := (Below.refl _ _).alloc (Nat.le_refl _) _
  have hw : Below w.heap.size w ((w.alloc (.cells #[.int .i64 (M : Int), .slice A x.list.length a] 28)).alloc (.cells #[.slice P s.put.length p, .slice Q s.why.length q, .slice D s.learned.length d, .int .i64 s.code] 46)) := hw1.alloc (by simp) _
  have hB0 : ((w.alloc (.cells #[.int .i64 (M : Int), .slice A x.list.length a] 28)).alloc (.cells #[.slice P s.put.length p, .slice Q s.why.length q, .slice D s.learned.length d, .int .i64 s.code] 46)).heap[w.heap.size]? = some (.cells #[.int .i64 (M : Int), .slice A x.list.length a] 28 (0, 0)) := by
    have h1 := heap_alloc_new w (.cells #[.int .i64 (M : Int), .slice A x.list.length a] 28)
    exact (((Below.refl _ _).alloc (Nat.le_refl _) _).block _ (by simp)).trans h1
  have hB1 : ((w.alloc (.cells #[.int .i64 (M : Int), .slice A x.list.length a] 28)).alloc (.cells #[.slice P s.put.length p, .slice Q s.why.length q, .slice D s.learned.length d, .int .i64 s.code] 46)).heap[w.heap.size + 1]? = some (.cells #[.slice P s.put.length p, .slice Q s.why.length q, .slice D s.learned.length d, .int .i64 s.code] 46 (0, 0)) := by
    have h1 := heap_alloc_new (w.alloc (.cells #[.int .i64 (M : Int), .slice A x.list.length a] 28)) (.cells #[.slice P s.put.length p, .slice Q s.why.length q, .slice D s.learned.length d, .int .i64 s.code] 46)
    simpa using h1
  have hWS : ((w.alloc (.cells #[.int .i64 (M : Int), .slice A x.list.length a] 28)).alloc (.cells #[.slice P s.put.length p, .slice Q s.why.length q, .slice D s.learned.length d, .int .i64 s.code] 46)).heap.size = w.heap.size + 1 + 1 := by simp
  have HK := Lib.hid (h.below hw hF)
  have HS := Lib.hid (hs.below hw hG)
  have HFW : Hid (∀ b, F b → b < w.heap.size + 1 + 1) := Lib.hid fun b h9 => by have := hF b h9; omega
  have HGW : Hid (∀ b, G b → b < w.heap.size + 1 + 1) := Lib.hid fun b h9 => by have := hG b h9; omega
  have HG := Lib.hid hg
  have HLEN := Lib.hid hlen
  have HCL := Lib.hid hcl
  have HN := Lib.hid hn
  have HW64 := Lib.hid hw64
  clear h hF hs hG hg hcl hn hw1 hpl hw64 hlen
  have HWS := Lib.hid hWS
  have HB0 := Lib.hid hB0
  have HB1 := Lib.hid hB1
  clear hWS hB0 hB1
  go_enter Try.func55, Try.ntmps55
  go_wp2_with (at_make; refine wpList_make_full _ rfl _ _ 25 rfl ((w.alloc (.cells #[.int .i64 (M : Int), .slice A x.list.length a] 28)).alloc (.cells #[.slice P s.put.length p, .slice Q s.why.length q, .slice D s.learned.length d, .int .i64 s.code] 46)).heap.size 3 i0 _ 1 Try.underlying25 hi0 hz0 hz1 .i64 .i64 _ _ (M + 1) rfl rfl (by push_cast; rfl) (by push_cast; rfl) (by rw [hz2]; omega) (by unfold maxLen; omega) (Nat.le_refl _) ?_; intro w1 hown hg1)
  have H1 := Lib.hid hg1
  clear hg1 hi0 hz0 hz1 hz2
  have HBW := Lib.hid hw
  clear hw
  generalize (w.alloc (.cells #[.int .i64 (M : Int), .slice A x.list.length a] 28)).alloc (.cells #[.slice P s.put.length p, .slice Q s.why.length q, .slice D s.learned.length d, .int .i64 s.code] 46) = W at *
  have hb1 : Below W.heap.size W w1 := (Below.refl _ _).grown H1.out (Nat.le_refl _) (by simp)
  rw [show (madeCells (Value.int .i64 0).cells ((M + 1) * 1)).toList = (List.replicate (M + 1) (0 : Int)).map (Value.int .i64) from by
    rw [show (Value.int .i64 0).cells = #[Value.int .i64 0] from rfl, toList_madeCells_one]; simp] at hown
  rw [HWS.out] at hown
  generalize hcs : x.list ++ s.learned = cs at *
  have HCS := Lib.hid hcs
  have HCN := Lib.hid (show cs.length = x.list.length + s.learned.length by rw [← hcs]; simp)
  clear hcs
  go_loopw [7] (fun i wr => ∃ (k : Nat) (vs : List Int), k ≤ s.put.length ∧ i = .int .i64 k ∧ Below W.heap.size W wr ∧ wr.ownsRow (w.heap.size + 1 + 1) 3 1 (.slice (some ⟨w.heap.size + 1 + 1, 0, none⟩) (M + 1) (M + 1)) (M + 1) (vs.map (Value.int .i64)) ∧ Vals M (s.put.take k) vs ∧
     whysF cs [] s.put s.why = whysF cs (s.put.take k) (s.put.drop k) (s.why.drop k)) (fun i _ => s.put.length - (intOf i).toNat)
  case atStart => exact ⟨0, _, Nat.zero_le _, rfl, hb1, hown, ⟨by simp, fun v h1 h2 => by rw [List.getElem?_replicate, if_pos (by omega)]; rfl⟩, rfl⟩
  case round =>
    obtain ⟨k, vs, hk, rfl, hb, ho, hvs, ht⟩ := hrel
    have HV := Lib.hid hvs
    have HT := Lib.hid ht
    have HO := Lib.hid ho
    have HB := Lib.hid hb
    clear hvs ht ho hb
    have b0 : wr.heap[w.heap.size]? = _ := (HB.out.block _ (lt_of_block HB0.out)).trans HB0.out
    have b1 : wr.heap[w.heap.size + 1]? = _ := (HB.out.block _ (lt_of_block HB1.out)).trans HB1.out
    have c0 := (cell_of_block b0 0).1
    have c1 := (cell_of_block b0 1).1
    have d0 := (cell_of_block b1 0).1
    have d1 := (cell_of_block b1 1).1
    have d2 := (cell_of_block b1 2).1
    have d3 := (cell_of_block b1 3).1
    have c0 : wr.cell? ⟨w.heap.size, 0, none⟩ = some (.int .i64 (M : Int)) := c0
    have c1 : wr.cell? ⟨w.heap.size, 1, none⟩ = some (.slice A x.list.length a) := c1
    have d0 : wr.cell? ⟨w.heap.size + 1, 0, none⟩ = some (.slice P s.put.length p) := d0
    have d1 : wr.cell? ⟨w.heap.size + 1, 1, none⟩ = some (.slice Q s.why.length q) := d1
    have d2 : wr.cell? ⟨w.heap.size + 1, 2, none⟩ = some (.slice D s.learned.length d) := d2
    have d3 : wr.cell? ⟨w.heap.size + 1, 3, none⟩ = some (.int .i64 s.code) := d3
    clear b0 b1
    have hszW := HWS.out
    have HSR := Lib.hid (HS.out.below HB.out (fun b h9 => by have := HGW.out b h9; omega))
    have HKR := Lib.hid (HK.out.below HB.out (fun b h9 => by have := HFW.out b h9; omega))
    clear hszW
    by_cases hlt : k < s.put.length
    · have hltw : k < s.why.length := by have := HLEN.out; omega
      obtain ⟨ad, rfl, hf, hc⟩ := HSR.out.a.at_int hlt
      obtain ⟨ad2, rfl, hf2, hc2⟩ := HSR.out.b.at_int hltw
      have hk1 : (k : Int) < s.put.length := by omega
      have hk2 : (k : Int) < s.why.length := by omega
      have hmem : s.put[k] ∈ s.put := List.getElem_mem hlt
      have HR := Lib.hid (HG.out.rng _ hmem)
      have HAT := Lib.hid (HG.out.at hlt)
      have HGK : Hid (Good M (s.put.take k)) := Lib.hid ⟨fun l hl => HG.out.rng l (List.mem_of_mem_take hl), by rw [List.map_take]; exact List.Pairwise.sublist (List.take_sublist _ _) HG.out.nodup⟩
      have HTK := Lib.hid (show s.put.take (k + 1) = s.put.take k ++ [s.put[k]] from List.take_succ_eq_append_getElem hlt)
      have HD := Lib.hid (HT.out.trans (whysF_drop hlt hltw))
      have HI := Lib.hid (HW64.out _ (List.getElem_mem hltw))
      have hi1 : -9223372036854775808 ≤ s.why[k] := HI.out.1
      have hi2 : s.why[k] ≤ 9223372036854775807 := HI.out.2
      generalize s.put[k] = m at *
      generalize s.why[k] = y at *
      have hr0 := HR.out.2.1
      have hr1 := HR.out.2.2
      have e16 : IntKind.i64.wrap ((x.list.length : Int) + s.learned.length) = (x.list.length : Int) + s.learned.length := IntWalk.i64_in _ (by omega)
      by_cases h1 : y < -1
      · have HE := Lib.hid (show whysF cs [] s.put s.why = false by rw [HD.out, whyOk_low h1]; rfl)
        have q1 : decide (y < -1) = true := by simpa using h1
        clear h1 hmem e16
        go_wp2
        go_quiet (fail)
        go_wp2
        go_ret
        exact ⟨ret_bool (by rw [HCS.out, HE.out]), below_drewN (bthen HBW.out HB.out) _⟩
      have q1 : decide (y < -1) = false := by simpa using h1
      by_cases h2 : (x.list.length : Int) + s.learned.length ≤ y
      · have HE := Lib.hid (show whysF cs [] s.put s.why = false by rw [HD.out, whyOk_high (by rw [HCN.out]; omega)]; rfl)
        have q2 : decide ((x.list.length : Int) + s.learned.length ≤ y) = true := by simpa using h2
        clear h1 h2 hmem e16
        go_wp2
        go_quiet (fail)
        go_wp2
        go_ret
        exact ⟨ret_bool (by rw [HCS.out, HE.out]), below_drewN (bthen HBW.out HB.out) _⟩
      have q2 : decide ((x.list.length : Int) + s.learned.length ≤ y) = false := by simpa using h2
      by_cases h3 : y = -1
      · have HE := Lib.hid (show whysF cs [] s.put s.why = whysF cs (s.put.take k ++ [m]) (s.put.drop (k + 1)) (s.why.drop (k + 1)) by rw [HD.out, h3]; simp [whyOk])
        subst h3
        clear h1 h2 hmem e16 q1 q2
        have q2 : decide ((x.list.length : Int) + s.learned.length ≤ -1) = false := by simp; omega
        go_wp2
        go_quiet (fail)
        have HB9 := Lib.hid (below_drewN HB.out nq)
        have HO9 : Hid ((wr.drewN nq).ownsRow (w.heap.size + 1 + 1) 3 1 (.slice (some ⟨w.heap.size + 1 + 1, 0, none⟩) (M + 1) (M + 1)) (M + 1) (vs.map (Value.int .i64))) := Lib.hid (own_below HO.out (below_drewN (Below.refl _ _) nq) (Nat.le_refl _))
        have HC9 : Hid ((wr.drewN nq).cell? (ad.add k) = some (.int .i64 m)) := Lib.hid hc
        clear c0 c1 d0 d1 d2 d3 hc hc2 q2
        generalize wr.drewN nq = W9 at *
        have b0 : W9.heap[w.heap.size]? = _ := (HB9.out.block _ (lt_of_block HB0.out)).trans HB0.out
        have b1 : W9.heap[w.heap.size + 1]? = _ := (HB9.out.block _ (lt_of_block HB1.out)).trans HB1.out
        have d0 : W9.cell? ⟨w.heap.size + 1, 0, none⟩ = some (.slice (some ad) s.put.length p) := (cell_of_block b1 0).1
        have c9 : W9.cell? (ad.add k) = some (.int .i64 m) := HC9.out
        clear b0 b1
        obtain ⟨na, hna⟩ : ∃ na : Int, na = m.natAbs := ⟨_, rfl⟩
        have qa : ∀ V : World, Calls Try.prog 64 #[.int .i64 m] V fun e w' => e = .returned (.int .i64 na) ∧ V = w' := fun V => by rw [hna]; exact l4Abs_any m V (by omega) (by omega)
        have Qa := Lib.hid qa
        have hn0 : 0 ≤ na := by omega
        have hn1 : na < (M : Int) + 1 := by omega
        have hn2 : na < ((M + 1 : Nat) : Int) := by omega
        have hm0 : m ≠ 0 := HR.out.1
        have hlen : vs.length = M + 1 := HV.out.1
        obtain ⟨v0, hold⟩ : ∃ v0, W9.cell? ⟨w.heap.size + 1 + 1, na.toNat, none⟩ = some v0 := ⟨_, by rw [HO9.out.cellAt na.toNat (by omega), List.getElem?_map, List.getElem?_eq_getElem (by omega), Option.map_some]⟩
        have hfr : W9.frozen? ⟨w.heap.size + 1 + 1, na.toNat, none⟩ = false := HO9.out.frozenAt na.toNat
        have hst := (HO9.out.stored na.toNat (.int .i64 1)).1
        rw [← List.map_set] at hst
        have HST := Lib.hid hst
        have HVN := Lib.hid (HV.out.put hm0 HAT.out.1 HAT.out.2 (by omega))
        have HNA := Lib.hid (show na.toNat = m.natAbs by omega)
        have HWL : Hid (W.heap.size ≤ w.heap.size + 1 + 1) := Lib.hid (by have := HWS.out; omega)
        clear hst hlen hna qa
        by_cases hneg : m < 0
        · have hm1 : -m = na := by have := HNA.out; omega
          have HM1 := Lib.hid hm1
          have hst2 := (HST.out.stored na.toNat (.int .i64 (-1))).1
          rw [← List.map_set, List.set_set] at hst2
          have HST2 := Lib.hid hst2
          have HVN2 : Hid (Vals M (s.put.take (k + 1)) (vs.set na.toNat (-1))) := Lib.hid (by have := HVN.out; rw [if_pos hneg] at this; rw [HTK.out, HNA.out]; exact this)
          have hx : IntKind.i64.wrap (-m) = na := by rw [hm1]; exact IntWalk.i64_in _ (by omega)
          clear hst2 hm1
          go_wp2_with fail
          refine (Qa.out _).mono ?_
          rintro e w' ⟨rfl, rfl⟩
          go_wp2
          go_roundw
          case rel => exact ⟨k + 1, _, by omega, by go_num, (HB9.out.setCell HWL.out _).setCell HWL.out _, HST2.out, HVN2.out, by rw [HE.out, HTK.out]⟩
          case measure => simp [intOf]; omega
        · have HVN2 : Hid (Vals M (s.put.take (k + 1)) (vs.set na.toNat 1)) := Lib.hid (by have := HVN.out; rw [if_neg hneg] at this; rw [HTK.out, HNA.out]; exact this)
          go_wp2_with fail
          refine (Qa.out _).mono ?_
          rintro e w' ⟨rfl, rfl⟩
          go_wp2
          go_roundw
          case rel => exact ⟨k + 1, _, by omega, by go_num, HB9.out.setCell HWL.out _, HST.out, HVN2.out, by rw [HE.out, HTK.out]⟩
          case measure => simp [intOf]; omega
      obtain ⟨yn, hyn⟩ : ∃ yn : Nat, y = (yn : Int) := ⟨y.toNat, by omega⟩
      subst hyn
      have hyl : yn < cs.length := by rw [HCN.out]; omega
      obtain ⟨A', c', sl, _, hat⟩ := clause_at (HKR.out.mono (G := fun b => F b ∨ G b) fun _ h => .inl h) (HSR.out.d.mono (G := fun b => F b ∨ G b) fun _ h => .inr h) (k := yn) (by omega)
      rw [HCS.out] at sl hat
      have hcm : cs.getD yn [] ∈ cs := by rw [List.getD_eq_getElem?_getD, List.getElem?_eq_getElem hyl]; exact List.getElem_mem hyl
      have HIN := Lib.hid (whyOk_in (pre := s.put.take k) (m := m) hyl)
      have hcl9 := clOk_rng (HCL.out _ hcm)
      have hn9 := HN.out _ hcm
      generalize cs.getD yn [] = cl at *
      have LAT : Hid (∀ x9 : Later wr, Calls Try.prog 79 #[.agg #[.int .i64 x.many, .slice A x.list.length a], .agg #[.slice (some ad) s.put.length p, .slice (some ad2) s.why.length q, .slice D s.learned.length d, .int .i64 s.code], .int .i64 yn] x9.W fun e w' => e = .returned (.slice A' cl.length c') ∧ Below x9.W.heap.size x9.W w') :=
        Lib.hid fun x9 => l5At_any x s A (some ad) (some ad2) D a p q d yn _ x9.W hx (by
          rcases hat with ⟨h8, ad9, e9, hc9⟩ | ⟨h8, ad9, e9, hc9⟩
          · exact .inl ⟨h8, ad9, e9, Later.cell hc9 x9⟩
          · exact .inr ⟨h8, ad9, e9, Later.cell hc9 x9⟩) (by rw [← HCN.out]; exact hyl) hl
      have hGr : ∀ b, (F b ∨ G b) → b < wr.heap.size := fun b h9 => by
        have h8 := HB.out.size; have h7 := HWS.out
        rcases h9 with h9 | h9
        · have := HFW.out b h9; omega
        · have := HGW.out b h9; omega
      have hvr : Lay.int.Rd wr (some ⟨w.heap.size + 1 + 1, 0, none⟩) vs := (sl_ints_of_own (F := fun b => b < wr.heap.size) HO.out (fun g _ h9 => h9)).1
      have hvl := HV.out.1
      have hMb := hM7
      have LB : Hid (∀ x9 : Later wr, Calls Try.prog 78 #[.slice (some ⟨w.heap.size + 1 + 1, 0, none⟩) (M + 1) (M + 1), .slice A' cl.length c', .int .i64 m] x9.W fun e w' => e = .returned (.bool (because (s.put.take k) cl m)) ∧ x9.W = w') :=
        Lib.hid fun x9 => by
          have := l5Because_any (some ⟨w.heap.size + 1 + 1, 0, none⟩) A' (M + 1) c' M (s.put.take k) vs cl m _ _ x9.W (hvr.up x9.le) (sl.below x9.le hGr) HGK.out HV.out hcl9 (by omega) hn9
          rw [hvl] at this
          exact this
      rw [HMM.out] at LAT
      have r0 := Later.cell c0
      have r1 := Later.cell c1
      have r2 := Later.cell d0
      have r3 := Later.cell d1
      have r4 := Later.cell d2
      have r5 := Later.cell d3
      have r6 := Later.cell hc
      have r7 := Later.cell hc2
      have HC := Lib.hid hc
      have q3 : decide ((0 : Int) ≤ (yn : Int)) = true := by simp
      have HYL := Lib.hid hyl
      generalize hbc : because (s.put.take k) cl m = bc at *
      clear hat sl hcm hcl9 hn9 hvr hGr hvl hbc hmem h1 h2 h3 hyl e16 hi1 hi2
      go_wp2
      clear hc hc2
      refine wp_region_later (by kernel_rfl) (by kernel_rfl) ?_
      repeat (go_big_quiet_step ((first | (go_at_call 79; exact later_of_below (LAT.out _)) | (go_at_call 78; exact later_of_same (LB.out _)))))
      refine wpQuiet_nil ?_
      rintro _ ⟨x9, rfl⟩
      clear r0 r1 r2 r3 r4 r5 r6 r7 c0 c1 d0 d1 d2 d3 q1 q2 q3
      cases bc
      · have HE := Lib.hid (show whysF cs [] s.put s.why = false by rw [HD.out, HIN.out]; rfl)
        go_wp2
        go_ret
        exact ⟨ret_bool (by rw [HCS.out, HE.out]), bthen HBW.out (bthen HB.out x9.le)⟩
      · have HE := Lib.hid (show whysF cs [] s.put s.why = whysF cs (s.put.take k ++ [m]) (s.put.drop (k + 1)) (s.why.drop (k + 1)) by rw [HD.out, HIN.out]; rfl)
        have HB9 := Lib.hid (bthen HB.out x9.le)
        have HO9 : Hid (x9.W.ownsRow (w.heap.size + 1 + 1) 3 1 (.slice (some ⟨w.heap.size + 1 + 1, 0, none⟩) (M + 1) (M + 1)) (M + 1) (vs.map (Value.int .i64))) := Lib.hid (own_below HO.out x9.le (Nat.le_refl _))
        have HC9 : Hid (x9.W.cell? (ad.add k) = some (.int .i64 m)) := Lib.hid (Later.cell HC.out x9)
        clear LAT LB HC
        generalize x9.W = W9 at *
        have b0 : W9.heap[w.heap.size]? = _ := (HB9.out.block _ (lt_of_block HB0.out)).trans HB0.out
        have b1 : W9.heap[w.heap.size + 1]? = _ := (HB9.out.block _ (lt_of_block HB1.out)).trans HB1.out
        have d0 : W9.cell? ⟨w.heap.size + 1, 0, none⟩ = some (.slice (some ad) s.put.length p) := (cell_of_block b1 0).1
        have c9 : W9.cell? (ad.add k) = some (.int .i64 m) := HC9.out
        clear b0 b1
        obtain ⟨na, hna⟩ : ∃ na : Int, na = m.natAbs := ⟨_, rfl⟩
        have qa : ∀ V : World, Calls Try.prog 64 #[.int .i64 m] V fun e w' => e = .returned (.int .i64 na) ∧ V = w' := fun V => by rw [hna]; exact l4Abs_any m V (by omega) (by omega)
        have Qa := Lib.hid qa
        have hn0 : 0 ≤ na := by omega
        have hn1 : na < (M : Int) + 1 := by omega
        have hn2 : na < ((M + 1 : Nat) : Int) := by omega
        have hm0 : m ≠ 0 := HR.out.1
        have hlen : vs.length = M + 1 := HV.out.1
        obtain ⟨v0, hold⟩ : ∃ v0, W9.cell? ⟨w.heap.size + 1 + 1, na.toNat, none⟩ = some v0 := ⟨_, by rw [HO9.out.cellAt na.toNat (by omega), List.getElem?_map, List.getElem?_eq_getElem (by omega), Option.map_some]⟩
        have hfr : W9.frozen? ⟨w.heap.size + 1 + 1, na.toNat, none⟩ = false := HO9.out.frozenAt na.toNat
        have hst := (HO9.out.stored na.toNat (.int .i64 1)).1
        rw [← List.map_set] at hst
        have HST := Lib.hid hst
        have HVN := Lib.hid (HV.out.put hm0 HAT.out.1 HAT.out.2 (by omega))
        have HNA := Lib.hid (show na.toNat = m.natAbs by omega)
        have HWL : Hid (W.heap.size ≤ w.heap.size + 1 + 1) := Lib.hid (by have := HWS.out; omega)
        clear hst hlen hna qa
        by_cases hneg : m < 0
        · have hm1 : -m = na := by have := HNA.out; omega
          have HM1 := Lib.hid hm1
          have hst2 := (HST.out.stored na.toNat (.int .i64 (-1))).1
          rw [← List.map_set, List.set_set] at hst2
          have HST2 := Lib.hid hst2
          have HVN2 : Hid (Vals M (s.put.take (k + 1)) (vs.set na.toNat (-1))) := Lib.hid (by have := HVN.out; rw [if_pos hneg] at this; rw [HTK.out, HNA.out]; exact this)
          have hx : IntKind.i64.wrap (-m) = na := by rw [hm1]; exact IntWalk.i64_in _ (by omega)
          clear hst2 hm1
          go_wp2_with fail
          refine (Qa.out _).mono ?_
          rintro e w' ⟨rfl, rfl⟩
          go_wp2
          go_roundw
          case rel => exact ⟨k + 1, _, by omega, by go_num, (HB9.out.setCell HWL.out _).setCell HWL.out _, HST2.out, HVN2.out, by rw [HE.out, HTK.out]⟩
          case measure => simp [intOf]; omega
        · have HVN2 : Hid (Vals M (s.put.take (k + 1)) (vs.set na.toNat 1)) := Lib.hid (by have := HVN.out; rw [if_neg hneg] at this; rw [HTK.out, HNA.out]; exact this)
          go_wp2_with fail
          refine (Qa.out _).mono ?_
          rintro e w' ⟨rfl, rfl⟩
          go_wp2
          go_roundw
          case rel => exact ⟨k + 1, _, by omega, by go_num, HB9.out.setCell HWL.out _, HST.out, HVN2.out, by rw [HE.out, HTK.out]⟩
          case measure => simp [intOf]; omega
    · have hke : k = s.put.length := by omega
      subst hke
      have HE := Lib.hid (show whysF cs [] s.put s.why = true by rw [HT.out, List.drop_length]; simp [whysF])
      go_wp2
      go_ret
      exact ⟨ret_bool (by rw [HCS.out, HE.out]), bthen HBW.out HB.out⟩
end Go.Proofs.Ytndolbplkjhooaa
