/- The reference's SatOk: the reasons; whole. The reference's SatOk, whole; SatVals. The reference's SatVals. The program's readSat: its parts, on. The program's search: a clause, given or learned; implies. -/
import Derived.Test.YtbljfhmcebgdaaaJFnSatBent4
import Derived.Test.YtbljfhmcebgdaaaJFnSatBent5
/-! The reference's SatOk: the reasons; whole. -/
namespace Go.Proofs.Ytbljfhmcebgdaaa
open Go Go.RowKit

theorem whyOk_low {cs : List (List Int)} {pre : List Int} {m k : Int} (h : k < -1) : whyOk cs pre m k = false := by
  unfold whyOk
  have h1 : (k == -1) = false := by simp; omega
  have h2 : decide (0 ≤ k) = false := by simp; omega
  rw [h1, h2]; rfl
theorem whyOk_high {cs : List (List Int)} {pre : List Int} {m k : Int} (h : (cs.length : Int) ≤ k) : whyOk cs pre m k = false := by
  unfold whyOk
  have h1 : (k == -1) = false := by simp; omega
  have h2 : decide (k < cs.length) = false := by simp only [decide_eq_false_iff_not]; omega
  rw [h1, h2]; simp
theorem whyOk_in {cs : List (List Int)} {pre : List Int} {m : Int} {k : Nat} (h : k < cs.length) : whyOk cs pre m k = because pre (cs.getD k []) m := by
  unfold whyOk
  have h1 : ((k : Int) == -1) = false := by simp only [beq_eq_false_iff_ne]; omega
  have h2 : decide ((0 : Int) ≤ (k : Int)) = true := by simp only [decide_eq_true_eq]; omega
  have h3 : decide ((k : Int) < cs.length) = true := by simp only [decide_eq_true_eq]; omega
  rw [h1, h2, h3]; simp
theorem Vals.put {M : Nat} {pre vs : List Int} {l : Int} (h : Vals M pre vs) (h0 : l ≠ 0) (h1 : l ∉ pre) (h2 : -l ∉ pre) (h3 : l.natAbs ≤ M) : Vals M (pre ++ [l]) (vs.set l.natAbs (if l < 0 then -1 else 1)) := by
  refine ⟨by rw [List.length_set]; exact h.1, fun v hv1 hv2 => ?_⟩
  rw [sg_snoc h1 h2 (by omega), List.getElem?_set]
  by_cases e : l.natAbs = v
  · rw [if_pos e, if_pos (by rw [h.1]; omega)]
    by_cases hn : l < 0
    · rw [if_pos hn, if_neg (by omega), if_pos (by omega)]
    · rw [if_neg hn, if_pos (by omega)]
  · rw [if_neg e, h.2 v hv1 hv2, if_neg (by omega), if_neg (by omega)]
/-- The reference's world at the reasons: both boxes, the row of values. -/
def RetWh (c : C) (s : S) (w : World) (e : Ending) (w' : World) : Prop := e = .returned (.bool (whysF (c.list ++ s.learned) [] s.put s.why)) ∧ Below w.heap.size w w'
set_option maxRecDepth 100000 in
set_option maxHeartbeats 4000000 in
theorem l5Whys_any (x : C) (s : S) (A P Q D : Option Addr) (a p q d M : Nat) (F G : Nat → Prop) (w : World) (h : Lay.int.slice.Sl w F A x.list) (hF : ∀ b, F b → b < w.heap.size) (hs : SatR w G P Q D s) (hG : ∀ b, G b → b < w.heap.size)
    (hM : x.many = (M : Int)) (hM7 : M ≤ 700) (hg : Good M s.put) (hlen : s.put.length = s.why.length) (hcl : ∀ cl ∈ x.list ++ s.learned, clOk M cl = true) (hn : ∀ cl ∈ x.list ++ s.learned, cl.length ≤ 1048576) (hx : x.list.length ≤ 1048576) (hl : s.learned.length ≤ 1048576) (hw64 : ∀ k ∈ s.why, okInt k) :
    Calls Try.prog 55 #[.agg #[.int .i64 x.many, .slice A x.list.length a], .agg #[.slice P s.put.length p, .slice Q s.why.length q, .slice D s.learned.length d, .int .i64 s.code]] w (RetWh x s w) := by
  obtain ⟨i0, hi0, hz0, hz1, hz2⟩ := info_parts int_info
  have hpl := hg.length
  have hpn : s.put.length ≤ 1048576 := by omega
  have HMM := Lib.hid hM
  rw [hM]
  clear hM
  have hw1 : Below w.heap.size w (w.alloc (.cells #[.int .i64 (M : Int), .slice A x.list.length a] 25)) := (Below.refl _ _).alloc (Nat.le_refl _) _
  have hw : Below w.heap.size w ((w.alloc (.cells #[.int .i64 (M : Int), .slice A x.list.length a] 25)).alloc (.cells #[.slice P s.put.length p, .slice Q s.why.length q, .slice D s.learned.length d, .int .i64 s.code] 35)) := hw1.alloc (by simp) _
  have hB0 : ((w.alloc (.cells #[.int .i64 (M : Int), .slice A x.list.length a] 25)).alloc (.cells #[.slice P s.put.length p, .slice Q s.why.length q, .slice D s.learned.length d, .int .i64 s.code] 35)).heap[w.heap.size]? = some (.cells #[.int .i64 (M : Int), .slice A x.list.length a] 25 (0, 0)) := by
    have h1 := heap_alloc_new w (.cells #[.int .i64 (M : Int), .slice A x.list.length a] 25)
    exact (((Below.refl _ _).alloc (Nat.le_refl _) _).block _ (by simp)).trans h1
  have hB1 : ((w.alloc (.cells #[.int .i64 (M : Int), .slice A x.list.length a] 25)).alloc (.cells #[.slice P s.put.length p, .slice Q s.why.length q, .slice D s.learned.length d, .int .i64 s.code] 35)).heap[w.heap.size + 1]? = some (.cells #[.slice P s.put.length p, .slice Q s.why.length q, .slice D s.learned.length d, .int .i64 s.code] 35 (0, 0)) := by
    have h1 := heap_alloc_new (w.alloc (.cells #[.int .i64 (M : Int), .slice A x.list.length a] 25)) (.cells #[.slice P s.put.length p, .slice Q s.why.length q, .slice D s.learned.length d, .int .i64 s.code] 35)
    simpa using h1
  have hWS : ((w.alloc (.cells #[.int .i64 (M : Int), .slice A x.list.length a] 25)).alloc (.cells #[.slice P s.put.length p, .slice Q s.why.length q, .slice D s.learned.length d, .int .i64 s.code] 35)).heap.size = w.heap.size + 1 + 1 := by simp
  have HK := Lib.hid (h.below hw hF)
  have HS := Lib.hid (hs.below hw hG)
  have HFW : Hid (∀ b, F b → b < w.heap.size + 1 + 1) := Lib.hid fun b h9 => by have := hF b h9; omega
  have HGW : Hid (∀ b, G b → b < w.heap.size + 1 + 1) := Lib.hid fun b h9 => by have := hG b h9; omega
  have HG := Lib.hid hg
  have HLEN := Lib.hid hlen
  have HCL := Lib.hid hcl
  have HN := Lib.hid hn
  have HW64 := Lib.hid hw64
  clear h hF hs hG hg hcl hn hw1 hpl hw64 hlen
  have HWS := Lib.hid hWS
  have HB0 := Lib.hid hB0
  have HB1 := Lib.hid hB1
  clear hWS hB0 hB1
  go_enter Try.func55, Try.ntmps55
  go_wp2_with (at_make; refine wpList_make_full _ rfl _ _ 26 rfl ((w.alloc (.cells #[.int .i64 (M : Int), .slice A x.list.length a] 25)).alloc (.cells #[.slice P s.put.length p, .slice Q s.why.length q, .slice D s.learned.length d, .int .i64 s.code] 35)).heap.size 3 i0 _ 1 Try.underlying26 hi0 hz0 hz1 .i64 .i64 _ _ (M + 1) rfl rfl (by push_cast; rfl) (by push_cast; rfl) (by rw [hz2]; omega) (by unfold maxLen; omega) (Nat.le_refl _) ?_; intro w1 hown hg1)
  have H1 := Lib.hid hg1
  clear hg1 hi0 hz0 hz1 hz2
  have HBW := Lib.hid hw
  clear hw
  generalize (w.alloc (.cells #[.int .i64 (M : Int), .slice A x.list.length a] 25)).alloc (.cells #[.slice P s.put.length p, .slice Q s.why.length q, .slice D s.learned.length d, .int .i64 s.code] 35) = W at *
  have hb1 : Below W.heap.size W w1 := (Below.refl _ _).grown H1.out (Nat.le_refl _) (by simp)
  rw [show (madeCells (Value.int .i64 0).cells ((M + 1) * 1)).toList = (List.replicate (M + 1) (0 : Int)).map (Value.int .i64) from by
    rw [show (Value.int .i64 0).cells = #[Value.int .i64 0] from rfl, toList_madeCells_one]; simp] at hown
  rw [HWS.out] at hown
  generalize hcs : x.list ++ s.learned = cs at *
  have HCS := Lib.hid hcs
  have HCN := Lib.hid (show cs.length = x.list.length + s.learned.length by rw [← hcs]; simp)
  clear hcs
  go_loopw [7] (fun i wr => ∃ (k : Nat) (vs : List Int), k ≤ s.put.length ∧ i = .int .i64 k ∧ Below W.heap.size W wr ∧ wr.ownsRow (w.heap.size + 1 + 1) 3 1 (.slice (some ⟨w.heap.size + 1 + 1, 0, none⟩) (M + 1) (M + 1)) (M + 1) (vs.map (Value.int .i64)) ∧ Vals M (s.put.take k) vs ∧
     whysF cs [] s.put s.why = whysF cs (s.put.take k) (s.put.drop k) (s.why.drop k)) (fun i _ => s.put.length - (intOf i).toNat)
  case atStart => exact ⟨0, _, Nat.zero_le _, rfl, hb1, hown, ⟨by simp, fun v h1 h2 => by rw [List.getElem?_replicate, if_pos (by omega)]; rfl⟩, rfl⟩
  case round =>
    obtain ⟨k, vs, hk, rfl, hb, ho, hvs, ht⟩ := hrel
    have HV := Lib.hid hvs
    have HT := Lib.hid ht
    have HO := Lib.hid ho
    have HB := Lib.hid hb
    clear hvs ht ho hb
    have b0 : wr.heap[w.heap.size]? = _ := (HB.out.block _ (lt_of_block HB0.out)).trans HB0.out
    have b1 : wr.heap[w.heap.size + 1]? = _ := (HB.out.block _ (lt_of_block HB1.out)).trans HB1.out
    have c0 := (cell_of_block b0 0).1
    have c1 := (cell_of_block b0 1).1
    have d0 := (cell_of_block b1 0).1
    have d1 := (cell_of_block b1 1).1
    have d2 := (cell_of_block b1 2).1
    have d3 := (cell_of_block b1 3).1
    have c0 : wr.cell? ⟨w.heap.size, 0, none⟩ = some (.int .i64 (M : Int)) := c0
    have c1 : wr.cell? ⟨w.heap.size, 1, none⟩ = some (.slice A x.list.length a) := c1
    have d0 : wr.cell? ⟨w.heap.size + 1, 0, none⟩ = some (.slice P s.put.length p) := d0
    have d1 : wr.cell? ⟨w.heap.size + 1, 1, none⟩ = some (.slice Q s.why.length q) := d1
    have d2 : wr.cell? ⟨w.heap.size + 1, 2, none⟩ = some (.slice D s.learned.length d) := d2
    have d3 : wr.cell? ⟨w.heap.size + 1, 3, none⟩ = some (.int .i64 s.code) := d3
    clear b0 b1
    have hszW := HWS.out
    have HSR := Lib.hid (HS.out.below HB.out (fun b h9 => by have := HGW.out b h9; omega))
    have HKR := Lib.hid (HK.out.below HB.out (fun b h9 => by have := HFW.out b h9; omega))
    clear hszW
    by_cases hlt : k < s.put.length
    · have hltw : k < s.why.length := by have := HLEN.out; omega
      obtain ⟨ad, rfl, hf, hc⟩ := HSR.out.a.at_int hlt
      obtain ⟨ad2, rfl, hf2, hc2⟩ := HSR.out.b.at_int hltw
      have hk1 : (k : Int) < s.put.length := by omega
      have hk2 : (k : Int) < s.why.length := by omega
      have hmem : s.put[k] ∈ s.put := List.getElem_mem hlt
      have HR := Lib.hid (HG.out.rng _ hmem)
      have HAT := Lib.hid (HG.out.at hlt)
      have HGK : Hid (Good M (s.put.take k)) := Lib.hid ⟨fun l hl => HG.out.rng l (List.mem_of_mem_take hl), by rw [List.map_take]; exact List.Pairwise.sublist (List.take_sublist _ _) HG.out.nodup⟩
      have HTK := Lib.hid (show s.put.take (k + 1) = s.put.take k ++ [s.put[k]] from List.take_succ_eq_append_getElem hlt)
      have HD := Lib.hid (HT.out.trans (whysF_drop hlt hltw))
      have HI := Lib.hid (HW64.out _ (List.getElem_mem hltw))
      have hi1 : -9223372036854775808 ≤ s.why[k] := HI.out.1
      have hi2 : s.why[k] ≤ 9223372036854775807 := HI.out.2
      generalize s.put[k] = m at *
      generalize s.why[k] = y at *
      have hr0 := HR.out.2.1
      have hr1 := HR.out.2.2
      have e16 : IntKind.i64.wrap ((x.list.length : Int) + s.learned.length) = (x.list.length : Int) + s.learned.length := IntWalk.i64_in _ (by omega)
      by_cases h1 : y < -1
      · have HE := Lib.hid (show whysF cs [] s.put s.why = false by rw [HD.out, whyOk_low h1]; rfl)
        have q1 : decide (y < -1) = true := by simpa using h1
        clear h1 hmem e16
        go_wp2
        go_quiet (fail)
        go_wp2
        go_ret
        exact ⟨ret_bool (by rw [HCS.out, HE.out]), below_drewN (bthen HBW.out HB.out) _⟩
      have q1 : decide (y < -1) = false := by simpa using h1
      by_cases h2 : (x.list.length : Int) + s.learned.length ≤ y
      · have HE := Lib.hid (show whysF cs [] s.put s.why = false by rw [HD.out, whyOk_high (by rw [HCN.out]; omega)]; rfl)
        have q2 : decide ((x.list.length : Int) + s.learned.length ≤ y) = true := by simpa using h2
        clear h1 h2 hmem e16
        go_wp2
        go_quiet (fail)
        go_wp2
        go_ret
        exact ⟨ret_bool (by rw [HCS.out, HE.out]), below_drewN (bthen HBW.out HB.out) _⟩
      have q2 : decide ((x.list.length : Int) + s.learned.length ≤ y) = false := by simpa using h2
      by_cases h3 : y = -1
      · have HE := Lib.hid (show whysF cs [] s.put s.why = whysF cs (s.put.take k ++ [m]) (s.put.drop (k + 1)) (s.why.drop (k + 1)) by rw [HD.out, h3]; simp [whyOk])
        subst h3
        clear h1 h2 hmem e16 q1 q2
        have q2 : decide ((x.list.length : Int) + s.learned.length ≤ -1) = false := by simp; omega
        go_wp2
        go_quiet (fail)
        have HB9 := Lib.hid (below_drewN HB.out nq)
        have HO9 : Hid ((wr.drewN nq).ownsRow (w.heap.size + 1 + 1) 3 1 (.slice (some ⟨w.heap.size + 1 + 1, 0, none⟩) (M + 1) (M + 1)) (M + 1) (vs.map (Value.int .i64))) := Lib.hid (own_below HO.out (below_drewN (Below.refl _ _) nq) (Nat.le_refl _))
        have HC9 : Hid ((wr.drewN nq).cell? (ad.add k) = some (.int .i64 m)) := Lib.hid hc
        clear c0 c1 d0 d1 d2 d3 hc hc2 q2
        generalize wr.drewN nq = W9 at *
        have b0 : W9.heap[w.heap.size]? = _ := (HB9.out.block _ (lt_of_block HB0.out)).trans HB0.out
        have b1 : W9.heap[w.heap.size + 1]? = _ := (HB9.out.block _ (lt_of_block HB1.out)).trans HB1.out
        have d0 : W9.cell? ⟨w.heap.size + 1, 0, none⟩ = some (.slice (some ad) s.put.length p) := (cell_of_block b1 0).1
        have c9 : W9.cell? (ad.add k) = some (.int .i64 m) := HC9.out
        clear b0 b1
        obtain ⟨na, hna⟩ : ∃ na : Int, na = m.natAbs := ⟨_, rfl⟩
        have qa : ∀ V : World, Calls Try.prog 75 #[.int .i64 m] V fun e w' => e = .returned (.int .i64 na) ∧ V = w' := fun V => by rw [hna]; exact l4Abs_any m V (by omega) (by omega)
        have Qa := Lib.hid qa
        have hn0 : 0 ≤ na := by omega
        have hn1 : na < (M : Int) + 1 := by omega
        have hn2 : na < ((M + 1 : Nat) : Int) := by omega
        have hm0 : m ≠ 0 := HR.out.1
        have hlen : vs.length = M + 1 := HV.out.1
        obtain ⟨v0, hold⟩ : ∃ v0, W9.cell? ⟨w.heap.size + 1 + 1, na.toNat, none⟩ = some v0 := ⟨_, by rw [HO9.out.cellAt na.toNat (by omega), List.getElem?_map, List.getElem?_eq_getElem (by omega), Option.map_some]⟩
        have hfr : W9.frozen? ⟨w.heap.size + 1 + 1, na.toNat, none⟩ = false := HO9.out.frozenAt na.toNat
        have hst := (HO9.out.stored na.toNat (.int .i64 1)).1
        rw [← List.map_set] at hst
        have HST := Lib.hid hst
        have HVN := Lib.hid (HV.out.put hm0 HAT.out.1 HAT.out.2 (by omega))
        have HNA := Lib.hid (show na.toNat = m.natAbs by omega)
        have HWL : Hid (W.heap.size ≤ w.heap.size + 1 + 1) := Lib.hid (by have := HWS.out; omega)
        clear hst hlen hna qa
        by_cases hneg : m < 0
        · have hm1 : -m = na := by have := HNA.out; omega
          have HM1 := Lib.hid hm1
          have hst2 := (HST.out.stored na.toNat (.int .i64 (-1))).1
          rw [← List.map_set, List.set_set] at hst2
          have HST2 := Lib.hid hst2
          have HVN2 : Hid (Vals M (s.put.take (k + 1)) (vs.set na.toNat (-1))) := Lib.hid (by have := HVN.out; rw [if_pos hneg] at this; rw [HTK.out, HNA.out]; exact this)
          have hx : IntKind.i64.wrap (-m) = na := by rw [hm1]; exact IntWalk.i64_in _ (by omega)
          clear hst2 hm1
          go_wp2_with fail
          refine (Qa.out _).mono ?_
          rintro e w' ⟨rfl, rfl⟩
          go_wp2
          go_roundw
          case rel => exact ⟨k + 1, _, by omega, by go_num, (HB9.out.setCell HWL.out _).setCell HWL.out _, HST2.out, HVN2.out, by rw [HE.out, HTK.out]⟩
          case measure => simp [intOf]; omega
        · have HVN2 : Hid (Vals M (s.put.take (k + 1)) (vs.set na.toNat 1)) := Lib.hid (by have := HVN.out; rw [if_neg hneg] at this; rw [HTK.out, HNA.out]; exact this)
          go_wp2_with fail
          refine (Qa.out _).mono ?_
          rintro e w' ⟨rfl, rfl⟩
          go_wp2
          go_roundw
          case rel => exact ⟨k + 1, _, by omega, by go_num, HB9.out.setCell HWL.out _, HST.out, HVN2.out, by rw [HE.out, HTK.out]⟩
          case measure => simp [intOf]; omega
      obtain ⟨yn, hyn⟩ : ∃ yn : Nat, y = (yn : Int) := ⟨y.toNat, by omega⟩
      subst hyn
      have hyl : yn < cs.length := by rw [HCN.out]; omega
      obtain ⟨A', c', sl, _, hat⟩ := clause_at (HKR.out.mono (G := fun b => F b ∨ G b) fun _ h => .inl h) (HSR.out.d.mono (G := fun b => F b ∨ G b) fun _ h => .inr h) (k := yn) (by omega)
      rw [HCS.out] at sl hat
      have hcm : cs.getD yn [] ∈ cs := by rw [List.getD_eq_getElem?_getD, List.getElem?_eq_getElem hyl]; exact List.getElem_mem hyl
      have HIN := Lib.hid (whyOk_in (pre := s.put.take k) (m := m) hyl)
      have hcl9 := clOk_rng (HCL.out _ hcm)
      have hn9 := HN.out _ hcm
      generalize cs.getD yn [] = cl at *
      have LAT : Hid (∀ x9 : Later wr, Calls Try.prog 95 #[.agg #[.int .i64 x.many, .slice A x.list.length a], .agg #[.slice (some ad) s.put.length p, .slice (some ad2) s.why.length q, .slice D s.learned.length d, .int .i64 s.code], .int .i64 yn] x9.W fun e w' => e = .returned (.slice A' cl.length c') ∧ Below x9.W.heap.size x9.W w') :=
        Lib.hid fun x9 => l5At_any x s A (some ad) (some ad2) D a p q d yn _ x9.W hx (by
          rcases hat with ⟨h8, ad9, e9, hc9⟩ | ⟨h8, ad9, e9, hc9⟩
          · exact .inl ⟨h8, ad9, e9, Later.cell hc9 x9⟩
          · exact .inr ⟨h8, ad9, e9, Later.cell hc9 x9⟩) (by rw [← HCN.out]; exact hyl) hl
      have hGr : ∀ b, (F b ∨ G b) → b < wr.heap.size := fun b h9 => by
        have h8 := HB.out.size; have h7 := HWS.out
        rcases h9 with h9 | h9
        · have := HFW.out b h9; omega
        · have := HGW.out b h9; omega
      have hvr : Lay.int.Rd wr (some ⟨w.heap.size + 1 + 1, 0, none⟩) vs := (sl_ints_of_own (F := fun b => b < wr.heap.size) HO.out (fun g _ h9 => h9)).1
      have hvl := HV.out.1
      have hMb := hM7
      have LB : Hid (∀ x9 : Later wr, Calls Try.prog 94 #[.slice (some ⟨w.heap.size + 1 + 1, 0, none⟩) (M + 1) (M + 1), .slice A' cl.length c', .int .i64 m] x9.W fun e w' => e = .returned (.bool (because (s.put.take k) cl m)) ∧ x9.W = w') :=
        Lib.hid fun x9 => by
          have := l5Because_any (some ⟨w.heap.size + 1 + 1, 0, none⟩) A' (M + 1) c' M (s.put.take k) vs cl m _ _ x9.W (hvr.up x9.le) (sl.below x9.le hGr) HGK.out HV.out hcl9 (by omega) hn9
          rw [hvl] at this
          exact this
      rw [HMM.out] at LAT
      have r0 := Later.cell c0
      have r1 := Later.cell c1
      have r2 := Later.cell d0
      have r3 := Later.cell d1
      have r4 := Later.cell d2
      have r5 := Later.cell d3
      have r6 := Later.cell hc
      have r7 := Later.cell hc2
      have HC := Lib.hid hc
      have q3 : decide ((0 : Int) ≤ (yn : Int)) = true := by simp
      have HYL := Lib.hid hyl
      generalize hbc : because (s.put.take k) cl m = bc at *
      clear hat sl hcm hcl9 hn9 hvr hGr hvl hbc hmem h1 h2 h3 hyl e16 hi1 hi2
      go_wp2
      clear hc hc2
      refine wp_region_later (by kernel_rfl) (by kernel_rfl) ?_
      repeat (go_big_quiet_step ((first | (go_at_call 95; exact later_of_below (LAT.out _)) | (go_at_call 94; exact later_of_same (LB.out _)))))
      refine wpQuiet_nil ?_
      rintro _ ⟨x9, rfl⟩
      clear r0 r1 r2 r3 r4 r5 r6 r7 c0 c1 d0 d1 d2 d3 q1 q2 q3
      cases bc
      · have HE := Lib.hid (show whysF cs [] s.put s.why = false by rw [HD.out, HIN.out]; rfl)
        go_wp2
        go_ret
        exact ⟨ret_bool (by rw [HCS.out, HE.out]), bthen HBW.out (bthen HB.out x9.le)⟩
      · have HE := Lib.hid (show whysF cs [] s.put s.why = whysF cs (s.put.take k ++ [m]) (s.put.drop (k + 1)) (s.why.drop (k + 1)) by rw [HD.out, HIN.out]; rfl)
        have HB9 := Lib.hid (bthen HB.out x9.le)
        have HO9 : Hid (x9.W.ownsRow (w.heap.size + 1 + 1) 3 1 (.slice (some ⟨w.heap.size + 1 + 1, 0, none⟩) (M + 1) (M + 1)) (M + 1) (vs.map (Value.int .i64))) := Lib.hid (own_below HO.out x9.le (Nat.le_refl _))
        have HC9 : Hid (x9.W.cell? (ad.add k) = some (.int .i64 m)) := Lib.hid (Later.cell HC.out x9)
        clear LAT LB HC
        generalize x9.W = W9 at *
        have b0 : W9.heap[w.heap.size]? = _ := (HB9.out.block _ (lt_of_block HB0.out)).trans HB0.out
        have b1 : W9.heap[w.heap.size + 1]? = _ := (HB9.out.block _ (lt_of_block HB1.out)).trans HB1.out
        have d0 : W9.cell? ⟨w.heap.size + 1, 0, none⟩ = some (.slice (some ad) s.put.length p) := (cell_of_block b1 0).1
        have c9 : W9.cell? (ad.add k) = some (.int .i64 m) := HC9.out
        clear b0 b1
        obtain ⟨na, hna⟩ : ∃ na : Int, na = m.natAbs := ⟨_, rfl⟩
        have qa : ∀ V : World, Calls Try.prog 75 #[.int .i64 m] V fun e w' => e = .returned (.int .i64 na) ∧ V = w' := fun V => by rw [hna]; exact l4Abs_any m V (by omega) (by omega)
        have Qa := Lib.hid qa
        have hn0 : 0 ≤ na := by omega
        have hn1 : na < (M : Int) + 1 := by omega
        have hn2 : na < ((M + 1 : Nat) : Int) := by omega
        have hm0 : m ≠ 0 := HR.out.1
        have hlen : vs.length = M + 1 := HV.out.1
        obtain ⟨v0, hold⟩ : ∃ v0, W9.cell? ⟨w.heap.size + 1 + 1, na.toNat, none⟩ = some v0 := ⟨_, by rw [HO9.out.cellAt na.toNat (by omega), List.getElem?_map, List.getElem?_eq_getElem (by omega), Option.map_some]⟩
        have hfr : W9.frozen? ⟨w.heap.size + 1 + 1, na.toNat, none⟩ = false := HO9.out.frozenAt na.toNat
        have hst := (HO9.out.stored na.toNat (.int .i64 1)).1
        rw [← List.map_set] at hst
        have HST := Lib.hid hst
        have HVN := Lib.hid (HV.out.put hm0 HAT.out.1 HAT.out.2 (by omega))
        have HNA := Lib.hid (show na.toNat = m.natAbs by omega)
        have HWL : Hid (W.heap.size ≤ w.heap.size + 1 + 1) := Lib.hid (by have := HWS.out; omega)
        clear hst hlen hna qa
        by_cases hneg : m < 0
        · have hm1 : -m = na := by have := HNA.out; omega
          have HM1 := Lib.hid hm1
          have hst2 := (HST.out.stored na.toNat (.int .i64 (-1))).1
          rw [← List.map_set, List.set_set] at hst2
          have HST2 := Lib.hid hst2
          have HVN2 : Hid (Vals M (s.put.take (k + 1)) (vs.set na.toNat (-1))) := Lib.hid (by have := HVN.out; rw [if_pos hneg] at this; rw [HTK.out, HNA.out]; exact this)
          have hx : IntKind.i64.wrap (-m) = na := by rw [hm1]; exact IntWalk.i64_in _ (by omega)
          clear hst2 hm1
          go_wp2_with fail
          refine (Qa.out _).mono ?_
          rintro e w' ⟨rfl, rfl⟩
          go_wp2
          go_roundw
          case rel => exact ⟨k + 1, _, by omega, by go_num, (HB9.out.setCell HWL.out _).setCell HWL.out _, HST2.out, HVN2.out, by rw [HE.out, HTK.out]⟩
          case measure => simp [intOf]; omega
        · have HVN2 : Hid (Vals M (s.put.take (k + 1)) (vs.set na.toNat 1)) := Lib.hid (by have := HVN.out; rw [if_neg hneg] at this; rw [HTK.out, HNA.out]; exact this)
          go_wp2_with fail
          refine (Qa.out _).mono ?_
          rintro e w' ⟨rfl, rfl⟩
          go_wp2
          go_roundw
          case rel => exact ⟨k + 1, _, by omega, by go_num, HB9.out.setCell HWL.out _, HST.out, HVN2.out, by rw [HE.out, HTK.out]⟩
          case measure => simp [intOf]; omega
    · have hke : k = s.put.length := by omega
      subst hke
      have HE := Lib.hid (show whysF cs [] s.put s.why = true by rw [HT.out, List.drop_length]; simp [whysF])
      go_wp2
      go_ret
      exact ⟨ret_bool (by rw [HCS.out, HE.out]), bthen HBW.out HB.out⟩
end Go.Proofs.Ytbljfhmcebgdaaa

/-! The reference's SatOk, whole; SatVals. -/
namespace Go.Proofs.Ytbljfhmcebgdaaa
open Go Go.RowKit

set_option maxRecDepth 100000 in
set_option maxHeartbeats 2000000 in
theorem specSatOk_u (x : C) (A : Option Addr) (a : Nat) (s : S) (P Q D : Option Addr) (p q d : Nat) (w : World) (h : Lay.int.slice.Rd w A x.list) (_ : x.list.length ≤ a) (hp : Lay.int.Rd w P s.put) (hq : Lay.int.Rd w Q s.why) (hd : Lay.int.slice.Rd w D s.learned)
    (_ : s.put.length ≤ p) (_ : s.why.length ≤ q) (_ : s.learned.length ≤ d) (sx : smCnf x) (ss : smS s) :
    Calls Try.prog 21 #[.agg #[.int .i64 x.many, .slice A x.list.length a], .agg #[.slice P s.put.length p, .slice Q s.why.length q, .slice D s.learned.length d, .int .i64 s.code]] w (RetB w (satOk x s)) := by
  obtain ⟨hw, hB0, hB1, hWS⟩ := two_boxes w (.cells #[.int .i64 x.many, .slice A x.list.length a] 25) (.cells #[.slice P s.put.length p, .slice Q s.why.length q, .slice D s.learned.length d, .int .i64 s.code] 35)
  have HR : Hid (SatR w (fun b => b < w.heap.size) P Q D s) := Lib.hid ⟨hp, hq, hd⟩
  have HX := Lib.hid h
  have hl0 : s.put.length ≤ 1048576 := ss.1.1
  have hl1 : s.why.length ≤ 1048576 := ss.2.1.1
  have hl2 : s.learned.length ≤ 1048576 := ss.2.2.1.1
  have hlx : x.list.length ≤ 1048576 := sx.2.1
  have hcode := ss.2.2.2
  have SX := Lib.hid sx
  have SS := Lib.hid ss
  have HW := Lib.hid hw
  have HB0 := Lib.hid hB0
  have HB1 := Lib.hid hB1
  have HWS := Lib.hid hWS
  unfold okInt at hcode
  clear h hp hq hd sx ss hw hB0 hB1 hWS
  go_enter Try.func21, Try.ntmps21
  go_wp2_with fail
  generalize (w.alloc (.cells #[.int .i64 x.many, .slice A x.list.length a] 25)).alloc (.cells #[.slice P s.put.length p, .slice Q s.why.length q, .slice D s.learned.length d, .int .i64 s.code] 35) = W at *
  refine (specCnfOk_any A a x _ W (HX.out.up HW.out) (fun _ h => h) SX.out.short).mono ?_
  cases hok : cnfOk x
  · have HE := Lib.hid (satOk_no (c := x) (s := s) fun h9 => by have := h9.cnf; rw [hok] at this; cases this)
    clear hok
    rintro e w1 ⟨rfl, hb1⟩
    go_wp2
    go_ret
    exact ⟨ret_bool (by rw [HE.out]), bthen HW.out hb1⟩
  have HOK := Lib.hid hok
  have hi := (cnfOk_iff x).1 hok
  obtain ⟨M, hM⟩ := Int.eq_ofNat_of_zero_le hi.1
  have hM7 : M ≤ 700 := by have := hi.2.1; omega
  have HMM := Lib.hid hM
  clear hok hi hM
  rintro e w1 ⟨rfl, hb1⟩
  have HB := Lib.hid (bthen HW.out hb1)
  have b0 : w1.heap[w.heap.size]? = _ := (hb1.block _ (by have := HWS.out; omega)).trans HB0.out
  have b1 : w1.heap[w.heap.size + 1]? = _ := (hb1.block _ (by have := HWS.out; omega)).trans HB1.out
  have HB0 := Lib.hid b0
  have HB1 := Lib.hid b1
  have hsz1 : w.heap.size + 1 < w1.heap.size := by have := HWS.out; have := hb1.size; omega
  clear b0 b1 hb1
  have HX := Lib.hid (HX.out.up HB.out)
  have HR := Lib.hid ((HR.out.below HB.out (fun _ h => h)).mono (G := fun b => b < w1.heap.size) fun b h9 => Nat.lt_of_lt_of_le h9 HB.out.size)
  have c0 : w1.cell? ⟨w.heap.size, 0, none⟩ = some (.int .i64 x.many) := (cell_of_block HB0.out 0).1
  have c1 : w1.cell? ⟨w.heap.size, 1, none⟩ = some (.slice A x.list.length a) := (cell_of_block HB0.out 1).1
  have d0 : w1.cell? ⟨w.heap.size + 1, 0, none⟩ = some (.slice P s.put.length p) := (cell_of_block HB1.out 0).1
  have d1 : w1.cell? ⟨w.heap.size + 1, 1, none⟩ = some (.slice Q s.why.length q) := (cell_of_block HB1.out 1).1
  have d2 : w1.cell? ⟨w.heap.size + 1, 2, none⟩ = some (.slice D s.learned.length d) := (cell_of_block HB1.out 2).1
  have d3 : w1.cell? ⟨w.heap.size + 1, 3, none⟩ = some (.int .i64 s.code) := (cell_of_block HB1.out 3).1
  by_cases h1 : 300 < s.learned.length
  · have HE := Lib.hid (satOk_no (c := x) (s := s) fun h9 => by have := h9.learned; omega)
    go_wp2
    go_ret
    exact ⟨ret_bool (by rw [HE.out]), HB.out⟩
  by_cases h2 : s.code < 0
  · have HE := Lib.hid (satOk_no (c := x) (s := s) fun h9 => by have := h9.code0; omega)
    go_wp2
    go_ret
    exact ⟨ret_bool (by rw [HE.out]), HB.out⟩
  by_cases h3 : 3 < s.code
  · have HE := Lib.hid (satOk_no (c := x) (s := s) fun h9 => by have := h9.code1; omega)
    go_wp2
    go_ret
    exact ⟨ret_bool (by rw [HE.out]), HB.out⟩
  by_cases h4 : ¬ s.put.length = s.why.length
  · have HE := Lib.hid (satOk_no (c := x) (s := s) fun h9 => h4 h9.len)
    have h4b : ((s.put.length : Int) != (s.why.length : Int)) = true := by simp; omega
    go_wp2
    go_ret
    exact ⟨ret_bool (by rw [HE.out]), HB.out⟩
  have h4b : ((s.put.length : Int) != (s.why.length : Int)) = false := by simp; omega
  have HL4 : Hid (s.put.length = s.why.length) := Lib.hid (by omega)
  clear h4
  go_wp2_with fail
  refine (l5Marks_any A P a p M x s.put _ w1 HMM.out (by omega) HR.out.a (fun _ h => h) hl0 SS.out.1.2).mono ?_
  clear c0 c1 d0 d1 d2 d3
  rintro e w2 ⟨b, rfl, hiff, hb2⟩
  have HBB := Lib.hid (bthen HB.out hb2)
  cases b
  · have HE := Lib.hid (satOk_no (c := x) (s := s) fun h9 => absurd (hiff.2 (by rw [← HMM.out]; exact h9.good)) (by simp))
    clear hiff
    go_wp2
    go_ret
    exact ⟨ret_bool (by rw [HE.out]), HBB.out⟩
  have HGD := Lib.hid (hiff.1 rfl)
  clear hiff
  have HX := Lib.hid (HX.out.up hb2)
  have HR := Lib.hid ((HR.out.below hb2 (fun _ h => h)).mono (G := fun b => b < w2.heap.size) fun b h9 => Nat.lt_of_lt_of_le h9 hb2.size)
  have HB0 := Lib.hid ((hb2.block _ (by omega)).trans HB0.out)
  have HB1 := Lib.hid ((hb2.block _ (by omega)).trans HB1.out)
  have hsz2 : w.heap.size + 1 < w2.heap.size := by have := hb2.size; omega
  clear hb2
  have HM0 : Hid (0 ≤ x.many ∧ x.many ≤ 700) := Lib.hid (by have := HMM.out; omega)
  go_wp2
  go_loopw [5] (fun i wr => ∃ k : Nat, k ≤ s.learned.length ∧ i = .int .i64 k ∧ Below w2.heap.size w2 wr ∧ s.learned.all (clOk x.many) = (s.learned.drop k).all (clOk x.many)) (fun i _ => s.learned.length - (intOf i).toNat)
  case atStart => exact ⟨0, Nat.zero_le _, rfl, Below.refl _ _, rfl⟩
  case round =>
    obtain ⟨k, hk, rfl, hBm, ht⟩ := hrel
    have HB0 := Lib.hid ((hBm.block _ (by omega)).trans HB0.out)
    have HB1 := Lib.hid ((hBm.block _ (by omega)).trans HB1.out)
    have HT := Lib.hid ht
    clear ht
    have c0 : wr.cell? ⟨w.heap.size, 0, none⟩ = some (.int .i64 x.many) := (cell_of_block HB0.out 0).1
    have c1 : wr.cell? ⟨w.heap.size, 1, none⟩ = some (.slice A x.list.length a) := (cell_of_block HB0.out 1).1
    have d0 : wr.cell? ⟨w.heap.size + 1, 0, none⟩ = some (.slice P s.put.length p) := (cell_of_block HB1.out 0).1
    have d1 : wr.cell? ⟨w.heap.size + 1, 1, none⟩ = some (.slice Q s.why.length q) := (cell_of_block HB1.out 1).1
    have d2 : wr.cell? ⟨w.heap.size + 1, 2, none⟩ = some (.slice D s.learned.length d) := (cell_of_block HB1.out 2).1
    have d3 : wr.cell? ⟨w.heap.size + 1, 3, none⟩ = some (.int .i64 s.code) := (cell_of_block HB1.out 3).1
    have HBM := Lib.hid (bthen HBB.out hBm)
    have HRM := Lib.hid ((HR.out.below hBm (fun _ h => h)).mono (G := fun b => b < wr.heap.size) fun b h9 => Nat.lt_of_lt_of_le h9 hBm.size)
    have HXM := Lib.hid (HX.out.up hBm)
    have HBW := Lib.hid hBm
    clear hBm
    by_cases hlt : k < s.learned.length
    · obtain ⟨ad, A', c', rfl, _, hc, _, hsl⟩ := HRM.out.d.at_slice hlt
      have hk1 : (k : Int) < s.learned.length := by omega
      have HD := Lib.hid (HT.out.trans (all_drop' hlt))
      have hlc := (SS.out.2.2.1.2.1 _ (List.getElem_mem hlt)).1
      have HMEM := Lib.hid (List.getElem_mem hlt)
      generalize s.learned[k] = cl at *
      have LC : Hid (∀ n, Calls Try.prog 45 #[.slice A' cl.length c', .int .i64 x.many] (wr.drewN n) fun e w' => e = .returned (.bool (clOk x.many cl)) ∧ wr.drewN n = w') :=
        Lib.hid fun n => l4Clause_any A' c' cl x.many _ _ (hsl.drewN n) hlc HM0.out.1 HM0.out.2
      generalize hbc : clOk x.many cl = bc at *
      have HBC := Lib.hid hbc
      clear hbc hlc hsl d0 d1 d3 c1
      go_wp2
      go_quiet ((go_at_call 45; with_reducible exact quiet_left (LC.out _)))
      clear LC
      cases bc
      · have HE := Lib.hid (satOk_no (c := x) (s := s) fun h9 => by have := h9.cls _ HMEM.out; rw [HBC.out] at this; cases this)
        go_wp2
        go_ret
        exact ⟨ret_bool (by rw [HE.out]), below_drewN HBM.out _⟩
      · go_wp2
        go_roundw
        case rel => exact ⟨k + 1, by omega, by go_num, below_drewN HBW.out _, by rw [HD.out]; simp⟩
        case measure => simp [intOf]; omega
    · have hke : k = s.learned.length := by omega
      subst hke
      have HA := Lib.hid (show s.learned.all (clOk x.many) = true by rw [HT.out, List.drop_length]; rfl)
      have hcl : ∀ cl ∈ x.list ++ s.learned, clOk M cl = true := fun cl h9 => by
        rw [← HMM.out]
        rcases List.mem_append.1 h9 with h9 | h9
        · have h8 := HOK.out
          simp only [cnfOk, Bool.and_eq_true, List.all_eq_true] at h8
          exact h8.2 cl h9
        · exact List.all_eq_true.1 HA.out cl h9
      have hn9 : ∀ cl ∈ x.list ++ s.learned, cl.length ≤ 1048576 := fun cl h9 => by
        rcases List.mem_append.1 h9 with h9 | h9
        · exact SX.out.short.2 cl h9
        · exact (SS.out.2.2.1.2.1 cl h9).1
      have LW := Lib.hid (l5Whys_any x s A P Q D a p q d M _ _ wr HXM.out (fun _ h => h) HRM.out (fun _ h => h) HMM.out hM7 HGD.out HL4.out hcl hn9 hlx hl2 SS.out.2.1.2)
      have HE : Hid (satOk x s = whysF (x.list ++ s.learned) [] s.put s.why) := Lib.hid (by
        unfold satOk
        rw [HOK.out, HA.out, (satPre_iff s).2 ⟨by omega, by omega, by omega, HL4.out⟩, goodB_iff.2 (by rw [HMM.out]; exact HGD.out)]
        rfl)
      clear hcl hn9
      go_wp2_with fail
      clear c0 c1 d0 d1 d2 d3
      refine LW.out.mono ?_
      rintro e w9 ⟨rfl, hb9⟩
      go_wp2
      go_ret
      exact ⟨ret_bool (by rw [HE.out]), bthen HBM.out hb9⟩
end Go.Proofs.Ytbljfhmcebgdaaa

/-! The reference's SatVals. -/
namespace Go.Proofs.Ytbljfhmcebgdaaa
open Go Go.RowKit

/-- What is answered: bools in memory of the call's own. -/
def ResB (r : List Bool) (w : World) (e : Ending) (w' : World) : Prop := ∃ A c, e = .returned (.slice A r.length c) ∧ r.length ≤ c ∧ Lay.bool.Sl w' (Own w.heap.size w') A r ∧ Below w.heap.size w w'
theorem valsP_len (x : C) (s : S) : (valsP x s).length = x.many.toNat := by simp [valsP]
theorem valsP_get (x : C) (s : S) (i : Nat) (h : i < (valsP x s).length) : (valsP x s)[i] = decide (((i : Int) + 1) ∈ s.put) := by simp [valsP]
end Go.Proofs.Ytbljfhmcebgdaaa

/-! The program's readSat: its parts, on. -/
namespace Go.Proofs.Ytbljfhmcebgdaaa
open Go Go.RowKit

theorem readSat2_any (why : List Int) (Q : Option Addr) (q bx k : Nat) (F : Nat → Prop) (w : World) (h : Lay.int.Sl w F Q why) (hk : k < why.length) (hn : why.length ≤ 1048576) (hbx : w.cell? ⟨bx, 1, none⟩ = some (.slice Q why.length q)) :
    Calls Try.prog 88 #[.int .i64 k, .pointer (some ⟨bx, 0, none⟩)] w fun e w' => e = .returned (.bool (why[k] == -1)) ∧ w = w' := by
  obtain ⟨ad, rfl, hf, hc⟩ := h.at_int hk
  have hk1 : (k : Int) < why.length := by omega
  generalize why[k] = a at *
  go_enter Try.func88, Try.ntmps88
  go_wp2
  go_ret
  exact ⟨rfl, rfl⟩

theorem trailOkS_any (M : Nat) (sl why : List Int) (Q : Option Addr) (q bx : Nat) (B : Option Addr) (q9 : Nat) (G : Nat → Prop) (w : World) (hwhy : Lay.int.Rd w Q why) (hlen : sl.length = why.length) (hbx : w.cell? ⟨bx, 1, none⟩ = some (.slice Q why.length q)) (hs : Lay.int.Sl w G B sl) (hG : ∀ b, G b → b < w.heap.size) (hn : sl.length ≤ 1048576) (hi : ∀ l ∈ sl, -9223372036854775808 ≤ l ∧ l ≤ 9223372036854775807) (hM : M ≤ 1000000) :
    Calls Try.prog 79 #[.int .i64 M, .slice B sl.length q9, .func (.func 88) #[] #[.pointer (some ⟨bx, 0, none⟩)]] w (RetTk M w sl) := by
  have HNV : Hid (∀ k (hk : k < why.length) W, Below w.heap.size w W → Calls Try.prog 88 #[.int .i64 k, .pointer (some ⟨bx, 0, none⟩)] W fun e w' => e = .returned (.bool (why[k] == -1)) ∧ W = w') :=
    Lib.hid fun k hk W hb => readSat2_any why Q q bx k _ W (hwhy.up hb) hk (by omega) ((hb.cell (World.block_lt_of_cell? w _ hbx)).trans hbx)
  have HLN := Lib.hid hlen
  clear hwhy hbx hlen
  go_enter Try.func79, Try.ntmps79
  go_wp2_with fail
  refine (newTrail_any M w hM).mono ?_
  rintro e w0 ⟨t, rfl, htr0, hb0⟩
  go_wp2
  go_loopw [15] (fun i wr => ∃ (k : Nat) (ls : List Int), k ≤ sl.length ∧ i = .int .i64 k ∧ Tr w.heap.size (fun _ => False) M wr t (sl.take k) ls ∧ Good M (sl.take k) ∧ Below w.heap.size w wr) (fun i _ => sl.length - (intOf i).toNat)
  case atStart => exact ⟨0, [], Nat.zero_le _, rfl, by simpa using htr0, by simpa using Good.nil M, hb0⟩
  case round =>
    obtain ⟨k, ls, hk, rfl, htr, hgc, hb⟩ := hrel
    by_cases hlt : k < sl.length
    · obtain ⟨ad, rfl, hf, hc⟩ := (hs.below hb hG).at_int hlt
      have hk1 : (k : Int) < sl.length := by omega
      have hmem : sl[k] ∈ sl := List.getElem_mem hlt
      obtain ⟨i1, i2⟩ := hi _ hmem
      have htk : sl.take (k + 1) = sl.take k ++ [sl[k]] := List.take_succ_eq_append_getElem hlt
      have hrng : Good M sl → litOk sl[k] M = true := fun hg => by unfold litOk; rw [decide_eq_true_eq]; exact hg.rng _ hmem
      have hput : Good M sl → isPut (sl.take k) sl[k] = false := fun hg => by unfold isPut; rw [decide_eq_false_iff_not]; rintro (h9 | h9); exact (hg.at hlt).1 h9; exact (hg.at hlt).2 h9
      have hlit := litOf_any sl[k] M
      generalize sl[k] = a at *
      have HTK := Lib.hid htk
      have HR := Lib.hid hrng
      have HP := Lib.hid hput
      clear htk hrng hput hmem
      by_cases h1 : litOk a M = true
      · rw [h1] at hlit
        have HL := Lib.hid (fun W => hlit W i1 i2 (by omega) (by omega))
        clear hlit
        have hlo : a ≠ 0 ∧ -(M : Int) ≤ a ∧ a ≤ M := by unfold litOk at h1; simpa using h1
        obtain ⟨a0, a1, a2⟩ := hlo
        have has := assigned_any w.heap.size (fun _ => False) M t (sl.take k) ls a wr htr a0 a1 a2 hM
        by_cases h2 : isPut (sl.take k) a = true
        · rw [h2] at has
          have HA := Lib.hid has
          have HN := Lib.hid (show ¬ Good M sl from fun hg => by have := HP.out hg; rw [h2] at this; cases this)
          clear has h1 h2
          go_wp2_with fail
          refine (HL.out _).mono ?_
          rintro e w' ⟨rfl, rfl⟩
          go_wp2_with fail
          refine HA.out.mono ?_
          rintro e w' ⟨rfl, m9, rfl⟩
          go_wp2
          go_ret2
          exact .inr ⟨HN.out, rfl, below_drewN hb _⟩
        · rw [Bool.not_eq_true] at h2
          rw [h2] at has
          have HA := Lib.hid has
          have hnp : a ∉ sl.take k ∧ -a ∉ sl.take k := by unfold isPut at h2; simpa using h2
          obtain ⟨p1, p2⟩ := hnp
          have HGN := Lib.hid (hgc.snoc a0 a1 a2 p1 p2)
          clear has h1 h2
          go_wp2_with fail
          refine (HL.out _).mono ?_
          rintro e w' ⟨rfl, rfl⟩
          go_wp2_with fail
          refine HA.out.mono ?_
          rintro e w' ⟨rfl, m9, rfl⟩
          go_wp2_with fail
          refine (HNV.out k (by have := HLN.out; omega) _ (below_drewN hb m9)).mono ?_
          rintro e w' ⟨rfl, rfl⟩
          go_wp2_with fail
          refine (push_any w.heap.size (fun _ => False) M t (sl.take k) ls a (why[k]'(by have := HLN.out; omega) == -1) (wr.drewN m9) (htr.drewN m9) hgc a0 a1 a2 p1 p2 hM).mono ?_
          rintro e w8 ⟨rfl, htr8, hb8⟩
          go_wp2
          go_roundw
          case rel => exact ⟨k + 1, _, by omega, by go_num, by rw [HTK.out]; exact htr8, by rw [HTK.out]; exact HGN.out, (below_drewN hb m9).trans hb8.1⟩
          case measure => simp [intOf]; omega
      · rw [Bool.not_eq_true] at h1
        rw [h1] at hlit
        have HL := Lib.hid (fun W => hlit W i1 i2 (by omega) (by omega))
        have HN := Lib.hid (show ¬ Good M sl from fun hg => by have := HR.out hg; rw [h1] at this; cases this)
        clear hlit h1
        go_wp2_with fail
        refine (HL.out _).mono ?_
        rintro e w' ⟨rfl, rfl⟩
        go_wp2
        go_ret2
        exact .inr ⟨HN.out, rfl, hb⟩
    · have hke : k = sl.length := by omega
      subst hke
      rw [List.take_length] at htr hgc
      have HT := Lib.hid htr
      have HG := Lib.hid hgc
      clear htr hgc
      go_wp2
      go_ret2
      exact .inl ⟨HG.out, t, ls, rfl, HT.out, hb⟩



/-- A row of the call's own comes back. -/
def RetI (w : World) (xs : List Int) (e : Ending) (w' : World) : Prop := ∃ A c, e = .returned (.slice A xs.length c) ∧ OwnI w' w.heap.size (.slice A xs.length c) xs ∧ Below w.heap.size w w'
set_option maxRecDepth 100000 in
theorem cloneI_any (A : Option Addr) (c : Nat) (xs : List Int) (w : World) (h : Lay.int.Rd w A xs) (hn : xs.length ≤ 1048576) :
    Calls Try.prog 89 #[.slice A xs.length c] w (RetI w xs) := by
  obtain ⟨i0, hi0, hz0, hz1, hz2⟩ := info_parts int_info
  have hA : A = none → xs.length = 0 := fun e => by
    rcases Nat.eq_zero_or_pos xs.length with h0 | h0
    · exact h0
    · obtain ⟨ad, e', _⟩ := h h0; rw [e] at e'; cases e'
  cases A with
  | none =>
    have h0 : xs = [] := List.eq_nil_of_length_eq_zero (hA rfl)
    subst h0
    have he : ∀ w : World, (binOp .eql 26 (.slice none 0 c) (.slice none 0 0)).run Try.prog w = .ok (.bool true) w := fun _ => rfl
    go_enter Try.func89, Try.ntmps89
    go_wp2
    go_ret
    exact ⟨none, 0, rfl, World.ownsRow_nil _ _ _ _, Below.refl _ _⟩
  | some ad =>
    clear hA
    have hsrc := src_ints (Lay.Sl.up h ((Below.refl _ _).alloc (Nat.le_refl _) (.cells #[] 3)))
    have he : ∀ w : World, (binOp .eql 26 (.slice (some ad) xs.length c) (.slice none 0 0)).run Try.prog w = .ok (.bool false) w := fun _ => rfl
    go_enter Try.func89, Try.ntmps89
    go_wp2_with (at_builtin; refine wpList_append_src _ (by rfl) (.tmp 5) (.tmp 6) _ (by rfl) w.heap.size 3 i0 _ 1 8 Try.underlying26 hi0 hz0 hz1 hz2 (by rfl) (by omega) (.slice (some ⟨w.heap.size, 0, none⟩) 0 0) 0 [] (by rfl) (own_lit0 rfl) (some ad) xs.length c (xs.map (Value.int .i64)) (by rfl) hsrc (ints_one _) xs.length (by omega) (by unfold maxLen; omega) (by omega) (by simp) (by simp) ?_; intro A1 c1 w1 hown1 hb1 _)
    have hbw : Below w.heap.size w w1 := ((Below.refl _ _).alloc (Nat.le_refl _) _).trans hb1
    go_ret
    exact ⟨A1, c1, rfl, by unfold OwnI; simpa using hown1, hbw⟩

/-- Rows in memory of the call's own. -/
abbrev OwnQ (lo : Nat) : World → Nat → Prop := fun w b => lo ≤ b ∧ ∀ o, w.frozen? ⟨b, o, none⟩ = false
abbrev OwnLL (w : World) (lo : Nat) (v : Value) (xs : List (List Int)) : Prop := OwnL Lay.int.slice (OwnQ lo) 26 w lo v xs
def RetLL (w : World) (xs : List (List Int)) (e : Ending) (w' : World) : Prop := ∃ A c, e = .returned (.slice A xs.length c) ∧ OwnLL w' w.heap.size (.slice A xs.length c) xs ∧ Below w.heap.size w w'
/-- A row of integers of one's own, as an element. -/
theorem own_elem {w w2 : World} {lo : Nat} {v : Value} {A : Option Addr} {c : Nat} {x : List Int} (ho : OwnI w2 w.heap.size (.slice A x.length c) x) (hlo : lo ≤ w.heap.size) (hv : ∀ g, v.ownBlock = some g → g < w.heap.size) :
    Lay.int.slice.R w2 (fun b => b < w2.heap.size ∧ v.ownBlock ≠ some b ∧ OwnQ lo w2 b) x [.slice A x.length c] :=
  ⟨A, c, rfl, ho.cap, ho.own.mono fun b hb => ⟨hb.2.1, fun e => by have := hv b e; have := hb.1; omega, Nat.le_trans hlo hb.1, hb.2.2⟩⟩
set_option maxRecDepth 100000 in
set_option maxHeartbeats 1000000 in
theorem copyLists_any (A : Option Addr) (c : Nat) (xs : List (List Int)) (w : World) (h : Lay.int.slice.Rd w A xs) (hn : xs.length ≤ 1048576) (ho' : ∀ l ∈ xs, l.length ≤ 1048576) :
    Calls Try.prog 90 #[.slice A xs.length c] w (RetLL w xs) := by
  obtain ⟨i0, hi0, hz0, hz1, hz2⟩ := info_parts toIntSS_info
  go_enter Try.func90, Try.ntmps90
  go_wp2
  go_loopw [3, 8] (fun s i wr => ∃ (k : Nat) (ns : List (List Int)) (A2 : Option Addr) (c2 : Nat), k ≤ xs.length ∧ i = .int .i64 k ∧ s = .slice A2 ns.length c2 ∧ ns = xs.take k ∧ OwnLL wr w.heap.size (.slice A2 ns.length c2) ns ∧ Below w.heap.size w wr) (fun _ i _ => xs.length - (intOf i).toNat)
  case atStart => exact ⟨0, [], none, 0, Nat.zero_le _, rfl, rfl, rfl, OwnL.nil _ _ _ _ _, Below.refl _ _⟩
  case round =>
    obtain ⟨k, ns, A2, c2, hk, rfl, rfl, hns, hown, hb⟩ := hrel
    have hnl : ns.length = k := by rw [hns]; simp; omega
    have HNS := Lib.hid hns
    have HNL := Lib.hid hnl
    clear hns hnl
    by_cases hlt : k < xs.length
    · obtain ⟨ad, A', c', rfl, hf, k1, hl1, s1⟩ := (h.up hb).at_slice hlt
      have hk1 : (k : Int) < xs.length := by omega
      have hxl := ho' _ (List.getElem_mem hlt)
      have htk : xs.take (k + 1) = xs.take k ++ [xs[k]] := List.take_succ_eq_append_getElem hlt
      generalize xs[k] = x at *
      have HTK := Lib.hid htk
      obtain ⟨ps, hps⟩ : ∃ ps, ps = ns ++ [x] := ⟨_, rfl⟩
      have HPS := Lib.hid hps
      clear htk hps
      go_wp2_with fail
      refine (cloneI_any A' c' x wr s1 hxl).mono ?_
      rintro e w2 ⟨A3, c3, rfl, ho3, hb3⟩
      have hown2 := hown.up (Stay.own _) hb3
      have hel := own_elem (v := .slice A2 ns.length c2) ho3 hb.size (fun g hg => (hown.lt g hg).2)
      have hbb := bthen hb hb3
      have hlo := hbb.size
      clear hown ho3 s1 k1
      go_wp2_with (at_builtin; refine wpList_append_row (L := Lay.int.slice) (Q := OwnQ w.heap.size) (ys := ps) (by rfl) (.tmp 12) (.tmp 15) (by rfl) Try.underlying23 hi0 hz0 hz1 hz2 (by rfl) (by decide) (by rfl) (by rfl) hown2 (Stay.own _) hel (fun _ h => h) (by simp [Value.oneCell']) (by have := HNL.out; omega) (by omega) hlo HPS.out ?_; intro A1 c1 w1 hown1 hg1 hbk1)
      have hb1 : Below w.heap.size w w1 := hbb.grown hg1 hlo (fun g hg => (hown2.lt g hg).1)
      clear hbk1 hg1
      go_wp2
      go_roundw
      case rel => exact ⟨k + 1, ps, A1, c1, by omega, by go_num, rfl, by rw [HPS.out, HTK.out, HNS.out], hown1, hb1⟩
      case measure => simp [intOf]; omega
    · have hke : k = xs.length := by omega
      subst hke
      have hns : ns = xs := by rw [HNS.out, List.take_length]
      subst hns
      go_wp2
      go_ret
      exact ⟨A2, c2, rfl, hown, hb⟩

end Go.Proofs.Ytbljfhmcebgdaaa

/-! The program's search: a clause, given or learned; implies. -/
namespace Go.Proofs.Ytbljfhmcebgdaaa
open Go Go.RowKit

/-- Block r holds a search. -/
def SrB (w : World) (r : Nat) (x : C) (A : Option Addr) (a t : Nat) (W : Value) (D : Option Addr) (n d : Nat) (code : Int) : Prop :=
  w.heap[r]? = some (.cells #[.int .i64 x.many, .slice A x.list.length a, .pointer (some ⟨t, 0, none⟩), W, .slice D n d, .int .i64 code] 105 (0, 0))
theorem clauseAt_any (x : C) (A D : Option Addr) (a d n t r k : Nat) (W V : Value) (code : Int) (w : World) (hx : x.list.length ≤ 1048576) (hb : SrB w r x A a t W D n d code)
    (h : (k < x.list.length ∧ ∃ ad, A = some ad ∧ w.cell? (ad.add k) = some V) ∨ (x.list.length ≤ k ∧ ∃ ad, D = some ad ∧ w.cell? (ad.add (k - x.list.length)) = some V)) (hk : k < x.list.length + n) (hn : n ≤ 1048576) :
    Calls Try.prog 92 #[.pointer (some ⟨r, 0, none⟩), .int .i64 k] w fun e w' => e = .returned V ∧ ∃ m, w' = w.drewN m := by
  have c1 : w.cell? ⟨r, 1, none⟩ = some (.slice A x.list.length a) := (cell_of_block hb 1).1
  have c4 : w.cell? ⟨r, 4, none⟩ = some (.slice D n d) := (cell_of_block hb 4).1
  clear hb
  rcases h with ⟨h1, ad, rfl, hc⟩ | ⟨h1, ad, rfl, hc⟩
  · have h1i : (k : Int) < x.list.length := by omega
    go_enter Try.func92, Try.ntmps92
    go_wp2
    go_ret
    exact ⟨rfl, 0, rfl⟩
  · have h1i : ¬ ((k : Int) < x.list.length) := by omega
    have h2 : ((k : Int) - x.list.length).toNat = k - x.list.length := by omega
    have h3 : (0 : Int) ≤ (k : Int) - x.list.length := by omega
    have h4 : (k : Int) - x.list.length < n := by omega
    have e1 : IntKind.i64.wrap ((k : Int) - x.list.length) = (k : Int) - x.list.length := IntWalk.i64_in _ (by omega)
    go_enter Try.func92, Try.ntmps92
    go_wp2
    go_quiet (fail)
    go_wp2
    go_ret
    exact ⟨rfl, _, rfl⟩

set_option maxRecDepth 100000 in
set_option maxHeartbeats 1000000 in
theorem implies_any (lo : Nat) (S : Nat → Prop) (M t k : Nat) (put ls cl : List Int) (A : Option Addr) (c : Nat) (w : World) (h : Tr lo S M w t put ls) (hg : Good M put) (hcl : Lay.int.Rd w A cl) (hn : cl.length ≤ 1048576) (hr : ∀ l ∈ cl, l ≠ 0 ∧ -(M : Int) ≤ l ∧ l ≤ M) (hk : k < put.length) (hM : M ≤ 1000000) :
    Calls Try.prog 91 #[.pointer (some ⟨t, 0, none⟩), .slice A cl.length c, .int .i64 k] w (RetB w (because (put.take k) cl put[k])) := by
  obtain ⟨hw, hB0, hB1, hWS⟩ := two_boxes w (.cells #[.pointer (some ⟨t, 0, none⟩)] 92) (.cells #[.int .i64 k] 3)
  have hml := hg.length
  have hT := h.up hw
  have hC := hcl.up hw
  have HE := Lib.hid (because_any (put.take k) cl put[k])
  have hk0 : (0 : Int) ≤ k := by omega
  have hk1 : (k : Int) < put.length := by omega
  have HTH := Lib.hid h
  clear h hcl
  generalize hW : (w.alloc (.cells #[.pointer (some ⟨t, 0, none⟩)] 92)).alloc (.cells #[.int .i64 k] 3) = W at *
  have c0 : W.cell? ⟨w.heap.size, 0, none⟩ = some (.pointer (some ⟨t, 0, none⟩)) := (cell_of_block hB0 0).1
  have c1 : W.cell? ⟨w.heap.size + 1, 0, none⟩ = some (.int .i64 k) := (cell_of_block hB1 0).1
  have HCO : Hid (∀ n, Calls Try.prog 110 #[.slice A cl.length c, .int .i64 put[k]] (W.drewN n) fun e w' => e = .returned (.bool (decide (put[k] ∈ cl))) ∧ W.drewN n = w') := Lib.hid fun n => contains_any cl put[k] A c _ (W.drewN n) (hC.drewN n) hn
  have HCF : Hid (∀ n, Calls Try.prog 84 #[.slice A cl.length c, .func (.func 111) #[] #[.pointer (some ⟨w.heap.size, 0, none⟩), .pointer (some ⟨w.heap.size + 1, 0, none⟩)]] (W.drewN n) fun e w' => e = .returned (.bool (cl.any (notWhy (put.take k) put[k]))) ∧ ∃ m, w' = (W.drewN n).drewN m) :=
    Lib.hid fun n => hasWhy_any lo S M t w.heap.size (w.heap.size + 1) put ls cl k A c _ (W.drewN n) (hC.drewN n) hn hr (hT.drewN n) hg hk hM c0 c1
  obtain ⟨A', B', c', d', Q', pl', h'⟩ := hT
  have z0 : W.cell? ⟨t, 0, none⟩ = some (.slice A' put.length c') := (cell_of_block h'.blk 0).1
  obtain ⟨ad, rfl, _, z3⟩ := (OwnI.rd h'.hput).at_int hk
  have HW := Lib.hid hw
  clear hB0 hB1 hWS hC h' hw hg hr
  generalize put[k] = m at *
  cases h1 : decide (m ∈ cl)
  · rw [h1] at HCO HE
    have HE := Lib.hid (HE.out.trans (by simp : _ = false))
    clear HCF h1
    go_enter Try.func91, Try.ntmps91
    go_wp2
    go_quiet ((go_at_call 110; with_reducible exact quiet_left (HCO.out _)))
    go_wp2
    go_ret
    exact ⟨ret_bool (by rw [HE.out]), below_drewN HW.out _⟩
  · rw [h1] at HCO HE
    have HE := Lib.hid (HE.out.trans (by simp : _ = !cl.any (notWhy (put.take k) m)))
    clear h1
    generalize cl.any (notWhy (put.take k) m) = b at *
    go_enter Try.func91, Try.ntmps91
    go_wp2
    go_quiet ((first | (go_at_call 110; with_reducible exact quiet_left (HCO.out _)) | (go_at_call 84; with_reducible exact quiet_drawn (HCF.out _))))
    go_wp2
    go_ret
    exact ⟨ret_bool (by rw [HE.out]), below_drewN HW.out _⟩
end Go.Proofs.Ytbljfhmcebgdaaa
