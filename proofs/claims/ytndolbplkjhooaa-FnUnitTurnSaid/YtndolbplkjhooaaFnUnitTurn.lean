/- FnUnitTurn: unit propagation is confluent: for any bytes the law says true. -/
import Derived.Test.YtndolbplkjhooaaUnitL
import Derived.Test.YtndolbplkjhooaaDrU
import Derived.Test.YtndolbplkjhooaaSatU
import Derived.Test.YtndolbplkjhooaaWp
import Derived.Test.YtndolbplkjhooaaRows
namespace Go.Proofs.Ytndolbplkjhooaa
open Go Go.RowKit Go.ChangeShapes Go.WideShapes Go.ChangeAt Go.Deep

theorem opens_bytes : Opens Try.prog 34 Lay.byte.slice (fun xs => xs.length ≤ maxLen ∧ ∀ x ∈ xs, True) := Opens.slice Try.underlying34 (by kernel_rfl) (by decide) (Opens.byte Try.underlying5)
theorem drop_rev {xs : List Int} {k : Nat} (h : k < xs.length) : (xs.drop k).reverse = (xs.drop (k + 1)).reverse ++ [xs[k]] := by
  rw [List.drop_eq_getElem_cons h, List.reverse_cons]
theorem take_mem {xs : List Int} {k : Nat} (h : k < xs.length) (z : Int) : decide (z ∈ xs.take (k + 1)) = (decide (z ∈ xs.take k) || (xs[k] == z)) := by
  rw [List.take_succ_eq_append_getElem h, Bool.eq_iff_iff]
  simp only [List.mem_append, List.mem_singleton, decide_eq_true_eq, Bool.or_eq_true, beq_iff_eq]
  exact ⟨fun h => h.imp id Eq.symm, fun h => h.imp id Eq.symm⟩

set_option maxRecDepth 100000 in
set_option maxHeartbeats 4000000 in
theorem fnUnitTurn_walk (W : World) {A0 : Option Addr} {c0 : Nat} {x0 : List UInt8} (hc0 : x0.length ≤ c0) (hok0 : x0.length ≤ maxLen ∧ ∀ z ∈ x0, True) (h0 : Lay.byte.Rd W A0 x0) :
    Calls Try.prog 4 #[.slice A0 x0.length c0] W (LawC W) := by
  have hm0 : x0.length ≤ 9223372036854775807 := by have := hok0.1; unfold maxLen at this; omega
  clear hok0
  by_cases hbig0 : (1048576 : Int) < x0.length
  · go_enter Try.func4, Try.ntmps4
    go_wp2
    go_ret
    exact ⟨rfl, Below.refl _ _⟩
  have hb : Below W.heap.size W W := Below.refl _ _
  go_enter Try.func4, Try.ntmps4
  go_wp2_with fail
  refine (drawUnitAll_any A0 c0 x0 _ h0 hc0 hm0).mono ?_
  rintro e u1 ⟨x, A1, d1, put, B1, e1, rfl, hd1, he1, hx, hp, hmx, hsx, hpl, hpo, hb9⟩
  have hb := bthen hb hb9
  clear hb9
  clear h0
  have SX : Hid (smCnf x) := Lib.hid ⟨hmx, hsx.sm (by omega)⟩
  have SP : Hid (smInts put) := Lib.hid ⟨by omega, hpo⟩
  clear hmx hsx hpo
  have HL := Lib.hid (unit_turn x put)
  have HN1 := Lib.hid (unitAllP_len (x := x) SP.out)
  generalize hr9 : unitAllP x put = r9 at *
  have HR9 := Lib.hid hr9
  clear hr9
  have hal : Below u1.heap.size u1 (u1.alloc (.cells #[.int .i64 x.many, .slice A1 x.list.length d1] 28)) := (Below.refl _ _).alloc (Nat.le_refl _) _
  have B9 : (u1.alloc (.cells #[.int .i64 x.many, .slice A1 x.list.length d1] 28)).heap[u1.heap.size]? = some (.cells #[.int .i64 x.many, .slice A1 x.list.length d1] 28 (0, 0)) := heap_alloc_new _ _
  have hb := bthen hb hal
  have hx := hx.up hal
  have hp := hp.up hal
  clear hal
  have BC := Lib.hid B9
  clear B9
  go_wp2_with fail
  generalize u1.alloc (.cells #[.int .i64 x.many, .slice A1 x.list.length d1] 28) = u2 at *
  generalize u1.heap.size = iBC at *
  refine (implUnitAll_u x A1 d1 put B1 e1 _ hx hd1 hp he1 SX.out SP.out).mono ?_
  rw [HR9.out]
  rintro e u3 ⟨A2, d2, rfl, hd2, hs2, hb9⟩
  have hb := bthen hb hb9
  have hx := hx.up hb9
  have hp := hp.up hb9
  have BC := Lib.hid ((hb9.block _ (lt_of_block BC.out)).trans BC.out)
  clear hb9
  have R2 := hs2.own_rd
  clear hs2
  have kBC_0 : u3.cell? ⟨iBC, 0, none⟩ = some (.int .i64 x.many) := (cell_of_block BC.out 0).1
  have kBC_1 : u3.cell? ⟨iBC, 1, none⟩ = some (.slice A1 x.list.length d1) := (cell_of_block BC.out 1).1
  go_wp2_with fail
  clear kBC_0 kBC_1
  refine (specUnitAll_u x A1 d1 put B1 e1 _ hx hd1 hp he1 SX.out SP.out).mono ?_
  rw [HR9.out]
  rintro e u4 ⟨A3, d3, rfl, hd3, hs3, hb9⟩
  have hb := bthen hb hb9
  have hx := hx.up hb9
  have hp := hp.up hb9
  have BC := Lib.hid ((hb9.block _ (lt_of_block BC.out)).trans BC.out)
  have R2 := R2.up hb9
  clear hb9
  have R3 := hs3.own_rd
  clear hs3
  go_wp2_with fail
  have hlit : OwnI (u4.alloc (.cells #[] 3)) u4.heap.size (.slice (some ⟨u4.heap.size, 0, none⟩) 0 0) [] := own_lit0I u4
  have hbl : Below u4.heap.size u4 (u4.alloc (.cells #[] 3)) := (Below.refl _ _).alloc (Nat.le_refl _) _
  go_loopw [9, 10] (fun s i wr => ∃ (j : Int) (ns : List Int) (A : Option Addr) (c : Nat), -1 ≤ j ∧ j < put.length ∧ i = .int .i64 j ∧ s = .slice A ns.length c ∧ ns = (put.drop (j + 1).toNat).reverse ∧ OwnI wr u4.heap.size (.slice A ns.length c) ns ∧ Below u4.heap.size u4 wr) (fun _ i _ => (intOf i + 1).toNat)
  case atStart => exact ⟨(put.length : Int) - 1, [], _, 0, by omega, by omega, by first | rfl | go_num, rfl, by rw [show ((put.length : Int) - 1 + 1).toNat = put.length by omega, List.drop_length]; rfl, hlit, hbl⟩
  case round =>
    obtain ⟨j, ns, A, c, j0, j1, rfl, rfl, hns, hown, hbr⟩ := hrel
    have HNS := Lib.hid hns
    have hnl : ns.length ≤ 60 := by rw [hns]; simp; omega
    clear hlit hbl
    by_cases hge : 0 ≤ j
    · skip
      clear hns
      obtain ⟨k, rfl⟩ := Int.eq_ofNat_of_zero_le hge
      have hk : k < put.length := by omega
      obtain ⟨ad, e, _, hcell⟩ := (hp.up hbr).at_int hk
      have HDR := Lib.hid (drop_rev hk)
      generalize put[k] = z at *
      obtain ⟨ps, hps⟩ : ∃ ps, ps = ns ++ [z] := ⟨_, rfl⟩
      have HPS := Lib.hid hps
      have hlo := hbr.size
      subst e
      clear hps
      go_wp2_with (at_builtin; refine wpList_append_int (ys := ps) (by rfl) (.tmp 46) (.tmp 51) (by rfl) (by rfl) (by rfl) hown (by omega) hlo HPS.out ?_; intro A4 c4 w4 hown4 hg4 hbk4)
      have hb4 := hbr.trans (own_at_least hown hlo hg4)
      clear hbk4 hg4
      go_wp2
      go_roundw
      case rel => exact ⟨(k : Int) - 1, ps, A4, c4, by omega, by omega, by first | rfl | go_num, rfl, by rw [HPS.out, HNS.out, show ((k : Int) - 1 + 1).toNat = k by omega, HDR.out, show ((k : Int) + 1).toNat = k + 1 by omega], hown4, hb4⟩
      case measure => first | (simp [intOf]; done) | (simp [intOf]; omega)
    · skip
      have hj : j = -1 := by omega
      subst hj
      have hrev : ns = put.reverse := by rw [hns]; rfl
      rw [← hrev] at HL
      have HREV := Lib.hid hrev
      have R4 := hown.rd
      have h4c := hown.cap
      clear hown hns hrev
      have hb := bthen hb hbr
      have hx := hx.up hbr
      have hp := hp.up hbr
      have BC := Lib.hid ((hbr.block _ (lt_of_block BC.out)).trans BC.out)
      have R2 := R2.up hbr
      have R3 := R3.up hbr
      clear hbr
      have SR : Hid (smInts ns) := Lib.hid (by rw [HREV.out]; exact ⟨by have := SP.out.1; simpa using this, fun l hl => SP.out.2 l (by simpa using hl)⟩)
      have HN2 := Lib.hid (unitAllP_len (x := x) SR.out)
      generalize hr8 : unitAllP x ns = r8 at *
      have HR8 := Lib.hid hr8
      have hq := HL.out.1
      clear hr8
      have kBC_0 : wr.cell? ⟨iBC, 0, none⟩ = some (.int .i64 x.many) := (cell_of_block BC.out 0).1
      have kBC_1 : wr.cell? ⟨iBC, 1, none⟩ = some (.slice A1 x.list.length d1) := (cell_of_block BC.out 1).1
      go_wp2_with fail
      clear kBC_0 kBC_1
      refine (implUnitAll_u x A1 d1 ns A c _ hx hd1 R4 h4c SX.out SR.out).mono ?_
      rw [HR8.out]
      rintro e u5 ⟨A5, d5, rfl, hd5, hs5, hb9⟩
      have hb := bthen hb hb9
      have hx := hx.up hb9
      have hp := hp.up hb9
      have BC := Lib.hid ((hb9.block _ (lt_of_block BC.out)).trans BC.out)
      have R2 := R2.up hb9
      have R3 := R3.up hb9
      have R4 := R4.up hb9
      clear hb9
      have R5 := hs5.own_rd
      rw [hq]
      clear hs5 hq
      go_wp2_with fail
      refine (wpInts_u r9.1 r9.1 A2 A3 d2 d3 _ R2 R3 HN1.out HN1.out).mono ?_
      rintro e u6 ⟨rfl, hb9⟩
      have hb := bthen hb hb9
      have hx := hx.up hb9
      have hp := hp.up hb9
      have BC := Lib.hid ((hb9.block _ (lt_of_block BC.out)).trans BC.out)
      have R2 := R2.up hb9
      have R3 := R3.up hb9
      have R4 := R4.up hb9
      have R5 := R5.up hb9
      clear hb9
      rw [show decide (r9.1 = r9.1) = true by simp]
      have q2 : (r9.2 != r9.2) = false := by simp
      by_cases hcl : r9.2 = true
      · have q3 : (true != true) = false := rfl
        rw [hcl]
        go_wp2
        go_ret
        exact ⟨rfl, hb⟩
      have hcl : r9.2 = false := by simpa using hcl
      have q3 : (false != false) = false := rfl
      have HCL := Lib.hid hcl
      rw [hcl]
      clear hcl q2
      by_cases hlen : (r9.1.length : Int) < put.length
      · go_wp2
        go_ret
        exact ⟨rfl, hb⟩
      obtain ⟨hq1, hq2, hq3⟩ := HL.out.2 HCL.out (by omega)
      have HQ1 := Lib.hid hq1
      have HQ2 := Lib.hid hq2
      have HQ3 := Lib.hid hq3
      have SO : Hid (smInts r9.1) := Lib.hid ⟨HN1.out, by rw [← HR9.out]; exact unitAllP_i64 _ _⟩
      clear hq1 hq2 hq3
      have kBC_0 : u6.cell? ⟨iBC, 0, none⟩ = some (.int .i64 x.many) := (cell_of_block BC.out 0).1
      have kBC_1 : u6.cell? ⟨iBC, 1, none⟩ = some (.slice A1 x.list.length d1) := (cell_of_block BC.out 1).1
      go_wp2_with fail
      clear kBC_0 kBC_1
      refine (implUnitAll_u x A1 d1 r9.1 A2 d2 _ hx hd1 R2 hd2 SX.out SO.out).mono ?_
      rw [HQ3.out]
      rintro e u7 ⟨A6, d6, rfl, hd6, hs6, hb9⟩
      have hb := bthen hb hb9
      have hx := hx.up hb9
      have hp := hp.up hb9
      have BC := Lib.hid ((hb9.block _ (lt_of_block BC.out)).trans BC.out)
      have R2 := R2.up hb9
      have R3 := R3.up hb9
      have R4 := R4.up hb9
      have R5 := R5.up hb9
      clear hb9
      have R6 := hs6.own_rd
      clear hs6
      have hn1 := HN1.out
      have hn2 := HN2.out
      go_wp2_with fail
      go_loopw [15] (fun i wr => ∃ j m : Nat, j ≤ r8.1.length ∧ i = .int .i64 j ∧ wr = u7.drewN m) (fun i _ => r8.1.length - (intOf i).toNat)
      case atStart => exact ⟨0, 0, Nat.zero_le _, rfl, rfl⟩
      case round =>
        obtain ⟨j, m, hj, rfl, rfl⟩ := hrel
        by_cases hlt : j < r8.1.length
        · skip
          obtain ⟨ad, e5, _, hc5⟩ := R5.at_int hlt
          have hj1 : (j : Int) < r8.1.length := by omega
          have HM := Lib.hid (HQ1.out _ (List.getElem_mem hlt))
          generalize r8.1[j] = z at *
          subst e5
          go_wp2
          go_loopw [16, 17] (fun b i wr => ∃ k m : Nat, k ≤ r9.1.length ∧ i = .int .i64 k ∧ b = .bool (decide (z ∈ r9.1.take k)) ∧ wr = u7.drewN m) (fun _ i _ => r9.1.length - (intOf i).toNat)
          case atStart => exact ⟨0, m, Nat.zero_le _, rfl, by simp, rfl⟩
          case round =>
            obtain ⟨k, m, hk, rfl, rfl, rfl⟩ := hrel
            by_cases hlt2 : k < r9.1.length
            · obtain ⟨ad2, e2, _, hc2⟩ := R2.at_int hlt2
              have hk1 : (k : Int) < r9.1.length := by omega
              have HT := Lib.hid (take_mem hlt2 z)
              generalize r9.1[k] = y at *
              subst e2
              have hk0 : (0 : Int) ≤ k := by omega
              have hj0 : (0 : Int) ≤ j := by omega
              cases hb2 : decide (z ∈ r9.1.take k)
              · rw [hb2] at HT
                clear hb2
                go_wp2
                go_quiet (fail)
                go_wp2
                go_roundw
                case rel => exact ⟨k + 1, _, by omega, by go_num, by rw [HT.out]; simp, rfl⟩
                case measure => simp [intOf]; omega
              · rw [hb2] at HT
                clear hb2
                go_wp2
                go_quiet (fail)
                go_wp2
                go_roundw
                case rel => exact ⟨k + 1, _, by omega, by go_num, by rw [HT.out]; simp, rfl⟩
                case measure => simp [intOf]; omega
            · have hke : k = r9.1.length := by omega
              subst hke
              have hz : decide (z ∈ r9.1.take r9.1.length) = true := by rw [List.take_length]; exact decide_eq_true HM.out
              rw [hz]
              clear hz
              go_wp2
              go_roundw
              case rel => exact ⟨j + 1, m, by omega, by go_num, rfl⟩
              case measure => simp [intOf]; omega
        · skip
          have hje : j = r8.1.length := by omega
          subst hje
          have hle : (r8.1.length : Int) = r9.1.length := by have := HQ2.out; omega
          have hbd : Below u7.heap.size u7 (u7.drewN m) := below_drewN (Below.refl _ _) m
          generalize u7.drewN m = w9 at *
          have hb := bthen hb hbd
          have hx := hx.up hbd
          have hp := hp.up hbd
          have BC := Lib.hid ((hbd.block _ (lt_of_block BC.out)).trans BC.out)
          have R2 := R2.up hbd
          have R3 := R3.up hbd
          have R4 := R4.up hbd
          have R5 := R5.up hbd
          have R6 := R6.up hbd
          clear hbd
          have hleb : ((r8.1.length : Int) == r9.1.length) = true := by simp [hle]
          clear hle
          go_wp2_with fail
          refine (wpInts_u r9.1 r9.1 A6 A2 d6 d2 _ R6 R2 HN1.out HN1.out).mono ?_
          rintro e u8 ⟨rfl, hb9⟩
          have hb := bthen hb hb9
          have hx := hx.up hb9
          have hp := hp.up hb9
          have BC := Lib.hid ((hb9.block _ (lt_of_block BC.out)).trans BC.out)
          have R2 := R2.up hb9
          have R3 := R3.up hb9
          have R4 := R4.up hb9
          have R5 := R5.up hb9
          have R6 := R6.up hb9
          clear hb9
          rw [show decide (r9.1 = r9.1) = true by simp]
          go_wp2
          go_ret
          exact ⟨rfl, hb⟩

set_option maxRecDepth 100000 in
theorem fnUnitTurn_lifted (os : Os) (started : os.Started) (H : Type) (enc : TypeId × Value → H) :
    ReturnsInHanded {} Try.checked os 4 .any (Rows.fnUnitTurnSpec.pre6 enc Try.prog Try.f4 Rows.fnUnitTurnRow.domain false) (Rows.fnUnitTurnSpec.post enc Try.prog Try.f4 false true false false) := by
  refine returnsInHanded_of_change (C := Try.checked) (by kernel_rfl) started (by kernel_rfl) Try.func4
    (ChangeSpec.witness6 (enc := enc) (C := Try.checked) false ⟨#[], #[.slice none 0 0], []⟩ 16 (by kernel_rfl) (by kernel_rfl) (by kernel_rfl) (by kernel_rfl)) ?_
  intro W base args ds gs before hval0 hW hcnd _
  have hval : ∀ (j : Nat) t v, Try.f4.params[j]? = some t → args[j]? = some v → Value.okWide Try.prog W .any base t v := hval0
  have hW' := hW
  obtain ⟨p, q, hA0, hV, rfl, hfz, hnd⟩ := hW
  have hA : DataW.TrodAll enc Try.prog W 0 (fun _ => true) true Try.f4.params.toList args.toList ds p := hA0
  rw [Try.params4] at hA hval
  obtain ⟨v0, vs0, d0, ds0, p0, q0, hargs, rfl, rfl, h0, r0⟩ := trodAll_cons hA
  obtain ⟨rfl, rfl, rfl⟩ := trodAll_nil r0
  obtain rfl : args = #[v0] := by cases args; simp_all
  obtain ⟨rfl, rfl⟩ := trodVars_none hV
  have k0 := h0
  have lt0 : ∀ x ∈ p0, x.block < W.heap.size := by obtain ⟨m, hm⟩ := k0; exact DataW.trod_lt m _ _ _ hm
  obtain ⟨A0, c0, x0, rfl, hc0, ok0, rd0⟩ := open_arg Try.underlying34 opens_bytes (hval 0 34 v0 rfl rfl) h0
  clear hA0 hval0
  refine (fnUnitTurn_walk W hc0 ok0 rd0).mono fun e W' ⟨he, bel⟩ => ?_
  subst he
  exact ⟨_, rfl, _, _, _, [], _, [], hW', trodAll_mk1 (shut_bool Try.underlying4 _), (trodAll_cons_mk (Below.trod (by kernel_rfl) (by kernel_rfl) (of_decide_eq_true (by kernel_rfl)) k0 bel lt0) trodAll_mk0), rfl, bel.frame _, fun h => by cases h⟩

/-- The given statement. -/
theorem fnUnitTurn_holds : Rows.FnUnitTurnSaid :=
  OpenClaim.holds_of_wide 4 Try.f4 rfl rfl rfl rfl rfl rfl rfl ⟨rfl, rfl, rfl, rfl, rfl⟩ rfl rfl rfl rfl rfl (by kernel_rfl) Try.func4 (by kernel_rfl)
    (of_decide_eq_true (by kernel_rfl)) (by unfold Func.isWrapper; first | (rw [if_pos (by decide +kernel)]; kernel_rfl) | (rw [if_neg (by decide +kernel)]; exact ⟨rfl, rfl⟩))
    (fun os started H enc _ => fnUnitTurn_lifted os started H enc)
#print axioms fnUnitTurn_holds
end Go.Proofs.Ytndolbplkjhooaa
