/- append of one integer onto a row of the call's own, and where the row lies then. The reference's search: l5Join. A drawn region, each operation once, what memory does told of each. No program is named here. A drawn region, each operation once: what is so all along may look at which operations have been done. No program is named here. -/
import Derived.Test.YtbljfhmcebgdaaaChecked
import Derived.Test.YtbljfhmcebgdaaaJFnRup0
import Derived.Test.YtbljfhmcebgdaaaJFnRup1
import Derived.Test.YtbljfhmcebgdaaaJFnRup2
import Derived.Test.YtbljfhmcebgdaaaJFnRup3
import Derived.Test.YtbljfhmcebgdaaaJFnRup7
import Derived.Test.YtbljfhmcebgdaaaJFnRup10
/-! append of one integer onto a row of the call's own, and where the row lies then. -/
namespace Go.Proofs.Ytbljfhmcebgdaaa
open Go Go.RowKit

theorem wpList_append_int8 {Q : Exit → Act → World → Prop} {ops : Array Oper} {rest : List Oper} {o : Oper} {a : Act} {W : World} {lo : Nat} {A : Option Addr} {c : Nat} {xs ys : List Int} {x : Int} {e' : TypeId} (hgd : o.guard = none) (s y : Operand)
    (ho : o.op = .call { callee := .builtin .append, args := #[s, y], argTypes := #[26, 26] }) (hs : a.eval s = .slice A xs.length c) (hy : a.eval y = .slice (some ⟨W.heap.size, 0, none⟩) 1 1)
    (hown : OwnI W lo (.slice A xs.length c) xs) (hn : xs.length ≤ 2000000) (hlo : lo ≤ W.heap.size) (hys : ys = xs ++ [x])
    (h : ∀ A' c' w', OwnI w' lo (.slice A' ys.length c') ys → W.grownBy w' (Value.slice A xs.length c).ownBlock →
      ((Value.slice A' ys.length c').ownBlock = (Value.slice A xs.length c).ownBlock ∨ ∃ g, (Value.slice A' ys.length c').ownBlock = some g ∧ W.heap.size ≤ g) → wpList Try.prog ops Q rest (a.put o.dst (.slice A' ys.length c')) w') :
    wpList Try.prog ops Q (o :: rest) a (W.alloc (.cells #[.int .i64 x] e')) := by
  obtain ⟨i0, hi0, hz0, hz1, hz2⟩ := info_parts int_info
  have hal : Below W.heap.size W (W.alloc (.cells #[.int .i64 x] e')) := (Below.refl _ _).alloc (Nat.le_refl _) _
  have hl : ys.length = xs.length + 1 := by rw [hys]; simp
  have hm : ys.map (Value.int .i64) = xs.map (Value.int .i64) ++ [.int .i64 x] := by rw [hys]; simp
  refine wpList_plain hgd fun _ hK => ?_
  obtain ⟨v', w', hrun, ho', hg', _, hbk⟩ := run_append_own_at (P := Try.prog) (W.alloc (.cells #[.int .i64 x] e')) lo 26 o.type 3 i0 _ 1 8 Try.underlying26 hi0 hz0 hz1 hz2 (by rfl) (by omega)
    (.slice A xs.length c) xs.length (xs.map (Value.int .i64)) (hown.up hal) ⟨W.heap.size, 0, none⟩ 1 1 [.int .i64 x] (by rfl) (fun j u hu => by
      have := World.news_of_block (heap_alloc_new W (.cells #[.int .i64 x] e')) j u hu
      exact this) (by simp; rfl) (by unfold maxLen; omega) (by omega) (Nat.le_trans hlo hal.size)
  rw [← hl, ← hm] at ho'
  obtain ⟨A', c', rfl, _, _⟩ := OwnI.form (xs := ys) ho'
  unfold Oper.wp execOp
  simp only [ho, resolve, invoke, builtin, Sem.run_bind, Sem.run_pure, Result.andThen_ok, List.map_toArray, List.map_cons, List.map_nil, hs, hy, hrun]
  refine hK _ _ (h A' c' w' ho' (grown_then hal hg') ?_)
  rcases hbk with e | e
  · exact .inl e
  · exact .inr ⟨_, e, hal.size⟩
end Go.Proofs.Ytbljfhmcebgdaaa

/-! The reference's search: l5Join. -/
namespace Go.Proofs.Ytbljfhmcebgdaaa
open Go Go.RowKit

theorem litOf_snoc (xs : List Int) (l : Int) (v : Nat) : litOf (xs ++ [l]) v = if l.natAbs = v then l else litOf xs v := by
  rw [litOf_app]
  have e : hasM [l] v = (l.natAbs == v) := by simp [hasM]
  rw [e]
  by_cases h : l.natAbs = v
  · rw [if_pos (by simpa using h), if_pos h]
    simp [litOf, hasM, h]
  · rw [if_neg (by simpa using h), if_neg h]
theorem joinF_snoc (ab : List Int) (m : Nat) : ∀ (n a : Nat), joinF ab m a (n + 1) = joinF ab m a n ++ (if a + n + 1 ≠ m ∧ litOf ab (a + n + 1) ≠ 0 then [litOf ab (a + n + 1)] else [])
  | 0, a => by simp [joinF]
  | n + 1, a => by
    rw [joinF, joinF_snoc ab m n (a + 1)]
    conv => rhs; rw [joinF]
    rw [List.append_assoc, show a + 1 + n + 1 = a + (n + 1) + 1 by omega]
/-- A row of the numbers of the marks. -/
def LitR (M : Nat) (ab vs : List Int) : Prop := vs.length = M + 1 ∧ ∀ v, v ≤ M → 1 ≤ v → vs[v]? = some (litOf ab v)
theorem LitR.put {M : Nat} {ab vs : List Int} (h : LitR M ab vs) {l : Int} (hl : l.natAbs ≤ M) : LitR M (ab ++ [l]) (vs.set l.natAbs l) := ⟨by simp [h.1], fun v hv hv1 => by
  rw [litOf_snoc, List.getElem?_set]
  by_cases e : l.natAbs = v
  · rw [if_pos e, if_pos e, if_pos (by have := h.1; omega)]
  · rw [if_neg e, if_neg e]; exact h.2 v hv hv1⟩
theorem sl_block {w : World} {F : Nat → Prop} {g : Nat} {xs : List Int} (h : Lay.int.Sl w F (some ⟨g, 0, none⟩) xs) : Lay.int.Sl w (fun y => y = g) (some ⟨g, 0, none⟩) xs := fun h0 => by
  obtain ⟨ad, e, hf, hc⟩ := h h0
  injection e with e
  subst e
  exact ⟨_, rfl, rfl, fun k x hx => by
    obtain ⟨vs, h1, h2⟩ := hc k x hx
    exact ⟨vs, h1, h2⟩⟩
/-- A row of the call's own is handed back. -/
def RetJ (r : List Int) (w : World) (e : Ending) (w' : World) : Prop := ∃ A c, e = .returned (.slice A r.length c) ∧ OwnI w' w.heap.size (.slice A r.length c) r ∧ Below w.heap.size w w'
set_option maxRecDepth 100000 in
set_option maxHeartbeats 8000000 in
theorem l5Join_any (A B : Option Addr) (ca cb M m : Nat) (xa xb : List Int) (F G : Nat → Prop) (w : World) (ha : Lay.int.Sl w F A xa) (hb : Lay.int.Sl w G B xb) (hF : ∀ b, F b → b < w.heap.size) (hG : ∀ b, G b → b < w.heap.size) (hra : ∀ l ∈ xa, -(M : Int) ≤ l ∧ l ≤ M) (hrb : ∀ l ∈ xb, -(M : Int) ≤ l ∧ l ≤ M) (hM : M ≤ 1000000) (hm : m ≤ M) (hna : xa.length ≤ 1048576) (hnb : xb.length ≤ 1048576) :
    Calls Try.prog 131 #[.int .i64 (M : Int), .slice A xa.length ca, .slice B xb.length cb, .int .i64 (m : Int)] w (RetJ (joinP M xa xb m) w) := by
  obtain ⟨i0, hi0, hz0, hz1, hz2⟩ := info_parts int_info
  have hal1 : Below w.heap.size w (w.alloc (.cells #[] 3)) := (Below.refl _ _).alloc (Nat.le_refl _) _
  have hs1 : (w.alloc (.cells #[] 3)).heap.size = w.heap.size + 1 := by simp
  have hown1 : OwnI (w.alloc (.cells #[] 3)) w.heap.size (.slice (some ⟨w.heap.size, 0, none⟩) 0 0) [] := own_lit0 rfl
  obtain ⟨w1, hw1⟩ : ∃ w1, w1 = w.alloc (.cells #[] 3) := ⟨_, rfl⟩
  rw [← hw1] at hal1 hs1 hown1
  have HAL := Lib.hid hal1
  have HOUT := Lib.hid hown1
  have HS1 := Lib.hid hs1
  have KA := Lib.hid (Lay.Sl.below ha hal1 hF)
  have KB := Lib.hid (Lay.Sl.below hb hal1 hG)
  have HW1 := Lib.hid hw1
  have HFF := Lib.hid (And.intro hF hG)
  clear hal1 hs1 hown1 hw1 ha hb hF hG
  go_enter Try.func131, Try.ntmps131
  go_wp2_with (at_make; rw [← HW1.out]; refine wpList_make_full _ rfl _ _ 26 rfl w1.heap.size 3 i0 _ 1 Try.underlying26 hi0 hz0 hz1 .i64 .i64 _ _ (M + 1) rfl rfl (by push_cast; rfl) (by push_cast; rfl) (by rw [hz2]; omega) (by unfold maxLen; omega) (Nat.le_refl _) ?_; intro w3 hown hg1)
  have H1 := Lib.hid hg1
  clear hg1 hi0 hz0 hz1 hz2 HW1
  have hb1 : Below w1.heap.size w1 w3 := (Below.refl _ _).grown H1.out (Nat.le_refl _) (by simp)
  rw [show (madeCells (Value.int .i64 0).cells ((M + 1) * 1)).toList = (List.replicate (M + 1) (0 : Int)).map (Value.int .i64) from by
    rw [show (Value.int .i64 0).cells = #[Value.int .i64 0] from rfl, toList_madeCells_one]; simp] at hown
  rw [HS1.out] at hown ⊢
  have hWle : w1.heap.size ≤ w.heap.size + 1 := by rw [HS1.out]; exact Nat.le_refl _
  go_wp2
  go_loopw [11] (fun i wr => ∃ (k : Nat) (vs : List Int), k ≤ xa.length ∧ i = .int .i64 k ∧ Hid (Below w1.heap.size w1 wr) ∧ Hid (wr.ownsRow (w.heap.size + 1) 3 1 (.slice (some ⟨w.heap.size + 1, 0, none⟩) (M + 1) (M + 1)) (M + 1) (vs.map (Value.int .i64))) ∧ Hid (LitR M (xa.take k) vs))
    (fun i _ => xa.length - (intOf i).toNat)
  case atStart => exact ⟨0, _, Nat.zero_le _, rfl, Lib.hid hb1, Lib.hid hown, Lib.hid ⟨by simp, fun v hv h1 => by rw [List.getElem?_replicate, if_pos (by omega)]; rfl⟩⟩
  case round =>
    clear hown hb1
    obtain ⟨k, vs, hk, rfl, HB, HO, HV⟩ := hrel
    by_cases hlt : k < xa.length
    · have hk1 : (k : Int) < xa.length := by omega
      obtain ⟨ad, hA, _, hc⟩ := (Lay.Sl.below KA.out HB.out (fun b h9 => Nat.lt_of_lt_of_le (HFF.out.1 b h9) HAL.out.size)).at_int hlt
      obtain ⟨r1, r2⟩ := hra _ (List.getElem_mem hlt)
      have htk : xa.take (k + 1) = xa.take k ++ [xa[k]] := List.take_succ_eq_append_getElem hlt
      have HTK := Lib.hid htk
      clear htk
      generalize xa[k] = l at *
      subst hA
      have hna9 := natAbs_le r1 r2
      have HS := Lib.hid (fun z => l4Abs_any l z (by omega) (by omega))
      have HVN : Hid (LitR M (xa.take (k + 1)) (vs.set l.natAbs l)) := Lib.hid (by rw [HTK.out]; exact HV.out.put hna9)
      have hlen : vs.length = M + 1 := HV.out.1
      have hq1 := Later.cell hc
      have HLE := Lib.hid hlen
      clear hlen
      generalize hu : l.natAbs = u at *
      have HU := Lib.hid hu
      clear hu
      have hv1 : (u : Int) < ((M + 1 : Nat) : Int) := by omega
      have hv2 : (u : Int) < (M : Int) + 1 := by omega
      go_wp2
      refine wp_region_later_tail 11 (by kernel_rfl) (by kernel_rfl) ?_
      simp only [List.take_succ_cons, List.take_zero, List.drop_succ_cons, List.drop_zero]
      repeat (go_big_quiet_step ((go_at_call 75; exact later_of_same (HS.out _))))
      refine wpQuiet_nil ?_
      rintro _ ⟨x9, rfl⟩
      have HO9 := Lib.hid (own_below HO.out x9.le (Nat.le_refl _))
      obtain ⟨old, hold⟩ : ∃ old, x9.W.cell? ⟨w.heap.size + 1, u, none⟩ = some (.int .i64 old) := by
        have h9 : x9.W.cell? ⟨w.heap.size + 1, u, none⟩ = _ := HO9.out.cellAt u (by omega)
        rw [List.getElem?_map, List.getElem?_eq_getElem (by rw [HLE.out]; omega), Option.map_some] at h9
        exact ⟨_, h9⟩
      have hfr : x9.W.frozen? ⟨w.heap.size + 1, u, none⟩ = false := HO9.out.frozenAt u
      have HST := Lib.hid (HO9.out.stored u (.int .i64 l)).1
      have HB9 := Lib.hid (bthen HB.out x9.le)
      clear hq1 hc
      go_wp2
      go_roundw
      case rel => exact ⟨k + 1, _, by omega, by go_num, Lib.hid (HB9.out.setCell hWle _), Lib.hid (by rw [List.map_set]; exact HST.out), HVN⟩
      case measure => simp [intOf]; omega
    · have hke : k = xa.length := by omega
      subst hke
      have hvs := HV.out
      rw [List.take_length] at hvs
      have HV2 := Lib.hid hvs
      clear hvs HV
      go_wp2
      go_loopw [12] (fun i wr => ∃ (k : Nat) (vs : List Int), k ≤ xb.length ∧ i = .int .i64 k ∧ Hid (Below w1.heap.size w1 wr) ∧ Hid (wr.ownsRow (w.heap.size + 1) 3 1 (.slice (some ⟨w.heap.size + 1, 0, none⟩) (M + 1) (M + 1)) (M + 1) (vs.map (Value.int .i64))) ∧ Hid (LitR M (xa ++ xb.take k) vs))
        (fun i _ => xb.length - (intOf i).toNat)
      case atStart => exact ⟨0, _, Nat.zero_le _, rfl, HB, HO, Lib.hid (by simpa using HV2.out)⟩
      case round =>
        clear HB HO HV2
        obtain ⟨k, vs, hk, rfl, HB, HO, HV⟩ := hrel
        by_cases hlt : k < xb.length
        · have hk1 : (k : Int) < xb.length := by omega
          obtain ⟨ad, hA, _, hc⟩ := (Lay.Sl.below KB.out HB.out (fun b h9 => Nat.lt_of_lt_of_le (HFF.out.2 b h9) HAL.out.size)).at_int hlt
          obtain ⟨r1, r2⟩ := hrb _ (List.getElem_mem hlt)
          have htk : xb.take (k + 1) = xb.take k ++ [xb[k]] := List.take_succ_eq_append_getElem hlt
          have HTK := Lib.hid htk
          clear htk
          generalize xb[k] = l at *
          subst hA
          have hna9 := natAbs_le r1 r2
          have HS := Lib.hid (fun z => l4Abs_any l z (by omega) (by omega))
          have HVN : Hid (LitR M (xa ++ xb.take (k + 1)) (vs.set l.natAbs l)) := Lib.hid (by rw [HTK.out]; rw [← List.append_assoc]; exact HV.out.put hna9)
          have hlen : vs.length = M + 1 := HV.out.1
          have hq1 := Later.cell hc
          have HLE := Lib.hid hlen
          clear hlen
          generalize hu : l.natAbs = u at *
          have HU := Lib.hid hu
          clear hu
          have hv1 : (u : Int) < ((M + 1 : Nat) : Int) := by omega
          have hv2 : (u : Int) < (M : Int) + 1 := by omega
          go_wp2
          refine wp_region_later_tail 11 (by kernel_rfl) (by kernel_rfl) ?_
          simp only [List.take_succ_cons, List.take_zero, List.drop_succ_cons, List.drop_zero]
          repeat (go_big_quiet_step ((go_at_call 75; exact later_of_same (HS.out _))))
          refine wpQuiet_nil ?_
          rintro _ ⟨x9, rfl⟩
          have HO9 := Lib.hid (own_below HO.out x9.le (Nat.le_refl _))
          obtain ⟨old, hold⟩ : ∃ old, x9.W.cell? ⟨w.heap.size + 1, u, none⟩ = some (.int .i64 old) := by
            have h9 : x9.W.cell? ⟨w.heap.size + 1, u, none⟩ = _ := HO9.out.cellAt u (by omega)
            rw [List.getElem?_map, List.getElem?_eq_getElem (by rw [HLE.out]; omega), Option.map_some] at h9
            exact ⟨_, h9⟩
          have hfr : x9.W.frozen? ⟨w.heap.size + 1, u, none⟩ = false := HO9.out.frozenAt u
          have HST := Lib.hid (HO9.out.stored u (.int .i64 l)).1
          have HB9 := Lib.hid (bthen HB.out x9.le)
          clear hq1 hc
          go_wp2
          go_roundw
          case rel => exact ⟨k + 1, _, by omega, by go_num, Lib.hid (HB9.out.setCell hWle _), Lib.hid (by rw [List.map_set]; exact HST.out), HVN⟩
          case measure => simp [intOf]; omega
        · have hke : k = xb.length := by omega
          subst hke
          have hvs := HV.out
          rw [List.take_length] at hvs
          have HV2 := Lib.hid hvs
          clear hvs HV
          go_wp2
          have HOW := Lib.hid (own_of_heap HOUT.out fun g hg => by
            have hg9 := (World.ownsRow.lt HOUT.out g hg).2
            exact HB.out.block g hg9)
          have HRX := Lib.hid (sl_block (sl_ints_of_own (F := fun y => y < wr.heap.size) HO.out (fun g _ h9 => h9)).1)
          have HBW := Lib.hid (bthen HAL.out HB.out)
          have HSZ : Hid (w.heap.size + 1 < wr.heap.size) := Lib.hid (World.ownsRow.lt HO.out _ rfl).2
          clear HO HB HOUT
          obtain ⟨ab, hab⟩ : ∃ ab, ab = xa ++ xb := ⟨_, rfl⟩
          rw [← hab] at HV2
          have HAB := Lib.hid hab
          clear hab
          go_loopw [9, 13] (fun o i wr => ∃ (k : Nat) (A' : Option Addr) (c' : Nat) (os : List Int), k ≤ M ∧ i = .int .i64 ((k : Int) + 1) ∧ o = .slice A' os.length c' ∧ os.length ≤ k ∧ Hid (os = joinF ab m 0 k) ∧ Hid (OwnI wr w.heap.size (.slice A' os.length c') os) ∧ Hid (∀ g, (Value.slice A' os.length c').ownBlock = some g → g ≠ w.heap.size + 1) ∧ Hid (Lay.int.Sl wr (fun y => y = w.heap.size + 1) (some ⟨w.heap.size + 1, 0, none⟩) vs) ∧ Hid (Below w.heap.size w wr) ∧ Hid (w.heap.size + 1 < wr.heap.size)) (fun _ i _ => M + 1 - (intOf i).toNat)
          case atStart => exact ⟨0, _, _, [], Nat.zero_le _, rfl, rfl, by simp, Lib.hid rfl, HOW, Lib.hid (fun g hg => by have hg : some w.heap.size = some g := hg; injection hg with hg; omega), HRX, HBW, HSZ⟩
          case round =>
            clear HOW HRX HBW HSZ
            obtain ⟨k, A', c', os, hk, rfl, rfl, hol, HOS, HOW, HNE, HRX, HBW, HSZ⟩ := hrel
            by_cases hlt : k < M
            · have hk1 : (k : Int) + 1 ≤ M := by omega
              have hsn := joinF_snoc ab m k 0
              rw [← HOS.out, Nat.zero_add] at hsn
              have HSN := Lib.hid hsn
              clear hsn
              obtain ⟨ae, hae, hc⟩ : ∃ ae : Addr, ae = ⟨w.heap.size + 1, k + 1, none⟩ ∧ wr.cell? ae = some (.int .i64 (litOf ab (k + 1))) := by
                have hkl : k + 1 < vs.length := by rw [HV2.out.1]; omega
                obtain ⟨ae, e1, _, e2⟩ := HRX.out.at_int hkl
                injection e1 with e1
                subst e1
                have h9 := HV2.out.2 (k + 1) (by omega) (by omega)
                rw [List.getElem?_eq_getElem hkl] at h9
                injection h9 with h9
                refine ⟨_, rfl, ?_⟩
                rw [h9] at e2
                have e : (⟨w.heap.size + 1, 0, none⟩ : Addr).add (k + 1) = ⟨w.heap.size + 1, k + 1, none⟩ := by simp [Addr.add]
                rw [e] at e2
                exact e2
              subst hae
              have hk2 : ((k : Int) + 1).toNat = k + 1 := by omega
              have hk3 : (0 : Int) ≤ (k : Int) + 1 := by omega
              have hk4 : (k : Int) + 1 < ((M + 1 : Nat) : Int) := by omega
              have hk5 : (k : Int) + 1 < (M : Int) + 1 := by omega
              generalize litOf ab (k + 1) = y at *
              by_cases hkm : k + 1 = m
              · have h3 : ((k : Int) + 1 != (m : Int)) = false := by simp; omega
                have HE : Hid (os = joinF ab m 0 (k + 1)) := Lib.hid (by rw [HSN.out, if_neg (fun h => h.1 hkm), List.append_nil])
                clear hkm
                go_wp2
                go_roundw
                case rel => exact ⟨k + 1, A', c', os, by omega, by go_num, rfl, by omega, HE, HOW, HNE, HRX, HBW, HSZ⟩
                case measure => simp [intOf]; omega
              have h3 : ((k : Int) + 1 != (m : Int)) = true := by simp; omega
              by_cases hy : y = 0
              · have HE : Hid (os = joinF ab m 0 (k + 1)) := Lib.hid (by rw [HSN.out, if_neg (fun h => h.2 hy), List.append_nil])
                have h4 : (y != 0) = false := by simpa using hy
                clear hy hkm
                go_wp2
                go_roundw
                case rel => exact ⟨k + 1, A', c', os, by omega, by go_num, rfl, by omega, HE, HOW, HNE, HRX, HBW, HSZ⟩
                case measure => simp [intOf]; omega
              · have h4 : (y != 0) = true := by simpa using hy
                obtain ⟨zs, hzs⟩ : ∃ zs, zs = os ++ [y] := ⟨_, rfl⟩
                have HE : Hid (zs = joinF ab m 0 (k + 1)) := Lib.hid (by rw [HSN.out, if_pos ⟨hkm, hy⟩, hzs])
                have HZS := Lib.hid hzs
                have HZL : Hid (zs.length = os.length + 1) := Lib.hid (by rw [hzs]; simp)
                clear hzs hy hkm
                have hol2 : os.length ≤ 2000000 := by omega
                have hlw : w.heap.size ≤ wr.heap.size := by have := HSZ.out; omega
                go_wp2_with (at_builtin; refine wpList_append_int8 (ys := zs) (by rfl) (.tmp 67) (.tmp 72) (by rfl) (by rfl) (by rfl) HOW.out hol2 hlw HZS.out ?_; intro A3 c3 w4 hown4 hg4 hbk4)
                have HO4 := Lib.hid hown4
                have HN4 : Hid (∀ g, (Value.slice A3 zs.length c3).ownBlock = some g → g ≠ w.heap.size + 1) := Lib.hid fun g hg => by
                  rcases hbk4 with e | ⟨g9, e, hge⟩
                  · exact HNE.out g (e ▸ hg)
                  · rw [e] at hg; injection hg with hg; have := HSZ.out; omega
                have HR4 : Hid (Lay.int.Sl w4 (fun y => y = w.heap.size + 1) (some ⟨w.heap.size + 1, 0, none⟩) vs) := Lib.hid (HRX.out.keep fun b hb => by
                  rw [show b = w.heap.size + 1 from hb]
                  exact hg4.block _ HSZ.out fun e => HNE.out _ e.symm rfl)
                have HB4 : Hid (Below w.heap.size w w4) := Lib.hid (HBW.out.grown hg4 hlw fun g hg => (World.ownsRow.lt HOW.out g hg).1)
                have HS4 : Hid (w.heap.size + 1 < w4.heap.size) := Lib.hid (Nat.lt_of_lt_of_le HSZ.out hg4.size)
                clear hown4 hg4 hbk4
                go_wp2
                go_roundw
                case rel => exact ⟨k + 1, A3, c3, zs, by omega, by go_num, rfl, by rw [HZL.out]; omega, HE, HO4, HN4, HR4, HB4, HS4⟩
                case measure => simp [intOf]; omega
            · have hke : k = M := by omega
              subst hke
              have HE : Hid (os = joinP k xa xb m) := Lib.hid (by rw [HOS.out, HAB.out]; rfl)
              go_wp2
              go_ret
              rw [← HE.out]
              exact ⟨A', c', rfl, HOW.out, HBW.out⟩
end Go.Proofs.Ytbljfhmcebgdaaa

/-! A drawn region, each operation once, what memory does told of each. No program is named here. -/
namespace Go.Proofs.Ytbljfhmcebgdaaa
open Go Go.RowKit
variable {P : Program} {Q : Exit → Act → World → Prop}

/-- What the operation does to memory: R0, or what is told of it. -/
def relOf (R0 : World → World → Prop) : List (Nat × (World → World → Prop)) → Nat → World → World → Prop
  | [], _ => R0
  | p :: l, k => fun x x' => (k = p.1 → p.2 x x') ∧ (k ≠ p.1 → relOf R0 l k x x')
def Refls : List (Nat × (World → World → Prop)) → Prop
  | [] => True
  | p :: l => (∀ x, p.2 x x) ∧ Refls l
theorem relOf_refl {R0 : World → World → Prop} (h0 : ∀ x, R0 x x) : ∀ {l : List (Nat × (World → World → Prop))}, Refls l → ∀ k x, relOf R0 l k x x
  | [], _, _, x => h0 x
  | _ :: _, h, k, x => ⟨fun _ => h.1 x, fun _ => relOf_refl h0 h.2 k x⟩
def StabS (ops : List Oper) (V : Say) (i : Nat) : List (Nat × (World → World → Prop)) → Prop
  | [] => True
  | p :: l => (reach ops ops.length i p.1 = true ∨ i = p.1 ∨ ∀ vs x x', V vs x → p.2 x x' → V vs x') ∧ StabS ops V i l
def Stabs3 (ops : List Oper) (R0 : World → World → Prop) (Rs : List (Nat × (World → World → Prop))) : Nat → List Say → Prop
  | _, [] => True
  | i, V :: l => ((isLast ops i = true ∨ ∀ vs x x', V vs x → R0 x x' → V vs x') ∧ StabS ops V i Rs) ∧ Stabs3 ops R0 Rs (i + 1) l
theorem relOf_stab {ops : List Oper} {R0 : World → World → Prop} {V : Say} {i k : Nat} (hik : i ≠ k) (hr : reach ops ops.length i k = false) (h0 : ∀ vs x x', V vs x → R0 x x' → V vs x') : ∀ {l : List (Nat × (World → World → Prop))}, StabS ops V i l → ∀ vs x x', V vs x → relOf R0 l k x x' → V vs x'
  | [], _, vs, x, x', hv, h => h0 vs x x' hv h
  | p :: l, hs, vs, x, x', hv, h => by
    by_cases e : k = p.1
    · rcases hs.1 with h1 | h1 | h1
      · rw [e, h1] at hr; cases hr
      · exact absurd (h1.trans e.symm) hik
      · exact h1 vs x x' hv (h.1 e)
    · exact relOf_stab hik hr h0 hs.2 vs x x' hv (h.2 e)
theorem relOf_last {ops : List Oper} {R0 : World → World → Prop} {V : Say} {i k : Nat} (hik : i ≠ k) (hr : reach ops ops.length i k = false) (hk : k < ops.length) (hl : isLast ops i = true) : False := by
  unfold isLast at hl
  have h1 := List.all_eq_true.1 hl k (List.mem_range.2 hk)
  rw [Bool.or_eq_true, hr] at h1
  rcases h1 with h1 | h1
  · exact hik (by simpa using Eq.symm (by simpa using h1 : k = i))
  · cases h1
theorem Stabs3.get {ops : List Oper} {R0 : World → World → Prop} {Rs : List (Nat × (World → World → Prop))} {k : Nat} (hk : k < ops.length) : ∀ {L : List Say} {m : Nat}, Stabs3 ops R0 Rs m L → ∀ i, m + i ≠ k → reach ops ops.length (m + i) k = false → ∀ vs x x', L.getD i (fun _ _ => True) vs x → relOf R0 Rs k x x' → L.getD i (fun _ _ => True) vs x'
  | [], _, _, i, _, _, vs, x, x', _, _ => by simp
  | V :: l, m, h, 0, hik, hr, vs, x, x', hv, hR => by
    rcases h.1.1 with h1 | h1
    · exact (relOf_last (R0 := R0) (V := V) hik hr hk h1).elim
    · simpa using relOf_stab hik hr h1 h.1.2 vs x x' (by simpa using hv) hR
  | V :: l, m, h, i + 1, hik, hr, vs, x, x', hv, hR => by
    have e : m + (i + 1) = m + 1 + i := by omega
    rw [e] at hik hr
    simpa using Stabs3.get hk h.2 i hik hr vs x x' (by simpa using hv) hR
end Go.Proofs.Ytbljfhmcebgdaaa

/-! A drawn region, each operation once: what is so all along may look at which operations have been done. No program is named here. -/
namespace Go.Proofs.Ytbljfhmcebgdaaa
open Go Go.RowKit
variable {P : Program} {Q : Exit → Act → World → Prop}

/-- It has been done too. -/
def did (f : Nat → Bool) (k : Nat) : Nat → Bool := fun j => if j = k then true else f j
def relQ4 (R : World → World → Prop) (I : (Nat → Bool) → World → Prop) (L : List Say) (vals : Nat → Value) (f : Nat → Bool) (k : Nat) (o : Oper) (a : Act) (x : World) : Exit → Act → World → Prop
  | .normal, a', x' => a'.defers = a.defers ∧ L.getD k (fun _ _ => True) (upd vals k (got o a')) x' ∧ R x x' ∧ I (did f k) x'
  | _, _, _ => False
def obligR4 (P : Program) (ops : List Oper) (D : List (List Nat)) (R : World → World → Prop) (I : (Nat → Bool) → World → Prop) (L : List Say) (a : Act) (k : Nat) (o : Oper) : Prop :=
  ∀ (vals : Nat → Value) (x : World) (f : Nat → Bool), f k = false → (∀ j, reach ops ops.length k j = true → f j = true) → (∀ j, reach ops ops.length j k = true → f j = false) → I f x → says L vals x (D.getD k []) →
    ((∀ g b, o.guard = some (g, b) → vals g = .bool b) → o.wp P (puts ops vals (D.getD k []) a) x (relQ4 R I L vals f k o (puts ops vals (D.getD k []) a) x .normal) (relQ4 R I L vals f k o (puts ops vals (D.getD k []) a) x)) ∧
    (∀ g b, o.guard = some (g, b) → vals g ≠ .bool b → L.getD k (fun _ _ => True) (upd vals k undef) x ∧ I (did f k) x)
structure RelInv4 (ops : List Oper) (I : (Nat → Bool) → World → Prop) (L : List Say) (a : Act) (listed : Array Bool) (a' : Act) (x : World) (vals : Nat → Value) : Prop where
  size : listed.size = ops.length
  closed : ∀ j k, waits ops k j = true → listed.getD k false = true → listed.getD j false = true
  tsize : a'.tmps.size = a.tmps.size
  defers : a'.defers = a.defers
  old : ∀ t, (∀ j, listed.getD j false = true → dstOf ops j ≠ some t) → a'.tmps[t]? = a.tmps[t]?
  new : ∀ j t, listed.getD j false = true → dstOf ops j = some t → a'.tmps[t]? = some (vals j)
  inv : I (fun i => listed.getD i false) x
  fact : ∀ j, listed.getD j false = true → L.getD j (fun _ _ => True) vals x
def owes4 (P : Program) (R : World → World → Prop) (I : (Nat → Bool) → World → Prop) (L : List Say) (vals : Nat → Value) (a : Act) (x : World) (f : Nat → Bool) (k : Nat) (o : Oper) (gd : Option (Nat × Bool)) : Prop :=
  match gd with
  | none => wpList P #[] (relQ4 R I L vals f k o a x) [bare o] a x
  | some (g, b) => (vals g = .bool b → wpList P #[] (relQ4 R I L vals f k o a x) [bare o] a x) ∧ (vals g ≠ .bool b → L.getD k (fun _ _ => True) (upd vals k undef) x ∧ I (did f k) x)
/-- As 'relOk'; an operation may look at a slot that a later one writes, if that one waits for it. -/
def relOk4 (ops : List Oper) (D : List (List Nat)) (size : Nat) : Bool :=
  (List.range ops.length).all fun k =>
    (match ops[k]? with
      | some o => (match o.guard with | none => true | some (g, _) => (D.getD k []).contains g && (dstOf ops g).isSome) && (match o.op with | .select .. => false | _ => true) && (o.after.all fun e => !Region.binds .any e || decide (e.on < k)) && (match o.dst with | some d => decide (d < size) | none => true)
      | none => false) &&
    ((D.getD k []).all fun j => waits ops k j && decide (j < ops.length)) &&
    (decide ((D.getD k []).Nodup)) &&
    (List.range ops.length).all fun j =>
      (!looks ops k j || (D.getD k []).contains j || reach ops ops.length j k) &&
      (decide (j = k) || (match dstOf ops j, dstOf ops k with | some d, some e => d != e | _, _ => true))
theorem relOk4_spec {ops : List Oper} {D : List (List Nat)} {size : Nat} (h : relOk4 ops D size = true) (k : Nat) (o : Oper) (hk : ops[k]? = some o) :
    (∀ g b, o.guard = some (g, b) → g ∈ D.getD k [] ∧ ∃ d, dstOf ops g = some d) ∧ (∀ cs b, o.op ≠ .select cs b) ∧ (∀ e ∈ o.after, Region.binds .any e = true → e.on < k) ∧ (∀ d, o.dst = some d → d < size) ∧
    (∀ j ∈ D.getD k [], waits ops k j = true ∧ j < ops.length) ∧ (∀ j, j < ops.length → looks ops k j = true → j ∈ D.getD k [] ∨ reach ops ops.length j k = true) ∧
    (∀ j d, j < ops.length → dstOf ops j = some d → o.dst = some d → j = k) := by
  have hlt : k < ops.length := (List.getElem?_eq_some_iff.1 hk).1
  unfold relOk4 at h
  have h := List.all_eq_true.1 h k (List.mem_range.2 hlt)
  have hdk : dstOf ops k = o.dst := by simp [dstOf, hk]
  simp only [hk, Bool.and_eq_true, hdk] at h
  obtain ⟨⟨⟨⟨⟨⟨h1, h2⟩, h3⟩, h4⟩, h5⟩, _⟩, h6⟩ := h
  have h6 : ∀ j, j < ops.length → _ := fun j hj => List.all_eq_true.1 h6 j (List.mem_range.2 hj)
  refine ⟨fun g b hg => ?_, fun cs b e => (by rw [e] at h2; cases h2), fun e he hb => ?_, fun d hd => by rw [hd] at h4; simpa using h4, fun j hj => ?_, fun j hj hl => ?_, fun j d hj hd hd' => ?_⟩
  · rw [hg] at h1
    simp only [Bool.and_eq_true, List.contains_iff_mem] at h1
    exact ⟨h1.1, Option.isSome_iff_exists.1 h1.2⟩
  · have := (Array.all_eq_true_iff_forall_mem.1 h3) e he
    simpa [hb] using this
  · have := List.all_eq_true.1 h5 j hj
    simpa using this
  · have := h6 j hj
    simp only [Bool.and_eq_true, hl] at this
    simpa using this.1
  · have := h6 j hj
    simp only [Bool.and_eq_true, hd, hd'] at this
    simpa using this.2
theorem rel4_any {ops : List Oper} {D : List (List Nat)} {R : Nat → World → World → Prop} {I : (Nat → Bool) → World → Prop} {L : List Say} {a : Act} (hRr : ∀ k x, R k x x) (hL : ∀ j k, k < ops.length → j ≠ k → reach ops ops.length j k = false → ∀ vs x x', L.getD j (fun _ _ => True) vs x → R k x x' → L.getD j (fun _ _ => True) vs x') (hLo : Locals D 0 L) (hB : relOk4 ops D a.tmps.size = true)
    (hs : ∀ k o, ops[k]? = some o → obligR4 P ops D (R k) I L a k o)
    (hfin : ∀ vals x f, (∀ i, i < ops.length → f i = true) → I f x → says L vals x (List.range ops.length) → Q .normal (puts ops vals (List.range ops.length) a) x) :
    ∀ (fuel : Nat) (listed : Array Bool) (a' : Act) (x : World) (vals : Nat → Value), cnt (fun i => listed.getD i false) ops.length ≤ fuel →
      RelInv4 ops I L a listed a' x vals → wpAny P .any ops.toArray Q fuel listed a' x := by
  have hdd : ∀ i j t, dstOf ops i = some t → dstOf ops j = some t → i = j := fun i j t hi hj => by
    have hjl : j < ops.length := dst_lt hj
    have ho : ops[j]? = some ops[j] := List.getElem?_eq_getElem hjl
    exact (relOk4_spec hB j _ ho).2.2.2.2.2.2 i t (dst_lt hi) hi (by simpa [dstOf, ho] using hj)
  have hds : ∀ j t, dstOf ops j = some t → t < a.tmps.size := fun j t hj => by
    have hjl : j < ops.length := dst_lt hj
    have ho : ops[j]? = some ops[j] := List.getElem?_eq_getElem hjl
    exact (relOk4_spec hB j _ ho).2.2.2.1 t (by simpa [dstOf, ho] using hj)
  have hdone : ∀ (listed : Array Bool) (a' : Act) (x : World) (vals : Nat → Value), (∀ i, i < ops.length → listed.getD i false = true) → RelInv4 ops I L a listed a' x vals → Q .normal a' x := by
    intro listed a' x vals hall inv
    have ha : a' = puts ops vals (List.range ops.length) a := by
      have ht : a'.tmps = (puts ops vals (List.range ops.length) a).tmps := by
        apply Array.ext_getElem?
        intro t
        by_cases h : ∃ j, dstOf ops j = some t
        · obtain ⟨j, hj⟩ := h
          rw [inv.new j t (hall j (dst_lt hj)) hj, puts_get (fun i j => hdd i j t) _ _ j (List.mem_range.2 (dst_lt hj)) hj (hds j t hj)]
        · rw [inv.old t (fun j _ e => h ⟨j, e⟩), puts_ne _ _ (fun i _ e => h ⟨i, e⟩)]
      have hdf : a'.defers = (puts ops vals (List.range ops.length) a).defers := by rw [puts_defers]; exact inv.defers
      cases a'
      cases hp : puts ops vals (List.range ops.length) a
      rw [hp] at ht hdf
      simp only at ht hdf
      rw [ht, hdf]
    rw [ha]
    exact hfin vals x _ hall inv.inv (says_iff.2 fun i hi => inv.fact i (hall i (List.mem_range.1 hi)))
  have hmin : ∀ (listed : Array Bool), listed.size = ops.length → ∀ i, i < ops.length → listed.getD i false = false → Region.ready .any ops.toArray listed ≠ [] := by
    intro listed hsz i
    induction i using Nat.strongRecOn with
    | _ i ih =>
      intro hi hun hr
      have ho : ops[i]? = some ops[i] := List.getElem?_eq_getElem hi
      by_cases h : ∀ e ∈ ops[i].after, Region.binds .any e = true → listed.getD e.on false = true
      · have : i ∈ Region.ready .any ops.toArray listed := mem_ready.2 ⟨getD_in (by omega) hun, ops[i], by simp [ho], h⟩
        rw [hr] at this; cases this
      · simp only [Classical.not_forall] at h
        obtain ⟨e, he, hb, hl⟩ := h
        have hlt := (relOk4_spec hB i _ ho).2.2.1 e he hb
        exact ih e.on hlt (by omega) (by simpa using hl) hr
  intro fuel
  induction fuel with
  | zero =>
    intro listed a' x vals hc inv
    have hall := cnt_zero (f := fun i => listed.getD i false) (Nat.le_zero.1 hc)
    refine ⟨?_, hdone _ _ _ _ hall inv⟩
    cases hr : Region.ready .any ops.toArray listed with
    | nil => rfl
    | cons k rs =>
      exfalso
      have hk : k ∈ Region.ready .any ops.toArray listed := by rw [hr]; simp
      obtain ⟨h0, o, ho, _⟩ := mem_ready.1 hk
      have hlt : k < ops.length := by
        have := (Array.getElem?_eq_some_iff.1 ho).1; simpa using this
      have h1 : listed.getD k false = true := hall k hlt
      rw [getD_both h0] at h1; cases h1
  | succ fuel ih =>
    intro listed a' x vals hc inv
    refine ⟨fun hr => ?_, fun k hk => ?_⟩
    · refine hdone _ _ _ _ (fun i hi => ?_) inv
      cases h : listed.getD i false with
      | true => rfl
      | false => exact absurd hr (hmin listed inv.size i hi h)
    · obtain ⟨h0, o, hoA, hwait⟩ := mem_ready.1 hk
      have ho : ops[k]? = some o := by simpa using hoA
      have hkl : k < ops.length := (List.getElem?_eq_some_iff.1 ho).1
      have h0f : listed.getD k false = false := getD_both h0
      have hsz : k < listed.size := by rw [inv.size]; exact hkl
      obtain ⟨hg, hsel, _, hdsz, hD, hlook, hdist⟩ := relOk4_spec hB k o ho
      have hw : ∀ m, waits ops k m = true → listed.getD m false = true := fun m hm => by
        obtain ⟨o', ho', e, he, hb, rfl⟩ := waits_spec.1 hm
        have : o' = o := Option.some.inj (ho'.symm.trans ho)
        subst this
        exact hwait e he hb
      have hDl : ∀ j ∈ D.getD k [], listed.getD j false = true := fun j hj => hw j (hD j hj).1
      have hdk : dstOf ops k = o.dst := by simp [dstOf, ho]
      -- the operation runs as it does in the small state
      have hexec : execOp a'.eval o = execOp (puts ops vals (D.getD k []) a).eval o := execOp_congr o hsel fun y hy => by
        cases y with
        | tmp t =>
          have ht : a'.tmps[t]? = (puts ops vals (D.getD k []) a).tmps[t]? := by
            by_cases h : ∃ j, dstOf ops j = some t
            · obtain ⟨j, hj⟩ := h
              rcases hlook j (dst_lt hj) (looks_spec ho hj hy) with hm | hm
              · rw [inv.new j t (hDl j hm) hj, puts_get (fun i j => hdd i j t) _ _ j hm hj (hds j t hj)]
              · have hjf : listed.getD j false = true → False := fun hjl => by
                  have := reach_listed inv.closed _ j k (fun m hm => inv.closed m j hm hjl) hm
                  rw [this] at h0f; cases h0f
                rw [inv.old t (fun i hi e => by have := hdd i j t e hj; subst this; exact hjf hi), puts_ne _ _ (fun i hi e => by have := hdd i j t e hj; subst this; exact hjf (hDl i hi))]
            · rw [inv.old t (fun j _ e => h ⟨j, e⟩), puts_ne _ _ (fun i _ e => h ⟨i, e⟩)]
          show a'.tmps.getD t undef = (puts ops vals (D.getD k []) a).tmps.getD t undef
          rw [Array.getD_eq_getD_getElem?, Array.getD_eq_getD_getElem?, ht]
        | _ => rfl
      have hcs := (cnt_set (f := fun i => listed.getD i false) (g := fun i => (listed.setIfInBounds k true).getD i false) h0f (getD_set (listed := listed) hsz) (n := ops.length)).2 hkl
      have hob := hs k o ho vals x (fun i => listed.getD i false) h0f (fun r h => reach_listed inv.closed _ k r (fun m hm => hw m hm) h) (fun r hr => by
        cases h : listed.getD r false with
        | false => rfl
        | true => exact absurd ((reach_listed inv.closed _ r k (fun m hm => inv.closed m r hm h) hr).symm.trans h0f) (by simp)) inv.inv (says_iff.2 fun j hj => inv.fact j (hDl j hj))
      have hbs : (puts ops vals (D.getD k []) a).tmps.size = a.tmps.size := puts_size _ _
      have hbd : (puts ops vals (D.getD k []) a).defers = a.defers := puts_defers _ _
      have next : ∀ v x', (L.getD k (fun _ _ => True) (upd vals k (got o ((puts ops vals (D.getD k []) a).put o.dst v))) x' ∧ R k x x' ∧ I (did (fun i => listed.getD i false) k) x') →
          wpAny P .any ops.toArray Q fuel (listed.setIfInBounds k true) (a'.put o.dst v) x' := by
        intro v x' hq
        obtain ⟨hV, hR, hI'⟩ := hq
        have hgs := getD_set (listed := listed) hsz
        have hold : ∀ j, (listed.setIfInBounds k true).getD j false = true → j ≠ k → listed.getD j false = true := fun j hj hne => by
          rw [hgs, if_neg hne] at hj; exact hj
        refine ih _ _ x' (fun j => if j = k then got o ((puts ops vals (D.getD k []) a).put o.dst v) else vals j) ?_ ⟨by simp [inv.size], fun j m hm hl => ?_, by rw [put_size]; exact inv.tsize, by rw [put_defers]; exact inv.defers, fun t ht => ?_, fun j t hj hdj => ?_, by rw [show (fun i => (listed.setIfInBounds k true).getD i false) = fun j => if j = k then true else listed.getD j false from funext hgs]; exact hI', fun j hj => ?_⟩
        · omega
        · rw [hgs]
          by_cases e : j = k
          · rw [if_pos e]
          · rw [if_neg e]
            by_cases e' : m = k
            · subst e'; exact hw j hm
            · exact inv.closed j m hm (hold m hl e')
        · rw [put_get_ne _ _ _ _ (by
            have := ht k (by rw [hgs, if_pos rfl])
            rwa [hdk] at this)]
          refine inv.old t fun j hj => ht j ?_
          rw [hgs]; split <;> first | rfl | exact hj
        · by_cases e : j = k
          · subst e
            rw [hdk] at hdj
            have htl := hdsz t hdj
            rw [if_pos rfl, hdj, put_get _ _ _ (by rw [inv.tsize]; exact htl)]
            simp only [got, hdj]
            rw [Array.getD_eq_getD_getElem?, put_get _ _ _ (by rw [hbs]; exact htl)]
            rfl
          · rw [if_neg e, put_get_ne _ _ _ _ (fun e' => e (hdist j t (dst_lt hdj) hdj e'))]
            exact inv.new j t (hold j hj e) hdj
        · by_cases e : j = k
          · subst e; exact hV
          · have hjl := hold j hj e
            have hrj : reach ops ops.length j k = false := by
              cases h : reach ops ops.length j k with
              | false => rfl
              | true => rw [reach_listed inv.closed _ j k (fun m hm => inv.closed m j hm hjl) h] at h0f; cases h0f
            have hfj := hL j k hkl e hrj vals x x' (inv.fact j hjl) hR
            refine hLo.get j vals _ x' (by simp [upd, e]) (fun m hm => ?_) hfj
            have hmk : m ≠ k := fun e' => by
              have hjlt := listed_lt inv.size hjl
              have hw' := ((relOk4_spec hB j ops[j] (List.getElem?_eq_getElem hjlt)).2.2.2.2.1 m (by simpa using hm)).1
              rw [e'] at hw'
              rw [inv.closed k j hw' hjl] at h0f; cases h0f
            simp [upd, hmk]
      unfold wpOp
      rw [hoA]
      dsimp only
      have hgv : ∀ g b, o.guard = some (g, b) → ∃ d, dstOf ops g = some d ∧ a'.tmps[d]? = some (vals g) := fun g b hgb => by
        obtain ⟨h1, d, h2⟩ := hg g b hgb
        exact ⟨d, h2, inv.new g d (hDl g h1) h2⟩
      have hyield : ∀ g b, o.guard = some (g, b) → (Region.wanted o (yielded ops.toArray a'.tmps) = true ↔ vals g = .bool b) := fun g b hgb => by
        obtain ⟨d, h1, h2⟩ := hgv g b hgb
        have hy : yielded ops.toArray a'.tmps g = match some (vals g) with | some (.bool b) => some b | _ => none := by
          unfold yielded
          rw [show (ops.toArray[g]?).bind (·.dst) = some d from by simpa [dstOf] using h1]
          simp only [Option.bind_some, h2]
          cases vals g <;> rfl
        unfold Region.wanted
        rw [hgb]
        simp only [hy]
        constructor
        · intro h
          split at h
          · rename_i b' he
            injection he with he
            rw [he]
            have : b' = b := by simpa using h
            rw [this]
          · cases h
        · intro h
          rw [h]; simp
      have hskip : Region.wanted o (yielded ops.toArray a'.tmps) = false → wpAny P .any ops.toArray Q fuel (listed.setIfInBounds k true) (a'.put o.dst undef) x := fun hw0 => by
        cases hgd : o.guard with
        | none => unfold Region.wanted at hw0; rw [hgd] at hw0; cases hw0
        | some p =>
          obtain ⟨g, b⟩ := p
          have hne : vals g ≠ .bool b := fun e => by rw [(hyield g b hgd).2 e] at hw0; cases hw0
          obtain ⟨h1, h2⟩ := hob.2 g b hgd hne
          refine next undef x ⟨?_, hRr k x, h2⟩
          have : got o ((puts ops vals (D.getD k []) a).put o.dst undef) = undef := by
            unfold got
            cases hd : o.dst with
            | none => rfl
            | some d =>
              simp only
              rw [Array.getD_eq_getD_getElem?, put_get _ _ _ (by rw [hbs]; exact hdsz d hd)]
              rfl
          rw [this]; exact h1
      by_cases hwant : Region.wanted o (yielded ops.toArray a'.tmps) = true
      rotate_left
      · rw [if_neg hwant]
        exact hskip (by simpa using hwant)
      rw [if_pos hwant]
      have hob := hob.1 fun g b hgd => (hyield g b hgd).1 hwant
      refine .inl ?_
      unfold Oper.wp at hob ⊢
      rw [hexec]
      generalize (execOp (puts ops vals (D.getD k []) a).eval o).run P x = r at hob ⊢
      cases r with
      | ok n w' =>
        cases n <;> simp only [Oper.upon] at hob ⊢
        case value v => exact next v w' hob.2
        case skip => exact next _ w' hob.2
        case defer d =>
          have := hob.1
          rw [put_defers] at this
          exact absurd (congrArg List.length this) (by simp)
        case enter f args =>
          refine Calls.mono hob fun e w'' he => ?_
          cases e with
          | returned u => exact next u w'' he.2
          | panicked c => exact he.elim
          | outgrown => obtain ⟨_, _, h⟩ := he; exact h.elim
        case row row args => exact Rows.mono hob fun u w'' he => next u w'' he.2
      | halt e w' =>
        cases e <;> simp only [Oper.upon] at hob ⊢ <;> exact hob.elim


def shareR4 (P : Program) (ops : List Oper) (R : World → World → Prop) (I : (Nat → Bool) → World → Prop) (L : List Say) (a : Act) (k : Nat) (o : Oper) (d : List (Nat × Tmp)) : Prop :=
  ∀ (vals : Nat → Value) (x : World) (f : Nat → Bool), f k = false → (∀ j, reach ops ops.length k j = true → f j = true) → (∀ j, reach ops ops.length j k = true → f j = false) → I f x → saysD L vals x d →
    owes4 P R I L vals (putsD vals d a) x f k o o.guard
def sharesR4 (P : Program) (ops : List Oper) (R : Nat → World → World → Prop) (I : (Nat → Bool) → World → Prop) (L : List Say) (a : Act) : Nat → List Oper → List (List (Nat × Tmp)) → Prop
  | _, [], _ => True
  | _, _ :: _, [] => False
  | k, o :: l, d :: ds => shareR4 P ops (R k) I L a k o d ∧ sharesR4 P ops R I L a (k + 1) l ds
theorem sharesR4_get {ops : List Oper} {R : Nat → World → World → Prop} {I : (Nat → Bool) → World → Prop} {L : List Say} {a : Act} : ∀ {l : List Oper} {ds : List (List (Nat × Tmp))} {k : Nat}, sharesR4 P ops R I L a k l ds →
    ∀ i o, l[i]? = some o → shareR4 P ops (R (k + i)) I L a (k + i) o (ds.getD i [])
  | [], _, _, _, i, o, h => by simp at h
  | _ :: _, [], _, h, _, _, _ => h.elim
  | o' :: l, d :: ds, k, h, 0, o, ho => by
    simp only [List.getElem?_cons_zero, Option.some.injEq] at ho
    subst ho; exact h.1
  | o' :: l, d :: ds, k, h, i + 1, o, ho => by
    simp only [List.getElem?_cons_succ] at ho
    have := sharesR4_get h.2 i o ho
    rw [show k + (i + 1) = k + 1 + i by omega]
    simpa using this
/-- A drawn region, each operation once. D: of each operation the ones that it looks at, with their slots; L: what is said of each one's value; R: what every operation does to memory; I: what is so all along, by which have been done. -/
theorem wp_region_rel4 {id : Nat} {ops : List Oper} {a : Act} {w : World} (D : List (List (Nat × Tmp))) (R0 : World → World → Prop) (Rs : List (Nat × (World → World → Prop))) (I : (Nat → Bool) → World → Prop) (L : List Say) (all : List (Nat × Tmp)) (hm : P.follows .mixedOrders = true)
    (hB : relOk4 ops (idxs D) a.tmps.size = true) (hD : D.all (fitsD ops) = true)
    (hall : (List.range ops.length).filterMap (fun i => (dstOf ops i).map fun t => (i, t)) = all)
    (hRr : ∀ x, R0 x x) (hRs : Refls Rs) (hL : Stabs3 ops R0 Rs 0 L) (hLo : Locals (idxs D) 0 L) (h0 : I (fun _ => false) (w.drewN 1))
    (hs : sharesR4 P ops (relOf R0 Rs) I L a 0 ops D)
    (hfin : ∀ vals x f, (∀ i, i < ops.length → f i = true) → I f x → says L vals x (List.range ops.length) → Q .normal (putsD vals all a) x) : (Code.region id ops.toArray true).wp P Q a w := by
  refine wp_region_any hm ?_
  have z0 : ∀ j, (Array.replicate ops.toArray.size false).getD j false = false := fun j => getD_replicate_false _ _
  have hle : ∀ (f : Nat → Bool) (n : Nat), cnt f n ≤ n := fun f n => by
    induction n with
    | zero => exact Nat.le_refl _
    | succ n ih => simp only [cnt]; split <;> omega
  have hrel := rel4_any (P := P) (Q := Q) (ops := ops) (a := a) (D := idxs D) (R := relOf R0 Rs) (I := I) (L := L) (relOf_refl hRr hRs) (fun j k hk hjk hr vs x x' => Stabs3.get hk hL j (by rw [Nat.zero_add]; exact hjk) (by rw [Nat.zero_add]; exact hr) vs x x') hLo hB
  refine hrel (fun k o hk => ?_) (fun vals x f hn hI hf => ?_) _ _ _ _ (fun _ => undef) (Nat.le_trans (hle _ _) (by simp)) ?_
  rotate_left
  · rw [puts_all, hall]; exact hfin vals x f hn hI hf
  · exact ⟨by simp, fun j k _ hl => (by rw [z0] at hl; cases hl), rfl, rfl, fun _ _ => rfl, fun j t hj => (by rw [z0] at hj; cases hj), by rw [show (fun i => (Array.replicate ops.toArray.size false).getD i false) = fun _ => false from funext z0]; exact h0, fun j hj => (by rw [z0] at hj; cases hj)⟩
  · have hsh := sharesR4_get hs k o hk
    rw [Nat.zero_add] at hsh
    have hfit : fitsD ops (D.getD k []) = true := by
      rcases Nat.lt_or_ge k D.length with h | h
      · rw [show D.getD k [] = D[k] by simp [h]]; exact List.all_eq_true.1 hD _ (List.getElem_mem h)
      · rw [show D.getD k [] = [] by simp [h]]; rfl
    have hDk : (idxs D).getD k [] = (D.getD k []).map (·.1) := by
      unfold idxs
      rcases Nat.lt_or_ge k D.length with h | h
      · simp [h]
      · simp [h]
    intro vals x f hn hl hl2 hI hf
    rw [hDk, says_saysD] at hf
    have h := hsh vals x f hn hl hl2 hI hf
    rw [hDk, puts_putsD hfit]
    have hun : wpList P #[] (relQ4 (relOf R0 Rs k) I L vals f k o (putsD vals (D.getD k []) a) x) [bare o] (putsD vals (D.getD k []) a) x → o.wp P (putsD vals (D.getD k []) a) x (relQ4 (relOf R0 Rs k) I L vals f k o (putsD vals (D.getD k []) a) x .normal) (relQ4 (relOf R0 Rs k) I L vals f k o (putsD vals (D.getD k []) a) x) := fun h => by
      rcases wpList_bare h with h | ⟨_, _, h⟩
      · exact h
      · exact h.elim
    generalize o.guard = gd at h ⊢
    cases gd with
    | none => exact ⟨fun _ => hun h, fun g b e => by cases e⟩
    | some p =>
      obtain ⟨g, b⟩ := p
      exact ⟨fun e => hun (h.1 (e g b rfl)), fun g' b' e hne => by injection e with e; injection e with e1 e2; subst e1; subst e2; exact h.2 hne⟩
end Go.Proofs.Ytbljfhmcebgdaaa
