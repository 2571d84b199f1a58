/- The program's clauseOk, CnfOk. -/
import Derived.Test.YtndolbplkjhooaaTrail5
namespace Go.Proofs.Ytndolbplkjhooaa
open Go Go.RowKit

def i64s (xs : List Int) : Prop := ∀ l ∈ xs, -9223372036854775808 ≤ l ∧ l ≤ 9223372036854775807
def lastOk (m : Int) (cl : List Int) (k : Nat) (last : Int) : Prop := (k = 0 ∧ last = 0) ∨ (0 < k ∧ ∃ h : k - 1 < cl.length, last = (cl[k - 1].natAbs : Int) ∧ -m ≤ cl[k - 1] ∧ cl[k - 1] ≤ m)
theorem cOk_lit {m last a : Int} (h0 : 0 ≤ last) : (decide (-m ≤ a) && decide (a ≤ m) && decide (last < (a.natAbs : Int))) = (litOk a m && decide (last < (a.natAbs : Int))) := by
  unfold litOk
  rw [Bool.eq_iff_iff]
  simp only [Bool.and_eq_true, decide_eq_true_eq]
  constructor
  · rintro ⟨⟨h1, h2⟩, h3⟩
    exact ⟨⟨by omega, h1, h2⟩, h3⟩
  · rintro ⟨⟨_, h1, h2⟩, h3⟩
    exact ⟨⟨h1, h2⟩, h3⟩
set_option maxRecDepth 100000 in
set_option maxHeartbeats 4000000 in
theorem clauseOk_any (cl : List Int) (m : Int) (A : Option Addr) (c : Nat) (F : Nat → Prop) (w : World) (h : Lay.int.Sl w F A cl) (hn : cl.length ≤ 1048576) (hi : i64s cl) (m0 : 0 ≤ m) (m1 : m ≤ 700) :
    Calls Try.prog 67 #[.slice A cl.length c, .int .i64 m] w fun e w' => e = .returned (.bool (clOk m cl)) ∧ w = w' := by
  go_enter Try.func67, Try.ntmps67
  go_wp2
  go_loopw [9] (fun i wr => wr = w ∧ ∃ (k : Nat) (last : Int), k ≤ cl.length ∧ i = .int .i64 k ∧ lastOk m cl k last ∧ 0 ≤ last ∧ clOk m cl = cOk m last (cl.drop k)) (fun i _ => cl.length - (intOf i).toNat)
  case atStart => exact ⟨rfl, 0, 0, Nat.zero_le _, rfl, .inl ⟨rfl, rfl⟩, by omega, rfl⟩
  case round =>
    obtain ⟨rfl, k, last, hk, rfl, hlast, hl0, ht⟩ := hrel
    have HT := Lib.hid ht
    clear ht
    by_cases hlt : k < cl.length
    · obtain ⟨ad, rfl, hf, hc⟩ := h.at_int hlt
      have hk1 : (k : Int) < cl.length := by omega
      obtain ⟨i1, i2⟩ := hi _ (List.getElem_mem hlt)
      have hd := cOk_drop (many := m) (last := last) hlt
      rw [cOk_lit hl0] at hd
      have hlit := litOf_any cl[k] m
      have hnext : lastOk m cl (k + 1) (cl[k].natAbs : Int) ∨ litOk cl[k] m = false := by
        by_cases h9 : litOk cl[k] m = true
        · unfold litOk at h9
          rw [decide_eq_true_eq] at h9
          exact .inl (.inr ⟨by omega, by simpa using hlt, by simp, by simpa using h9.2.1, by simpa using h9.2.2⟩)
        · exact .inr (by simpa using h9)
      have hat : ∀ h0 : k - 1 < cl.length, wr.cell? (ad.add (k - 1)) = some (.int .i64 cl[k - 1]) := fun h0 => by
        obtain ⟨ad', e9, _, h9⟩ := h.at_int (k := k - 1) h0
        injection e9 with e9
        rw [e9]; exact h9
      generalize cl[k] = a at *
      have HD := Lib.hid hd
      have HX := Lib.hid hnext
      clear hd hnext
      by_cases h1 : litOk a m = true
      · rw [h1] at hlit
        have HL := Lib.hid (fun W => hlit W i1 i2 (by omega) (by omega))
        clear hlit
        have hlo : -m ≤ a ∧ a ≤ m := by unfold litOk at h1; rw [decide_eq_true_eq] at h1; exact h1.2
        obtain ⟨a1, a2⟩ := hlo
        rcases hlast with ⟨rfl, rfl⟩ | ⟨hk0, hk9, hla, hl1, hl2⟩
        · have HE := Lib.hid (show clOk m cl = cOk m a.natAbs (cl.drop (0 + 1)) ∨ a = 0 by
            by_cases h9 : a = 0
            · exact .inr h9
            · exact .inl (by rw [HT.out, HD.out, h1, decide_eq_true (by omega)]; rfl))
          have ha0 : a ≠ 0 := by unfold litOk at h1; rw [decide_eq_true_eq] at h1; exact h1.1
          have HE := Lib.hid (HE.out.resolve_right ha0)
          have HX := Lib.hid (HX.out.resolve_right (by rw [h1]; simp))
          clear h1 hat
          have hc : wr.cell? ad = some (.int .i64 a) := by have h9 := hc; cases ad; simpa [Addr.add] using h9
          go_wp2_with fail
          refine (HL.out _).mono ?_
          rintro e w' ⟨rfl, rfl⟩
          go_wp2
          go_roundw
          case rel => exact ⟨by trivial, 0 + 1, _, by omega, by first | rfl | go_num, HX.out, by omega, HE.out⟩
          case measure => simp [intOf]; omega
        · have hc9 := hat hk9
          generalize cl[k - 1] = b at *
          have HX := Lib.hid (HX.out.resolve_right (by rw [h1]; simp))
          have e1 : IntKind.i64.wrap ((k : Int) - 1) = (k : Int) - 1 := IntWalk.i64_in _ (by omega)
          have e2 : ((k : Int) - 1).toNat = k - 1 := by omega
          have e3 : (0 : Int) ≤ (k : Int) - 1 := by omega
          have e4 : (k : Int) - 1 < cl.length := by omega
          have hkz : (0 : Int) < k := by omega
          have HB := Lib.hid (fun W => variable_any b W (by omega) (by omega))
          have HA := Lib.hid (fun W => variable_any a W (by omega) (by omega))
          have HLA := Lib.hid hla
          have h1H := Lib.hid h1
          clear h1 hat
          by_cases hge : last < (a.natAbs : Int)
          · have HE := Lib.hid (show clOk m cl = cOk m a.natAbs (cl.drop (k + 1)) by rw [HT.out, HD.out, h1H.out, decide_eq_true hge]; rfl)
            have hge2 : ¬ ((a.natAbs : Int) ≤ (b.natAbs : Int)) := by omega
            generalize (b.natAbs : Int) = nb at *
            generalize hna : (a.natAbs : Int) = na at *
            have HNA := Lib.hid hna
            clear hna
            go_wp2_with fail
            refine (HL.out _).mono ?_
            rintro e w' ⟨rfl, rfl⟩
            go_wp2_with fail
            refine (HB.out _).mono ?_
            rintro e w' ⟨rfl, rfl⟩
            go_wp2_with fail
            refine (HA.out _).mono ?_
            rintro e w' ⟨rfl, rfl⟩
            go_wp2
            go_roundw
            case rel => exact ⟨by trivial, k + 1, _, by omega, by go_num, HX.out, by omega, HE.out⟩
            case measure => simp [intOf]; omega
          · have HE := Lib.hid (show clOk m cl = false by rw [HT.out, HD.out, h1H.out, decide_eq_false hge]; rfl)
            have hge2 : (a.natAbs : Int) ≤ (b.natAbs : Int) := by omega
            generalize (b.natAbs : Int) = nb at *
            generalize hna : (a.natAbs : Int) = na at *
            have HNA := Lib.hid hna
            clear hna
            go_wp2_with fail
            refine (HL.out _).mono ?_
            rintro e w' ⟨rfl, rfl⟩
            go_wp2_with fail
            refine (HB.out _).mono ?_
            rintro e w' ⟨rfl, rfl⟩
            go_wp2_with fail
            refine (HA.out _).mono ?_
            rintro e w' ⟨rfl, rfl⟩
            go_wp2
            go_ret
            exact ⟨by rw [HE.out]; rfl, rfl⟩
      · rw [Bool.not_eq_true] at h1
        rw [h1] at hlit
        have HL := Lib.hid (fun W => hlit W i1 i2 (by omega) (by omega))
        have HE := Lib.hid (show clOk m cl = false by rw [HT.out, HD.out, h1]; rfl)
        clear hlit h1
        go_wp2_with fail
        refine (HL.out _).mono ?_
        rintro e w' ⟨rfl, rfl⟩
        go_wp2
        go_ret
        exact ⟨by rw [HE.out]; rfl, rfl⟩
    · have hke : k = cl.length := by omega
      subst hke
      have HE := Lib.hid (show clOk m cl = true by rw [HT.out, List.drop_length]; rfl)
      go_wp2
      go_ret
      exact ⟨by rw [HE.out]; rfl, rfl⟩


theorem cnfOk1_any (cl : List Int) (m : Int) (A : Option Addr) (c b : Nat) (F : Nat → Prop) (w : World) (h : Lay.int.Sl w F A cl) (hn : cl.length ≤ 1048576) (hi : i64s cl) (m0 : 0 ≤ m) (m1 : m ≤ 700) (hm : w.cell? ⟨b, 0, none⟩ = some (.int .i64 m)) :
    Calls Try.prog 66 #[.slice A cl.length c, .pointer (some ⟨b, 0, none⟩)] w fun e w' => e = .returned (.bool (!clOk m cl)) ∧ w = w' := by
  go_enter Try.func66, Try.ntmps66
  go_wp2_with fail
  refine (clauseOk_any cl m A c F w h hn hi m0 m1).mono ?_
  rintro e w' ⟨rfl, rfl⟩
  go_wp2
  go_ret
  exact ⟨rfl, rfl⟩
theorem all_drop {f : List Int → Bool} {xs : List (List Int)} {k : Nat} (h : k < xs.length) : (xs.drop k).all f = (f xs[k] && (xs.drop (k + 1)).all f) := by
  rw [List.drop_eq_getElem_cons h]; rfl
set_option maxHeartbeats 1000000 in
theorem idxFunc_any (xs : List (List Int)) (m : Int) (A : Option Addr) (c b : Nat) (F : Nat → Prop) (w : World) (h : Lay.int.slice.Sl w F A xs) (hx : xs.length ≤ 1048576) (hn : ∀ cl ∈ xs, cl.length ≤ 1048576 ∧ i64s cl) (m0 : 0 ≤ m) (m1 : m ≤ 700) (hm : w.cell? ⟨b, 0, none⟩ = some (.int .i64 m)) :
    Calls Try.prog 91 #[.slice A xs.length c, .func (.func 66) #[] #[.pointer (some ⟨b, 0, none⟩)]] w fun e w' => ∃ r : Int, e = .returned (.int .i64 r) ∧ decide (0 ≤ r) = !xs.all (clOk m) ∧ w = w' := by
  go_enter Try.func91, Try.ntmps91
  go_wp2
  go_loopw [8] (fun i wr => wr = w ∧ ∃ k : Nat, k ≤ xs.length ∧ i = .int .i64 k ∧ xs.all (clOk m) = (xs.drop k).all (clOk m)) (fun i _ => xs.length - (intOf i).toNat)
  case atStart => exact ⟨rfl, 0, Nat.zero_le _, rfl, rfl⟩
  case round =>
    obtain ⟨rfl, k, hk, rfl, ht⟩ := hrel
    have HT := Lib.hid ht
    clear ht
    by_cases hlt : k < xs.length
    · obtain ⟨ad, A', c', rfl, hf, k1, hl1, s1⟩ := h.at_slice hlt
      have hk1 : (k : Int) < xs.length := by omega
      obtain ⟨n1, n2⟩ := hn _ (List.getElem_mem hlt)
      have hd := all_drop (f := clOk m) hlt
      have hcall := cnfOk1_any xs[k] m A' c' b F wr s1 n1 n2 m0 m1 hm
      generalize xs[k] = cl at *
      have HD := Lib.hid hd
      clear hd
      by_cases h1 : clOk m cl = true
      · rw [h1] at hcall
        have HC := Lib.hid hcall
        have HE := Lib.hid (show xs.all (clOk m) = (xs.drop (k + 1)).all (clOk m) by rw [HT.out, HD.out, h1]; rfl)
        clear hcall h1
        go_wp2_with fail
        refine HC.out.mono ?_
        rintro e w' ⟨rfl, rfl⟩
        go_wp2
        go_roundw
        case rel => exact ⟨by trivial, k + 1, by omega, by go_num, HE.out⟩
        case measure => simp [intOf]; omega
      · rw [Bool.not_eq_true] at h1
        rw [h1] at hcall
        have HC := Lib.hid hcall
        have HE := Lib.hid (show xs.all (clOk m) = false by rw [HT.out, HD.out, h1]; rfl)
        clear hcall h1
        go_wp2_with fail
        refine HC.out.mono ?_
        rintro e w' ⟨rfl, rfl⟩
        go_wp2
        go_ret
        exact ⟨_, rfl, by rw [HE.out]; simp, rfl⟩
    · have hke : k = xs.length := by omega
      subst hke
      have HE := Lib.hid (show xs.all (clOk m) = true by rw [HT.out, List.drop_length]; rfl)
      go_wp2
      go_ret
      exact ⟨-1, rfl, by rw [HE.out]; rfl, rfl⟩
theorem hasFunc_any (xs : List (List Int)) (m : Int) (A : Option Addr) (c b : Nat) (F : Nat → Prop) (w : World) (h : Lay.int.slice.Sl w F A xs) (hx : xs.length ≤ 1048576) (hn : ∀ cl ∈ xs, cl.length ≤ 1048576 ∧ i64s cl) (m0 : 0 ≤ m) (m1 : m ≤ 700) (hm : w.cell? ⟨b, 0, none⟩ = some (.int .i64 m)) :
    Calls Try.prog 65 #[.slice A xs.length c, .func (.func 66) #[] #[.pointer (some ⟨b, 0, none⟩)]] w fun e w' => e = .returned (.bool (!xs.all (clOk m))) ∧ w = w' := by
  go_enter Try.func65, Try.ntmps65
  go_wp2_with fail
  refine (idxFunc_any xs m A c b F w h hx hn m0 m1 hm).mono ?_
  rintro e w' ⟨r, rfl, hr, rfl⟩
  have HR := Lib.hid hr
  clear hr
  go_wp2
  go_ret
  exact ⟨ret_bool (by rw [← HR.out]), rfl⟩
theorem cnfOkP_any (x : C) (A : Option Addr) (p : Nat) (F : Nat → Prop) (w : World) (h : Lay.int.slice.Sl w F A x.list) (hF : ∀ b, F b → b < w.heap.size) (hm : -9223372036854775808 ≤ x.many ∧ x.many ≤ 9223372036854775807) (hx : x.list.length ≤ 9223372036854775807)
    (hn : ∀ cl ∈ x.list, cl.length ≤ 1048576 ∧ i64s cl) :
    Calls Try.prog 41 #[.agg #[.int .i64 x.many, .slice A x.list.length p]] w (RetB w (cnfOk x)) := by
  obtain ⟨hm1, hm2⟩ := hm
  have hw : Below w.heap.size w (w.alloc (.cells #[.int .i64 x.many, .slice A x.list.length p] 28)) := (Below.refl _ _).alloc (Nat.le_refl _) _
  have K := h.below hw hF
  have HW := Lib.hid hw
  have HE : Hid (cnfOk x = (decide (0 ≤ x.many) && decide (x.many ≤ 700) && decide (x.list.length ≤ 2500) && x.list.all (clOk x.many))) := Lib.hid rfl
  have v0 : (w.alloc (.cells #[.int .i64 x.many, .slice A x.list.length p] 28)).cell? ⟨w.heap.size, 0, none⟩ = some (.int .i64 x.many) := by simp [go_sem]
  clear hw h
  by_cases h0 : 0 ≤ x.many
  · by_cases h1 : x.many ≤ 700
    · by_cases h2 : x.list.length ≤ 2500
      · rw [decide_eq_true h0, decide_eq_true h1, decide_eq_true h2] at HE
        have HC := Lib.hid (hasFunc_any x.list x.many A p w.heap.size F _ K (by omega) hn h0 h1 v0)
        clear v0
        go_enter Try.func41, Try.ntmps41
        go_wp2_with fail
        refine HC.out.mono ?_
        rintro e w' ⟨rfl, rfl⟩
        go_wp2
        go_ret
        exact ⟨ret_bool (by rw [HE.out]; simp), HW.out⟩
      · rw [decide_eq_false h2] at HE
        go_enter Try.func41, Try.ntmps41
        go_wp2
        go_ret
        exact ⟨ret_bool (by rw [HE.out]; simp), HW.out⟩
    · rw [decide_eq_false h1] at HE
      go_enter Try.func41, Try.ntmps41
      go_wp2
      go_ret
      exact ⟨ret_bool (by rw [HE.out]; simp), HW.out⟩
  · rw [decide_eq_false h0] at HE
    go_enter Try.func41, Try.ntmps41
    go_wp2
    go_ret
    exact ⟨ret_bool (by rw [HE.out]; simp), HW.out⟩

end Go.Proofs.Ytndolbplkjhooaa
