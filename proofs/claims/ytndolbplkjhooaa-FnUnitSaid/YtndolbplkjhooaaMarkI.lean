/- Marks on integers, on rows of integers, on formulas. -/
import Derived.Test.YtndolbplkjhooaaCp
import Derived.Test.YtndolbplkjhooaaCnf4
namespace Go.Proofs.Ytndolbplkjhooaa
open Go Go.RowKit

def RetDab (F : Nat → Prop) (w : World) (r : Int) (e : Ending) (w' : World) : Prop := e = .returned (.int .i64 r) ∧ Dab F w w'
set_option maxHeartbeats 400000 in
theorem markIntS_dab (A : Option Addr) (c n : Nat) (k0 : Int) (F : Nat → Prop) (w : World) (h : IntsAt w F A n) (hn : n ≤ 1048576) (h0 : 0 ≤ k0) (h1 : k0 ≤ 1000000000) :
    Calls Try.prog 21 #[.slice A n c, .int .i64 k0] w (RetDab F w (k0 + n)) := by
  have H := Lib.hid h
  clear h
  go_enter Try.func21, Try.ntmps21
  go_wp2
  go_loopw [1, 5] (fun kk i wr => ∃ j : Nat, j ≤ n ∧ i = .int .i64 j ∧ kk = .int .i64 (k0 + j) ∧ Dab F w wr) (fun _ i _ => n - (intOf i).toNat)
  case atStart => exact ⟨0, Nat.zero_le _, rfl, by simp, Dab.refl _ _⟩
  case round =>
    obtain ⟨j, hj, rfl, rfl, hd⟩ := hrel
    have HD := Lib.hid hd
    clear hd
    by_cases hlt : j < n
    · obtain ⟨ad, rfl, hf, hc⟩ := H.out.dab HD.out (by omega)
      obtain ⟨⟨z, hz⟩, hfz⟩ := hc j hlt
      have hj2 : (j : Int) < n := by omega
      generalize hT : k0 + (j : Int) = T at *
      have HT := Lib.hid hT
      have hT0 : 0 ≤ T := by omega
      have hT1 : T ≤ 2000000000 := by omega
      have HF := Lib.hid hf
      clear hT hc hf
      go_wp2
      go_roundw
      case rel => exact ⟨j + 1, by omega, by go_num, ret_num (by have := HT.out; omega), HD.out.trans (Dab.set (by rw [block_of_add]; exact HF.out) hz (.int _ _))⟩
      case measure => simp [intOf]; omega
    · have : j = n := by omega
      subst this
      go_wp2
      go_ret
      exact ⟨rfl, HD.out⟩
set_option maxHeartbeats 400000 in
theorem markIntSS_dab (A : Option Addr) (c : Nat) (ns : List Nat) (k0 : Int) (F : Nat → Prop) (w : World) (h : RowsAt w F A ns) (hn : ns.length ≤ 1048576) (hs : nsum ns ≤ 1048576) (h0 : 0 ≤ k0) (h1 : k0 ≤ 500000000) :
    Calls Try.prog 53 #[.slice A ns.length c, .int .i64 k0] w (RetDab F w (k0 + (nsum ns : Nat))) := by
  have H := Lib.hid h
  clear h
  go_enter Try.func53, Try.ntmps53
  go_wp2
  go_loopw [1, 5] (fun kk i wr => ∃ j : Nat, j ≤ ns.length ∧ i = .int .i64 j ∧ kk = .int .i64 (k0 + (nsum (ns.take j) : Nat)) ∧ Dab F w wr) (fun _ i _ => ns.length - (intOf i).toNat)
  case atStart => exact ⟨0, Nat.zero_le _, rfl, by simp [nsum], Dab.refl _ _⟩
  case round =>
    obtain ⟨j, hj, rfl, rfl, hd⟩ := hrel
    have HD := Lib.hid hd
    clear hd
    by_cases hlt : j < ns.length
    · obtain ⟨ad, rfl, hc⟩ := H.out.dab HD.out (by omega)
      obtain ⟨A', c', hz, hi⟩ := hc j hlt
      have hj2 : (j : Int) < ns.length := by omega
      have hst := nsum_take ns j hlt
      have hle := nsum_le ns j
      have hmem := nsum_mem (List.getElem_mem hlt)
      generalize ns[j] = m at *
      have HST := Lib.hid hst
      clear hst hc
      generalize hT : k0 + (nsum (ns.take j) : Nat) = T at *
      have HT := Lib.hid hT
      have hT0 : 0 ≤ T := by omega
      have hT1 : T ≤ 1000000000 := by omega
      have HI := Lib.hid hi
      have hm : m ≤ 1048576 := by omega
      clear hT hi
      go_wp2_with fail
      refine (markIntS_dab A' c' m T F wr HI.out hm hT0 hT1).mono ?_
      rintro e w' ⟨rfl, hd9⟩
      go_wp2
      go_roundw
      case rel => exact ⟨j + 1, by omega, by go_num, ret_num (by have := HT.out; have := HST.out; omega), HD.out.trans hd9⟩
      case measure => simp [intOf]; omega
    · have : j = ns.length := by omega
      subst this
      have HE := Lib.hid (show ns.take ns.length = ns from List.take_length)
      go_wp2
      go_ret
      exact ⟨ret_int (by rw [HE.out]), HD.out⟩
theorem markCnf_dab (A : Option Addr) (c : Nat) (m : Int) (ns : List Nat) (k0 : Int) (F : Nat → Prop) (w : World) (h : RowsAt w F A ns) (hn : ns.length ≤ 1048576) (hs : nsum ns ≤ 1048576) (h0 : 0 ≤ k0) (h1 : k0 ≤ 500000000) :
    Calls Try.prog 20 #[.agg #[.int .i64 m, .slice A ns.length c], .int .i64 k0] w (RetDab F w (k0 + (nsum ns : Nat))) := by
  have hw : Below w.heap.size w (w.alloc (.cells #[.int .i64 m, .slice A ns.length c] 28)) := (Below.refl _ _).alloc (Nat.le_refl _) _
  have H := Lib.hid (h.dab (G := F) (Dab.of hw))
  clear h
  go_enter Try.func20, Try.ntmps20
  go_wp2_with fail
  refine (markIntSS_dab A c ns k0 F _ H.out hn hs h0 h1).mono ?_
  rintro e w' ⟨rfl, hd⟩
  go_wp2
  go_ret
  exact ⟨rfl, Dab.then hw hd⟩
set_option maxHeartbeats 400000 in
theorem heldIntS_any (A : Option Addr) (c n : Nat) (k0 : Int) (F : Nat → Prop) (w : World) (h : Lay.int.Sl w F A (upI n k0)) (hn : n ≤ 1048576) (h0 : 0 ≤ k0) (h1 : k0 ≤ 1000000000) :
    Calls Try.prog 22 #[.slice A n c, .int .i64 k0] w fun e w' => e = .returned (.int .i64 (k0 + n)) ∧ ∃ m, w' = w.drewN m := by
  go_enter Try.func22, Try.ntmps22
  go_wp2
  go_loopw [1, 5] (fun kk i wr => ∃ j m : Nat, j ≤ n ∧ i = .int .i64 j ∧ kk = .int .i64 (k0 + j) ∧ wr = w.drewN m) (fun _ i _ => n - (intOf i).toNat)
  case atStart => exact ⟨0, 0, Nat.zero_le _, rfl, by simp, rfl⟩
  case round =>
    obtain ⟨j, m, hj, rfl, rfl, rfl⟩ := hrel
    by_cases hlt : j < n
    · have hltm : j < (upI n k0).length := by rw [upI_len]; exact hlt
      obtain ⟨ad, rfl, hf, c1⟩ := h.at_int hltm
      rw [upI_get] at c1
      have hj2 : (j : Int) < n := by omega
      generalize hT : k0 + (j : Int) = T at *
      have HT := Lib.hid hT
      have hT0 : 0 ≤ T := by omega
      have hT1 : T ≤ 2000000000 := by omega
      clear hT
      have hx : (T != T) = false := by simp
      go_wp2
      go_roundw
      case rel => exact ⟨j + 1, m, by omega, by go_num, ret_num (by have := HT.out; omega), rfl⟩
      case measure => simp [intOf]; omega
    · have : j = n := by omega
      subst this
      go_wp2
      go_ret
      exact ⟨rfl, m, rfl⟩
theorem off_of_add (a : Addr) (i : Nat) : (a.add i).off = a.off + i := by unfold Addr.add; split <;> simp_all
theorem add_ne {a : Addr} {i j : Nat} (h : i ≠ j) : a.add j ≠ a.add i := fun e => by
  have := congrArg Addr.off e
  rw [off_of_add, off_of_add] at this
  omega
def RetMk (F : Nat → Prop) (A : Option Addr) (n : Nat) (k0 : Int) (w : World) (e : Ending) (w' : World) : Prop := e = .returned (.int .i64 (k0 + n)) ∧ Dab F w w' ∧ Lay.int.Sl w' F A (upI n k0)
set_option maxHeartbeats 400000 in
theorem markIntS_sl (A : Option Addr) (c : Nat) (xs : List Int) (k0 : Int) (F : Nat → Prop) (w : World) (h : Lay.int.Sl w F A xs) (hfz : ∀ b, F b → ∀ o, w.frozen? ⟨b, o, none⟩ = false) (hn : xs.length ≤ 1048576) (h0 : 0 ≤ k0) (h1 : k0 ≤ 1000000000) :
    Calls Try.prog 21 #[.slice A xs.length c, .int .i64 k0] w (RetMk F A xs.length k0 w) := by
  have H := Lib.hid (IntsAt.of (G := F) h fun b hb => ⟨hb, hfz b hb⟩)
  clear h hfz
  generalize xs.length = n at *
  go_enter Try.func21, Try.ntmps21
  go_wp2
  go_loopw [1, 5] (fun kk i wr => ∃ j : Nat, j ≤ n ∧ i = .int .i64 j ∧ kk = .int .i64 (k0 + j) ∧ Dab F w wr ∧ ∀ ad, A = some ad → ∀ i, i < j → wr.cell? (ad.add i) = some (.int .i64 (k0 + (i : Int)))) (fun _ i _ => n - (intOf i).toNat)
  case atStart => exact ⟨0, Nat.zero_le _, rfl, by simp, Dab.refl _ _, fun _ _ i hi => absurd hi (by omega)⟩
  case round =>
    obtain ⟨j, hj, rfl, rfl, hd, hs⟩ := hrel
    have HD := Lib.hid hd
    have HS := Lib.hid hs
    clear hd hs
    by_cases hlt : j < n
    · obtain ⟨ad, hA, hf, hc⟩ := H.out.dab HD.out (by omega)
      have HSA := Lib.hid (HS.out ad hA)
      subst hA
      obtain ⟨⟨z, hz⟩, hfz⟩ := hc j hlt
      have hj2 : (j : Int) < n := by omega
      have HST : Hid (∀ u, ∀ i, i < j + 1 → u = k0 + (j : Int) → (wr.setCell (ad.add j) (.int .i64 u)).cell? (ad.add i) = some (.int .i64 (k0 + (i : Int)))) := Lib.hid fun u i hi hu => by
        by_cases e : i = j
        · subst e; subst hu; exact World.cell?_setCell_same _ _ _ hz
        · exact (World.cell?_setCell_other _ _ _ _ (add_ne e)).trans (HSA.out i (by omega))
      generalize hT : k0 + (j : Int) = T at *
      have HT := Lib.hid hT
      have hT0 : 0 ≤ T := by omega
      have hT1 : T ≤ 2000000000 := by omega
      have HF := Lib.hid hf
      clear hT hc hf
      go_wp2
      go_roundw
      case rel => exact ⟨j + 1, by omega, by go_num, ret_num (by have := HT.out; omega), HD.out.trans (Dab.set (by rw [block_of_add]; exact HF.out) hz (.int _ _)), fun ad' e i hi => by injection e with e; subst e; exact HST.out _ i hi rfl⟩
      case measure => simp [intOf]; omega
    · have : j = n := by omega
      subst this
      go_wp2
      go_ret
      refine ⟨rfl, HD.out, fun hpos => ?_⟩
      rw [upI_len] at hpos
      obtain ⟨ad, hA, hf, _⟩ := H.out.dab HD.out hpos
      refine ⟨ad, hA, hf, fun k x hx => ?_⟩
      have hk : k < (upI j k0).length := (List.getElem?_eq_some_iff.1 hx).1
      rw [List.getElem?_eq_getElem hk, upI_get] at hx
      injection hx with hx
      subst hx
      refine ⟨[.int .i64 (k0 + (k : Int))], rfl, fun i u hu => ?_⟩
      rcases i with _ | i
      · injection hu with hu
        subst hu
        have := HS.out ad hA k (by rw [upI_len] at hk; exact hk)
        simpa [Lay.int, Lay.flat] using this
      · simp at hu
theorem markCnf_sl (A : Option Addr) (c : Nat) (x : C) (k0 : Int) (F : Nat → Prop) (w : World) (h : Lay.int.slice.Sl w F A x.list) (hfz : ∀ b, F b → ∀ o, w.frozen? ⟨b, o, none⟩ = false) (hn : x.list.length ≤ 1048576) (hs : nsum (x.list.map List.length) ≤ 1048576) (h0 : 0 ≤ k0) (h1 : k0 ≤ 500000000) :
    Calls Try.prog 20 #[.agg #[.int .i64 x.many, .slice A x.list.length c], .int .i64 k0] w (RetDab F w (k0 + (nsum (x.list.map List.length) : Nat))) := by
  have := markCnf_dab A c x.many (x.list.map List.length) k0 F w (RowsAt.of h fun b hb => ⟨hb, hfz b hb⟩) (by simpa using hn) hs h0 h1
  rw [List.length_map] at this
  exact this
end Go.Proofs.Ytndolbplkjhooaa
