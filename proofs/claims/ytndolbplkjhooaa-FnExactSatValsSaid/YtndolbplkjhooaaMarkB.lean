/- Marks on rows of bools. -/
import Derived.Test.YtndolbplkjhooaaUniC
import Derived.Test.YtndolbplkjhooaaSatS4
import Derived.Test.YtndolbplkjhooaaUniS2
namespace Go.Proofs.Ytndolbplkjhooaa
open Go Go.RowKit Go.ChangeShapes Go.WideShapes Go.ChangeAt Go.Deep

def upB (n : Nat) (k0 : Int) : List Bool := (List.range n).map fun i : Nat => ((k0 + (i : Int)) % 3 == 0)
theorem upB_len (n : Nat) (k0 : Int) : (upB n k0).length = n := by simp [upB]
theorem upB_get (n : Nat) (k0 : Int) (i : Nat) (h : i < (upB n k0).length) : (upB n k0)[i] = ((k0 + (i : Int)) % 3 == 0) := by simp [upB]
theorem mod3 {T : Int} (h : 0 ≤ T) : IntKind.i64.wrap (T % 3) = T % 3 := by
  exact IntWalk.i64_in _ (by omega)
def BoolsAt (w : World) (F : Nat → Prop) (A : Option Addr) (n : Nat) : Prop :=
  0 < n → ∃ ad, A = some ad ∧ F ad.block ∧ ∀ k, k < n → (∃ z, w.cell? (ad.add k) = some (.bool z)) ∧ w.frozen? (ad.add k) = false
theorem BoolsAt.dab {w w' : World} {F G : Nat → Prop} {A : Option Addr} {n : Nat} (h : BoolsAt w F A n) (hd : Dab G w w') : BoolsAt w' F A n := fun hn => by
  obtain ⟨ad, e, hf, hc⟩ := h hn
  refine ⟨ad, e, hf, fun k hk => ?_⟩
  obtain ⟨⟨z, hz⟩, hfz⟩ := hc k hk
  obtain ⟨v, hv, hk'⟩ := hd.kin _ _ hz
  obtain ⟨b, rfl⟩ := hk'.ofBool
  exact ⟨⟨b, hv⟩, (hd.frz _ (World.block_lt_of_cell? w _ hz)).trans hfz⟩
theorem BoolsAt.of {w : World} {F G : Nat → Prop} {A : Option Addr} {xs : List Bool} (h : Lay.bool.Sl w F A xs) (hF : ∀ b, F b → G b ∧ ∀ o, w.frozen? ⟨b, o, none⟩ = false) : BoolsAt w G A xs.length := fun hn => by
  obtain ⟨ad, e, hf, hc⟩ := h hn
  refine ⟨ad, e, (hF _ hf).1, fun k hk => ?_⟩
  obtain ⟨vs, rfl, hcell⟩ := hc k xs[k] (List.getElem?_eq_getElem hk)
  refine ⟨⟨xs[k], by simpa [Lay.bool, Lay.flat] using hcell 0 _ rfl⟩, ?_⟩
  have := (hF _ hf).2 (ad.add k).off
  rw [← this]
  unfold World.frozen?
  rw [block_of_add]
set_option maxHeartbeats 400000 in
theorem heldBoolS_any (A : Option Addr) (c n : Nat) (k0 : Int) (F : Nat → Prop) (w : World) (h : Lay.bool.Sl w F A (upB n k0)) (hn : n ≤ 1048576) (h0 : 0 ≤ k0) (h1 : k0 ≤ 1000000000) :
    Calls Try.prog 36 #[.slice A n c, .int .i64 k0] w fun e w' => e = .returned (.int .i64 (k0 + n)) ∧ ∃ m, w' = w.drewN m := by
  go_enter Try.func36, Try.ntmps36
  go_wp2
  go_loopw [1, 5] (fun kk i wr => ∃ j m : Nat, j ≤ n ∧ i = .int .i64 j ∧ kk = .int .i64 (k0 + j) ∧ wr = w.drewN m) (fun _ i _ => n - (intOf i).toNat)
  case atStart => exact ⟨0, 0, Nat.zero_le _, rfl, by simp, rfl⟩
  case round =>
    obtain ⟨j, m, hj, rfl, rfl, rfl⟩ := hrel
    by_cases hlt : j < n
    · have hltm : j < (upB n k0).length := by rw [upB_len]; exact hlt
      obtain ⟨ad, rfl, hf, c1⟩ := h.at_bool hltm
      rw [upB_get] at c1
      have hj2 : (j : Int) < n := by omega
      generalize hT : k0 + (j : Int) = T at *
      have HT := Lib.hid hT
      have hT0 : 0 ≤ T := by omega
      have hT1 : T ≤ 2000000000 := by omega
      clear hT
      have e1 := mod3 hT0
      have hx : ((T % 3 == 0) != (T % 3 == 0)) = false := by simp
      go_wp2
      go_roundw
      case rel => exact ⟨j + 1, m, by omega, by go_num, ret_num (by have := HT.out; omega), rfl⟩
      case measure => simp [intOf]; omega
    · have : j = n := by omega
      subst this
      go_wp2
      go_ret
      exact ⟨rfl, m, rfl⟩
def RetMkB (F : Nat → Prop) (A : Option Addr) (n : Nat) (k0 : Int) (w : World) (e : Ending) (w' : World) : Prop := e = .returned (.int .i64 (k0 + n)) ∧ Dab F w w' ∧ Lay.bool.Sl w' F A (upB n k0)
set_option maxHeartbeats 400000 in
theorem markBoolS_sl (A : Option Addr) (c : Nat) (xs : List Bool) (k0 : Int) (F : Nat → Prop) (w : World) (h : Lay.bool.Sl w F A xs) (hfz : ∀ b, F b → ∀ o, w.frozen? ⟨b, o, none⟩ = false) (hn : xs.length ≤ 1048576) (h0 : 0 ≤ k0) (h1 : k0 ≤ 1000000000) :
    Calls Try.prog 35 #[.slice A xs.length c, .int .i64 k0] w (RetMkB F A xs.length k0 w) := by
  have H := Lib.hid (BoolsAt.of (G := F) h fun b hb => ⟨hb, hfz b hb⟩)
  clear h hfz
  generalize xs.length = n at *
  go_enter Try.func35, Try.ntmps35
  go_wp2
  go_loopw [1, 5] (fun kk i wr => ∃ j : Nat, j ≤ n ∧ i = .int .i64 j ∧ kk = .int .i64 (k0 + j) ∧ Dab F w wr ∧ ∀ ad, A = some ad → ∀ i, i < j → wr.cell? (ad.add i) = some (.bool ((k0 + (i : Int)) % 3 == 0))) (fun _ i _ => n - (intOf i).toNat)
  case atStart => exact ⟨0, Nat.zero_le _, rfl, by simp, Dab.refl _ _, fun _ _ i hi => absurd hi (by omega)⟩
  case round =>
    obtain ⟨j, hj, rfl, rfl, hd, hs⟩ := hrel
    have HD := Lib.hid hd
    have HS := Lib.hid hs
    clear hd hs
    by_cases hlt : j < n
    · obtain ⟨ad, hA, hf, hc⟩ := H.out.dab HD.out (by omega)
      have HSA := Lib.hid (HS.out ad hA)
      subst hA
      obtain ⟨⟨z, hz⟩, hfz⟩ := hc j hlt
      have hj2 : (j : Int) < n := by omega
      have HST : Hid (∀ u, ∀ i, i < j + 1 → u = k0 + (j : Int) → (wr.setCell (ad.add j) (.bool (u % 3 == 0))).cell? (ad.add i) = some (.bool ((k0 + (i : Int)) % 3 == 0))) := Lib.hid fun u i hi hu => by
        by_cases e : i = j
        · subst e; subst hu; exact World.cell?_setCell_same _ _ _ hz
        · exact (World.cell?_setCell_other _ _ _ _ (add_ne e)).trans (HSA.out i (by omega))
      generalize hT : k0 + (j : Int) = T at *
      have HT := Lib.hid hT
      have hT0 : 0 ≤ T := by omega
      have hT1 : T ≤ 2000000000 := by omega
      have HF := Lib.hid hf
      have e1 := mod3 hT0
      clear hT hc hf
      go_wp2
      go_roundw
      case rel => exact ⟨j + 1, by omega, by go_num, ret_num (by have := HT.out; omega), HD.out.trans (Dab.set (by rw [block_of_add]; exact HF.out) hz (.bool _ _)), fun ad' e i hi => by injection e with e; subst e; exact HST.out T i hi rfl⟩
      case measure => simp [intOf]; omega
    · have : j = n := by omega
      subst this
      go_wp2
      go_ret
      refine ⟨rfl, HD.out, fun hpos => ?_⟩
      rw [upB_len] at hpos
      obtain ⟨ad, hA, hf, _⟩ := H.out.dab HD.out hpos
      refine ⟨ad, hA, hf, fun k x hx => ?_⟩
      have hk : k < (upB j k0).length := (List.getElem?_eq_some_iff.1 hx).1
      rw [List.getElem?_eq_getElem hk, upB_get] at hx
      injection hx with hx
      subst hx
      refine ⟨[.bool ((k0 + (k : Int)) % 3 == 0)], rfl, fun i u hu => ?_⟩
      rcases i with _ | i
      · injection hu with hu
        subst hu
        have := HS.out ad hA k (by rw [upB_len] at hk; exact hk)
        simpa [Lay.bool, Lay.flat] using this
      · simp at hu

def MkB (A : Option Addr) (n lo hi : Nat) (k0 : Int) (w : World) (e : Ending) (w' : World) : Prop := e = .returned (.int .i64 (k0 + n)) ∧ Dab (Rng lo hi) w w' ∧ Lay.bool.Sl w' (Cp lo hi w') A (upB n k0)
theorem markBools_u (xs : List Bool) (A : Option Addr) (c lo hi : Nat) (k0 : Int) (w : World) (h : Lay.bool.Sl w (Cp lo hi w) A xs) (hs : xs.length ≤ 1048576) (h0 : 0 ≤ k0) (h1 : k0 ≤ 500000000) :
    Calls Try.prog 35 #[.slice A xs.length c, .int .i64 k0] w (MkB A xs.length lo hi k0 w) :=
  (markBoolS_sl A c xs k0 _ w h (fun _ h => h.2.2.2) hs h0 (by omega)).mono fun _ _ ⟨h, h', h2⟩ => ⟨h, h'.rng, h2.cp_mk h'⟩
theorem heldBools_u (n : Nat) (A : Option Addr) (c : Nat) (k0 : Int) (w : World) (h : Lay.bool.Rd w A (upB n k0)) (hs : n ≤ 1048576) (h0 : 0 ≤ k0) (h1 : k0 ≤ 500000000) :
    Calls Try.prog 36 #[.slice A n c, .int .i64 k0] w (RetZ (k0 + n) w) :=
  (heldBoolS_any A c n k0 _ w h hs h0 (by omega)).mono fun _ _ ⟨h, m, hm⟩ => ⟨h, by rw [hm]; exact below_drewN (Below.refl _ _) m⟩
theorem eqBools_u (xs : List Bool) (A B : Option Addr) (c d : Nat) (w : World) (h : Lay.bool.Rd w A xs) (h' : Lay.bool.Rd w B xs) (hs : xs.length ≤ 1048576) :
    Calls Try.prog 33 #[.slice A xs.length c, .slice B xs.length d] w (RetB w true) :=
  (eqBoolS_any A B c d xs xs _ _ w h h' hs hs).mono fun _ _ ⟨h, m, hm⟩ => ⟨by rw [h]; simp, by rw [hm]; exact below_drewN (Below.refl _ _) m⟩
def Fact.resB (W : World) (r : List Bool) : Fact := .of (fun v xw => ∃ A c, v = .slice A r.length c ∧ r.length ≤ c ∧ Lay.bool.Sl xw (Own W.heap.size xw) A r ∧ Below W.heap.size W xw) fun _ _ _ ⟨A, c, h1, h2, h3, h4⟩ hb => ⟨A, c, h1, h2, h3.own_up hb, bthen h4 hb⟩
def Fact.copyS (s : S) : Fact := .of (fun v xw => ∃ A B D a b d, v = .agg #[.slice A s.put.length a, .slice B s.why.length b, .slice D s.learned.length d, .int .i64 s.code] ∧ s.put.length ≤ a ∧ s.why.length ≤ b ∧ s.learned.length ≤ d ∧ Lay.int.Rd xw A s.put ∧ Lay.int.Rd xw B s.why ∧ Lay.int.slice.Rd xw D s.learned)
  fun _ _ _ ⟨A, B, D, a, b, d, h1, h2, h3, h4, h5, h6, h7⟩ hb => ⟨A, B, D, a, b, d, h1, h2, h3, h4, h5.up hb, h6.up hb, h7.up hb⟩
theorem satVals_len (x : C) (s : S) (h : okInt x.many) : (satVals x s).length ≤ 1048576 := by
  unfold satVals
  split
  · rename_i h1
    have := (cnfOk_iff x).1 ((satOk_iff x s).1 h1).cnf
    rw [valsP_len]; omega
  · simp
end Go.Proofs.Ytndolbplkjhooaa
