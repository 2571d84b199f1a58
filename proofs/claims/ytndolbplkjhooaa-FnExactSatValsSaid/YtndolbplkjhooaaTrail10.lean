/- The program's readSat: its parts, on. -/
import Derived.Test.YtndolbplkjhooaaTrail9
import Derived.Test.YtndolbplkjhooaaRow
import Derived.Test.YtndolbplkjhooaaSatS4
namespace Go.Proofs.Ytndolbplkjhooaa
open Go Go.RowKit

theorem readSat2_any (why : List Int) (Q : Option Addr) (q bx k : Nat) (F : Nat → Prop) (w : World) (h : Lay.int.Sl w F Q why) (hk : k < why.length) (hn : why.length ≤ 1048576) (hbx : w.cell? ⟨bx, 1, none⟩ = some (.slice Q why.length q)) :
    Calls Try.prog 81 #[.int .i64 k, .pointer (some ⟨bx, 0, none⟩)] w fun e w' => e = .returned (.bool (why[k] == -1)) ∧ w = w' := by
  obtain ⟨ad, rfl, hf, hc⟩ := h.at_int hk
  have hk1 : (k : Int) < why.length := by omega
  generalize why[k] = a at *
  go_enter Try.func81, Try.ntmps81
  go_wp2
  go_ret
  exact ⟨rfl, rfl⟩

theorem trailOkS_any (M : Nat) (sl why : List Int) (Q : Option Addr) (q bx : Nat) (B : Option Addr) (q9 : Nat) (G : Nat → Prop) (w : World) (hwhy : Lay.int.Rd w Q why) (hlen : sl.length = why.length) (hbx : w.cell? ⟨bx, 1, none⟩ = some (.slice Q why.length q)) (hs : Lay.int.Sl w G B sl) (hG : ∀ b, G b → b < w.heap.size) (hn : sl.length ≤ 1048576) (hi : ∀ l ∈ sl, -9223372036854775808 ≤ l ∧ l ≤ 9223372036854775807) (hM : M ≤ 1000000) :
    Calls Try.prog 48 #[.int .i64 M, .slice B sl.length q9, .func (.func 81) #[] #[.pointer (some ⟨bx, 0, none⟩)]] w (RetT M w sl) := by
  have HNV : Hid (∀ k (hk : k < why.length) W, Below w.heap.size w W → Calls Try.prog 81 #[.int .i64 k, .pointer (some ⟨bx, 0, none⟩)] W fun e w' => e = .returned (.bool (why[k] == -1)) ∧ W = w') :=
    Lib.hid fun k hk W hb => readSat2_any why Q q bx k _ W (hwhy.up hb) hk (by omega) ((hb.cell (World.block_lt_of_cell? w _ hbx)).trans hbx)
  have HLN := Lib.hid hlen
  clear hwhy hbx hlen
  go_enter Try.func48, Try.ntmps48
  go_wp2_with fail
  refine (newTrail_any M w hM).mono ?_
  rintro e w0 ⟨t, rfl, htr0, hb0⟩
  go_wp2
  go_loopw [15] (fun i wr => ∃ (k : Nat) (ls : List Int), k ≤ sl.length ∧ i = .int .i64 k ∧ Tr w.heap.size (fun _ => False) M wr t (sl.take k) ls ∧ Good M (sl.take k) ∧ Below w.heap.size w wr) (fun i _ => sl.length - (intOf i).toNat)
  case atStart => exact ⟨0, [], Nat.zero_le _, rfl, by simpa using htr0, by simpa using Good.nil M, hb0⟩
  case round =>
    obtain ⟨k, ls, hk, rfl, htr, hgc, hb⟩ := hrel
    by_cases hlt : k < sl.length
    · obtain ⟨ad, rfl, hf, hc⟩ := (hs.below hb hG).at_int hlt
      have hk1 : (k : Int) < sl.length := by omega
      have hmem : sl[k] ∈ sl := List.getElem_mem hlt
      obtain ⟨i1, i2⟩ := hi _ hmem
      have htk : sl.take (k + 1) = sl.take k ++ [sl[k]] := List.take_succ_eq_append_getElem hlt
      have hrng : Good M sl → litOk sl[k] M = true := fun hg => by unfold litOk; rw [decide_eq_true_eq]; exact hg.rng _ hmem
      have hput : Good M sl → isPut (sl.take k) sl[k] = false := fun hg => by unfold isPut; rw [decide_eq_false_iff_not]; rintro (h9 | h9); exact (hg.at hlt).1 h9; exact (hg.at hlt).2 h9
      have hlit := litOf_any sl[k] M
      generalize sl[k] = a at *
      have HTK := Lib.hid htk
      have HR := Lib.hid hrng
      have HP := Lib.hid hput
      clear htk hrng hput hmem
      by_cases h1 : litOk a M = true
      · rw [h1] at hlit
        have HL := Lib.hid (fun W => hlit W i1 i2 (by omega) (by omega))
        clear hlit
        have hlo : a ≠ 0 ∧ -(M : Int) ≤ a ∧ a ≤ M := by unfold litOk at h1; simpa using h1
        obtain ⟨a0, a1, a2⟩ := hlo
        have has := assigned_any w.heap.size (fun _ => False) M t (sl.take k) ls a wr htr a0 a1 a2 hM
        by_cases h2 : isPut (sl.take k) a = true
        · rw [h2] at has
          have HA := Lib.hid has
          have HN := Lib.hid (show ¬ Good M sl from fun hg => by have := HP.out hg; rw [h2] at this; cases this)
          clear has h1 h2
          go_wp2_with fail
          refine (HL.out _).mono ?_
          rintro e w' ⟨rfl, rfl⟩
          go_wp2_with fail
          refine HA.out.mono ?_
          rintro e w' ⟨rfl, m9, rfl⟩
          go_wp2
          go_ret2
          exact .inr ⟨HN.out, rfl, below_drewN hb _⟩
        · rw [Bool.not_eq_true] at h2
          rw [h2] at has
          have HA := Lib.hid has
          have hnp : a ∉ sl.take k ∧ -a ∉ sl.take k := by unfold isPut at h2; simpa using h2
          obtain ⟨p1, p2⟩ := hnp
          have HGN := Lib.hid (hgc.snoc a0 a1 a2 p1 p2)
          clear has h1 h2
          go_wp2_with fail
          refine (HL.out _).mono ?_
          rintro e w' ⟨rfl, rfl⟩
          go_wp2_with fail
          refine HA.out.mono ?_
          rintro e w' ⟨rfl, m9, rfl⟩
          go_wp2_with fail
          refine (HNV.out k (by have := HLN.out; omega) _ (below_drewN hb m9)).mono ?_
          rintro e w' ⟨rfl, rfl⟩
          go_wp2_with fail
          refine (push_any w.heap.size (fun _ => False) M t (sl.take k) ls a (why[k]'(by have := HLN.out; omega) == -1) (wr.drewN m9) (htr.drewN m9) hgc a0 a1 a2 p1 p2 hM).mono ?_
          rintro e w8 ⟨rfl, htr8, hb8⟩
          go_wp2
          go_roundw
          case rel => exact ⟨k + 1, _, by omega, by go_num, by rw [HTK.out]; exact htr8, by rw [HTK.out]; exact HGN.out, (below_drewN hb m9).trans hb8.1⟩
          case measure => simp [intOf]; omega
      · rw [Bool.not_eq_true] at h1
        rw [h1] at hlit
        have HL := Lib.hid (fun W => hlit W i1 i2 (by omega) (by omega))
        have HN := Lib.hid (show ¬ Good M sl from fun hg => by have := HR.out hg; rw [h1] at this; cases this)
        clear hlit h1
        go_wp2_with fail
        refine (HL.out _).mono ?_
        rintro e w' ⟨rfl, rfl⟩
        go_wp2
        go_ret2
        exact .inr ⟨HN.out, rfl, hb⟩
    · have hke : k = sl.length := by omega
      subst hke
      rw [List.take_length] at htr hgc
      have HT := Lib.hid htr
      have HG := Lib.hid hgc
      clear htr hgc
      go_wp2
      go_ret2
      exact .inl ⟨HG.out, t, ls, rfl, HT.out, hb⟩



/-- A row of the call's own comes back. -/
def RetI (w : World) (xs : List Int) (e : Ending) (w' : World) : Prop := ∃ A c, e = .returned (.slice A xs.length c) ∧ OwnI w' w.heap.size (.slice A xs.length c) xs ∧ Below w.heap.size w w'
set_option maxRecDepth 100000 in
theorem cloneI_any (A : Option Addr) (c : Nat) (xs : List Int) (w : World) (h : Lay.int.Rd w A xs) (hn : xs.length ≤ 1048576) :
    Calls Try.prog 82 #[.slice A xs.length c] w (RetI w xs) := by
  obtain ⟨i0, hi0, hz0, hz1, hz2⟩ := info_parts int_info
  have hA : A = none → xs.length = 0 := fun e => by
    rcases Nat.eq_zero_or_pos xs.length with h0 | h0
    · exact h0
    · obtain ⟨ad, e', _⟩ := h h0; rw [e] at e'; cases e'
  cases A with
  | none =>
    have h0 : xs = [] := List.eq_nil_of_length_eq_zero (hA rfl)
    subst h0
    have he : ∀ w : World, (binOp .eql 25 (.slice none 0 c) (.slice none 0 0)).run Try.prog w = .ok (.bool true) w := fun _ => rfl
    go_enter Try.func82, Try.ntmps82
    go_wp2
    go_ret
    exact ⟨none, 0, rfl, World.ownsRow_nil _ _ _ _, Below.refl _ _⟩
  | some ad =>
    clear hA
    have hsrc := src_ints (Lay.Sl.up h ((Below.refl _ _).alloc (Nat.le_refl _) (.cells #[] 3)))
    have he : ∀ w : World, (binOp .eql 25 (.slice (some ad) xs.length c) (.slice none 0 0)).run Try.prog w = .ok (.bool false) w := fun _ => rfl
    go_enter Try.func82, Try.ntmps82
    go_wp2_with (at_builtin; refine wpList_append_src _ (by rfl) (.tmp 5) (.tmp 6) _ (by rfl) w.heap.size 3 i0 _ 1 8 Try.underlying25 hi0 hz0 hz1 hz2 (by rfl) (by omega) (.slice (some ⟨w.heap.size, 0, none⟩) 0 0) 0 [] (by rfl) (own_lit0 rfl) (some ad) xs.length c (xs.map (Value.int .i64)) (by rfl) hsrc (ints_one _) xs.length (by omega) (by unfold maxLen; omega) (by omega) (by simp) (by simp) ?_; intro A1 c1 w1 hown1 hb1 _)
    have hbw : Below w.heap.size w w1 := ((Below.refl _ _).alloc (Nat.le_refl _) _).trans hb1
    go_ret
    exact ⟨A1, c1, rfl, by unfold OwnI; simpa using hown1, hbw⟩

/-- Rows in memory of the call's own. -/
abbrev OwnQ (lo : Nat) : World → Nat → Prop := fun w b => lo ≤ b ∧ ∀ o, w.frozen? ⟨b, o, none⟩ = false
abbrev OwnLL (w : World) (lo : Nat) (v : Value) (xs : List (List Int)) : Prop := OwnL Lay.int.slice (OwnQ lo) 25 w lo v xs
def RetLL (w : World) (xs : List (List Int)) (e : Ending) (w' : World) : Prop := ∃ A c, e = .returned (.slice A xs.length c) ∧ OwnLL w' w.heap.size (.slice A xs.length c) xs ∧ Below w.heap.size w w'
/-- A row of integers of one's own, as an element. -/
theorem own_elem {w w2 : World} {lo : Nat} {v : Value} {A : Option Addr} {c : Nat} {x : List Int} (ho : OwnI w2 w.heap.size (.slice A x.length c) x) (hlo : lo ≤ w.heap.size) (hv : ∀ g, v.ownBlock = some g → g < w.heap.size) :
    Lay.int.slice.R w2 (fun b => b < w2.heap.size ∧ v.ownBlock ≠ some b ∧ OwnQ lo w2 b) x [.slice A x.length c] :=
  ⟨A, c, rfl, ho.cap, ho.own.mono fun b hb => ⟨hb.2.1, fun e => by have := hv b e; have := hb.1; omega, Nat.le_trans hlo hb.1, hb.2.2⟩⟩
theorem OwnL.lt {α : Type} {L : Lay α} {Q : World → Nat → Prop} {e : TypeId} {w : World} {lo : Nat} {v : Value} {xs : List α} (h : OwnL L Q e w lo v xs) : ∀ g, v.ownBlock = some g → lo ≤ g ∧ g < w.heap.size := by
  obtain ⟨cs, h1, _⟩ := h
  exact fun g hg => h1.lt g hg
set_option maxRecDepth 100000 in
set_option maxHeartbeats 1000000 in
theorem copyLists_any (A : Option Addr) (c : Nat) (xs : List (List Int)) (w : World) (h : Lay.int.slice.Rd w A xs) (hn : xs.length ≤ 1048576) (ho' : ∀ l ∈ xs, l.length ≤ 1048576) :
    Calls Try.prog 83 #[.slice A xs.length c] w (RetLL w xs) := by
  obtain ⟨i0, hi0, hz0, hz1, hz2⟩ := info_parts toIntSS_info
  go_enter Try.func83, Try.ntmps83
  go_wp2
  go_loopw [3, 8] (fun s i wr => ∃ (k : Nat) (ns : List (List Int)) (A2 : Option Addr) (c2 : Nat), k ≤ xs.length ∧ i = .int .i64 k ∧ s = .slice A2 ns.length c2 ∧ ns = xs.take k ∧ OwnLL wr w.heap.size (.slice A2 ns.length c2) ns ∧ Below w.heap.size w wr) (fun _ i _ => xs.length - (intOf i).toNat)
  case atStart => exact ⟨0, [], none, 0, Nat.zero_le _, rfl, rfl, rfl, OwnL.nil _ _ _ _ _, Below.refl _ _⟩
  case round =>
    obtain ⟨k, ns, A2, c2, hk, rfl, rfl, hns, hown, hb⟩ := hrel
    have hnl : ns.length = k := by rw [hns]; simp; omega
    have HNS := Lib.hid hns
    have HNL := Lib.hid hnl
    clear hns hnl
    by_cases hlt : k < xs.length
    · obtain ⟨ad, A', c', rfl, hf, k1, hl1, s1⟩ := (h.up hb).at_slice hlt
      have hk1 : (k : Int) < xs.length := by omega
      have hxl := ho' _ (List.getElem_mem hlt)
      have htk : xs.take (k + 1) = xs.take k ++ [xs[k]] := List.take_succ_eq_append_getElem hlt
      generalize xs[k] = x at *
      have HTK := Lib.hid htk
      obtain ⟨ps, hps⟩ : ∃ ps, ps = ns ++ [x] := ⟨_, rfl⟩
      have HPS := Lib.hid hps
      clear htk hps
      go_wp2_with fail
      refine (cloneI_any A' c' x wr s1 hxl).mono ?_
      rintro e w2 ⟨A3, c3, rfl, ho3, hb3⟩
      have hown2 := hown.up (Stay.own _) hb3
      have hel := own_elem (v := .slice A2 ns.length c2) ho3 hb.size (fun g hg => (hown.lt g hg).2)
      have hbb := bthen hb hb3
      have hlo := hbb.size
      clear hown ho3 s1 k1
      go_wp2_with (at_builtin; refine wpList_append_row (L := Lay.int.slice) (Q := OwnQ w.heap.size) (ys := ps) (by rfl) (.tmp 12) (.tmp 15) (by rfl) Try.underlying22 hi0 hz0 hz1 hz2 (by rfl) (by decide) (by rfl) (by rfl) hown2 (Stay.own _) hel (fun _ h => h) (by simp [Value.oneCell']) (by have := HNL.out; omega) (by omega) hlo HPS.out ?_; intro A1 c1 w1 hown1 hg1 hbk1)
      have hb1 : Below w.heap.size w w1 := hbb.grown hg1 hlo (fun g hg => (hown2.lt g hg).1)
      clear hbk1 hg1
      go_wp2
      go_roundw
      case rel => exact ⟨k + 1, ps, A1, c1, by omega, by go_num, rfl, by rw [HPS.out, HTK.out, HNS.out], hown1, hb1⟩
      case measure => simp [intOf]; omega
    · have hke : k = xs.length := by omega
      subst hke
      have hns : ns = xs := by rw [HNS.out, List.take_length]
      subst hns
      go_wp2
      go_ret
      exact ⟨A2, c2, rfl, hown, hb⟩

end Go.Proofs.Ytndolbplkjhooaa
