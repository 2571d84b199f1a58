/- The program's trail: trailOk; clauseOk. -/
import Derived.Test.YtndolbplkjhooaaTrail4
namespace Go.Proofs.Ytndolbplkjhooaa
open Go Go.RowKit

def RetT (M : Nat) (w : World) (sl : List Int) (e : Ending) (w' : World) : Prop :=
  (Good M sl ∧ ∃ t ls, e = .returned (.tuple #[.pointer (some ⟨t, 0, none⟩), .bool true]) ∧ Tr w.heap.size (fun _ => False) M w' t sl ls ∧ Below w.heap.size w w') ∨ (¬ Good M sl ∧ e = .returned (.tuple #[.pointer none, .bool false]) ∧ Below w.heap.size w w')
set_option maxRecDepth 100000 in
set_option maxHeartbeats 4000000 in
theorem trailOk_any (M : Nat) (sl : List Int) (B : Option Addr) (q : Nat) (G : Nat → Prop) (w : World) (hs : Lay.int.Sl w G B sl) (hG : ∀ b, G b → b < w.heap.size) (hn : sl.length ≤ 1048576) (hi : ∀ l ∈ sl, -9223372036854775808 ≤ l ∧ l ≤ 9223372036854775807) (hM : M ≤ 1000000) :
    Calls Try.prog 48 #[.int .i64 M, .slice B sl.length q, .func (.func 49) #[] #[]] w (RetT M w sl) := by
  go_enter Try.func48, Try.ntmps48
  go_wp2_with fail
  refine (newTrail_any M w hM).mono ?_
  rintro e w0 ⟨t, rfl, htr0, hb0⟩
  go_wp2
  go_loopw [15] (fun i wr => ∃ (k : Nat) (ls : List Int), k ≤ sl.length ∧ i = .int .i64 k ∧ Tr w.heap.size (fun _ => False) M wr t (sl.take k) ls ∧ Good M (sl.take k) ∧ Below w.heap.size w wr) (fun i _ => sl.length - (intOf i).toNat)
  case atStart => exact ⟨0, [], Nat.zero_le _, rfl, by simpa using htr0, by simpa using Good.nil M, hb0⟩
  case round =>
    obtain ⟨k, ls, hk, rfl, htr, hgc, hb⟩ := hrel
    by_cases hlt : k < sl.length
    · obtain ⟨ad, rfl, hf, hc⟩ := (hs.below hb hG).at_int hlt
      have hk1 : (k : Int) < sl.length := by omega
      have hmem : sl[k] ∈ sl := List.getElem_mem hlt
      obtain ⟨i1, i2⟩ := hi _ hmem
      have htk : sl.take (k + 1) = sl.take k ++ [sl[k]] := List.take_succ_eq_append_getElem hlt
      have hrng : Good M sl → litOk sl[k] M = true := fun hg => by unfold litOk; rw [decide_eq_true_eq]; exact hg.rng _ hmem
      have hput : Good M sl → isPut (sl.take k) sl[k] = false := fun hg => by unfold isPut; rw [decide_eq_false_iff_not]; rintro (h9 | h9); exact (hg.at hlt).1 h9; exact (hg.at hlt).2 h9
      have hlit := litOf_any sl[k] M
      generalize sl[k] = a at *
      have HTK := Lib.hid htk
      have HR := Lib.hid hrng
      have HP := Lib.hid hput
      clear htk hrng hput hmem
      by_cases h1 : litOk a M = true
      · rw [h1] at hlit
        have HL := Lib.hid (fun W => hlit W i1 i2 (by omega) (by omega))
        clear hlit
        have hlo : a ≠ 0 ∧ -(M : Int) ≤ a ∧ a ≤ M := by unfold litOk at h1; simpa using h1
        obtain ⟨a0, a1, a2⟩ := hlo
        have has := assigned_any w.heap.size (fun _ => False) M t (sl.take k) ls a wr htr a0 a1 a2 hM
        by_cases h2 : isPut (sl.take k) a = true
        · rw [h2] at has
          have HA := Lib.hid has
          have HN := Lib.hid (show ¬ Good M sl from fun hg => by have := HP.out hg; rw [h2] at this; cases this)
          clear has h1 h2
          go_wp2_with fail
          refine (HL.out _).mono ?_
          rintro e w' ⟨rfl, rfl⟩
          go_wp2_with fail
          refine HA.out.mono ?_
          rintro e w' ⟨rfl, m9, rfl⟩
          go_wp2
          go_ret2
          exact .inr ⟨HN.out, rfl, below_drewN hb _⟩
        · rw [Bool.not_eq_true] at h2
          rw [h2] at has
          have HA := Lib.hid has
          have hnp : a ∉ sl.take k ∧ -a ∉ sl.take k := by unfold isPut at h2; simpa using h2
          obtain ⟨p1, p2⟩ := hnp
          have HGN := Lib.hid (hgc.snoc a0 a1 a2 p1 p2)
          clear has h1 h2
          go_wp2_with fail
          refine (HL.out _).mono ?_
          rintro e w' ⟨rfl, rfl⟩
          go_wp2_with fail
          refine HA.out.mono ?_
          rintro e w' ⟨rfl, m9, rfl⟩
          go_wp2_with fail
          refine (never_any k _).mono ?_
          rintro e w' ⟨rfl, rfl⟩
          go_wp2_with fail
          refine (push_any w.heap.size (fun _ => False) M t (sl.take k) ls a false (wr.drewN m9) (htr.drewN m9) hgc a0 a1 a2 p1 p2 hM).mono ?_
          rintro e w8 ⟨rfl, htr8, hb8⟩
          go_wp2
          go_roundw
          case rel => exact ⟨k + 1, _, by omega, by go_num, by rw [HTK.out]; exact htr8, by rw [HTK.out]; exact HGN.out, (below_drewN hb m9).trans hb8.1⟩
          case measure => simp [intOf]; omega
      · rw [Bool.not_eq_true] at h1
        rw [h1] at hlit
        have HL := Lib.hid (fun W => hlit W i1 i2 (by omega) (by omega))
        have HN := Lib.hid (show ¬ Good M sl from fun hg => by have := HR.out hg; rw [h1] at this; cases this)
        clear hlit h1
        go_wp2_with fail
        refine (HL.out _).mono ?_
        rintro e w' ⟨rfl, rfl⟩
        go_wp2
        go_ret2
        exact .inr ⟨HN.out, rfl, hb⟩
    · have hke : k = sl.length := by omega
      subst hke
      rw [List.take_length] at htr hgc
      have HT := Lib.hid htr
      have HG := Lib.hid hgc
      clear htr hgc
      go_wp2
      go_ret2
      exact .inl ⟨HG.out, t, ls, rfl, HT.out, hb⟩

end Go.Proofs.Ytndolbplkjhooaa
