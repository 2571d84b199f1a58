/- Contracts of the laws' sizes, copies and comparisons of clauses; the reference's CnfOk. -/
import Derived.Test.YtndolbplkjhooaaCnfP
import Derived.Test.YtndolbplkjhooaaInts1
import Derived.Test.YtndolbplkjhooaaTTo0
import Derived.Test.YtndolbplkjhooaaApp
import Derived.Test.YtndolbplkjhooaaTail
namespace Go.Proofs.Ytndolbplkjhooaa
open Go Go.RowKit

theorem szIntS_any (A : Option Addr) (c n : Nat) (left : Int) (w : World) (hn : n ≤ 9223372036854775807) (h0 : 0 ≤ left) (h1 : left ≤ 1048576) :
    Calls Try.prog 54 #[.slice A n c, .int .i64 left] w fun e w' => e = .returned (.int .i64 (szRes left n)) ∧ w = w' := by
  by_cases h : left < n
  all_goals
    go_enter Try.func54, Try.ntmps54
    go_wp2
    go_ret
    exact ⟨ret_int (by unfold szRes; first | rw [if_pos (by omega)] | rw [if_neg (by omega)]), rfl⟩
theorem szIntS_below (A : Option Addr) (c : Nat) (l : List Int) (left : Int) (w : World) (hn : l.length ≤ 9223372036854775807) (h0 : 0 ≤ left) (h1 : left ≤ 1048576) :
    Calls Try.prog 54 #[.slice A l.length c, .int .i64 left] w fun e w' => e = .returned (.int .i64 (szRes left (List.length l))) ∧ Below w.heap.size w w' :=
  (szIntS_any A c l.length left w hn h0 h1).mono fun _ _ ⟨he, hw⟩ => ⟨he, hw ▸ Below.refl _ _⟩
abbrev lw (l : List Int) : Nat := l.length
def listsW (l : List (List Int)) : Nat := l.length + wsum lw l

set_option maxHeartbeats 400000 in
theorem szIntSS_any (A : Option Addr) (c : Nat) (xs : List (List Int)) (left : Int) (F : Nat → Prop) (w : World) (h : Lay.int.slice.Sl w F A xs) (hF : ∀ b, F b → b < w.heap.size) (ho : ∀ d ∈ xs, d.length ≤ 9223372036854775807) (hn : xs.length ≤ 9223372036854775807) (h0 : 0 ≤ left) (h1 : left ≤ 1048576) :
    Calls Try.prog 37 #[.slice A xs.length c, .int .i64 left] w fun e w' => e = .returned (.int .i64 (szRes left (xs.length + wsum lw xs))) ∧ Below w.heap.size w w' := by
  by_cases hl : left < xs.length
  · have HR := Lib.hid (szRes_lt (l := left) (n := xs.length + wsum lw xs) (by omega))
    go_enter Try.func37, Try.ntmps37
    go_wp2
    go_ret
    exact ⟨ret_int (by rw [HR.out]), Below.refl _ _⟩
  · go_enter Try.func37, Try.ntmps37
    go_wp2
    go_loopw [1, 5] (fun l i wr => ∃ k : Nat, k ≤ xs.length ∧ i = .int .i64 k ∧ l = .int .i64 (left - xs.length - wsum lw (xs.take k)) ∧ 0 ≤ left - xs.length - wsum lw (xs.take k) ∧ Below w.heap.size w wr) (fun _ i _ => xs.length - (intOf i).toNat)
    case atStart => exact ⟨0, Nat.zero_le _, rfl, by simp [wsum], by simp [wsum]; omega, Below.refl _ _⟩
    case round =>
      obtain ⟨k, hk, rfl, rfl, hge, hb⟩ := hrel
      by_cases hlt : k < xs.length
      · have hlater := h.below hb hF
        have hFr : ∀ b, F b → b < wr.heap.size := fun b hb' => Nat.lt_of_lt_of_le (hF b hb') hb.size
        obtain ⟨ad, A', c', rfl, hf, c1, hl1, s1⟩ := hlater.at_slice hlt
        have hsn := wsum_take lw xs k hlt
        have hle := wsum_le lw xs (k + 1)
        have hk1 : (k : Int) < xs.length := by omega
        generalize hL : left - (xs.length : Int) - (wsum lw (xs.take k) : Int) = L at *
        by_cases hs : L < (lw xs[k] : Nat)
        · have HX := Lib.hid (szRes_lt hs)
          have HY := Lib.hid (szRes_lt (l := left) (n := xs.length + wsum lw xs) (by omega))
          have hLb : 0 ≤ L ∧ L ≤ 1048576 := by omega
          obtain ⟨hL0, hL1⟩ := hLb
          clear hsn hle hL hs
          go_wp2_with fail
          refine (szIntS_below A' c' xs[k] L _ (ho _ (List.getElem_mem _)) hL0 hL1).mono ?_
          rw [HX.out]
          rintro e w2 ⟨rfl, hb2⟩
          have hbb := bthen hb hb2
          go_wp2
          go_ret
          exact ⟨ret_int (by rw [HY.out]), hbb⟩
        · have HX := Lib.hid (szRes_ge hs)
          have HY := Lib.hid (show left - (xs.length : Int) - (wsum lw (xs.take (k + 1)) : Int) = L - (lw xs[k] : Nat) by omega)
          have hLb : 0 ≤ L ∧ L ≤ 1048576 := by omega
          obtain ⟨hL0, hL1⟩ := hLb
          have hwb : ((lw xs[k] : Nat) : Int) ≤ L := by omega
          clear hsn hle hL hs
          go_wp2_with fail
          refine (szIntS_below A' c' xs[k] L _ (ho _ (List.getElem_mem _)) hL0 hL1).mono ?_
          rw [HX.out]
          rintro e w2 ⟨rfl, hb2⟩
          have hbb := bthen hb hb2
          generalize hM : L - ((lw xs[k] : Nat) : Int) = M at *
          have hM0 : 0 ≤ M := by omega
          have HM := Lib.hid hM
          clear hM hwb
          go_wp2
          go_roundw
          case rel => exact ⟨k + 1, by omega, by go_num, by rw [HY.out], by rw [HY.out]; exact hM0, hbb⟩
          case measure => simp [intOf]; omega
      · have hke : k = xs.length := by omega
        have HE := Lib.hid (show szRes left (xs.length + wsum lw xs) = left - xs.length - wsum lw (xs.take k) by rw [szRes_ge (by rw [hke, List.take_length] at hge; omega), hke, List.take_length]; omega)
        go_wp2
        go_ret
        exact ⟨ret_int (by rw [HE.out]), hb⟩


theorem szCnf_any (A : Option Addr) (c : Nat) (x : C) (left : Int) (F : Nat → Prop) (w : World) (h : Lay.int.slice.Sl w F A x.list) (hF : ∀ b, F b → b < w.heap.size) (ho : ∀ d ∈ x.list, d.length ≤ 9223372036854775807) (hn : x.list.length ≤ 9223372036854775807) (h0 : 0 ≤ left) (h1 : left ≤ 1048576) :
    Calls Try.prog 9 #[.agg #[.int .i64 x.many, .slice A x.list.length c], .int .i64 left] w fun e w' => e = .returned (.int .i64 (szRes left (listsW x.list))) ∧ Below w.heap.size w w' := by
  have hw : Below w.heap.size w (w.alloc (.cells #[.int .i64 x.many, .slice A x.list.length c] 24)) := (Below.refl _ _).alloc (Nat.le_refl _) _
  by_cases hs : left < (listsW x.list : Nat)
  · have HS := Lib.hid (szRes_lt hs)
    clear hs
    go_enter Try.func9, Try.ntmps9
    go_wp2_with fail
    refine (szIntSS_any A c x.list left F _ (h.below hw hF) (fun b hb => Nat.lt_of_lt_of_le (hF b hb) hw.size) ho hn h0 h1).mono ?_
    rw [show x.list.length + wsum lw x.list = listsW x.list from rfl, HS.out]
    rintro e w2 ⟨rfl, hb2⟩
    have hbb := bthen hw hb2
    go_wp2
    go_ret
    exact ⟨ret_int (by rw [HS.out]), hbb⟩
  · have HS := Lib.hid (szRes_ge hs)
    generalize hM : left - ((listsW x.list : Nat) : Int) = M at *
    have hM0 : 0 ≤ M := by omega
    clear hs hM
    go_enter Try.func9, Try.ntmps9
    go_wp2_with fail
    refine (szIntSS_any A c x.list left F _ (h.below hw hF) (fun b hb => Nat.lt_of_lt_of_le (hF b hb) hw.size) ho hn h0 h1).mono ?_
    rw [show x.list.length + wsum lw x.list = listsW x.list from rfl, HS.out]
    rintro e w2 ⟨rfl, hb2⟩
    have hbb := bthen hw hb2
    go_wp2
    go_ret
    exact ⟨ret_int (by rw [HS.out]), hbb⟩

theorem retO_ints {w w' : World} {e : TypeId} {n c : Nat} {xs : List Int} {g : Nat}
    (h : w'.ownsRow w.heap.size e 1 (.slice (some ⟨g, 0, none⟩) n c) n (xs.map (Value.int .i64))) (hb : Below w.heap.size w w') : RetO Lay.int w xs (.returned (.slice (some ⟨g, 0, none⟩) n c)) w' := by
  obtain ⟨h1, rfl, h3⟩ := sl_ints_of_own (F := fun b => w.heap.size ≤ b ∧ b < w'.heap.size) h (fun g a b => ⟨a, b⟩)
  refine ⟨_, c, rfl, h3, fun h0 => ?_, hb⟩
  obtain ⟨ad, e1, hF, hc⟩ := h1 h0
  injection e1 with e1
  subst e1
  refine ⟨_, rfl, Own.ofRow h hF.1, fun k x hx => ?_⟩
  obtain ⟨vs, hr, hu⟩ := hc k x hx
  exact ⟨vs, hr, hu⟩

set_option maxHeartbeats 400000 in
theorem toIntO_any (A : Option Addr) (c : Nat) (xs : List Int) (F : Nat → Prop) (w : World) (h : Lay.int.Sl w F A xs) (hF : ∀ b, F b → b < w.heap.size) (hn : xs.length ≤ 1048576) :
    Calls Try.prog 12 #[.slice A xs.length c] w (RetO Lay.int w xs) := by
  obtain ⟨i0, hi0, hz0, hz1, hz2⟩ := info_parts int_info
  go_enter Try.func12, Try.ntmps12
  go_wp2_with (at_make; refine wpList_make_full w rfl _ _ 25 rfl w.heap.size 3 i0 _ 1 Try.underlying25 hi0 hz0 hz1 .i64 .i64 _ _ xs.length rfl rfl rfl rfl (by rw [hz2]; omega) (by unfold maxLen; omega) (Nat.le_refl _) ?_; intro w1 hown hg)
  have H1 := Lib.hid hg
  clear hg hi0 hz0 hz1 hz2
  have hb1 : Below w.heap.size w w1 := (Below.refl _ _).grown H1.out (Nat.le_refl _) (by simp)
  rw [show (madeCells (Value.int .i64 0).cells (xs.length * 1)).toList = ((xs.take 0).map (Value.int .i64) ++ List.replicate (xs.length - 0) (.int .i64 0)) from by
    rw [show (Value.int .i64 0).cells = #[Value.int .i64 0] from rfl, toList_madeCells_one]; simp] at hown
  go_loopw [4] (fun i wr => ∃ k : Nat, k ≤ xs.length ∧ i = .int .i64 k ∧ Below w.heap.size w wr ∧ wr.ownsRow w.heap.size 3 1 (.slice (some ⟨w.heap.size, 0, none⟩) xs.length xs.length) xs.length ((xs.take k).map (Value.int .i64) ++ List.replicate (xs.length - k) (.int .i64 0)))
    (fun i _ => xs.length - (intOf i).toNat)
  case atStart => exact ⟨0, Nat.zero_le _, rfl, hb1, hown⟩
  case round =>
    obtain ⟨k, hk, rfl, hb, ho⟩ := hrel
    by_cases hlt : k < xs.length
    · obtain ⟨ad, rfl, hf, hc⟩ := h.at_int hlt
      have hc' : wr.cell? (ad.add k) = some (.int .i64 xs[k]) := (hb.cell (by rw [block_of_add]; exact hF _ hf)).trans hc
      have hst := ho.stored k (.int .i64 xs[k])
      have hold : wr.cell? ⟨w.heap.size, k, none⟩ = _ := ho.cellAt k (by omega)
      have hfr : wr.frozen? ⟨w.heap.size, k, none⟩ = false := ho.frozenAt k
      go_wp2
      go_roundw
      case rel => exact ⟨k + 1, by omega, by go_num, hb.setCell (Nat.le_refl _) _, by rw [fill_set xs (Value.int .i64) _ k hlt] at hst; exact hst.1⟩
      case measure => simp [intOf]; omega
    · have : k = xs.length := by omega
      subst this
      go_wp2
      go_ret
      exact retO_ints (by simpa using ho) hb

theorem toIntSS_info : (Try.prog.info? 25).map (fun i => (i.zero, i.size, i.bytes)) = some (some ((.slice none 0 0)), 1, 24) := by kernel_rfl
set_option maxHeartbeats 1000000 in
theorem toIntSS_any (A : Option Addr) (c : Nat) (xs : List (List Int)) (F : Nat → Prop) (w : World) (h : Lay.int.slice.Sl w F A xs) (hF : ∀ b, F b → b < w.heap.size) (hn : xs.length ≤ 1048576) (ho' : ∀ l ∈ xs, l.length ≤ 1048576) :
    Calls Try.prog 40 #[.slice A xs.length c] w (RetO Lay.int.slice w xs) := by
  obtain ⟨i0, hi0, hz0, hz1, hz2⟩ := info_parts toIntSS_info
  go_enter Try.func40, Try.ntmps40
  go_wp2_with (at_make; refine wpList_make_full w rfl _ _ 22 rfl w.heap.size 25 i0 _ 1 Try.underlying22 hi0 hz0 hz1 .i64 .i64 _ _ xs.length rfl rfl rfl rfl (by rw [hz2]; omega) (by unfold maxLen; omega) (Nat.le_refl _) ?_; intro w1 hown hg)
  have H1 := Lib.hid hg
  clear hg hi0 hz0 hz1 hz2
  have hb1 : Below w.heap.size w w1 := (Below.refl _ _).grown H1.out (Nat.le_refl _) (by simp)
  go_loopw [4] (fun i wr => ∃ (k : Nat) (cs : List Value), k ≤ xs.length ∧ i = .int .i64 k ∧ Below w.heap.size w wr ∧ wr.ownsRow w.heap.size 25 1 (.slice (some ⟨w.heap.size, 0, none⟩) xs.length xs.length) xs.length cs ∧ Laid Lay.int.slice (w.heap.size + 1) wr k xs cs)
    (fun i _ => xs.length - (intOf i).toNat)
  case atStart => exact ⟨0, _, Nat.zero_le _, rfl, hb1, hown, fun i x hi => absurd hi (by omega)⟩
  case round =>
    obtain ⟨k, cs, hk, rfl, hb, ho, hlaid⟩ := hrel
    by_cases hlt : k < xs.length
    · have hFr : ∀ b, F b → b < wr.heap.size := fun b hb' => Nat.lt_of_lt_of_le (hF b hb') hb.size
      obtain ⟨ad, A', c', rfl, hf, c1, hl1, s1⟩ := (h.below hb hF).at_slice hlt
      have hk1 : (k : Int) < xs.length := by omega
      have HX := Lib.hid (List.getElem?_eq_getElem hlt)
      have hlenr : w.heap.size + 1 ≤ wr.heap.size := by have := (ho.lt w.heap.size rfl).2; omega
      go_wp2_with fail
      refine (toIntO_any A' c' xs[k] F _ s1 hFr (ho' _ (List.getElem_mem _))).mono ?_
      rintro e w2 ⟨A2, cp2, rfl, hcp2, hs2, hb2⟩
      have ho2 := own_below ho hb2 (Nat.le_refl _)
      have hlaid2 := hlaid.up hb2
      have hst1 := (ho2.stored (k) (.slice A2 xs[k].length cp2)).1
      have hl0 : cs.length = xs.length * 1 := ho.1
      have hl9 : k * 1 + 1 ≤ cs.length := by omega
      have e1 : w2.cell? ⟨w.heap.size, k, none⟩ = cs[k]? := ho2.cellAt _ (by omega)
      rw [List.getElem?_eq_getElem (by omega)] at e1
      have f1 : w2.frozen? ⟨w.heap.size, k, none⟩ = false := ho2.frozenAt _
      have HR : Laid Lay.int.slice (w.heap.size + 1) w2 (k + 1) xs (setAt cs k [.slice A2 xs[k].length cp2]) := by have h9 := hlaid2.next (x := xs[k]) HX.out (⟨A2, cp2, rfl, hcp2, hs2.own_mono hlenr⟩) hl9; rw [show k * Lay.size Lay.int.slice = k from Nat.mul_one k] at h9; exact h9
      clear hlaid hlaid2
      go_wp2
      go_roundw
      case rel => exact ⟨k + 1, _, by omega, by go_num, ((bthen hb hb2).setCell (Nat.le_refl _) _), hst1, (HR.set _ _ (by show w.heap.size < w.heap.size + 1; omega))⟩
      case measure => simp [intOf]; omega
    · have hke : k = xs.length := by omega
      subst hke
      go_wp2
      go_ret
      exact Laid.done rfl hlaid ho hb

def RetC (x : C) (w : World) (e : Ending) (w' : World) : Prop :=
  ∃ A c, e = .returned (.agg #[.int .i64 x.many, .slice A x.list.length c]) ∧ x.list.length ≤ c ∧ Lay.int.slice.Sl w' (Own w.heap.size w') A x.list ∧ Below w.heap.size w w'
theorem below_set8 {B : Nat} {w X : World} {p : Addr} (h : Below B w X) (hp : B ≤ p.block) (u : Value) : Below B w (X.setCell p u) :=
  ⟨h.os, h.tape, h.output, by simpa [World.setCell] using h.size, fun b hb => (Below.heap_setCell X p u b (by omega)).trans (h.block b hb)⟩
set_option maxHeartbeats 1000000 in
theorem toCnf_any (x : C) (A : Option Addr) (c : Nat) (F : Nat → Prop) (w : World) (h : Lay.int.slice.Sl w F A x.list) (hF : ∀ b, F b → b < w.heap.size) (hn : x.list.length ≤ 1048576) (ho : ∀ l ∈ x.list, l.length ≤ 1048576) :
    Calls Try.prog 11 #[.agg #[.int .i64 x.many, .slice A x.list.length c]] w (RetC x w) := by
  have hw3 : Below w.heap.size w (((w.alloc (.cells #[.int .i64 x.many, .slice A x.list.length c] 24)).alloc (.cells #[.int .i64 0, .slice none 0 0] 28)).alloc (.cells #[.int .i64 x.many, .slice none 0 0] 28)) :=
    (((Below.refl _ _).alloc (Nat.le_refl _) _).alloc (by simp) _).alloc (by simp; omega) _
  go_enter Try.func11, Try.ntmps11
  go_wp2_with fail
  refine (toIntSS_any A c x.list F _ (h.below hw3 hF) (fun b hb => by have := hF b hb; simp; omega) hn ho).mono ?_
  rintro e w2 ⟨A', c', rfl, hcl, hs, hb⟩
  obtain ⟨hcc, hff⟩ := bcell hb
  have hz : w.heap.size + 1 + 1 + 1 ≤ w2.heap.size := by have := hb.size; simp at this; omega
  have hz1 : w.heap.size + 1 < w2.heap.size := by omega
  have hz2 : w.heap.size + 1 + 1 < w2.heap.size := by omega
  have hbw := bthen hw3 hb
  have hs' : Lay.int.slice.Sl w2 (Own (w.heap.size + 3) w2) A' x.list := hs.own_mono (by simp)
  go_wp2
  refine bodyPost_ret (v := .agg #[.int .i64 x.many, .slice A' x.list.length c']) (by simp [results, Try.results11, go_sem, hcc, hff, hz1, hz2]) rfl ⟨A', c', rfl, hcl, ?_, ?_⟩
  · exact Lay.Sl.own_mono (lo := w.heap.size + 3) (((hs'.own_set _ _ (by simp <;> omega)).own_set _ _ (by simp <;> omega)).own_set _ _ (by simp <;> omega)) (by omega)
  · exact below_set8 (below_set8 (below_set8 hbw (by simp <;> omega) _) (by simp <;> omega) _) (by simp <;> omega) _

def eqL (xs ys : List Int) : Bool := xs == ys
theorem eqL_self (xs : List Int) : eqL xs xs = true := by simp [eqL]
theorem eqIntS_later (A B : Option Addr) (c d : Nat) (xs ys : List Int) (F G' : Nat → Prop) (w : World) (h : Lay.int.Sl w F A xs) (h' : Lay.int.Sl w G' B ys) (hn : xs.length ≤ 1048576) (hn' : ys.length ≤ 1048576) :
    Calls Try.prog 15 #[.slice A xs.length c, .slice B ys.length d] w fun e w' => e = .returned (.bool (eqL xs ys)) ∧ Below w.heap.size w w' :=
  (eqIntS_any A B c d xs ys F G' w h h' hn hn').mono fun _ _ ⟨he, n, hw⟩ => ⟨by rw [he]; exact ret_bool (by rw [Bool.eq_iff_iff]; simp [eqL]), hw ▸ below_drewN (Below.refl _ _) n⟩
theorem ne_len {n m : Nat} (h : n = m) : ((n : Int) != (m : Int)) = false := by simp [h]
theorem allSame_yes {α : Type} {f : α → α → Bool} {xs ys : List α} {k : Nat} {b : Bool} (h : allSame f xs ys = allSame f (xs.drop k) (ys.drop k)) (hx : k < xs.length) (hy : k < ys.length) (he : f xs[k] ys[k] = b) :
    allSame f xs ys = (b && allSame f (xs.drop (k + 1)) (ys.drop (k + 1))) := by rw [h, allSame_drop hx hy, he]
theorem allSame_end {α : Type} {f : α → α → Bool} {xs ys : List α} (h : allSame f xs ys = allSame f (xs.drop xs.length) (ys.drop xs.length)) (hl : xs.length = ys.length) : allSame f xs ys = true := by
  rw [h, List.drop_length, hl, List.drop_length]; rfl

set_option maxHeartbeats 1000000 in
theorem eqIntSS_any (A B : Option Addr) (c d : Nat) (xs ys : List (List Int)) (F G' : Nat → Prop) (w : World) (h : Lay.int.slice.Sl w F A xs) (h' : Lay.int.slice.Sl w G' B ys) (hF : ∀ b, F b → b < w.heap.size) (hG : ∀ b, G' b → b < w.heap.size) (hn : xs.length ≤ 1048576) (hn' : ys.length ≤ 1048576) (ho : ∀ l ∈ xs, l.length ≤ 1048576) (ho' : ∀ l ∈ ys, l.length ≤ 1048576) :
    Calls Try.prog 43 #[.slice A xs.length c, .slice B ys.length d] w fun e w' => e = .returned (.bool (allSame eqL xs ys)) ∧ Below w.heap.size w w' := by
  by_cases hl : xs.length = ys.length
  · have hne := ne_len hl
    have HL := Lib.hid hl
    clear hl
    go_enter Try.func43, Try.ntmps43
    go_wp2
    clear hne
    go_loopw [5] (fun i wr => ∃ k : Nat, k ≤ xs.length ∧ i = .int .i64 k ∧ Below w.heap.size w wr ∧ allSame eqL xs ys = allSame eqL (xs.drop k) (ys.drop k)) (fun i _ => xs.length - (intOf i).toNat)
    case atStart => exact ⟨0, Nat.zero_le _, rfl, Below.refl _ _, by simp⟩
    case round =>
      obtain ⟨k, hk, rfl, hb, ht⟩ := hrel
      have HT := Lib.hid ht
      clear ht
      by_cases hlt : k < xs.length
      · have hlt' : k < ys.length := by have := HL.out; omega
        have hFr : ∀ b, F b → b < wr.heap.size := fun b hb' => Nat.lt_of_lt_of_le (hF b hb') hb.size
        have hGr : ∀ b, G' b → b < wr.heap.size := fun b hb' => Nat.lt_of_lt_of_le (hG b hb') hb.size
        obtain ⟨ad, A1, p1, rfl, hf, c1, hl1, s1⟩ := (h.below hb hF).at_slice hlt
        obtain ⟨ad', A1', p1', rfl, hf', c1', hl1', s1'⟩ := (h'.below hb hG).at_slice hlt'
        have d1 := Later.cell c1
        have d1' := Later.cell c1'
        have hk0 : (0 : Int) ≤ k := by omega
        have hk1 : (k : Int) < xs.length := by omega
        have hk2 : (k : Int) < ys.length := by omega
        have HX := Lib.hid (allSame_yes (b := eqL xs[k] ys[k]) HT.out hlt hlt' rfl)
        generalize hxy : eqL xs[k] ys[k] = q at *
        have HQ := Lib.hid hxy
        clear hxy h h'
        go_wp2
        refine wp_region_later (by kernel_rfl) (by kernel_rfl) ?_
        repeat (go_big_quiet_step ((go_at_call 15; exact later_of_below (eqIntS_later A1 A1' p1 p1' xs[k] ys[k] F G' _ (s1.below (Later.le _) hFr) (s1'.below (Later.le _) hGr) (ho _ (List.getElem_mem _)) (ho' _ (List.getElem_mem _))))))
        refine wpQuiet_nil ?_
        rintro _ ⟨x, rfl⟩
        rw [HQ.out]
        cases q
        · go_wp2
          go_ret
          exact ⟨ret_bool (by rw [HX.out]; rfl), bthen hb x.le⟩
        · go_wp2
          go_roundw
          case rel => exact ⟨k + 1, by omega, by go_num, bthen hb x.le, by rw [HX.out]; simp⟩
          case measure => simp [intOf]; omega
      · have hke : k = xs.length := by omega
        subst hke
        have HE := Lib.hid (allSame_end HT.out HL.out)
        go_wp2
        go_ret
        exact ⟨ret_bool (by rw [HE.out]), hb⟩
  · have hne : (((xs.length : Int) != (ys.length : Int))) = true := by simp; omega
    have HE := Lib.hid (allSame_len (f := eqL) hl)
    go_enter Try.func43, Try.ntmps43
    go_wp2
    go_ret
    exact ⟨ret_bool (by rw [HE.out]), Below.refl _ _⟩

def eqC (x y : C) : Bool := x.many == y.many && allSame eqL x.list y.list
theorem eqC_self (x : C) : eqC x x = true := by simp [eqC, allSame_self eqL_self]
set_option maxHeartbeats 1000000 in
theorem eqCnf_any (x y : C) (A B : Option Addr) (c d : Nat) (F G' : Nat → Prop) (w : World) (h : Lay.int.slice.Sl w F A x.list) (h' : Lay.int.slice.Sl w G' B y.list) (hF : ∀ b, F b → b < w.heap.size) (hG : ∀ b, G' b → b < w.heap.size) (hn : x.list.length ≤ 1048576) (hn' : y.list.length ≤ 1048576)
    (ho : ∀ l ∈ x.list, l.length ≤ 1048576) (ho' : ∀ l ∈ y.list, l.length ≤ 1048576) :
    Calls Try.prog 14 #[.agg #[.int .i64 x.many, .slice A x.list.length c], .agg #[.int .i64 y.many, .slice B y.list.length d]] w fun e w' => e = .returned (.bool (eqC x y)) ∧ Below w.heap.size w w' := by
  have hw2 : Below w.heap.size w ((w.alloc (.cells #[.int .i64 x.many, .slice A x.list.length c] 28)).alloc (.cells #[.int .i64 y.many, .slice B y.list.length d] 28)) :=
    ((Below.refl _ _).alloc (Nat.le_refl _) _).alloc (by simp) _
  have H := h.below hw2 hF
  have H' := h'.below hw2 hG
  have HS := Lib.hid (show eqC x y = (x.many == y.many && allSame eqL x.list y.list) from rfl)
  go_enter Try.func14, Try.ntmps14
  go_wp2_with (go_at_call 43; refine (eqIntSS_any A B c d x.list y.list F G' _ H H' (fun b hb => by have := hF b hb; simp; omega) (fun b hb => by have := hG b hb; simp; omega) hn hn' ho ho').mono ?_; rintro e w' ⟨rfl, hb⟩)
  all_goals
    go_ret
    refine ⟨ret_bool (by rw [HS.out]; simp_all), ?_⟩
    first
      | exact hw2
      | exact bthen hw2 hb
end Go.Proofs.Ytndolbplkjhooaa
