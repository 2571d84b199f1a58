/- Contracts of the laws' copies: toDeclS, toTermS, toLayerS. -/
import Derived.Test.YtohchplomjenfaaTSz
import Derived.Test.YtohchplomjenfaaInts
namespace Go.Proofs.Ytohchplomjenfaa
open Go Go.RowKit

/-- The block is the call's own, and may be written. -/
def Own (lo : Nat) (w : World) (b : Nat) : Prop := lo ≤ b ∧ b < w.heap.size ∧ ∀ o, w.frozen? ⟨b, o, none⟩ = false
theorem Own.up {lo : Nat} {w w' : World} {b : Nat} (h : Own lo w b) (hb : Below w.heap.size w w') : Own lo w' b :=
  ⟨h.1, Nat.lt_of_lt_of_le h.2.1 hb.size, fun o => ((bcell hb).2 b o h.2.1).trans (h.2.2 o)⟩
theorem Own.set {lo : Nat} {w : World} {b : Nat} (h : Own lo w b) (p : Addr) (u : Value) : Own lo (w.setCell p u) b :=
  ⟨h.1, by simpa [World.setCell] using h.2.1, fun o => by rw [World.frozen?_setCell]; exact h.2.2 o⟩
theorem Own.mono {lo lo' : Nat} {w : World} {b : Nat} (h : Own lo w b) (hl : lo' ≤ lo) : Own lo' w b := ⟨Nat.le_trans hl h.1, h.2.1, h.2.2⟩
theorem Lay.Sl.own_up {α : Type} {L : Lay α} {w w' : World} {lo : Nat} {A : Option Addr} {xs : List α} (h : L.Sl w (Own lo w) A xs) (hb : Below w.heap.size w w') : L.Sl w' (Own lo w') A xs :=
  (h.below hb (fun _ h => h.2.1)).mono fun _ h => h.up hb
theorem Lay.Sl.own_set {α : Type} {L : Lay α} {w : World} {lo : Nat} {A : Option Addr} {xs : List α} (h : L.Sl w (Own lo w) A xs) (p : Addr) (u : Value) (hp : p.block < lo) : L.Sl (w.setCell p u) (Own lo (w.setCell p u)) A xs :=
  (h.far p u fun b hb e => by have := hb.1; omega).mono fun _ h => h.set p u
theorem Lay.Sl.own_mono {α : Type} {L : Lay α} {w : World} {lo lo' : Nat} {A : Option Addr} {xs : List α} (h : L.Sl w (Own lo w) A xs) (hl : lo' ≤ lo) : L.Sl w (Own lo' w) A xs := h.mono fun _ h => h.mono hl
theorem Own.ofRow {w : World} {base lo g n c : Nat} {e : TypeId} {size : Nat} {cs : List Value} (h : w.ownsRow base e size (.slice (some ⟨g, 0, none⟩) n c) n cs) (hl : lo ≤ g) : Own lo w g :=
  ⟨hl, (h.lt g rfl).2, fun o => h.frozenAt o⟩

/-- What a function returns that makes a slice of its own, which may be written. -/
def RetO {α : Type} (L : Lay α) (w : World) (xs : List α) (e : Ending) (w' : World) : Prop :=
  ∃ A c, e = .returned (.slice A xs.length c) ∧ xs.length ≤ c ∧ L.Sl w' (Own w.heap.size w') A xs ∧ Below w.heap.size w w'

def setAt : List Value → Nat → List Value → List Value
  | cs, _, [] => cs
  | cs, p, v :: vs => setAt (cs.set p v) (p + 1) vs
theorem setAt_out : ∀ (vs cs : List Value) (p i : Nat), i < p ∨ p + vs.length ≤ i → (setAt cs p vs)[i]? = cs[i]?
  | [], _, _, _, _ => rfl
  | v :: vs, cs, p, i, h => by
    simp only [setAt]
    simp only [List.length_cons] at h
    rw [setAt_out vs _ _ i (by omega), List.getElem?_set_ne (by omega)]
theorem setAt_in : ∀ (vs cs : List Value) (p j : Nat), j < vs.length → p + vs.length ≤ cs.length → (setAt cs p vs)[p + j]? = vs[j]?
  | v :: vs, cs, p, 0, _, h => by
    simp only [List.length_cons] at h
    simp only [setAt]
    rw [setAt_out vs _ _ _ (by omega), Nat.add_zero, List.getElem?_set_self (by omega)]
    rfl
  | v :: vs, cs, p, j + 1, hj, h => by
    simp only [List.length_cons] at h hj
    simp only [setAt]
    have := setAt_in vs (cs.set p v) (p + 1) j (by omega) (by simp; omega)
    rw [show p + (j + 1) = p + 1 + j by omega, this]
    rfl
/-- The first k elements of the row lie laid, behind lo. -/
def Laid {α : Type} (L : Lay α) (lo : Nat) (w : World) (k : Nat) (xs : List α) (cs : List Value) : Prop :=
  ∀ i x, i < k → xs[i]? = some x → ∃ vs, L.R w (Own lo w) x vs ∧ ∀ j u, vs[j]? = some u → cs[i * L.size + j]? = some u
theorem Laid.up {α : Type} {L : Lay α} {lo : Nat} {w w' : World} {k : Nat} {xs : List α} {cs : List Value} (h : Laid L lo w k xs cs) (hb : Below w.heap.size w w') : Laid L lo w' k xs cs := fun i x hi hx => by
  obtain ⟨vs, hr, hu⟩ := h i x hi hx
  exact ⟨vs, L.mono (fun _ h => h.up hb) (L.keep (fun b hB => hb.block b hB.2.1) hr), hu⟩
theorem Laid.set {α : Type} {L : Lay α} {lo : Nat} {w : World} {k : Nat} {xs : List α} {cs : List Value} (h : Laid L lo w k xs cs) (p : Addr) (u : Value) (hp : p.block < lo) : Laid L lo (w.setCell p u) k xs cs := fun i x hi hx => by
  obtain ⟨vs, hr, hu⟩ := h i x hi hx
  exact ⟨vs, L.mono (fun _ h => h.set p u) (L.keep (fun b hB => Below.heap_setCell w p u b (fun e => by have := hB.1; omega)) hr), hu⟩
/-- One element more. -/
theorem Laid.next {α : Type} {L : Lay α} {lo : Nat} {w : World} {k : Nat} {xs : List α} {cs vs : List Value} {x : α} (h : Laid L lo w k xs cs) (hx : xs[k]? = some x) (hr : L.R w (Own lo w) x vs) (hl : k * L.size + L.size ≤ cs.length) :
    Laid L lo w (k + 1) xs (setAt cs (k * L.size) vs) := fun i y hi hy => by
  have hvl := L.len hr
  rcases Nat.lt_or_ge i k with h' | h'
  · obtain ⟨us, hr', hu⟩ := h i y h' hy
    have hul := L.len hr'
    refine ⟨us, hr', fun j u hj => ?_⟩
    have hjl : j < L.size := by
      rcases Nat.lt_or_ge j us.length with h | h
      · omega
      · rw [List.getElem?_eq_none h] at hj; cases hj
    have hm : (i + 1) * L.size ≤ k * L.size := Nat.mul_le_mul_right _ h'
    rw [Nat.add_mul, Nat.one_mul] at hm
    rw [setAt_out _ _ _ _ (by omega)]
    exact hu j u hj
  · have : i = k := by omega
    subst this
    rw [hx] at hy; cases hy
    refine ⟨vs, hr, fun j u hj => ?_⟩
    have hjl : j < vs.length := by
      rcases Nat.lt_or_ge j vs.length with h | h
      · exact h
      · rw [List.getElem?_eq_none h] at hj; cases hj
    rw [setAt_in _ _ _ _ hjl (by omega)]
    exact hj
theorem Laid.done {α : Type} {L : Lay α} {w w' : World} {xs : List α} {cs : List Value} {e : TypeId} {n : Nat} (hn : n = xs.length) (h : Laid L (w.heap.size + 1) w' n xs cs)
    (ho : w'.ownsRow w.heap.size e L.size (.slice (some ⟨w.heap.size, 0, none⟩) n n) n cs) (hb : Below w.heap.size w w') : RetO L w xs (.returned (.slice (some ⟨w.heap.size, 0, none⟩) n n)) w' := by
  subst hn
  refine ⟨_, _, rfl, Nat.le_refl _, fun _ => ⟨_, rfl, Own.ofRow ho (Nat.le_refl _), fun k x hx => ?_⟩, hb⟩
  have hk : k < xs.length := by
    rcases Nat.lt_or_ge k xs.length with h | h
    · exact h
    · rw [List.getElem?_eq_none h] at hx; cases hx
  obtain ⟨vs, hr, hu⟩ := h k x hk hx
  exact ⟨vs, L.mono (fun _ h => h.mono (Nat.le_succ _)) hr, fun j u hj => ho.cells (g := w.heap.size) rfl _ _ (hu j u hj)⟩

theorem below_set9 {B : Nat} {w X : World} {p : Addr} (h : Below B w X) (hp : B ≤ p.block) (u : Value) : Below B w (X.setCell p u) :=
  ⟨h.os, h.tape, h.output, by simpa [World.setCell] using h.size, fun b hb => (Below.heap_setCell X p u b (by omega)).trans (h.block b hb)⟩
theorem toDecl_any (d : D) (w : World) :
    Calls Try.prog 89 #[.agg #[.string d.name, .int .i64 d.wide]] w fun e w' => e = .returned (.agg #[.string d.name, .int .i64 d.wide]) ∧ Below w.heap.size w w' := by
  go_enter Try.func89, Try.ntmps89
  go_wp2
  refine bodyPost_ret (v := .agg #[.string d.name, .int .i64 d.wide]) (by simp [results, Try.results89, go_sem]) rfl ⟨rfl, ?_⟩
  exact (((Below.refl _ _).alloc (Nat.le_refl _) _).alloc (by simp) _).alloc (by simp; omega) _

theorem toDeclS_info : (Try.prog.info? 95).map (fun i => (i.zero, i.size, i.bytes)) = some (some ((.agg #[.string ⟨#[]⟩, .int .i64 0])), 2, 24) := by kernel_rfl
set_option maxHeartbeats 1000000 in
theorem toDeclS_any (A : Option Addr) (c : Nat) (xs : List D) (F : Nat → Prop) (w : World) (h : Lay.decl.Sl w F A xs) (hF : ∀ b, F b → b < w.heap.size) (hn : xs.length ≤ 1048576) :
    Calls Try.prog 70 #[.slice A xs.length c] w (RetO Lay.decl w xs) := by
  obtain ⟨i0, hi0, hz0, hz1, hz2⟩ := info_parts toDeclS_info
  go_enter Try.func70, Try.ntmps70
  go_wp2_with (at_make; refine wpList_make_full w rfl _ _ 61 rfl w.heap.size 95 i0 _ 2 Try.underlying61 hi0 hz0 hz1 .i64 .i64 _ _ xs.length rfl rfl rfl rfl (by rw [hz2]; omega) (by unfold maxLen; omega) (Nat.le_refl _) ?_; intro w1 hown hg)
  have H1 := Lib.hid hg
  clear hg hi0 hz0 hz1 hz2
  have hb1 : Below w.heap.size w w1 := (Below.refl _ _).grown H1.out (Nat.le_refl _) (by simp)
  go_loopw [4] (fun i wr => ∃ (k : Nat) (cs : List Value), k ≤ xs.length ∧ i = .int .i64 k ∧ Below w.heap.size w wr ∧ wr.ownsRow w.heap.size 95 2 (.slice (some ⟨w.heap.size, 0, none⟩) xs.length xs.length) xs.length cs ∧ Laid Lay.decl (w.heap.size + 1) wr k xs cs)
    (fun i _ => xs.length - (intOf i).toNat)
  case atStart => exact ⟨0, _, Nat.zero_le _, rfl, hb1, hown, fun i x hi => absurd hi (by omega)⟩
  case round =>
    obtain ⟨k, cs, hk, rfl, hb, ho, hlaid⟩ := hrel
    by_cases hlt : k < xs.length
    · have hFr : ∀ b, F b → b < wr.heap.size := fun b hb' => Nat.lt_of_lt_of_le (hF b hb') hb.size
      obtain ⟨ad, rfl, hf, c1, c2⟩ := (h.below hb hF).at_decl hlt
      have hk1 : (k : Int) < xs.length := by omega
      have HX := Lib.hid (List.getElem?_eq_getElem hlt)
      have hlenr : w.heap.size + 1 ≤ wr.heap.size := by have := (ho.lt w.heap.size rfl).2; omega
      go_wp2_with fail
      refine (toDecl_any xs[k] _).mono ?_
      rintro e w2 ⟨rfl, hb2⟩
      have ho2 := own_below ho hb2 (Nat.le_refl _)
      have hlaid2 := hlaid.up hb2
      have hst1 := (ho2.stored (k * 2) (.string xs[k].name)).1
      have hst2 := (hst1.stored (k * 2 + 1) (.int .i64 xs[k].wide)).1
      have hl0 : cs.length = xs.length * 2 := ho.1
      have hl9 : k * 2 + 2 ≤ cs.length := by omega
      have e1 : w2.cell? ⟨w.heap.size, k * 2, none⟩ = cs[k * 2]? := ho2.cellAt _ (by omega)
      have e2 : w2.cell? ⟨w.heap.size, k * 2 + 1, none⟩ = cs[k * 2 + 1]? := ho2.cellAt _ (by omega)
      rw [List.getElem?_eq_getElem (by omega)] at e1 e2
      have f1 : w2.frozen? ⟨w.heap.size, k * 2, none⟩ = false := ho2.frozenAt _
      have f2 : w2.frozen? ⟨w.heap.size, k * 2 + 1, none⟩ = false := ho2.frozenAt _
      have HR : Laid Lay.decl (w.heap.size + 1) w2 (k + 1) xs (setAt cs (k * 2) [.string xs[k].name, .int .i64 xs[k].wide]) := hlaid2.next (x := xs[k]) HX.out (rfl) hl9
      clear hlaid hlaid2
      go_wp2
      go_roundw
      case rel => exact ⟨k + 1, _, by omega, by go_num, (((bthen hb hb2).setCell (Nat.le_refl _) _).setCell (Nat.le_refl _) _), hst2, ((HR.set _ _ (by show w.heap.size < w.heap.size + 1; omega)).set _ _ (by show w.heap.size < w.heap.size + 1; omega))⟩
      case measure => simp [intOf]; omega
    · have hke : k = xs.length := by omega
      subst hke
      go_wp2
      go_ret
      exact Laid.done rfl hlaid ho hb

/-- What a term's copy is. -/
def RetT (t : T) (w : World) (e : Ending) (w' : World) : Prop :=
  ∃ A c, e = .returned (.agg #[.int .i64 t.op, .int .i64 t.a, .int .i64 t.b, .string t.name, .slice A t.kids.length c]) ∧ t.kids.length ≤ c ∧ Lay.term.Sl w' (Own w.heap.size w') A t.kids ∧ Below w.heap.size w w'
def ToT (t : T) : Prop := ∀ (A : Option Addr) (c : Nat) (F : Nat → Prop) (w : World), Lay.term.Sl w F A t.kids → (∀ b, F b → b < w.heap.size) →
  Calls Try.prog 90 #[.agg #[.int .i64 t.op, .int .i64 t.a, .int .i64 t.b, .string t.name, .slice A t.kids.length c]] w (RetT t w)

theorem toTermS_info : (Try.prog.info? 97).map (fun i => (i.zero, i.size, i.bytes)) = some (some ((.agg #[.int .i64 0, .int .i64 0, .int .i64 0, .string ⟨#[]⟩, .slice none 0 0])), 5, 64) := by kernel_rfl
set_option maxHeartbeats 1000000 in
theorem toTermS_any (A : Option Addr) (c : Nat) (xs : List T) (F : Nat → Prop) (w : World) (h : Lay.term.Sl w F A xs) (hF : ∀ b, F b → b < w.heap.size) (hn : xs.length ≤ 1048576) (ho' : ∀ t ∈ xs, ToT t) :
    Calls Try.prog 71 #[.slice A xs.length c] w (RetO Lay.term w xs) := by
  obtain ⟨i0, hi0, hz0, hz1, hz2⟩ := info_parts toTermS_info
  go_enter Try.func71, Try.ntmps71
  go_wp2_with (at_make; refine wpList_make_full w rfl _ _ 62 rfl w.heap.size 97 i0 _ 5 Try.underlying62 hi0 hz0 hz1 .i64 .i64 _ _ xs.length rfl rfl rfl rfl (by rw [hz2]; omega) (by unfold maxLen; omega) (Nat.le_refl _) ?_; intro w1 hown hg)
  have H1 := Lib.hid hg
  clear hg hi0 hz0 hz1 hz2
  have hb1 : Below w.heap.size w w1 := (Below.refl _ _).grown H1.out (Nat.le_refl _) (by simp)
  go_loopw [4] (fun i wr => ∃ (k : Nat) (cs : List Value), k ≤ xs.length ∧ i = .int .i64 k ∧ Below w.heap.size w wr ∧ wr.ownsRow w.heap.size 97 5 (.slice (some ⟨w.heap.size, 0, none⟩) xs.length xs.length) xs.length cs ∧ Laid Lay.term (w.heap.size + 1) wr k xs cs)
    (fun i _ => xs.length - (intOf i).toNat)
  case atStart => exact ⟨0, _, Nat.zero_le _, rfl, hb1, hown, fun i x hi => absurd hi (by omega)⟩
  case round =>
    obtain ⟨k, cs, hk, rfl, hb, ho, hlaid⟩ := hrel
    by_cases hlt : k < xs.length
    · have hFr : ∀ b, F b → b < wr.heap.size := fun b hb' => Nat.lt_of_lt_of_le (hF b hb') hb.size
      obtain ⟨ad, A', c', rfl, hf, c1, c2, c3, c4, c5, hcc, hkk⟩ := (h.below hb hF).at_term hlt
      have hk1 : (k : Int) < xs.length := by omega
      have HX := Lib.hid (List.getElem?_eq_getElem hlt)
      have hlenr : w.heap.size + 1 ≤ wr.heap.size := by have := (ho.lt w.heap.size rfl).2; omega
      go_wp2_with fail
      refine (ho' xs[k] (List.getElem_mem _) A' c' F _ hkk hFr).mono ?_
      rintro e w2 ⟨A2, cp2, rfl, hcp2, hs2, hb2⟩
      have ho2 := own_below ho hb2 (Nat.le_refl _)
      have hlaid2 := hlaid.up hb2
      have hst1 := (ho2.stored (k * 5) (.int .i64 xs[k].op)).1
      have hst2 := (hst1.stored (k * 5 + 1) (.int .i64 xs[k].a)).1
      have hst3 := (hst2.stored (k * 5 + 2) (.int .i64 xs[k].b)).1
      have hst4 := (hst3.stored (k * 5 + 3) (.string xs[k].name)).1
      have hst5 := (hst4.stored (k * 5 + 4) (.slice A2 xs[k].kids.length cp2)).1
      have hl0 : cs.length = xs.length * 5 := ho.1
      have hl9 : k * 5 + 5 ≤ cs.length := by omega
      have e1 : w2.cell? ⟨w.heap.size, k * 5, none⟩ = cs[k * 5]? := ho2.cellAt _ (by omega)
      have e2 : w2.cell? ⟨w.heap.size, k * 5 + 1, none⟩ = cs[k * 5 + 1]? := ho2.cellAt _ (by omega)
      have e3 : w2.cell? ⟨w.heap.size, k * 5 + 2, none⟩ = cs[k * 5 + 2]? := ho2.cellAt _ (by omega)
      have e4 : w2.cell? ⟨w.heap.size, k * 5 + 3, none⟩ = cs[k * 5 + 3]? := ho2.cellAt _ (by omega)
      have e5 : w2.cell? ⟨w.heap.size, k * 5 + 4, none⟩ = cs[k * 5 + 4]? := ho2.cellAt _ (by omega)
      rw [List.getElem?_eq_getElem (by omega)] at e1 e2 e3 e4 e5
      have f1 : w2.frozen? ⟨w.heap.size, k * 5, none⟩ = false := ho2.frozenAt _
      have f2 : w2.frozen? ⟨w.heap.size, k * 5 + 1, none⟩ = false := ho2.frozenAt _
      have f3 : w2.frozen? ⟨w.heap.size, k * 5 + 2, none⟩ = false := ho2.frozenAt _
      have f4 : w2.frozen? ⟨w.heap.size, k * 5 + 3, none⟩ = false := ho2.frozenAt _
      have f5 : w2.frozen? ⟨w.heap.size, k * 5 + 4, none⟩ = false := ho2.frozenAt _
      have HR : Laid Lay.term (w.heap.size + 1) w2 (k + 1) xs (setAt cs (k * 5) [.int .i64 xs[k].op, .int .i64 xs[k].a, .int .i64 xs[k].b, .string xs[k].name, .slice A2 xs[k].kids.length cp2]) := hlaid2.next (x := xs[k]) HX.out (TermR.of hcp2 (hs2.own_mono hlenr)) hl9
      clear hlaid hlaid2
      go_wp2
      go_roundw
      case rel => exact ⟨k + 1, _, by omega, by go_num, ((((((bthen hb hb2).setCell (Nat.le_refl _) _).setCell (Nat.le_refl _) _).setCell (Nat.le_refl _) _).setCell (Nat.le_refl _) _).setCell (Nat.le_refl _) _), hst5, (((((HR.set _ _ (by show w.heap.size < w.heap.size + 1; omega)).set _ _ (by show w.heap.size < w.heap.size + 1; omega)).set _ _ (by show w.heap.size < w.heap.size + 1; omega)).set _ _ (by show w.heap.size < w.heap.size + 1; omega)).set _ _ (by show w.heap.size < w.heap.size + 1; omega))⟩
      case measure => simp [intOf]; omega
    · have hke : k = xs.length := by omega
      subst hke
      go_wp2
      go_ret
      exact Laid.done rfl hlaid ho hb

set_option maxHeartbeats 2000000 in
theorem toTerm_any (t : T) (ho : T.All okT2 t) : ToT t := by
  revert ho
  refine T.ind (p := fun t => T.All okT2 t → ToT t) (fun t ih ho => ?_) t
  obtain ⟨hkl, hnl⟩ := ho.here
  have ihk : ∀ k ∈ t.kids, ToT k := fun k hk => ih k hk (ho.kid k hk)
  clear ih ho
  intro A c F w h hF
  have hw3 : Below w.heap.size w (((w.alloc (.cells #[.int .i64 t.op, .int .i64 t.a, .int .i64 t.b, .string t.name, .slice A t.kids.length c] 124)).alloc (.cells #[.int .i64 0, .int .i64 0, .int .i64 0, .string ⟨#[]⟩, .slice none 0 0] 97)).alloc (.cells #[.int .i64 t.op, .int .i64 t.a, .int .i64 t.b, .string t.name, .slice none 0 0] 97)) :=
    (((Below.refl _ _).alloc (Nat.le_refl _) _).alloc (by simp) _).alloc (by simp; omega) _
  go_enter Try.func90, Try.ntmps90
  go_wp2_with fail
  refine (toTermS_any A c t.kids F _ (h.below hw3 hF) (fun b hb => by have := hF b hb; simp; omega) hkl ihk).mono ?_
  rintro e w2 ⟨A', c', rfl, hcl, hs, hb⟩
  obtain ⟨hcc, hff⟩ := bcell hb
  have hz : w.heap.size + 1 + 1 + 1 ≤ w2.heap.size := by have := hb.size; simp at this; omega
  have hz1 : w.heap.size + 1 < w2.heap.size := by omega
  have hz2 : w.heap.size + 1 + 1 < w2.heap.size := by omega
  have hbw := bthen hw3 hb
  have hs' : Lay.term.Sl w2 (Own (w.heap.size + 3) w2) A' t.kids := hs.own_mono (by simp)
  go_wp2
  refine bodyPost_ret (v := .agg #[.int .i64 t.op, .int .i64 t.a, .int .i64 t.b, .string t.name, .slice A' t.kids.length c']) (by simp [results, Try.results90, go_sem, hcc, hff, hz1, hz2]) rfl ⟨A', c', rfl, hcl, ?_, ?_⟩
  · exact Lay.Sl.own_mono (lo := w.heap.size + 3) ((((((hs'.own_set _ _ (by simp <;> omega)).own_set _ _ (by simp <;> omega)).own_set _ _ (by simp <;> omega)).own_set _ _ (by simp <;> omega)).own_set _ _ (by simp <;> omega)).own_set _ _ (by simp <;> omega)) (by omega)
  · exact (below_set9 (below_set9 (below_set9 (below_set9 (below_set9 (below_set9 hbw (by simp <;> omega) _) (by simp <;> omega) _) (by simp <;> omega) _) (by simp <;> omega) _) (by simp <;> omega) _) (by simp <;> omega) _)

def RetL (l : Ly) (w : World) (e : Ending) (w' : World) : Prop :=
  ∃ A c B d, e = .returned (.agg #[.slice A l.ds.length c, .slice B l.ts.length d]) ∧ l.ds.length ≤ c ∧ l.ts.length ≤ d ∧ Lay.decl.Sl w' (Own w.heap.size w') A l.ds ∧ Lay.term.Sl w' (Own w.heap.size w') B l.ts ∧ Below w.heap.size w w'
def okL2 (l : Ly) : Prop := l.ds.length ≤ 1048576 ∧ l.ts.length ≤ 1048576 ∧ ∀ t ∈ l.ts, T.All okT2 t
set_option maxHeartbeats 400000 in
theorem toLayer_any (l : Ly) (ho : okL2 l) (A B : Option Addr) (c d : Nat) (F : Nat → Prop) (w : World) (hA : Lay.decl.Sl w F A l.ds) (hB : Lay.term.Sl w F B l.ts) (hF : ∀ b, F b → b < w.heap.size) :
    Calls Try.prog 46 #[.agg #[.slice A l.ds.length c, .slice B l.ts.length d]] w (RetL l w) := by
  obtain ⟨o1, o2, o3⟩ := ho
  have hot : ∀ x ∈ l.ts, ToT x := fun x hx => toTerm_any x (o3 x hx)
  clear o3
  have hw3 : Below w.heap.size w (((w.alloc (.cells #[.slice A l.ds.length c, .slice B l.ts.length d] 72)).alloc (.cells #[.slice none 0 0, .slice none 0 0] 64)).alloc (.cells #[.slice none 0 0, .slice none 0 0] 64)) :=
    (((Below.refl _ _).alloc (Nat.le_refl _) _).alloc (by simp) _).alloc (by simp; omega) _
  go_enter Try.func46, Try.ntmps46
  go_wp2_with fail
  refine (toDeclS_any A c l.ds F _ (hA.below hw3 hF) (fun b hb => by have := hF b hb; simp; omega) o1).mono ?_
  rintro e w2 ⟨A', c', rfl, hcl, hs, hb⟩
  obtain ⟨hcc, hff⟩ := bcell hb
  have hz : w.heap.size + 1 + 1 + 1 ≤ w2.heap.size := by have := hb.size; simp at this; omega
  have hbw := bthen hw3 hb
  have k1 : w2.cell? ⟨w.heap.size, 1, none⟩ = some (.slice B l.ts.length d) := (hcc _ _ (by simp <;> omega)).trans (by simp [go_sem])
  have k2 : w2.cell? ⟨w.heap.size + 1 + 1, 0, none⟩ = some (.slice none 0 0) := (hcc _ _ (by simp)).trans (by simp [go_sem])
  have k3 : w2.cell? ⟨w.heap.size + 1 + 1, 1, none⟩ = some (.slice none 0 0) := (hcc _ _ (by simp)).trans (by simp [go_sem])
  have k4 : w2.cell? ⟨w.heap.size + 1, 0, none⟩ = some (.slice none 0 0) := (hcc _ _ (by simp <;> omega)).trans (by simp [go_sem])
  have k5 : w2.cell? ⟨w.heap.size + 1, 1, none⟩ = some (.slice none 0 0) := (hcc _ _ (by simp <;> omega)).trans (by simp [go_sem])
  have j2 : w2.frozen? ⟨w.heap.size + 1 + 1, 0, none⟩ = false := (hff _ _ (by simp)).trans (by simp [go_sem])
  have j3 : w2.frozen? ⟨w.heap.size + 1 + 1, 1, none⟩ = false := (hff _ _ (by simp)).trans (by simp [go_sem])
  have j4 : w2.frozen? ⟨w.heap.size + 1, 0, none⟩ = false := (hff _ _ (by simp <;> omega)).trans (by simp [go_sem])
  have j5 : w2.frozen? ⟨w.heap.size + 1, 1, none⟩ = false := (hff _ _ (by simp <;> omega)).trans (by simp [go_sem])
  have hs' : Lay.decl.Sl w2 (Own (w.heap.size + 3) w2) A' l.ds := hs.own_mono (by simp)
  clear hcc hff hs
  go_wp2_with fail
  have hx : Below w.heap.size w (w2.setCell ⟨w.heap.size + 1 + 1, 0, none⟩ (.slice A' l.ds.length c')) := below_set9 hbw (by show w.heap.size ≤ w.heap.size + 1 + 1; omega) _
  have hs2 := hs'.own_set ⟨w.heap.size + 1 + 1, 0, none⟩ (.slice A' l.ds.length c') (by show w.heap.size + 1 + 1 < w.heap.size + 3; omega)
  refine (toTermS_any B d l.ts F _ (hB.below hx hF) (fun b hb => Nat.lt_of_lt_of_le (hF b hb) hx.size) o2 hot).mono ?_
  rintro e w4 ⟨A4, c4, rfl, hcl4, hs4, hb4⟩
  have hb4' := bthen hx hb4
  have hs3 := hs2.own_up hb4
  have hsz : (w2.setCell ⟨w.heap.size + 1 + 1, 0, none⟩ (.slice A' l.ds.length c')).heap.size = w2.heap.size := by simp [World.setCell]
  have hs4' : Lay.term.Sl w4 (Own (w.heap.size + 3) w4) A4 l.ts := hs4.own_mono (by rw [hsz]; omega)
  obtain ⟨hcc, hff⟩ := bcell hb4
  have m2 : w4.cell? ⟨w.heap.size + 1 + 1, 0, none⟩ = some (.slice A' l.ds.length c') := (hcc _ _ (by rw [hsz]; omega)).trans (by simp [go_sem, k2])
  have m3 : w4.cell? ⟨w.heap.size + 1 + 1, 1, none⟩ = some (.slice none 0 0) := (hcc _ _ (by rw [hsz]; omega)).trans (by simp [go_sem, k3])
  have m4 : w4.cell? ⟨w.heap.size + 1, 0, none⟩ = some (.slice none 0 0) := (hcc _ _ (by rw [hsz]; omega)).trans (by simp [go_sem, k4])
  have m5 : w4.cell? ⟨w.heap.size + 1, 1, none⟩ = some (.slice none 0 0) := (hcc _ _ (by rw [hsz]; omega)).trans (by simp [go_sem, k5])
  have n2 : w4.frozen? ⟨w.heap.size + 1 + 1, 0, none⟩ = false := (hff _ _ (by rw [hsz]; omega)).trans (by simp [j2])
  have n3 : w4.frozen? ⟨w.heap.size + 1 + 1, 1, none⟩ = false := (hff _ _ (by rw [hsz]; omega)).trans (by simp [j3])
  have n4 : w4.frozen? ⟨w.heap.size + 1, 0, none⟩ = false := (hff _ _ (by rw [hsz]; omega)).trans (by simp [j4])
  have n5 : w4.frozen? ⟨w.heap.size + 1, 1, none⟩ = false := (hff _ _ (by rw [hsz]; omega)).trans (by simp [j5])
  clear hcc hff k1 k2 k3 k4 k5 j2 j3 j4 j5
  go_wp2
  refine bodyPost_ret (v := .agg #[.slice A' l.ds.length c', .slice A4 l.ts.length c4]) (by simp [results, Try.results46, go_sem, m2, m3, m4, m5, n2, n3, n4, n5]) rfl ⟨A', c', A4, c4, rfl, hcl, hcl4, ?_, ?_, ?_⟩
  · exact Lay.Sl.own_mono (lo := w.heap.size + 3) (((hs3.own_set _ _ (by simp <;> omega)).own_set _ _ (by simp <;> omega)).own_set _ _ (by simp <;> omega)) (by omega)
  · exact Lay.Sl.own_mono (lo := w.heap.size + 3) (((hs4'.own_set _ _ (by simp <;> omega)).own_set _ _ (by simp <;> omega)).own_set _ _ (by simp <;> omega)) (by omega)
  · exact (below_set9 (below_set9 (below_set9 hb4' (by simp <;> omega) _) (by simp <;> omega) _) (by simp <;> omega) _)

theorem toLayerS_info : (Try.prog.info? 64).map (fun i => (i.zero, i.size, i.bytes)) = some (some ((.agg #[.slice none 0 0, .slice none 0 0])), 2, 48) := by kernel_rfl
set_option maxHeartbeats 1000000 in
theorem toLayerS_any (A : Option Addr) (c : Nat) (xs : List Ly) (F : Nat → Prop) (w : World) (h : Lay.layer.Sl w F A xs) (hF : ∀ b, F b → b < w.heap.size) (hn : xs.length ≤ 1048576) (ho' : ∀ l ∈ xs, okL2 l) :
    Calls Try.prog 23 #[.slice A xs.length c] w (RetO Lay.layer w xs) := by
  obtain ⟨i0, hi0, hz0, hz1, hz2⟩ := info_parts toLayerS_info
  go_enter Try.func23, Try.ntmps23
  go_wp2_with (at_make; refine wpList_make_full w rfl _ _ 34 rfl w.heap.size 64 i0 _ 2 Try.underlying34 hi0 hz0 hz1 .i64 .i64 _ _ xs.length rfl rfl rfl rfl (by rw [hz2]; omega) (by unfold maxLen; omega) (Nat.le_refl _) ?_; intro w1 hown hg)
  have H1 := Lib.hid hg
  clear hg hi0 hz0 hz1 hz2
  have hb1 : Below w.heap.size w w1 := (Below.refl _ _).grown H1.out (Nat.le_refl _) (by simp)
  go_loopw [4] (fun i wr => ∃ (k : Nat) (cs : List Value), k ≤ xs.length ∧ i = .int .i64 k ∧ Below w.heap.size w wr ∧ wr.ownsRow w.heap.size 64 2 (.slice (some ⟨w.heap.size, 0, none⟩) xs.length xs.length) xs.length cs ∧ Laid Lay.layer (w.heap.size + 1) wr k xs cs)
    (fun i _ => xs.length - (intOf i).toNat)
  case atStart => exact ⟨0, _, Nat.zero_le _, rfl, hb1, hown, fun i x hi => absurd hi (by omega)⟩
  case round =>
    obtain ⟨k, cs, hk, rfl, hb, ho, hlaid⟩ := hrel
    by_cases hlt : k < xs.length
    · have hFr : ∀ b, F b → b < wr.heap.size := fun b hb' => Nat.lt_of_lt_of_le (hF b hb') hb.size
      obtain ⟨ad, A1, cp1, A2, cp2, rfl, hf, c1, c2, hl1, hl2, s1, s2⟩ := (h.below hb hF).at_layer hlt
      have hk1 : (k : Int) < xs.length := by omega
      have HX := Lib.hid (List.getElem?_eq_getElem hlt)
      have hlenr : w.heap.size + 1 ≤ wr.heap.size := by have := (ho.lt w.heap.size rfl).2; omega
      go_wp2_with fail
      refine (toLayer_any xs[k] (ho' xs[k] (List.getElem_mem _)) A1 A2 cp1 cp2 F _ s1 s2 hFr).mono ?_
      rintro e w2 ⟨A3, cp3, A4, cp4, rfl, hcp3, hcp4, hs3, hs4, hb2⟩
      have ho2 := own_below ho hb2 (Nat.le_refl _)
      have hlaid2 := hlaid.up hb2
      have hst1 := (ho2.stored (k * 2) (.slice A3 xs[k].ds.length cp3)).1
      have hst2 := (hst1.stored (k * 2 + 1) (.slice A4 xs[k].ts.length cp4)).1
      have hl0 : cs.length = xs.length * 2 := ho.1
      have hl9 : k * 2 + 2 ≤ cs.length := by omega
      have e1 : w2.cell? ⟨w.heap.size, k * 2, none⟩ = cs[k * 2]? := ho2.cellAt _ (by omega)
      have e2 : w2.cell? ⟨w.heap.size, k * 2 + 1, none⟩ = cs[k * 2 + 1]? := ho2.cellAt _ (by omega)
      rw [List.getElem?_eq_getElem (by omega)] at e1 e2
      have f1 : w2.frozen? ⟨w.heap.size, k * 2, none⟩ = false := ho2.frozenAt _
      have f2 : w2.frozen? ⟨w.heap.size, k * 2 + 1, none⟩ = false := ho2.frozenAt _
      have HR : Laid Lay.layer (w.heap.size + 1) w2 (k + 1) xs (setAt cs (k * 2) [.slice A3 xs[k].ds.length cp3, .slice A4 xs[k].ts.length cp4]) := hlaid2.next (x := xs[k]) HX.out (⟨A3, cp3, A4, cp4, rfl, hcp3, hcp4, hs3.own_mono hlenr, hs4.own_mono hlenr⟩) hl9
      clear hlaid hlaid2
      go_wp2
      go_roundw
      case rel => exact ⟨k + 1, _, by omega, by go_num, (((bthen hb hb2).setCell (Nat.le_refl _) _).setCell (Nat.le_refl _) _), hst2, ((HR.set _ _ (by show w.heap.size < w.heap.size + 1; omega)).set _ _ (by show w.heap.size < w.heap.size + 1; omega))⟩
      case measure => simp [intOf]; omega
    · have hke : k = xs.length := by omega
      subst hke
      go_wp2
      go_ret
      exact Laid.done rfl hlaid ho hb

end Go.Proofs.Ytohchplomjenfaa
