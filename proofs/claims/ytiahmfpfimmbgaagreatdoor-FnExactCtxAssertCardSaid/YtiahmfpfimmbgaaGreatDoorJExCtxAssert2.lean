/- Contracts of the laws' copies: toDeclS, toTermS, toLayerS. The reference's terms: TermMany, l2Arity, l2Plain, l2One, l2Both, l2Sort, TermSort. -/
import Derived.Test.YtiahmfpfimmbgaaGreatDoorJExCtxAssert0
import Derived.Test.YtiahmfpfimmbgaaGreatDoorJExCtxAssert1
/-! Contracts of the laws' copies: toDeclS, toTermS, toLayerS. -/
namespace Go.Proofs.YtiahmfpfimmbgaaGreatDoor
open Go Go.RowKit

theorem below_set9 {B : Nat} {w X : World} {p : Addr} (h : Below B w X) (hp : B ≤ p.block) (u : Value) : Below B w (X.setCell p u) :=
  ⟨h.os, h.tape, h.output, by simpa [World.setCell] using h.size, fun b hb => (Below.heap_setCell X p u b (by omega)).trans (h.block b hb)⟩
theorem toDecl_any (d : D) (w : World) :
    Calls Tryz.prog 26 #[.agg #[.string d.name, .int .i64 d.wide]] w fun e w' => e = .returned (.agg #[.string d.name, .int .i64 d.wide]) ∧ Below w.heap.size w w' := by
  go_enter Tryz.func26, Tryz.ntmps26
  go_wp2
  refine bodyPost_ret (v := .agg #[.string d.name, .int .i64 d.wide]) (by simp [results, Tryz.results26, go_sem]) rfl ⟨rfl, ?_⟩
  exact (((Below.refl _ _).alloc (Nat.le_refl _) _).alloc (by simp) _).alloc (by simp; omega) _

theorem toDeclS_info : (Tryz.prog.info? 39).map (fun i => (i.zero, i.size, i.bytes)) = some (some ((.agg #[.string ⟨#[]⟩, .int .i64 0])), 2, 24) := by kernel_rfl
set_option maxHeartbeats 1000000 in
theorem toDeclS_any (A : Option Addr) (c : Nat) (xs : List D) (F : Nat → Prop) (w : World) (h : Lay.decl.Sl w F A xs) (hF : ∀ b, F b → b < w.heap.size) (hn : xs.length ≤ 1048576) :
    Calls Tryz.prog 92 #[.slice A xs.length c] w (RetO Lay.decl w xs) := by
  obtain ⟨i0, hi0, hz0, hz1, hz2⟩ := info_parts toDeclS_info
  go_enter Tryz.func92, Tryz.ntmps92
  go_wp2_with (at_make; refine wpList_make_full w rfl _ _ 55 rfl w.heap.size 39 i0 _ 2 Tryz.underlying55 hi0 hz0 hz1 .i64 .i64 _ _ xs.length rfl rfl rfl rfl (by rw [hz2]; omega) (by unfold maxLen; omega) (Nat.le_refl _) ?_; intro w1 hown hg)
  have H1 := Lib.hid hg
  clear hg hi0 hz0 hz1 hz2
  have hb1 : Below w.heap.size w w1 := (Below.refl _ _).grown H1.out (Nat.le_refl _) (by simp)
  go_loopw [4] (fun i wr => ∃ (k : Nat) (cs : List Value), k ≤ xs.length ∧ i = .int .i64 k ∧ Below w.heap.size w wr ∧ wr.ownsRow w.heap.size 39 2 (.slice (some ⟨w.heap.size, 0, none⟩) xs.length xs.length) xs.length cs ∧ Laid Lay.decl (w.heap.size + 1) wr k xs cs)
    (fun i _ => xs.length - (intOf i).toNat)
  case atStart => exact ⟨0, _, Nat.zero_le _, rfl, hb1, hown, fun i x hi => absurd hi (by omega)⟩
  case round =>
    obtain ⟨k, cs, hk, rfl, hb, ho, hlaid⟩ := hrel
    by_cases hlt : k < xs.length
    · have hFr : ∀ b, F b → b < wr.heap.size := fun b hb' => Nat.lt_of_lt_of_le (hF b hb') hb.size
      obtain ⟨ad, rfl, hf, c1, c2⟩ := (h.below hb hF).at_decl hlt
      have hk1 : (k : Int) < xs.length := by omega
      have HX := Lib.hid (List.getElem?_eq_getElem hlt)
      have hlenr : w.heap.size + 1 ≤ wr.heap.size := by have := (ho.lt w.heap.size rfl).2; omega
      go_wp2_with fail
      refine (toDecl_any xs[k] _).mono ?_
      rintro e w2 ⟨rfl, hb2⟩
      have ho2 := own_below ho hb2 (Nat.le_refl _)
      have hlaid2 := hlaid.up hb2
      have hst1 := (ho2.stored (k * 2) (.string xs[k].name)).1
      have hst2 := (hst1.stored (k * 2 + 1) (.int .i64 xs[k].wide)).1
      have hl0 : cs.length = xs.length * 2 := ho.1
      have hl9 : k * 2 + 2 ≤ cs.length := by omega
      have e1 : w2.cell? ⟨w.heap.size, k * 2, none⟩ = cs[k * 2]? := ho2.cellAt _ (by omega)
      have e2 : w2.cell? ⟨w.heap.size, k * 2 + 1, none⟩ = cs[k * 2 + 1]? := ho2.cellAt _ (by omega)
      rw [List.getElem?_eq_getElem (by omega)] at e1 e2
      have f1 : w2.frozen? ⟨w.heap.size, k * 2, none⟩ = false := ho2.frozenAt _
      have f2 : w2.frozen? ⟨w.heap.size, k * 2 + 1, none⟩ = false := ho2.frozenAt _
      have HR : Laid Lay.decl (w.heap.size + 1) w2 (k + 1) xs (setAt cs (k * 2) [.string xs[k].name, .int .i64 xs[k].wide]) := hlaid2.next (x := xs[k]) HX.out (rfl) hl9
      clear hlaid hlaid2
      go_wp2
      go_roundw
      case rel => exact ⟨k + 1, _, by omega, by go_num, (((bthen hb hb2).setCell (Nat.le_refl _) _).setCell (Nat.le_refl _) _), hst2, ((HR.set _ _ (by show w.heap.size < w.heap.size + 1; omega)).set _ _ (by show w.heap.size < w.heap.size + 1; omega))⟩
      case measure => simp [intOf]; omega
    · have hke : k = xs.length := by omega
      subst hke
      go_wp2
      go_ret
      exact Laid.done rfl hlaid ho hb

/-- What a term's copy is. -/
def RetT (t : T) (w : World) (e : Ending) (w' : World) : Prop :=
  ∃ A c, e = .returned (.agg #[.int .i64 t.op, .int .i64 t.a, .int .i64 t.b, .string t.name, .slice A t.kids.length c]) ∧ t.kids.length ≤ c ∧ Lay.term.Sl w' (Own w.heap.size w') A t.kids ∧ Below w.heap.size w w'
def ToT (t : T) : Prop := ∀ (A : Option Addr) (c : Nat) (F : Nat → Prop) (w : World), Lay.term.Sl w F A t.kids → (∀ b, F b → b < w.heap.size) →
  Calls Tryz.prog 32 #[.agg #[.int .i64 t.op, .int .i64 t.a, .int .i64 t.b, .string t.name, .slice A t.kids.length c]] w (RetT t w)

theorem toTermS_info : (Tryz.prog.info? 48).map (fun i => (i.zero, i.size, i.bytes)) = some (some ((.agg #[.int .i64 0, .int .i64 0, .int .i64 0, .string ⟨#[]⟩, .slice none 0 0])), 5, 64) := by kernel_rfl
set_option maxHeartbeats 1000000 in
theorem toTermS_any (A : Option Addr) (c : Nat) (xs : List T) (F : Nat → Prop) (w : World) (h : Lay.term.Sl w F A xs) (hF : ∀ b, F b → b < w.heap.size) (hn : xs.length ≤ 1048576) (ho' : ∀ t ∈ xs, ToT t) :
    Calls Tryz.prog 71 #[.slice A xs.length c] w (RetO Lay.term w xs) := by
  obtain ⟨i0, hi0, hz0, hz1, hz2⟩ := info_parts toTermS_info
  go_enter Tryz.func71, Tryz.ntmps71
  go_wp2_with (at_make; refine wpList_make_full w rfl _ _ 24 rfl w.heap.size 48 i0 _ 5 Tryz.underlying24 hi0 hz0 hz1 .i64 .i64 _ _ xs.length rfl rfl rfl rfl (by rw [hz2]; omega) (by unfold maxLen; omega) (Nat.le_refl _) ?_; intro w1 hown hg)
  have H1 := Lib.hid hg
  clear hg hi0 hz0 hz1 hz2
  have hb1 : Below w.heap.size w w1 := (Below.refl _ _).grown H1.out (Nat.le_refl _) (by simp)
  go_loopw [4] (fun i wr => ∃ (k : Nat) (cs : List Value), k ≤ xs.length ∧ i = .int .i64 k ∧ Below w.heap.size w wr ∧ wr.ownsRow w.heap.size 48 5 (.slice (some ⟨w.heap.size, 0, none⟩) xs.length xs.length) xs.length cs ∧ Laid Lay.term (w.heap.size + 1) wr k xs cs)
    (fun i _ => xs.length - (intOf i).toNat)
  case atStart => exact ⟨0, _, Nat.zero_le _, rfl, hb1, hown, fun i x hi => absurd hi (by omega)⟩
  case round =>
    obtain ⟨k, cs, hk, rfl, hb, ho, hlaid⟩ := hrel
    by_cases hlt : k < xs.length
    · have hFr : ∀ b, F b → b < wr.heap.size := fun b hb' => Nat.lt_of_lt_of_le (hF b hb') hb.size
      obtain ⟨ad, A', c', rfl, hf, c1, c2, c3, c4, c5, hcc, hkk⟩ := (h.below hb hF).at_term hlt
      have hk1 : (k : Int) < xs.length := by omega
      have HX := Lib.hid (List.getElem?_eq_getElem hlt)
      have hlenr : w.heap.size + 1 ≤ wr.heap.size := by have := (ho.lt w.heap.size rfl).2; omega
      go_wp2_with fail
      refine (ho' xs[k] (List.getElem_mem _) A' c' F _ hkk hFr).mono ?_
      rintro e w2 ⟨A2, cp2, rfl, hcp2, hs2, hb2⟩
      have ho2 := own_below ho hb2 (Nat.le_refl _)
      have hlaid2 := hlaid.up hb2
      have hst1 := (ho2.stored (k * 5) (.int .i64 xs[k].op)).1
      have hst2 := (hst1.stored (k * 5 + 1) (.int .i64 xs[k].a)).1
      have hst3 := (hst2.stored (k * 5 + 2) (.int .i64 xs[k].b)).1
      have hst4 := (hst3.stored (k * 5 + 3) (.string xs[k].name)).1
      have hst5 := (hst4.stored (k * 5 + 4) (.slice A2 xs[k].kids.length cp2)).1
      have hl0 : cs.length = xs.length * 5 := ho.1
      have hl9 : k * 5 + 5 ≤ cs.length := by omega
      have e1 : w2.cell? ⟨w.heap.size, k * 5, none⟩ = cs[k * 5]? := ho2.cellAt _ (by omega)
      have e2 : w2.cell? ⟨w.heap.size, k * 5 + 1, none⟩ = cs[k * 5 + 1]? := ho2.cellAt _ (by omega)
      have e3 : w2.cell? ⟨w.heap.size, k * 5 + 2, none⟩ = cs[k * 5 + 2]? := ho2.cellAt _ (by omega)
      have e4 : w2.cell? ⟨w.heap.size, k * 5 + 3, none⟩ = cs[k * 5 + 3]? := ho2.cellAt _ (by omega)
      have e5 : w2.cell? ⟨w.heap.size, k * 5 + 4, none⟩ = cs[k * 5 + 4]? := ho2.cellAt _ (by omega)
      rw [List.getElem?_eq_getElem (by omega)] at e1 e2 e3 e4 e5
      have f1 : w2.frozen? ⟨w.heap.size, k * 5, none⟩ = false := ho2.frozenAt _
      have f2 : w2.frozen? ⟨w.heap.size, k * 5 + 1, none⟩ = false := ho2.frozenAt _
      have f3 : w2.frozen? ⟨w.heap.size, k * 5 + 2, none⟩ = false := ho2.frozenAt _
      have f4 : w2.frozen? ⟨w.heap.size, k * 5 + 3, none⟩ = false := ho2.frozenAt _
      have f5 : w2.frozen? ⟨w.heap.size, k * 5 + 4, none⟩ = false := ho2.frozenAt _
      have HR : Laid Lay.term (w.heap.size + 1) w2 (k + 1) xs (setAt cs (k * 5) [.int .i64 xs[k].op, .int .i64 xs[k].a, .int .i64 xs[k].b, .string xs[k].name, .slice A2 xs[k].kids.length cp2]) := hlaid2.next (x := xs[k]) HX.out (TermR.of hcp2 (hs2.own_mono hlenr)) hl9
      clear hlaid hlaid2
      go_wp2
      go_roundw
      case rel => exact ⟨k + 1, _, by omega, by go_num, ((((((bthen hb hb2).setCell (Nat.le_refl _) _).setCell (Nat.le_refl _) _).setCell (Nat.le_refl _) _).setCell (Nat.le_refl _) _).setCell (Nat.le_refl _) _), hst5, (((((HR.set _ _ (by show w.heap.size < w.heap.size + 1; omega)).set _ _ (by show w.heap.size < w.heap.size + 1; omega)).set _ _ (by show w.heap.size < w.heap.size + 1; omega)).set _ _ (by show w.heap.size < w.heap.size + 1; omega)).set _ _ (by show w.heap.size < w.heap.size + 1; omega))⟩
      case measure => simp [intOf]; omega
    · have hke : k = xs.length := by omega
      subst hke
      go_wp2
      go_ret
      exact Laid.done rfl hlaid ho hb

set_option maxHeartbeats 2000000 in
theorem toTerm_any (t : T) (ho : T.All okT2 t) : ToT t := by
  revert ho
  refine T.ind (p := fun t => T.All okT2 t → ToT t) (fun t ih ho => ?_) t
  obtain ⟨hkl, hnl⟩ := ho.here
  have ihk : ∀ k ∈ t.kids, ToT k := fun k hk => ih k hk (ho.kid k hk)
  clear ih ho
  intro A c F w h hF
  have hw3 : Below w.heap.size w (((w.alloc (.cells #[.int .i64 t.op, .int .i64 t.a, .int .i64 t.b, .string t.name, .slice A t.kids.length c] 44)).alloc (.cells #[.int .i64 0, .int .i64 0, .int .i64 0, .string ⟨#[]⟩, .slice none 0 0] 48)).alloc (.cells #[.int .i64 t.op, .int .i64 t.a, .int .i64 t.b, .string t.name, .slice none 0 0] 48)) :=
    (((Below.refl _ _).alloc (Nat.le_refl _) _).alloc (by simp) _).alloc (by simp; omega) _
  go_enter Tryz.func32, Tryz.ntmps32
  go_wp2_with fail
  refine (toTermS_any A c t.kids F _ (h.below hw3 hF) (fun b hb => by have := hF b hb; simp; omega) hkl ihk).mono ?_
  rintro e w2 ⟨A', c', rfl, hcl, hs, hb⟩
  obtain ⟨hcc, hff⟩ := bcell hb
  have hz : w.heap.size + 1 + 1 + 1 ≤ w2.heap.size := by have := hb.size; simp at this; omega
  have hz1 : w.heap.size + 1 < w2.heap.size := by omega
  have hz2 : w.heap.size + 1 + 1 < w2.heap.size := by omega
  have hbw := bthen hw3 hb
  have hs' : Lay.term.Sl w2 (Own (w.heap.size + 3) w2) A' t.kids := hs.own_mono (by simp)
  go_wp2
  refine bodyPost_ret (v := .agg #[.int .i64 t.op, .int .i64 t.a, .int .i64 t.b, .string t.name, .slice A' t.kids.length c']) (by simp [results, Tryz.results32, go_sem, hcc, hff, hz1, hz2]) rfl ⟨A', c', rfl, hcl, ?_, ?_⟩
  · exact Lay.Sl.own_mono (lo := w.heap.size + 3) ((((((hs'.own_set _ _ (by simp <;> omega)).own_set _ _ (by simp <;> omega)).own_set _ _ (by simp <;> omega)).own_set _ _ (by simp <;> omega)).own_set _ _ (by simp <;> omega)).own_set _ _ (by simp <;> omega)) (by omega)
  · exact (below_set9 (below_set9 (below_set9 (below_set9 (below_set9 (below_set9 hbw (by simp <;> omega) _) (by simp <;> omega) _) (by simp <;> omega) _) (by simp <;> omega) _) (by simp <;> omega) _) (by simp <;> omega) _)

def RetL (l : Ly) (w : World) (e : Ending) (w' : World) : Prop :=
  ∃ A c B d, e = .returned (.agg #[.slice A l.ds.length c, .slice B l.ts.length d]) ∧ l.ds.length ≤ c ∧ l.ts.length ≤ d ∧ Lay.decl.Sl w' (Own w.heap.size w') A l.ds ∧ Lay.term.Sl w' (Own w.heap.size w') B l.ts ∧ Below w.heap.size w w'
def okL2 (l : Ly) : Prop := l.ds.length ≤ 1048576 ∧ l.ts.length ≤ 1048576 ∧ ∀ t ∈ l.ts, T.All okT2 t
set_option maxHeartbeats 400000 in
theorem toLayer_any (l : Ly) (ho : okL2 l) (A B : Option Addr) (c d : Nat) (F : Nat → Prop) (w : World) (hA : Lay.decl.Sl w F A l.ds) (hB : Lay.term.Sl w F B l.ts) (hF : ∀ b, F b → b < w.heap.size) :
    Calls Tryz.prog 53 #[.agg #[.slice A l.ds.length c, .slice B l.ts.length d]] w (RetL l w) := by
  obtain ⟨o1, o2, o3⟩ := ho
  have hot : ∀ x ∈ l.ts, ToT x := fun x hx => toTerm_any x (o3 x hx)
  clear o3
  have hw3 : Below w.heap.size w (((w.alloc (.cells #[.slice A l.ds.length c, .slice B l.ts.length d] 73)).alloc (.cells #[.slice none 0 0, .slice none 0 0] 58)).alloc (.cells #[.slice none 0 0, .slice none 0 0] 58)) :=
    (((Below.refl _ _).alloc (Nat.le_refl _) _).alloc (by simp) _).alloc (by simp; omega) _
  go_enter Tryz.func53, Tryz.ntmps53
  go_wp2_with fail
  refine (toDeclS_any A c l.ds F _ (hA.below hw3 hF) (fun b hb => by have := hF b hb; simp; omega) o1).mono ?_
  rintro e w2 ⟨A', c', rfl, hcl, hs, hb⟩
  obtain ⟨hcc, hff⟩ := bcell hb
  have hz : w.heap.size + 1 + 1 + 1 ≤ w2.heap.size := by have := hb.size; simp at this; omega
  have hbw := bthen hw3 hb
  have k1 : w2.cell? ⟨w.heap.size, 1, none⟩ = some (.slice B l.ts.length d) := (hcc _ _ (by simp <;> omega)).trans (by simp [go_sem])
  have k2 : w2.cell? ⟨w.heap.size + 1 + 1, 0, none⟩ = some (.slice none 0 0) := (hcc _ _ (by simp)).trans (by simp [go_sem])
  have k3 : w2.cell? ⟨w.heap.size + 1 + 1, 1, none⟩ = some (.slice none 0 0) := (hcc _ _ (by simp)).trans (by simp [go_sem])
  have k4 : w2.cell? ⟨w.heap.size + 1, 0, none⟩ = some (.slice none 0 0) := (hcc _ _ (by simp <;> omega)).trans (by simp [go_sem])
  have k5 : w2.cell? ⟨w.heap.size + 1, 1, none⟩ = some (.slice none 0 0) := (hcc _ _ (by simp <;> omega)).trans (by simp [go_sem])
  have j2 : w2.frozen? ⟨w.heap.size + 1 + 1, 0, none⟩ = false := (hff _ _ (by simp)).trans (by simp [go_sem])
  have j3 : w2.frozen? ⟨w.heap.size + 1 + 1, 1, none⟩ = false := (hff _ _ (by simp)).trans (by simp [go_sem])
  have j4 : w2.frozen? ⟨w.heap.size + 1, 0, none⟩ = false := (hff _ _ (by simp <;> omega)).trans (by simp [go_sem])
  have j5 : w2.frozen? ⟨w.heap.size + 1, 1, none⟩ = false := (hff _ _ (by simp <;> omega)).trans (by simp [go_sem])
  have hs' : Lay.decl.Sl w2 (Own (w.heap.size + 3) w2) A' l.ds := hs.own_mono (by simp)
  clear hcc hff hs
  go_wp2_with fail
  have hx : Below w.heap.size w (w2.setCell ⟨w.heap.size + 1 + 1, 0, none⟩ (.slice A' l.ds.length c')) := below_set9 hbw (by show w.heap.size ≤ w.heap.size + 1 + 1; omega) _
  have hs2 := hs'.own_set ⟨w.heap.size + 1 + 1, 0, none⟩ (.slice A' l.ds.length c') (by show w.heap.size + 1 + 1 < w.heap.size + 3; omega)
  refine (toTermS_any B d l.ts F _ (hB.below hx hF) (fun b hb => Nat.lt_of_lt_of_le (hF b hb) hx.size) o2 hot).mono ?_
  rintro e w4 ⟨A4, c4, rfl, hcl4, hs4, hb4⟩
  have hb4' := bthen hx hb4
  have hs3 := hs2.own_up hb4
  have hsz : (w2.setCell ⟨w.heap.size + 1 + 1, 0, none⟩ (.slice A' l.ds.length c')).heap.size = w2.heap.size := by simp [World.setCell]
  have hs4' : Lay.term.Sl w4 (Own (w.heap.size + 3) w4) A4 l.ts := hs4.own_mono (by rw [hsz]; omega)
  obtain ⟨hcc, hff⟩ := bcell hb4
  have m2 : w4.cell? ⟨w.heap.size + 1 + 1, 0, none⟩ = some (.slice A' l.ds.length c') := (hcc _ _ (by rw [hsz]; omega)).trans (by simp [go_sem, k2])
  have m3 : w4.cell? ⟨w.heap.size + 1 + 1, 1, none⟩ = some (.slice none 0 0) := (hcc _ _ (by rw [hsz]; omega)).trans (by simp [go_sem, k3])
  have m4 : w4.cell? ⟨w.heap.size + 1, 0, none⟩ = some (.slice none 0 0) := (hcc _ _ (by rw [hsz]; omega)).trans (by simp [go_sem, k4])
  have m5 : w4.cell? ⟨w.heap.size + 1, 1, none⟩ = some (.slice none 0 0) := (hcc _ _ (by rw [hsz]; omega)).trans (by simp [go_sem, k5])
  have n2 : w4.frozen? ⟨w.heap.size + 1 + 1, 0, none⟩ = false := (hff _ _ (by rw [hsz]; omega)).trans (by simp [j2])
  have n3 : w4.frozen? ⟨w.heap.size + 1 + 1, 1, none⟩ = false := (hff _ _ (by rw [hsz]; omega)).trans (by simp [j3])
  have n4 : w4.frozen? ⟨w.heap.size + 1, 0, none⟩ = false := (hff _ _ (by rw [hsz]; omega)).trans (by simp [j4])
  have n5 : w4.frozen? ⟨w.heap.size + 1, 1, none⟩ = false := (hff _ _ (by rw [hsz]; omega)).trans (by simp [j5])
  clear hcc hff k1 k2 k3 k4 k5 j2 j3 j4 j5
  go_wp2
  refine bodyPost_ret (v := .agg #[.slice A' l.ds.length c', .slice A4 l.ts.length c4]) (by simp [results, Tryz.results53, go_sem, m2, m3, m4, m5, n2, n3, n4, n5]) rfl ⟨A', c', A4, c4, rfl, hcl, hcl4, ?_, ?_, ?_⟩
  · exact Lay.Sl.own_mono (lo := w.heap.size + 3) (((hs3.own_set _ _ (by simp <;> omega)).own_set _ _ (by simp <;> omega)).own_set _ _ (by simp <;> omega)) (by omega)
  · exact Lay.Sl.own_mono (lo := w.heap.size + 3) (((hs4'.own_set _ _ (by simp <;> omega)).own_set _ _ (by simp <;> omega)).own_set _ _ (by simp <;> omega)) (by omega)
  · exact (below_set9 (below_set9 (below_set9 hb4' (by simp <;> omega) _) (by simp <;> omega) _) (by simp <;> omega) _)

theorem toLayerS_info : (Tryz.prog.info? 58).map (fun i => (i.zero, i.size, i.bytes)) = some (some ((.agg #[.slice none 0 0, .slice none 0 0])), 2, 48) := by kernel_rfl
set_option maxHeartbeats 1000000 in
theorem toLayerS_any (A : Option Addr) (c : Nat) (xs : List Ly) (F : Nat → Prop) (w : World) (h : Lay.layer.Sl w F A xs) (hF : ∀ b, F b → b < w.heap.size) (hn : xs.length ≤ 1048576) (ho' : ∀ l ∈ xs, okL2 l) :
    Calls Tryz.prog 14 #[.slice A xs.length c] w (RetO Lay.layer w xs) := by
  obtain ⟨i0, hi0, hz0, hz1, hz2⟩ := info_parts toLayerS_info
  go_enter Tryz.func14, Tryz.ntmps14
  go_wp2_with (at_make; refine wpList_make_full w rfl _ _ 26 rfl w.heap.size 58 i0 _ 2 Tryz.underlying26 hi0 hz0 hz1 .i64 .i64 _ _ xs.length rfl rfl rfl rfl (by rw [hz2]; omega) (by unfold maxLen; omega) (Nat.le_refl _) ?_; intro w1 hown hg)
  have H1 := Lib.hid hg
  clear hg hi0 hz0 hz1 hz2
  have hb1 : Below w.heap.size w w1 := (Below.refl _ _).grown H1.out (Nat.le_refl _) (by simp)
  go_loopw [4] (fun i wr => ∃ (k : Nat) (cs : List Value), k ≤ xs.length ∧ i = .int .i64 k ∧ Below w.heap.size w wr ∧ wr.ownsRow w.heap.size 58 2 (.slice (some ⟨w.heap.size, 0, none⟩) xs.length xs.length) xs.length cs ∧ Laid Lay.layer (w.heap.size + 1) wr k xs cs)
    (fun i _ => xs.length - (intOf i).toNat)
  case atStart => exact ⟨0, _, Nat.zero_le _, rfl, hb1, hown, fun i x hi => absurd hi (by omega)⟩
  case round =>
    obtain ⟨k, cs, hk, rfl, hb, ho, hlaid⟩ := hrel
    by_cases hlt : k < xs.length
    · have hFr : ∀ b, F b → b < wr.heap.size := fun b hb' => Nat.lt_of_lt_of_le (hF b hb') hb.size
      obtain ⟨ad, A1, cp1, A2, cp2, rfl, hf, c1, c2, hl1, hl2, s1, s2⟩ := (h.below hb hF).at_layer hlt
      have hk1 : (k : Int) < xs.length := by omega
      have HX := Lib.hid (List.getElem?_eq_getElem hlt)
      have hlenr : w.heap.size + 1 ≤ wr.heap.size := by have := (ho.lt w.heap.size rfl).2; omega
      go_wp2_with fail
      refine (toLayer_any xs[k] (ho' xs[k] (List.getElem_mem _)) A1 A2 cp1 cp2 F _ s1 s2 hFr).mono ?_
      rintro e w2 ⟨A3, cp3, A4, cp4, rfl, hcp3, hcp4, hs3, hs4, hb2⟩
      have ho2 := own_below ho hb2 (Nat.le_refl _)
      have hlaid2 := hlaid.up hb2
      have hst1 := (ho2.stored (k * 2) (.slice A3 xs[k].ds.length cp3)).1
      have hst2 := (hst1.stored (k * 2 + 1) (.slice A4 xs[k].ts.length cp4)).1
      have hl0 : cs.length = xs.length * 2 := ho.1
      have hl9 : k * 2 + 2 ≤ cs.length := by omega
      have e1 : w2.cell? ⟨w.heap.size, k * 2, none⟩ = cs[k * 2]? := ho2.cellAt _ (by omega)
      have e2 : w2.cell? ⟨w.heap.size, k * 2 + 1, none⟩ = cs[k * 2 + 1]? := ho2.cellAt _ (by omega)
      rw [List.getElem?_eq_getElem (by omega)] at e1 e2
      have f1 : w2.frozen? ⟨w.heap.size, k * 2, none⟩ = false := ho2.frozenAt _
      have f2 : w2.frozen? ⟨w.heap.size, k * 2 + 1, none⟩ = false := ho2.frozenAt _
      have HR : Laid Lay.layer (w.heap.size + 1) w2 (k + 1) xs (setAt cs (k * 2) [.slice A3 xs[k].ds.length cp3, .slice A4 xs[k].ts.length cp4]) := hlaid2.next (x := xs[k]) HX.out (⟨A3, cp3, A4, cp4, rfl, hcp3, hcp4, hs3.own_mono hlenr, hs4.own_mono hlenr⟩) hl9
      clear hlaid hlaid2
      go_wp2
      go_roundw
      case rel => exact ⟨k + 1, _, by omega, by go_num, (((bthen hb hb2).setCell (Nat.le_refl _) _).setCell (Nat.le_refl _) _), hst2, ((HR.set _ _ (by show w.heap.size < w.heap.size + 1; omega)).set _ _ (by show w.heap.size < w.heap.size + 1; omega))⟩
      case measure => simp [intOf]; omega
    · have hke : k = xs.length := by omega
      subst hke
      go_wp2
      go_ret
      exact Laid.done rfl hlaid ho hb

end Go.Proofs.YtiahmfpfimmbgaaGreatDoor

/-! The reference's terms: TermMany, l2Arity, l2Plain, l2One, l2Both, l2Sort, TermSort. -/
namespace Go.Proofs.YtiahmfpfimmbgaaGreatDoor
open Go Go.RowKit

set_option maxHeartbeats 1000000 in
theorem l1Max_t (a b : Int) (w : World) : Calls Tryz.prog 119 #[.int .i64 a, .int .i64 b] w fun e w' => e = .returned (.int .i64 (imax a b)) ∧ w = w' := by
  by_cases h : b < a
  · rw [show imax a b = a from if_pos h]
    go_enter Tryz.func119, Tryz.ntmps119
    go_wp2
    go_ret
    exact ⟨rfl, rfl⟩
  · rw [show imax a b = b from if_neg h]
    go_enter Tryz.func119, Tryz.ntmps119
    go_wp2
    go_ret
    exact ⟨rfl, rfl⟩
set_option maxHeartbeats 4000000 in
theorem l2Arity_any (op : Int) (w : World) : Calls Tryz.prog 136 #[.int .i64 op] w fun e w' => e = .returned (.int .i64 (arity op)) ∧ w = w' := by
  obtain ⟨r, hr⟩ : ∃ r, r = arity op := ⟨_, rfl⟩
  rw [← hr]
  have HR := Lib.hid hr
  clear hr
  by_cases q20 : op = 20
  · subst q20
    go_enter Tryz.func136, Tryz.ntmps136
    go_wp2
    go_ret
    exact ⟨ret_int (by rw [HR.out]; rfl), rfl⟩
  by_cases q21 : op = 21
  · subst q21
    go_enter Tryz.func136, Tryz.ntmps136
    go_wp2
    go_ret
    exact ⟨ret_int (by rw [HR.out]; rfl), rfl⟩
  by_cases q24 : op = 24
  · subst q24
    go_enter Tryz.func136, Tryz.ntmps136
    go_wp2
    go_ret
    exact ⟨ret_int (by rw [HR.out]; rfl), rfl⟩
  by_cases q1 : op = 1
  · subst q1
    go_enter Tryz.func136, Tryz.ntmps136
    go_wp2
    go_ret
    exact ⟨ret_int (by rw [HR.out]; rfl), rfl⟩
  by_cases q2 : op = 2
  · subst q2
    go_enter Tryz.func136, Tryz.ntmps136
    go_wp2
    go_ret
    exact ⟨ret_int (by rw [HR.out]; rfl), rfl⟩
  by_cases q22 : op = 22
  · subst q22
    go_enter Tryz.func136, Tryz.ntmps136
    go_wp2
    go_ret
    exact ⟨ret_int (by rw [HR.out]; rfl), rfl⟩
  by_cases q25 : op = 25
  · subst q25
    go_enter Tryz.func136, Tryz.ntmps136
    go_wp2
    go_ret
    exact ⟨ret_int (by rw [HR.out]; rfl), rfl⟩
  by_cases q23 : op = 23
  · subst q23
    go_enter Tryz.func136, Tryz.ntmps136
    go_wp2
    go_ret
    exact ⟨ret_int (by rw [HR.out]; rfl), rfl⟩
  by_cases q26 : op = 26
  · subst q26
    go_enter Tryz.func136, Tryz.ntmps136
    go_wp2
    go_ret
    exact ⟨ret_int (by rw [HR.out]; rfl), rfl⟩
  by_cases q27 : op = 27
  · subst q27
    go_enter Tryz.func136, Tryz.ntmps136
    go_wp2
    go_ret
    exact ⟨ret_int (by rw [HR.out]; rfl), rfl⟩
  have HA : Hid (r = if 3 ≤ op then (if op ≤ 17 then 2 else -1) else -1) := Lib.hid (by rw [HR.out]; unfold arity; rw [if_neg q20, if_neg q21, if_neg q24, if_neg q1, if_neg q2, if_neg q22, if_neg q25, if_neg q23, if_neg q26, if_neg q27])
  have g20 : (op == 20) = false := by simpa using q20
  have g21 : (op == 21) = false := by simpa using q21
  have g24 : (op == 24) = false := by simpa using q24
  have g1 : (op == 1) = false := by simpa using q1
  have g2 : (op == 2) = false := by simpa using q2
  have g22 : (op == 22) = false := by simpa using q22
  have g25 : (op == 25) = false := by simpa using q25
  have g23 : (op == 23) = false := by simpa using q23
  have g26 : (op == 26) = false := by simpa using q26
  have g27 : (op == 27) = false := by simpa using q27
  clear q20 q21 q24 q1 q2 q22 q25 q23 q26 q27
  by_cases h3 : 3 ≤ op
  · by_cases h17 : op ≤ 17
    · have HA : Hid (r = 2) := Lib.hid (by rw [HA.out, if_pos h3, if_pos h17])
      go_enter Tryz.func136, Tryz.ntmps136
      go_wp2
      go_ret
      exact ⟨ret_int (by rw [HA.out]), rfl⟩
    · have HA : Hid (r = -1) := Lib.hid (by rw [HA.out, if_pos h3, if_neg h17])
      go_enter Tryz.func136, Tryz.ntmps136
      go_wp2
      go_ret
      exact ⟨ret_int (by rw [HA.out]), rfl⟩
  · have HA : Hid (r = -1) := Lib.hid (by rw [HA.out, if_neg h3])
    go_enter Tryz.func136, Tryz.ntmps136
    go_wp2
    go_ret
    exact ⟨ret_int (by rw [HA.out]), rfl⟩
set_option maxRecDepth 100000 in
set_option maxHeartbeats 4000000 in
theorem l2Plain_any (op a b : Int) (nm : ByteArray) (A : Option Addr) (n c : Nat) (w : World) (hn : n ≤ 9223372036854775807) :
    Calls Tryz.prog 120 #[.agg #[.int .i64 op, .int .i64 a, .int .i64 b, .string nm, .slice A n c]] w (RetB w (plainN op nm && plainV op a b && ((n : Int) == arity op))) := by
  have HAL := Lib.hid ((Below.refl w.heap.size w).alloc (Nat.le_refl _) (.cells #[.int .i64 op, .int .i64 a, .int .i64 b, .string nm, .slice A n c] 48))
  obtain ⟨q, hq⟩ : ∃ q, q = (nm.toList == []) := ⟨_, rfl⟩
  obtain ⟨r, hr⟩ : ∃ r, r = ((n : Int) == arity op) := ⟨_, rfl⟩
  rw [← hr]
  have HAR := Lib.hid (fun z => l2Arity_any op z)
  obtain ⟨ar, har⟩ : ∃ ar, ar = arity op := ⟨_, rfl⟩
  rw [← har] at hr HAR
  have HPN : Hid (plainN op nm = (op == 21 || q)) := Lib.hid (by rw [hq]; rfl)
  have HPV : Hid (plainV op a b = (op == 20 || op == 22 || (a == 0 && b == 0))) := Lib.hid rfl
  rw [HPN.out, HPV.out]
  have gq := hq.symm
  have gr := hr.symm
  clear hq hr har HPN HPV
  by_cases q21 : op = 21
  · subst q21
    by_cases ha : a = 0
    · subst ha
      by_cases hb : b = 0
      · subst hb
        go_enter Tryz.func120, Tryz.ntmps120
        go_wp2
        go_quiet ((go_at_call 136; exact quiet_left (HAR.out _)))
        go_wp2
        go_ret
        exact ⟨ret_bool (by simp [*]), below_drewN HAL.out _⟩
      · have gb : (b != 0) = true := by simpa using hb
        go_enter Tryz.func120, Tryz.ntmps120
        go_wp2
        go_ret
        exact ⟨ret_bool (by simp [*]), HAL.out⟩
    · have ga : (a != 0) = true := by simpa using ha
      go_enter Tryz.func120, Tryz.ntmps120
      go_wp2
      go_ret
      exact ⟨ret_bool (by simp [*]), HAL.out⟩
  · have g21 : (op != 21) = true := by simpa using q21
    cases q
    · have gq' : (!(nm.toList == [])) = true := by simpa using gq
      go_enter Tryz.func120, Tryz.ntmps120
      go_wp2
      go_ret
      exact ⟨ret_bool (by simp [*]), HAL.out⟩
    · have gq' : (!(nm.toList == [])) = false := by simpa using gq
      by_cases q20 : op = 20
      · subst q20
        go_enter Tryz.func120, Tryz.ntmps120
        go_wp2
        go_quiet ((go_at_call 136; exact quiet_left (HAR.out _)))
        go_wp2
        go_ret
        exact ⟨ret_bool (by simp [*]), below_drewN HAL.out _⟩
      · have g20 : (op != 20) = true := by simpa using q20
        by_cases q22 : op = 22
        · subst q22
          go_enter Tryz.func120, Tryz.ntmps120
          go_wp2
          go_quiet ((go_at_call 136; exact quiet_left (HAR.out _)))
          go_wp2
          go_ret
          exact ⟨ret_bool (by simp [*]), below_drewN HAL.out _⟩
        · have g22 : (op != 22) = true := by simpa using q22
          by_cases ha : a = 0
          · subst ha
            by_cases hb : b = 0
            · subst hb
              go_enter Tryz.func120, Tryz.ntmps120
              go_wp2
              go_quiet ((go_at_call 136; exact quiet_left (HAR.out _)))
              go_wp2
              go_ret
              exact ⟨ret_bool (by simp [*]), below_drewN HAL.out _⟩
            · have gb : (b != 0) = true := by simpa using hb
              go_enter Tryz.func120, Tryz.ntmps120
              go_wp2
              go_ret
              exact ⟨ret_bool (by simp [*]), HAL.out⟩
          · have ga : (a != 0) = true := by simpa using ha
            go_enter Tryz.func120, Tryz.ntmps120
            go_wp2
            go_ret
            exact ⟨ret_bool (by simp [*]), HAL.out⟩
set_option maxRecDepth 100000 in
set_option maxHeartbeats 4000000 in
theorem l2One_any (op a b s : Int) (nm : ByteArray) (A : Option Addr) (n c : Nat) (w : World) (hs : -1 ≤ s ∧ s ≤ 4) :
    Calls Tryz.prog 122 #[.agg #[.int .i64 op, .int .i64 a, .int .i64 b, .string nm, .slice A n c], .int .i64 s] w fun e w' => e = .returned (.int .i64 (oneK op a b s)) ∧ Below w.heap.size w w' := by
  have HAL := Lib.hid ((Below.refl w.heap.size w).alloc (Nat.le_refl _) (.cells #[.int .i64 op, .int .i64 a, .int .i64 b, .string nm, .slice A n c] 48))
  obtain ⟨r, hr⟩ : ∃ r, r = oneK op a b s := ⟨_, rfl⟩
  rw [← hr]
  have HR := Lib.hid hr
  clear hr
  by_cases q25 : op = 25
  · by_cases q0 : s = 0
    · have HX : Hid (r = 0) := Lib.hid (by rw [HR.out]; unfold oneK; rw [if_pos q25, if_pos q0])
      subst q25; subst q0
      go_enter Tryz.func122, Tryz.ntmps122
      go_wp2
      go_ret
      exact ⟨ret_int (by rw [HX.out]), HAL.out⟩
    · have HX : Hid (r = -1) := Lib.hid (by rw [HR.out]; unfold oneK; rw [if_pos q25, if_neg q0])
      have g0 : (s == 0) = false := by simpa using q0
      subst q25
      go_enter Tryz.func122, Tryz.ntmps122
      go_wp2
      go_ret
      exact ⟨ret_int (by rw [HX.out]), HAL.out⟩
  · have g25 : (op == 25) = false := by simpa using q25
    by_cases q1 : s < 1
    · have HX : Hid (r = -1) := Lib.hid (by rw [HR.out]; unfold oneK; rw [if_neg q25, if_pos q1])
      go_enter Tryz.func122, Tryz.ntmps122
      go_wp2
      go_ret
      exact ⟨ret_int (by rw [HX.out]), HAL.out⟩
    · by_cases q22 : op = 22
      · by_cases qb : 0 ≤ b
        · by_cases qa : b ≤ a
          · by_cases qs : a < s
            · have HX : Hid (r = a - b + 1) := Lib.hid (by rw [HR.out]; unfold oneK; rw [if_neg q25, if_neg q1, if_pos q22, if_pos qb, if_pos qa, if_pos qs])
              subst q22
              go_enter Tryz.func122, Tryz.ntmps122
              go_wp2
              go_ret
              exact ⟨ret_int (by rw [HX.out]), HAL.out⟩
            · have HX : Hid (r = -1) := Lib.hid (by rw [HR.out]; unfold oneK; rw [if_neg q25, if_neg q1, if_pos q22, if_pos qb, if_pos qa, if_neg qs])
              subst q22
              go_enter Tryz.func122, Tryz.ntmps122
              go_wp2
              go_ret
              exact ⟨ret_int (by rw [HX.out]), HAL.out⟩
          · have HX : Hid (r = -1) := Lib.hid (by rw [HR.out]; unfold oneK; rw [if_neg q25, if_neg q1, if_pos q22, if_pos qb, if_neg qa])
            subst q22
            go_enter Tryz.func122, Tryz.ntmps122
            go_wp2
            go_ret
            exact ⟨ret_int (by rw [HX.out]), HAL.out⟩
        · have HX : Hid (r = -1) := Lib.hid (by rw [HR.out]; unfold oneK; rw [if_neg q25, if_neg q1, if_pos q22, if_neg qb])
          subst q22
          go_enter Tryz.func122, Tryz.ntmps122
          go_wp2
          go_ret
          exact ⟨ret_int (by rw [HX.out]), HAL.out⟩
      · have HX : Hid (r = s) := Lib.hid (by rw [HR.out]; unfold oneK; rw [if_neg q25, if_neg q1, if_neg q22])
        have g22 : (op == 22) = false := by simpa using q22
        go_enter Tryz.func122, Tryz.ntmps122
        go_wp2
        go_ret
        exact ⟨ret_int (by rw [HX.out]), HAL.out⟩
set_option maxRecDepth 100000 in
set_option maxHeartbeats 4000000 in
theorem l2Both_any (op s q : Int) (w : World) (hs : -1 ≤ s ∧ s ≤ 4) (hq : -1 ≤ q ∧ q ≤ 4) :
    Calls Tryz.prog 123 #[.int .i64 op, .int .i64 s, .int .i64 q] w fun e w' => e = .returned (.int .i64 (bothK op s q)) ∧ w = w' := by
  obtain ⟨r, hr⟩ : ∃ r, r = bothK op s q := ⟨_, rfl⟩
  rw [← hr]
  have HR := Lib.hid hr
  clear hr
  by_cases q26 : op = 26
  · by_cases q0 : s = 0
    · by_cases q1 : q = 0
      · have HX : Hid (r = 0) := Lib.hid (by rw [HR.out]; unfold bothK; rw [if_pos (.inl q26), if_pos q0, if_pos q1])
        subst q26; subst q0; subst q1
        go_enter Tryz.func123, Tryz.ntmps123
        go_wp2
        go_ret
        exact ⟨ret_int (by rw [HX.out]), rfl⟩
      · have HX : Hid (r = -1) := Lib.hid (by rw [HR.out]; unfold bothK; rw [if_pos (.inl q26), if_pos q0, if_neg q1])
        have g0 : (q == 0) = false := by simpa using q1
        subst q26; subst q0
        go_enter Tryz.func123, Tryz.ntmps123
        go_wp2
        go_ret
        exact ⟨ret_int (by rw [HX.out]), rfl⟩
    · have HX : Hid (r = -1) := Lib.hid (by rw [HR.out]; unfold bothK; rw [if_pos (.inl q26), if_neg q0])
      have g0 : (s == 0) = false := by simpa using q0
      subst q26
      go_enter Tryz.func123, Tryz.ntmps123
      go_wp2
      go_ret
      exact ⟨ret_int (by rw [HX.out]), rfl⟩
  by_cases q27 : op = 27
  · by_cases q0 : s = 0
    · by_cases q1 : q = 0
      · have HX : Hid (r = 0) := Lib.hid (by rw [HR.out]; unfold bothK; rw [if_pos (.inr q27), if_pos q0, if_pos q1])
        subst q27; subst q0; subst q1
        go_enter Tryz.func123, Tryz.ntmps123
        go_wp2
        go_ret
        exact ⟨ret_int (by rw [HX.out]), rfl⟩
      · have HX : Hid (r = -1) := Lib.hid (by rw [HR.out]; unfold bothK; rw [if_pos (.inr q27), if_pos q0, if_neg q1])
        have g0 : (q == 0) = false := by simpa using q1
        subst q27; subst q0
        go_enter Tryz.func123, Tryz.ntmps123
        go_wp2
        go_ret
        exact ⟨ret_int (by rw [HX.out]), rfl⟩
    · have HX : Hid (r = -1) := Lib.hid (by rw [HR.out]; unfold bothK; rw [if_pos (.inr q27), if_neg q0])
      have g0 : (s == 0) = false := by simpa using q0
      subst q27
      go_enter Tryz.func123, Tryz.ntmps123
      go_wp2
      go_ret
      exact ⟨ret_int (by rw [HX.out]), rfl⟩
  have qo : ¬ (op = 26 ∨ op = 27) := fun h => h.elim q26 q27
  have g26 : (op == 26) = false := by simpa using q26
  have g27 : (op == 27) = false := by simpa using q27
  clear q26 q27
  by_cases q1 : s < 1
  · have HX : Hid (r = -1) := Lib.hid (by rw [HR.out]; unfold bothK; rw [if_neg qo, if_pos (.inl q1)])
    clear qo
    go_enter Tryz.func123, Tryz.ntmps123
    go_wp2
    go_ret
    exact ⟨ret_int (by rw [HX.out]), rfl⟩
  by_cases q2 : q < 1
  · have HX : Hid (r = -1) := Lib.hid (by rw [HR.out]; unfold bothK; rw [if_neg qo, if_pos (.inr q2)])
    clear qo
    go_enter Tryz.func123, Tryz.ntmps123
    go_wp2
    go_ret
    exact ⟨ret_int (by rw [HX.out]), rfl⟩
  have qn : ¬ (s < 1 ∨ q < 1) := fun h => h.elim q1 q2
  by_cases q14 : op = 14
  · by_cases q4 : s + q ≤ 4
    · have HX : Hid (r = s + q) := Lib.hid (by rw [HR.out]; unfold bothK; rw [if_neg qo, if_neg qn, if_pos q14, if_pos q4])
      clear qo qn
      subst q14
      go_enter Tryz.func123, Tryz.ntmps123
      go_wp2
      go_ret
      exact ⟨ret_int (by rw [HX.out]), rfl⟩
    · have HX : Hid (r = -1) := Lib.hid (by rw [HR.out]; unfold bothK; rw [if_neg qo, if_neg qn, if_pos q14, if_neg q4])
      clear qo qn
      subst q14
      go_enter Tryz.func123, Tryz.ntmps123
      go_wp2
      go_ret
      exact ⟨ret_int (by rw [HX.out]), rfl⟩
  have g14 : (op == 14) = false := by simpa using q14
  by_cases qe : s = q
  · by_cases q15 : 15 ≤ op
    · have HX : Hid (r = 0) := Lib.hid (by rw [HR.out]; unfold bothK; rw [if_neg qo, if_neg qn, if_neg q14, if_pos qe, if_pos q15])
      clear qo qn q14
      subst qe
      go_enter Tryz.func123, Tryz.ntmps123
      go_wp2
      go_ret
      exact ⟨ret_int (by rw [HX.out]), rfl⟩
    · have HX : Hid (r = s) := Lib.hid (by rw [HR.out]; unfold bothK; rw [if_neg qo, if_neg qn, if_neg q14, if_pos qe, if_neg q15])
      clear qo qn q14
      subst qe
      go_enter Tryz.func123, Tryz.ntmps123
      go_wp2
      go_ret
      exact ⟨ret_int (by rw [HX.out]), rfl⟩
  · have HX : Hid (r = -1) := Lib.hid (by rw [HR.out]; unfold bothK; rw [if_neg qo, if_neg qn, if_neg q14, if_neg qe])
    have ge : (s != q) = true := by simpa using qe
    clear qo qn q14 qe
    go_enter Tryz.func123, Tryz.ntmps123
    go_wp2
    go_ret
    exact ⟨ret_int (by rw [HX.out]), rfl⟩
/-- What the reference's TermMany is asked. -/
def SpecMany (t : T) : Prop := ∀ (A : Option Addr) (c : Nat) (F : Nat → Prop) (w : World), Lay.term.Sl w F A t.kids → (∀ b, F b → b < w.heap.size) →
  Calls Tryz.prog 97 #[.agg #[.int .i64 t.op, .int .i64 t.a, .int .i64 t.b, .string t.name, .slice A t.kids.length c]] w fun e w' => e = .returned (.tuple #[.int .i64 t.many.1, .int .i64 t.many.2]) ∧ Below w.heap.size w w'
set_option maxRecDepth 100000 in
set_option maxHeartbeats 4000000 in
theorem specMany_any (t : T) (ho : T.All okT2 t) : SpecMany t := by
  revert ho
  refine T.ind (p := fun x => T.All okT2 x → SpecMany x) (fun x ih ho => ?_) t
  obtain ⟨hkl, _⟩ := ho.here
  have ihk : ∀ k ∈ x.kids, SpecMany k := fun k hk => ih k hk (ho.kid k hk)
  clear ih ho
  intro A c F w h hF
  have hal : Below w.heap.size w (w.alloc (.cells #[.int .i64 x.op, .int .i64 x.a, .int .i64 x.b, .string x.name, .slice A x.kids.length c] 48)) := (Below.refl _ _).alloc (Nat.le_refl _) _
  have v1 : (w.alloc (.cells #[.int .i64 x.op, .int .i64 x.a, .int .i64 x.b, .string x.name, .slice A x.kids.length c] 48)).cell? ⟨w.heap.size, 4, none⟩ = some (.slice A x.kids.length c) := by simp [go_sem]
  obtain ⟨r, hr⟩ : ∃ r, r = x.many := ⟨_, rfl⟩
  rw [← hr]
  have HR := Lib.hid (hr.trans (T.many_def x))
  clear hr
  go_enter Tryz.func97, Tryz.ntmps97
  go_wp2
  generalize (w.alloc (.cells #[.int .i64 x.op, .int .i64 x.a, .int .i64 x.b, .string x.name, .slice A x.kids.length c] 48)) = W at *
  have H := h.below hal hF
  have hFW : ∀ b, F b → b < W.heap.size := fun b hb => Nat.lt_of_lt_of_le (hF b hb) hal.size
  clear h
  go_loopw [4, 5, 6] (fun a b i wr => ∃ (k : Nat) (n d : Int), k ≤ x.kids.length ∧ a = .int .i64 n ∧ b = .int .i64 d ∧ i = .int .i64 k ∧ 1 ≤ n ∧ n ≤ 41 ∧ 0 ≤ d ∧ d ≤ 8 ∧ Below W.heap.size W wr ∧ Hid (T.manyL x.kids 1 0 = T.manyL (x.kids.drop k) n d)) (fun _ _ i _ => x.kids.length - (intOf i).toNat)
  case atStart => exact ⟨0, 1, 0, Nat.zero_le _, rfl, rfl, rfl, by omega, by omega, by omega, by omega, Below.refl _ _, Lib.hid (by simp)⟩
  case round =>
    obtain ⟨k, n, d, hk, rfl, rfl, rfl, n1, n2, d1, d2, hb, HT⟩ := hrel
    have a1 := (hb.cell (World.block_lt_of_cell? W _ v1)).trans v1
    have hbw := bthen hal hb
    have hstop : ¬ (k < x.kids.length ∧ n ≤ 20) → Hid (T.manyL x.kids 1 0 = (n, d)) := fun h => Lib.hid (by
      rw [HT.out]
      by_cases h9 : n ≤ 20
      · have : k = x.kids.length := by omega
        rw [this]; exact T.manyL_full _ _ _
      · exact T.manyL_stop _ _ _ h9)
    by_cases hlt : k < x.kids.length
    · by_cases hn : n ≤ 20
      · clear hstop
        have hFr : ∀ b, F b → b < wr.heap.size := fun b hb' => Nat.lt_of_lt_of_le (hFW b hb') hb.size
        obtain ⟨ad, A1, c9, rfl, hf, c1, c2, c3, c4, c5, hcc, hkk⟩ := (H.below hb hFW).at_term hlt
        have hk1 : (k : Int) < x.kids.length := by omega
        have HI := Lib.hid (ihk _ (List.getElem_mem hlt) A1 c9 F wr hkk hFr)
        have HS := Lib.hid (HT.out.trans (T.manyL_step x.kids k n d hlt hn))
        obtain ⟨m1, m2, m3, m4⟩ := T.many_one x.kids[k]
        generalize x.kids[k].many = q at *
        have HM := Lib.hid (fun z => l1Max_t d q.2 z)
        have hm : 0 ≤ imax d q.2 ∧ imax d q.2 ≤ 8 := by rw [imax_eq]; omega
        generalize imax d q.2 = dm at *
        clear hkk H ihk hFr
        go_wp2_with fail
        refine HI.out.mono ?_
        rintro e w2 ⟨rfl, hb2⟩
        have hb3 := bthen hb hb2
        go_wp2_with fail
        refine (HM.out _).mono ?_
        rintro e w3 ⟨rfl, rfl⟩
        go_wp2
        go_roundw
        case rel => exact ⟨k + 1, n + q.1, dm, by omega, by go_num, rfl, by go_num, by omega, by omega, hm.1, hm.2, hb3, HS⟩
        case measure => simp [intOf]; omega
      · have hn9 : 20 < n := by omega
        have HE := hstop (fun h => hn h.2)
        have HX : Hid (r = (21, 8)) := Lib.hid (by rw [HR.out, HE.out]; exact if_pos (.inl (by dsimp only; omega)))
        clear hstop ihk H
        have hk1 : (k : Int) < x.kids.length := by omega
        go_wp2
        go_ret2
        exact ⟨by rw [HX.out]; rfl, hbw⟩
    · have HE := hstop (fun h => hlt h.1)
      have hke : k = x.kids.length := by omega
      clear hstop ihk H
      by_cases hn : 20 < n
      · have HX : Hid (r = (21, 8)) := Lib.hid (by rw [HR.out, HE.out]; exact if_pos (.inl hn))
        subst hke
        go_wp2
        go_ret2
        exact ⟨by rw [HX.out]; rfl, hbw⟩
      · by_cases hd : 7 < d + 1
        · have HX : Hid (r = (21, 8)) := Lib.hid (by rw [HR.out, HE.out]; exact if_pos (.inr hd))
          subst hke
          go_wp2
          go_ret2
          exact ⟨by rw [HX.out]; rfl, hbw⟩
        · have HX : Hid (r = (n, d + 1)) := Lib.hid (by rw [HR.out, HE.out]; exact if_neg (fun h => h.elim hn hd))
          subst hke
          go_wp2
          go_ret2
          exact ⟨by rw [HX.out]; rfl, hbw⟩
/-- What the reference's l2Sort is asked. -/
def SpecSort (ds : List D) (t : T) : Prop := ∀ (A B : Option Addr) (c d : Nat) (F : Nat → Prop) (w : World), Lay.term.Sl w F A t.kids → Lay.decl.Sl w F B ds → (∀ b, F b → b < w.heap.size) →
  Calls Tryz.prog 98 #[.slice B ds.length d, .agg #[.int .i64 t.op, .int .i64 t.a, .int .i64 t.b, .string t.name, .slice A t.kids.length c]] w fun e w' => e = .returned (.int .i64 (srt ds t)) ∧ Below w.heap.size w w'
theorem plainT_many {t : T} (h : plainT t = true) : (t.kids.length : Int) = arity t.op := by
  simp only [plainT, Bool.and_eq_true, beq_iff_eq] at h
  exact h.2
theorem arity_le (op : Int) : arity op ≤ 3 := by unfold arity; (repeat' split) <;> omega
theorem arity_none {op : Int} (h : arity op = 0) : op = 20 ∨ op = 21 ∨ op = 24 := by
  unfold arity at h; (repeat' split at h) <;> omega
theorem arity_some {op : Int} (h : 0 < arity op) : op ≠ 20 ∧ op ≠ 21 ∧ op ≠ 24 := by
  refine ⟨?_, ?_, ?_⟩ <;> (rintro rfl; revert h; decide)
theorem srt_bad (ds : List D) {t : T} (h : plainT t = false) : srt ds t = -1 := by rw [srt_def, h]; rfl
theorem srt_vec (ds : List D) {t : T} (h : plainT t = true) (h20 : t.op = 20) (hk : t.kids.length = 0) : srt ds t = if vecB t.a t.b = true then t.a else -1 := by
  rw [srt_def, if_pos h, List.eq_nil_of_length_eq_zero hk]
  exact if_pos h20
theorem srt_name (ds : List D) {t : T} (h : plainT t = true) (h21 : t.op = 21) (hk : t.kids.length = 0) : srt ds t = nameK ds t.name := by
  rw [srt_def, if_pos h, List.eq_nil_of_length_eq_zero hk]
  exact (if_neg (by omega)).trans (if_pos h21)
theorem srt_true (ds : List D) {t : T} (h : plainT t = true) (h24 : t.op = 24) (hk : t.kids.length = 0) : srt ds t = 0 := by
  rw [srt_def, if_pos h, List.eq_nil_of_length_eq_zero hk]
  exact (if_neg (by omega)).trans (if_neg (by omega))
theorem list_one {α : Type} {l : List α} (h : l.length = 1) : l = [l[0]] := by
  match l, h with
  | [x], _ => rfl
theorem list_two {α : Type} {l : List α} (h : l.length = 2) : l = [l[0], l[1]] := by
  match l, h with
  | [x, y], _ => rfl
theorem list_three {α : Type} {l : List α} (h : l.length = 3) : l = [l[0], l[1], l[2]] := by
  match l, h with
  | [x, y, z], _ => rfl
theorem srt_one (ds : List D) {t : T} (h : plainT t = true) (hk : t.kids.length = 1) : srt ds t = oneK t.op t.a t.b (srt ds t.kids[0]) := by
  rw [srt_def, if_pos h, srtL_map]
  have e : t.kids.map (srt ds) = [srt ds t.kids[0]] := by
    conv => lhs; rw [list_one hk]
    rfl
  rw [e]
theorem srt_two (ds : List D) {t : T} (h : plainT t = true) (hk : t.kids.length = 2) : srt ds t = bothK t.op (srt ds t.kids[0]) (srt ds t.kids[1]) := by
  rw [srt_def, if_pos h, srtL_map]
  have e : t.kids.map (srt ds) = [srt ds t.kids[0], srt ds t.kids[1]] := by
    conv => lhs; rw [list_two hk]
    rfl
  rw [e]
theorem srt_three (ds : List D) {t : T} (h : plainT t = true) (hk : t.kids.length = 3) : srt ds t = threeK (srt ds t.kids[0]) (srt ds t.kids[1]) (srt ds t.kids[2]) := by
  rw [srt_def, if_pos h, srtL_map]
  have e : t.kids.map (srt ds) = [srt ds t.kids[0], srt ds t.kids[1], srt ds t.kids[2]] := by
    conv => lhs; rw [list_three hk]
    rfl
  rw [e]
set_option maxRecDepth 100000 in
set_option maxHeartbeats 8000000 in
theorem specSort_any (ds : List D) (hw : ∀ x ∈ ds, 1 ≤ x.wide ∧ x.wide ≤ 4) (hd4 : ds.length ≤ 9223372036854775807) (t : T) (ho : T.All okT2 t) : SpecSort ds t := by
  revert ho
  refine T.ind (p := fun x => T.All okT2 x → SpecSort ds x) (fun x ih ho => ?_) t
  obtain ⟨hkl, _⟩ := ho.here
  have ihk : ∀ k ∈ x.kids, SpecSort ds k := fun k hk => ih k hk (ho.kid k hk)
  clear ih ho
  intro A B c d F w h hd hF
  have hal : Below w.heap.size w (w.alloc (.cells #[.int .i64 x.op, .int .i64 x.a, .int .i64 x.b, .string x.name, .slice A x.kids.length c] 48)) := (Below.refl _ _).alloc (Nat.le_refl _) _
  have HPL := Lib.hid (fun z => l2Plain_any x.op x.a x.b x.name A x.kids.length c z (by omega))
  have hpt : (plainN x.op x.name && plainV x.op x.a x.b && ((x.kids.length : Int) == arity x.op)) = plainT x := rfl
  rw [hpt] at HPL
  obtain ⟨r, hr⟩ : ∃ r, r = srt ds x := ⟨_, rfl⟩
  rw [← hr]
  have HR := Lib.hid hr
  clear hr hpt
  have H := Lib.hid (h.below hal hF)
  have HD := Lib.hid (hd.below hal hF)
  have hFW : ∀ b, F b → b < (w.alloc (.cells #[.int .i64 x.op, .int .i64 x.a, .int .i64 x.b, .string x.name, .slice A x.kids.length c] 48)).heap.size := fun b hb => Nat.lt_of_lt_of_le (hF b hb) hal.size
  have HAL := Lib.hid hal
  have v0 : (w.alloc (.cells #[.int .i64 x.op, .int .i64 x.a, .int .i64 x.b, .string x.name, .slice A x.kids.length c] 48)).cell? ⟨w.heap.size, 0, none⟩ = some (.int .i64 x.op) := by simp [go_sem]
  have v1 : (w.alloc (.cells #[.int .i64 x.op, .int .i64 x.a, .int .i64 x.b, .string x.name, .slice A x.kids.length c] 48)).cell? ⟨w.heap.size, 1, none⟩ = some (.int .i64 x.a) := by simp [go_sem]
  have v2 : (w.alloc (.cells #[.int .i64 x.op, .int .i64 x.a, .int .i64 x.b, .string x.name, .slice A x.kids.length c] 48)).cell? ⟨w.heap.size, 2, none⟩ = some (.int .i64 x.b) := by simp [go_sem]
  have v3 : (w.alloc (.cells #[.int .i64 x.op, .int .i64 x.a, .int .i64 x.b, .string x.name, .slice A x.kids.length c] 48)).cell? ⟨w.heap.size, 3, none⟩ = some (.string x.name) := by simp [go_sem]
  have v4 : (w.alloc (.cells #[.int .i64 x.op, .int .i64 x.a, .int .i64 x.b, .string x.name, .slice A x.kids.length c] 48)).cell? ⟨w.heap.size, 4, none⟩ = some (.slice A x.kids.length c) := by simp [go_sem]
  have hsz : w.heap.size < (w.alloc (.cells #[.int .i64 x.op, .int .i64 x.a, .int .i64 x.b, .string x.name, .slice A x.kids.length c] 48)).heap.size := by simp
  go_enter Tryz.func98, Tryz.ntmps98
  go_wp2_with fail
  generalize w.alloc (.cells #[.int .i64 x.op, .int .i64 x.a, .int .i64 x.b, .string x.name, .slice A x.kids.length c] 48) = W at *
  refine (HPL.out W).mono ?_
  rintro e w1 ⟨rfl, hb1⟩
  have H := Lib.hid (H.out.below hb1 hFW)
  have HD := Lib.hid (HD.out.below hb1 hFW)
  have hF1 : ∀ b, F b → b < w1.heap.size := fun b hb => Nat.lt_of_lt_of_le (hFW b hb) hb1.size
  have v0 := (hb1.cell hsz).trans v0
  have v1 := (hb1.cell hsz).trans v1
  have v2 := (hb1.cell hsz).trans v2
  have v3 := (hb1.cell hsz).trans v3
  have v4 := (hb1.cell hsz).trans v4
  have hsz : w.heap.size < w1.heap.size := Nat.lt_of_lt_of_le hsz hb1.size
  have HAL := Lib.hid (bthen HAL.out hb1)
  have HIK := Lib.hid ihk
  clear hb1 HPL hFW hal h hd ihk hF
  obtain ⟨p, hp⟩ : ∃ p, p = plainT x := ⟨_, rfl⟩
  rw [← hp]
  cases p
  · have HX : Hid (r = -1) := Lib.hid (by rw [HR.out]; exact srt_bad ds hp.symm)
    clear hp
    go_wp2
    go_ret
    exact ⟨ret_int (by rw [HX.out]), HAL.out⟩
  have HP := Lib.hid hp.symm
  clear hp
  have har := plainT_many HP.out
  have har3 := arity_le x.op
  by_cases k0 : x.kids.length = 0
  · rcases arity_none (op := x.op) (by omega) with q20 | q21 | q24
    · have HX : Hid (r = if vecB x.a x.b = true then x.a else -1) := Lib.hid (by rw [HR.out]; exact srt_vec ds HP.out q20 k0)
      have HV := Lib.hid (specVecOk_any x.a x.b w1)
      rw [q20] at v0
      clear har har3 q20 k0
      obtain ⟨q, hq⟩ : ∃ q, q = vecB x.a x.b := ⟨_, rfl⟩
      rw [← hq] at HX HV
      clear hq
      go_wp2_with fail
      refine HV.out.mono ?_
      rintro e w2 ⟨rfl, hb2⟩
      have HAL := Lib.hid (bthen HAL.out hb2)
      have v1 := (hb2.cell hsz).trans v1
      clear hb2
      cases q
      · go_wp2
        go_ret
        exact ⟨ret_int (by rw [HX.out]; rfl), HAL.out⟩
      · go_wp2
        go_ret
        exact ⟨ret_int (by rw [HX.out]; rfl), HAL.out⟩
    · have HX : Hid (r = nameK ds x.name) := Lib.hid (by rw [HR.out]; exact srt_name ds HP.out q21 k0)
      have HV := Lib.hid (l2Find_any B d ds x.name F w1 HD.out hd4)
      have HN := Lib.hid (nameK_fN ds x.name 0)
      rw [q21] at v0
      clear har har3 q21 k0
      obtain ⟨q, hq⟩ : ∃ q, q = fN 0 ds x.name := ⟨_, rfl⟩
      rw [← hq] at HN HV
      clear hq
      go_wp2_with fail
      refine HV.out.mono ?_
      rintro e w2 ⟨rfl, rfl⟩
      by_cases hq : q < 0
      · have HX : Hid (r = -1) := Lib.hid (by rw [HX.out]; exact HN.out.1 hq)
        go_wp2
        go_ret
        exact ⟨ret_int (by rw [HX.out]), HAL.out⟩
      · obtain ⟨j, hj, e9, e2⟩ := HN.out.2 (by omega)
        have HX : Hid (r = ds[j].wide) := Lib.hid (by rw [HX.out]; exact e2)
        have e1 : q = (j : Int) := by omega
        clear e9
        subst e1
        obtain ⟨ad, rfl, hf, c1, c2⟩ := HD.out.at_decl hj
        have hj1 : (j : Int) < ds.length := by omega
        clear e2 hq
        go_wp2
        go_ret
        exact ⟨ret_int (by rw [HX.out]), HAL.out⟩
    · have HX : Hid (r = 0) := Lib.hid (by rw [HR.out]; exact srt_true ds HP.out q24 k0)
      rw [q24] at v0
      clear har har3 q24 k0
      go_wp2
      go_ret
      exact ⟨ret_int (by rw [HX.out]), HAL.out⟩
  obtain ⟨n20, n21, n24⟩ := arity_some (op := x.op) (by omega)
  have g20 : (x.op == 20) = false := by simpa using n20
  have g21 : (x.op == 21) = false := by simpa using n21
  have g24 : (x.op == 24) = false := by simpa using n24
  clear n20 n21 n24
  have hp0 : 0 < x.kids.length := by omega
  obtain ⟨ad, A1, c9, rfl, hf, c1, c2, c3, c4, c5, hcc, hkk⟩ := H.out.at_term hp0
  rw [show ad.add (0 * 5) = ad from rfl] at c1 c2 c3 c4 c5
  have HI := Lib.hid (HIK.out _ (List.getElem_mem hp0) A1 B c9 d F w1 hkk HD.out hF1)
  have hsb := srt_bounds hw x.kids[0]
  have hp1 : (0 : Int) < x.kids.length := by omega
  obtain ⟨s0, hs0⟩ : ∃ s, s = srt ds x.kids[0] := ⟨_, rfl⟩
  rw [← hs0] at HI hsb
  have HS0 := Lib.hid hs0
  clear hs0 hkk
  go_wp2_with fail
  refine HI.out.mono ?_
  rintro e w2 ⟨rfl, hb2⟩
  have H := Lib.hid (H.out.below hb2 hF1)
  have HD := Lib.hid (HD.out.below hb2 hF1)
  have hF2 : ∀ b, F b → b < w2.heap.size := fun b hb => Nat.lt_of_lt_of_le (hF1 b hb) hb2.size
  have v0 := (hb2.cell hsz).trans v0
  have v1 := (hb2.cell hsz).trans v1
  have v2 := (hb2.cell hsz).trans v2
  have v3 := (hb2.cell hsz).trans v3
  have v4 := (hb2.cell hsz).trans v4
  have hsz2 : w.heap.size < w2.heap.size := Nat.lt_of_lt_of_le hsz hb2.size
  have HAL := Lib.hid (bthen HAL.out hb2)
  clear hb2 HI c1 c2 c3 c4 c5 hcc hf hsz
  by_cases k1 : x.kids.length = 1
  · have HX : Hid (r = oneK x.op x.a x.b s0) := Lib.hid (by rw [HR.out, HS0.out]; exact srt_one ds HP.out k1)
    have HC := Lib.hid (l2One_any x.op x.a x.b s0 x.name (some ad) x.kids.length c w2 hsb)
    rw [← HX.out] at HC
    have gk : ((x.kids.length : Int) == 1) = true := by rw [k1]; rfl
    clear k0 k1 har har3 hp1
    go_wp2_with fail
    refine HC.out.mono ?_
    rintro e w3 ⟨rfl, hb3⟩
    have HAL := Lib.hid (bthen HAL.out hb3)
    go_wp2
    go_ret
    exact ⟨rfl, HAL.out⟩
  have gk1 : ((x.kids.length : Int) == 1) = false := by simp; omega
  have hq0 : 1 < x.kids.length := by omega
  obtain ⟨ad', A1', c9', had, hf, c1, c2, c3, c4, c5, hcc, hkk⟩ := H.out.at_term hq0
  cases had
  rw [show ad.add (1 * 5) = ⟨ad.block, ad.off + 5, none⟩ from rfl] at c1 c2 c3 c4 c5
  dsimp only at c2 c3 c4 c5
  have HI := Lib.hid (HIK.out _ (List.getElem_mem hq0) A1' B c9' d F w2 hkk HD.out hF2)
  have hsb1 := srt_bounds hw x.kids[1]
  have hq1 : (1 : Int) < x.kids.length := by omega
  obtain ⟨s1, hs1⟩ : ∃ s, s = srt ds x.kids[1] := ⟨_, rfl⟩
  rw [← hs1] at HI hsb1
  have HS1 := Lib.hid hs1
  clear hs1 hkk
  go_wp2_with fail
  refine HI.out.mono ?_
  rintro e w3 ⟨rfl, hb3⟩
  have H := Lib.hid (H.out.below hb3 hF2)
  have HD := Lib.hid (HD.out.below hb3 hF2)
  have hF3 : ∀ b, F b → b < w3.heap.size := fun b hb => Nat.lt_of_lt_of_le (hF2 b hb) hb3.size
  have v0 := (hb3.cell hsz2).trans v0
  have v4 := (hb3.cell hsz2).trans v4
  have hsz3 : w.heap.size < w3.heap.size := Nat.lt_of_lt_of_le hsz2 hb3.size
  have HAL := Lib.hid (bthen HAL.out hb3)
  clear hb3 HI c1 c2 c3 c4 c5 hcc hf hsz2 v1 v2 v3
  by_cases k2 : x.kids.length = 2
  · have HX : Hid (r = bothK x.op s0 s1) := Lib.hid (by rw [HR.out, HS0.out, HS1.out]; exact srt_two ds HP.out k2)
    have HC := Lib.hid (l2Both_any x.op s0 s1 w3 hsb hsb1)
    rw [← HX.out] at HC
    have gk : ((x.kids.length : Int) == 2) = true := by rw [k2]; rfl
    clear k0 k1 k2 har har3 hp1 hq1
    go_wp2_with fail
    refine HC.out.mono ?_
    rintro e w4 ⟨rfl, rfl⟩
    go_wp2
    go_ret
    exact ⟨rfl, HAL.out⟩
  have gk2 : ((x.kids.length : Int) == 2) = false := by simp; omega
  have k3 : x.kids.length = 3 := by omega
  have HX : Hid (r = threeK s0 s1 (srt ds x.kids[2])) := Lib.hid (by rw [HR.out, HS0.out, HS1.out]; exact srt_three ds HP.out k3)
  by_cases q0 : s0 = 0
  rotate_left
  · have HX : Hid (r = -1) := Lib.hid (by rw [HX.out]; exact if_neg q0)
    have g0 : (s0 != 0) = true := by simpa using q0
    clear k0 k1 k2 hp1 hq1 q0
    go_wp2
    go_ret
    exact ⟨ret_int (by rw [HX.out]), HAL.out⟩
  have hr0 : 2 < x.kids.length := by omega
  obtain ⟨ad', A1', c9', had, hf, c1, c2, c3, c4, c5, hcc, hkk⟩ := H.out.at_term hr0
  cases had
  rw [show ad.add (2 * 5) = ⟨ad.block, ad.off + 10, none⟩ from rfl] at c1 c2 c3 c4 c5
  dsimp only at c2 c3 c4 c5
  have HI := Lib.hid (HIK.out _ (List.getElem_mem hr0) A1' B c9' d F w3 hkk HD.out hF3)
  have hr1 : (2 : Int) < x.kids.length := by omega
  obtain ⟨s2, hs2⟩ : ∃ s, s = srt ds x.kids[2] := ⟨_, rfl⟩
  rw [← hs2] at HI HX
  have HX : Hid (r = if s1 = s2 then s1 else -1) := Lib.hid (by rw [HX.out]; exact if_pos q0)
  clear hs2 hkk
  subst q0
  go_wp2_with fail
  refine HI.out.mono ?_
  rintro e w4 ⟨rfl, hb4⟩
  have HAL := Lib.hid (bthen HAL.out hb4)
  clear hb4 HI
  by_cases q1 : s1 = s2
  · have HX : Hid (r = s1) := Lib.hid (by rw [HX.out]; exact if_pos q1)
    have g1 : (s1 != s2) = false := by simpa using q1
    clear q1
    go_wp2
    go_ret
    exact ⟨ret_int (by rw [HX.out]), HAL.out⟩
  · have HX : Hid (r = -1) := Lib.hid (by rw [HX.out]; exact if_neg q1)
    have g1 : (s1 != s2) = true := by simpa using q1
    clear q1
    go_wp2
    go_ret
    exact ⟨ret_int (by rw [HX.out]), HAL.out⟩
set_option maxRecDepth 100000 in
set_option maxHeartbeats 4000000 in
theorem specTermSort_any (ds : List D) (x : T) (ho : T.All okT2 x) (hn : okNames ds) (hd4 : ds.length ≤ 9223372036854775807) (A B : Option Addr) (c d : Nat) (F : Nat → Prop) (w : World) (h : Lay.term.Sl w F A x.kids) (hd : Lay.decl.Sl w F B ds) (hF : ∀ b, F b → b < w.heap.size) (hc : ds.length ≤ d) :
    Calls Tryz.prog 68 #[.slice B ds.length d, .agg #[.int .i64 x.op, .int .i64 x.a, .int .i64 x.b, .string x.name, .slice A x.kids.length c]] w fun e w' => e = .returned (.int .i64 (tsort ds x)) ∧ Below w.heap.size w w' := by
  have hal : Below w.heap.size w (w.alloc (.cells #[.int .i64 x.op, .int .i64 x.a, .int .i64 x.b, .string x.name, .slice A x.kids.length c] 48)) := (Below.refl _ _).alloc (Nat.le_refl _) _
  have hFW : ∀ b, F b → b < (w.alloc (.cells #[.int .i64 x.op, .int .i64 x.a, .int .i64 x.b, .string x.name, .slice A x.kids.length c] 48)).heap.size := fun b hb => Nat.lt_of_lt_of_le (hF b hb) hal.size
  have H := Lib.hid (h.below hal hF)
  have HD := Lib.hid (hd.below hal hF)
  have HM := Lib.hid (specMany_any x ho A c F _ H.out hFW)
  have HN := Lib.hid hn
  have HB := Lib.hid (heap_alloc_new w (.cells #[.int .i64 x.op, .int .i64 x.a, .int .i64 x.b, .string x.name, .slice A x.kids.length c] 48))
  obtain ⟨r, hr⟩ : ∃ r, r = tsort ds x := ⟨_, rfl⟩
  rw [← hr]
  have HR := Lib.hid hr
  clear hr h hd
  have HAL := Lib.hid hal
  obtain ⟨m1, m2, m3, m4⟩ := T.many_one x
  have m5 : x.many.1 ≤ 20 → x.many.2 ≤ 7 := fun h => by
    rw [T.many_eq] at h ⊢
    split at h
    · rw [if_pos (by assumption)]; dsimp only; omega
    · dsimp only at h; omega
  obtain ⟨q, hq⟩ : ∃ q, q = x.many := ⟨_, rfl⟩
  rw [← hq] at HM m1 m2 m3 m4 m5
  have HQ := Lib.hid hq
  clear hq
  go_enter Tryz.func68, Tryz.ntmps68
  go_wp2_with fail
  generalize w.alloc (.cells #[.int .i64 x.op, .int .i64 x.a, .int .i64 x.b, .string x.name, .slice A x.kids.length c] 48) = W at *
  refine HM.out.mono ?_
  rintro e w1 ⟨rfl, hb1⟩
  have H := Lib.hid (H.out.below hb1 hFW)
  have HD := Lib.hid (HD.out.below hb1 hFW)
  have hF1 : ∀ b, F b → b < w1.heap.size := fun b hb => Nat.lt_of_lt_of_le (hFW b hb) hb1.size
  have HB := Lib.hid ((hb1.block _ (lt_of_block HB.out)).trans HB.out)
  have HAL := Lib.hid (bthen HAL.out hb1)
  have HC := Lib.hid (specDeclOk_any B d ds F w1 HD.out hF1 hd4 HN.out hc)
  clear hb1 hFW hal hF HM HN
  obtain ⟨p, hp⟩ : ∃ p, p = declOk ds := ⟨_, rfl⟩
  rw [← hp] at HC
  go_wp2_with fail
  refine HC.out.mono ?_
  rintro e w2 ⟨rfl, hb2⟩
  have HB := Lib.hid ((hb2.block _ (lt_of_block HB.out)).trans HB.out)
  have HAL := Lib.hid (bthen HAL.out hb2)
  cases p
  · have HX : Hid (r = -1) := Lib.hid (by rw [HR.out]; exact if_neg (fun h9 => by rw [← hp] at h9; simp at h9))
    clear hp
    go_wp2
    go_ret
    exact ⟨ret_int (by rw [HX.out]), HAL.out⟩
  by_cases hq : q.1 ≤ 20
  · have hq2 := m5 hq
    have HX : Hid (r = srt ds x) := Lib.hid (by rw [HR.out]; exact if_pos ⟨hp.symm, by rw [← HQ.out]; exact hq⟩)
    have HS := Lib.hid (specSort_any ds (fun y hy => (declOk_facts hp.symm).2.1 y hy |>.2) hd4 x ho A B c d F w2 (H.out.below hb2 hF1) (HD.out.below hb2 hF1) (fun b hb => Nat.lt_of_lt_of_le (hF1 b hb) hb2.size))
    rw [← HX.out] at HS
    have v0 := (cell_of_block HB.out 0).1
    have v1 := (cell_of_block HB.out 1).1
    have v2 := (cell_of_block HB.out 2).1
    have v3 := (cell_of_block HB.out 3).1
    have v4 := (cell_of_block HB.out 4).1
    clear hp m5 hb2
    go_wp2_with fail
    refine HS.out.mono ?_
    rintro e w3 ⟨rfl, hb3⟩
    have HAL := Lib.hid (bthen HAL.out hb3)
    go_wp2
    go_ret
    exact ⟨rfl, HAL.out⟩
  · have HX : Hid (r = -1) := Lib.hid (by rw [HR.out]; exact if_neg (fun h9 => hq (by rw [HQ.out]; exact h9.2)))
    have hq9 : 20 < q.1 := by omega
    clear hp m5
    go_wp2
    go_ret
    exact ⟨ret_int (by rw [HX.out]), HAL.out⟩
end Go.Proofs.YtiahmfpfimmbgaaGreatDoor
