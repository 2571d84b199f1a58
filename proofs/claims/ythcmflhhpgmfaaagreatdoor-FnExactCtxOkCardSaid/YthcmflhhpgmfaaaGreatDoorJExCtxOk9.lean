/- FnExactCtxOk: the program's CtxOk says of any context what the reference's says, and leaves it as it was. -/
import Derived.Test.YthcmflhhpgmfaaaGreatDoorRows
import Derived.Test.YthcmflhhpgmfaaaGreatDoorTie
import Derived.Test.YthcmflhhpgmfaaaGreatDoorCards
import Derived.ProofKit
import Derived.OpenShut
import Derived.LaidMore
import Derived.Lay
import Derived.LaidOnce
import Derived.SevenTiedAt
import Derived.Stop.Joined
import Derived.Test.YthcmflhhpgmfaaaGreatDoorJExCtxOk2
import Derived.Test.YthcmflhhpgmfaaaGreatDoorJExCtxOk8
/-! Contracts of the laws' comparisons: eqDeclS, eqTermS, eqLayerS. -/
namespace Go.Proofs.YthcmflhhpgmfaaaGreatDoor
open Go Go.RowKit

theorem eqDecl_any (x y : D) (w : World) :
    Calls Tryz.prog 50 #[.agg #[.string x.name, .int .i64 x.wide], .agg #[.string y.name, .int .i64 y.wide]] w fun e w' => e = .returned (.bool (D.same x y)) ∧ Below w.heap.size w w' := by
  go_enter Tryz.func50, Tryz.ntmps50
  go_wp2
  all_goals
    go_ret
    refine ⟨ret_bool ?_, ((Below.refl _ _).alloc (Nat.le_refl _) _).alloc (by simp) _⟩
    simp_all [D.same]

set_option maxHeartbeats 1000000 in
theorem eqDeclS_any (A B : Option Addr) (c d : Nat) (xs ys : List D) (F G' : Nat → Prop) (w : World) (h : Lay.decl.Sl w F A xs) (h' : Lay.decl.Sl w G' B ys) (hF : ∀ b, F b → b < w.heap.size) (hG : ∀ b, G' b → b < w.heap.size) (hn : xs.length ≤ 1048576) (hn' : ys.length ≤ 1048576) :
    Calls Tryz.prog 17 #[.slice A xs.length c, .slice B ys.length d] w fun e w' => e = .returned (.bool (allSame D.same xs ys)) ∧ Below w.heap.size w w' := by
  by_cases hl : xs.length = ys.length
  · have hne := ne_len hl
    have HL := Lib.hid hl
    clear hl
    go_enter Tryz.func17, Tryz.ntmps17
    go_wp2
    clear hne
    go_loopw [5] (fun i wr => ∃ k : Nat, k ≤ xs.length ∧ i = .int .i64 k ∧ Below w.heap.size w wr ∧ allSame D.same xs ys = allSame D.same (xs.drop k) (ys.drop k)) (fun i _ => xs.length - (intOf i).toNat)
    case atStart => exact ⟨0, Nat.zero_le _, rfl, Below.refl _ _, by simp⟩
    case round =>
      obtain ⟨k, hk, rfl, hb, ht⟩ := hrel
      have HT := Lib.hid ht
      clear ht
      by_cases hlt : k < xs.length
      · have hlt' : k < ys.length := by have := HL.out; omega
        have hFr : ∀ b, F b → b < wr.heap.size := fun b hb' => Nat.lt_of_lt_of_le (hF b hb') hb.size
        have hGr : ∀ b, G' b → b < wr.heap.size := fun b hb' => Nat.lt_of_lt_of_le (hG b hb') hb.size
        obtain ⟨ad, rfl, hf, c1, c2⟩ := (h.below hb hF).at_decl hlt
        obtain ⟨ad', rfl, hf', c1', c2'⟩ := (h'.below hb hG).at_decl hlt'
        have d1 := Later.cell c1
        have d2 := Later.cell c2
        have d1' := Later.cell c1'
        have d2' := Later.cell c2'
        have hk0 : (0 : Int) ≤ k := by omega
        have hk1 : (k : Int) < xs.length := by omega
        have hk2 : (k : Int) < ys.length := by omega
        have HX := Lib.hid (allSame_yes (b := D.same xs[k] ys[k]) HT.out hlt hlt' rfl)
        generalize hxy : D.same xs[k] ys[k] = q at *
        have HQ := Lib.hid hxy
        clear hxy h h'
        go_wp2
        refine wp_region_later (by kernel_rfl) (by kernel_rfl) ?_
        repeat (go_big_quiet_step ((go_at_call 50; exact later_of_below (eqDecl_any xs[k] ys[k] _))))
        refine wpQuiet_nil ?_
        rintro _ ⟨x, rfl⟩
        rw [HQ.out]
        cases q
        · go_wp2
          go_ret
          exact ⟨ret_bool (by rw [HX.out]; rfl), bthen hb x.le⟩
        · go_wp2
          go_roundw
          case rel => exact ⟨k + 1, by omega, by go_num, bthen hb x.le, by rw [HX.out]; simp⟩
          case measure => simp [intOf]; omega
      · have hke : k = xs.length := by omega
        subst hke
        have HE := Lib.hid (allSame_end HT.out HL.out)
        go_wp2
        go_ret
        exact ⟨ret_bool (by rw [HE.out]), hb⟩
  · have hne : (((xs.length : Int) != (ys.length : Int))) = true := by simp; omega
    have HE := Lib.hid (allSame_len (f := D.same) hl)
    go_enter Tryz.func17, Tryz.ntmps17
    go_wp2
    go_ret
    exact ⟨ret_bool (by rw [HE.out]), Below.refl _ _⟩

/-- What the comparison of two terms gives. -/
def EqT (f : FuncId) (x : T) : Prop := ∀ (y : T) (A B : Option Addr) (c d : Nat) (F G' : Nat → Prop) (w : World), Lay.term.Sl w F A x.kids → Lay.term.Sl w G' B y.kids → (∀ b, F b → b < w.heap.size) → (∀ b, G' b → b < w.heap.size) → T.All okT2 y →
  Calls Tryz.prog f #[.agg #[.int .i64 x.op, .int .i64 x.a, .int .i64 x.b, .string x.name, .slice A x.kids.length c], .agg #[.int .i64 y.op, .int .i64 y.a, .int .i64 y.b, .string y.name, .slice B y.kids.length d]] w fun e w' => e = .returned (.bool (T.same x y)) ∧ Below w.heap.size w w'
theorem T.same_eq (x y : T) : T.same x y = (x.op == y.op && x.a == y.a && x.b == y.b && x.name.toList == y.name.toList && allSame T.same x.kids y.kids) := by
  cases x; cases y; simp [T.same, T.sameL_all, T.op, T.a, T.b, T.name, T.kids]

set_option maxHeartbeats 1000000 in
theorem eqTermS_any (A B : Option Addr) (c d : Nat) (xs ys : List T) (F G' : Nat → Prop) (w : World) (h : Lay.term.Sl w F A xs) (h' : Lay.term.Sl w G' B ys) (hF : ∀ b, F b → b < w.heap.size) (hG : ∀ b, G' b → b < w.heap.size) (hn : xs.length ≤ 1048576) (hn' : ys.length ≤ 1048576) (ho : ∀ t ∈ xs, EqT 39 t) (ho' : ∀ t ∈ ys, T.All okT2 t) :
    Calls Tryz.prog 23 #[.slice A xs.length c, .slice B ys.length d] w fun e w' => e = .returned (.bool (allSame T.same xs ys)) ∧ Below w.heap.size w w' := by
  by_cases hl : xs.length = ys.length
  · have hne := ne_len hl
    have HL := Lib.hid hl
    clear hl
    go_enter Tryz.func23, Tryz.ntmps23
    go_wp2
    clear hne
    go_loopw [5] (fun i wr => ∃ k : Nat, k ≤ xs.length ∧ i = .int .i64 k ∧ Below w.heap.size w wr ∧ allSame T.same xs ys = allSame T.same (xs.drop k) (ys.drop k)) (fun i _ => xs.length - (intOf i).toNat)
    case atStart => exact ⟨0, Nat.zero_le _, rfl, Below.refl _ _, by simp⟩
    case round =>
      obtain ⟨k, hk, rfl, hb, ht⟩ := hrel
      have HT := Lib.hid ht
      clear ht
      by_cases hlt : k < xs.length
      · have hlt' : k < ys.length := by have := HL.out; omega
        have hFr : ∀ b, F b → b < wr.heap.size := fun b hb' => Nat.lt_of_lt_of_le (hF b hb') hb.size
        have hGr : ∀ b, G' b → b < wr.heap.size := fun b hb' => Nat.lt_of_lt_of_le (hG b hb') hb.size
        obtain ⟨ad, A1, c9, rfl, hf, c1, c2, c3, c4, c5, hcc, hkk⟩ := (h.below hb hF).at_term hlt
        obtain ⟨ad', A1', c9', rfl, hf', c1', c2', c3', c4', c5', hcc', hkk'⟩ := (h'.below hb hG).at_term hlt'
        have d1 := Later.cell c1
        have d2 := Later.cell c2
        have d3 := Later.cell c3
        have d4 := Later.cell c4
        have d5 := Later.cell c5
        have d1' := Later.cell c1'
        have d2' := Later.cell c2'
        have d3' := Later.cell c3'
        have d4' := Later.cell c4'
        have d5' := Later.cell c5'
        have hk0 : (0 : Int) ≤ k := by omega
        have hk1 : (k : Int) < xs.length := by omega
        have hk2 : (k : Int) < ys.length := by omega
        have HX := Lib.hid (allSame_yes (b := T.same xs[k] ys[k]) HT.out hlt hlt' rfl)
        generalize hxy : T.same xs[k] ys[k] = q at *
        have HQ := Lib.hid hxy
        clear hxy h h'
        go_wp2
        refine wp_region_later (by kernel_rfl) (by kernel_rfl) ?_
        repeat (go_big_quiet_step ((go_at_call 39; exact later_of_below (ho xs[k] (List.getElem_mem _) ys[k] A1 A1' c9 c9' F G' _ (hkk.below (Later.le _) hFr) (hkk'.below (Later.le _) hGr) (fun b hb' => Nat.lt_of_lt_of_le (hFr b hb') (Later.le _).size) (fun b hb' => Nat.lt_of_lt_of_le (hGr b hb') (Later.le _).size) (ho' _ (List.getElem_mem _))))))
        refine wpQuiet_nil ?_
        rintro _ ⟨x, rfl⟩
        rw [HQ.out]
        cases q
        · go_wp2
          go_ret
          exact ⟨ret_bool (by rw [HX.out]; rfl), bthen hb x.le⟩
        · go_wp2
          go_roundw
          case rel => exact ⟨k + 1, by omega, by go_num, bthen hb x.le, by rw [HX.out]; simp⟩
          case measure => simp [intOf]; omega
      · have hke : k = xs.length := by omega
        subst hke
        have HE := Lib.hid (allSame_end HT.out HL.out)
        go_wp2
        go_ret
        exact ⟨ret_bool (by rw [HE.out]), hb⟩
  · have hne : (((xs.length : Int) != (ys.length : Int))) = true := by simp; omega
    have HE := Lib.hid (allSame_len (f := T.same) hl)
    go_enter Tryz.func23, Tryz.ntmps23
    go_wp2
    go_ret
    exact ⟨ret_bool (by rw [HE.out]), Below.refl _ _⟩

set_option maxHeartbeats 1000000 in
theorem eqTerm_any (x : T) (ho : T.All okT2 x) : EqT 39 x := by
  revert ho
  refine T.ind (p := fun x => T.All okT2 x → EqT _ x) (fun x ih ho => ?_) x
  obtain ⟨hkl, _⟩ := ho.here
  have ihk : ∀ k ∈ x.kids, EqT 39 k := fun k hk => ih k hk (ho.kid k hk)
  clear ih ho
  intro y A B c d F G' w h h' hF hG hoy
  obtain ⟨hkl', _⟩ := hoy.here
  have hw2 : Below w.heap.size w ((w.alloc (.cells #[.int .i64 x.op, .int .i64 x.a, .int .i64 x.b, .string x.name, .slice A x.kids.length c] 53)).alloc (.cells #[.int .i64 y.op, .int .i64 y.a, .int .i64 y.b, .string y.name, .slice B y.kids.length d] 53)) :=
    ((Below.refl _ _).alloc (Nat.le_refl _) _).alloc (by simp) _
  have H := h.below hw2 hF
  have H' := h'.below hw2 hG
  have HS := Lib.hid (T.same_eq x y)
  go_enter Tryz.func39, Tryz.ntmps39
  go_wp2_with (go_at_call 23; refine (eqTermS_any A B c d x.kids y.kids F G' _ H H' (fun b hb => by have := hF b hb; simp; omega) (fun b hb => by have := hG b hb; simp; omega) hkl hkl' ihk hoy.kid).mono ?_; rintro e w' ⟨rfl, hb⟩)
  all_goals
    go_ret
    refine ⟨ret_bool (by rw [HS.out]; simp_all), ?_⟩
    first
      | exact hw2
      | exact bthen hw2 hb

/-- What the comparison of two layers gives. -/
def EqL (f : FuncId) : Prop := ∀ (x y : Ly) (A1 B1 A2 B2 : Option Addr) (c1 d1 c2 d2 : Nat) (F G' : Nat → Prop) (w : World), Lay.decl.Sl w F A1 x.ds → Lay.term.Sl w F B1 x.ts → Lay.decl.Sl w G' A2 y.ds → Lay.term.Sl w G' B2 y.ts →
  (∀ b, F b → b < w.heap.size) → (∀ b, G' b → b < w.heap.size) → okL2 x → okL2 y →
  Calls Tryz.prog f #[.agg #[.slice A1 x.ds.length c1, .slice B1 x.ts.length d1], .agg #[.slice A2 y.ds.length c2, .slice B2 y.ts.length d2]] w fun e w' => e = .returned (.bool (Ly.same x y)) ∧ Below w.heap.size w w'
set_option maxHeartbeats 1000000 in
theorem eqLayer_any : EqL 49 := by
  intro x y A1 B1 A2 B2 c1 d1 c2 d2 F G' w hA1 hB1 hA2 hB2 hF hG ⟨x1, x2, x3⟩ ⟨y1, y2, y3⟩
  have hot : ∀ t ∈ x.ts, EqT 39 t := fun t ht => eqTerm_any t (x3 t ht)
  have hw2 : Below w.heap.size w ((w.alloc (.cells #[.slice A1 x.ds.length c1, .slice B1 x.ts.length d1] 64)).alloc (.cells #[.slice A2 y.ds.length c2, .slice B2 y.ts.length d2] 64)) :=
    ((Below.refl _ _).alloc (Nat.le_refl _) _).alloc (by simp) _
  have HS := Lib.hid (show Ly.same x y = (allSame D.same x.ds y.ds && allSame T.same x.ts y.ts) from rfl)
  have hF2 : ∀ b, F b → b < ((w.alloc (.cells #[.slice A1 x.ds.length c1, .slice B1 x.ts.length d1] 64)).alloc (.cells #[.slice A2 y.ds.length c2, .slice B2 y.ts.length d2] 64)).heap.size := fun b hb => Nat.lt_of_lt_of_le (hF b hb) hw2.size
  have hG2 : ∀ b, G' b → b < ((w.alloc (.cells #[.slice A1 x.ds.length c1, .slice B1 x.ts.length d1] 64)).alloc (.cells #[.slice A2 y.ds.length c2, .slice B2 y.ts.length d2] 64)).heap.size := fun b hb => Nat.lt_of_lt_of_le (hG b hb) hw2.size
  generalize hq : allSame D.same x.ds y.ds = q at *
  have HQ := Lib.hid hq
  clear x3 hq
  go_enter Tryz.func49, Tryz.ntmps49
  go_wp2_with fail
  refine (eqDeclS_any A1 A2 c1 c2 x.ds y.ds F G' _ (hA1.below hw2 hF) (hA2.below hw2 hG) hF2 hG2 x1 y1).mono ?_
  rw [HQ.out]
  rintro e w3 ⟨rfl, hb⟩
  have hbb := bthen hw2 hb
  obtain ⟨hcc, hff⟩ := bcell hb
  have k1 : w3.cell? ⟨w.heap.size, 1, none⟩ = some (.slice B1 x.ts.length d1) := (hcc _ _ (by simp <;> omega)).trans (by simp [go_sem])
  have k2 : w3.cell? ⟨w.heap.size + 1, 1, none⟩ = some (.slice B2 y.ts.length d2) := (hcc _ _ (by simp <;> omega)).trans (by simp [go_sem])
  clear hcc hff
  cases q
  · go_wp2
    go_ret
    exact ⟨ret_bool (by rw [HS.out]; rfl), hbb⟩
  · go_wp2_with fail
    refine (eqTermS_any B1 B2 d1 d2 x.ts y.ts F G' _ (hB1.below hbb hF) (hB2.below hbb hG) (fun b hb => Nat.lt_of_lt_of_le (hF b hb) hbb.size) (fun b hb => Nat.lt_of_lt_of_le (hG b hb) hbb.size) x2 y2 hot y3).mono ?_
    generalize hq2 : allSame T.same x.ts y.ts = q2 at *
    have HQ2 := Lib.hid hq2
    clear hq2
    rintro e w4 ⟨rfl, hb4⟩
    have hbc := bthen hbb hb4
    cases q2
    all_goals
      go_wp2
      go_ret
      exact ⟨ret_bool (by rw [HS.out]; rfl), hbc⟩

set_option maxHeartbeats 1000000 in
theorem eqLayerS_any (A B : Option Addr) (c d : Nat) (xs ys : List Ly) (F G' : Nat → Prop) (w : World) (h : Lay.layer.Sl w F A xs) (h' : Lay.layer.Sl w G' B ys) (hF : ∀ b, F b → b < w.heap.size) (hG : ∀ b, G' b → b < w.heap.size) (hn : xs.length ≤ 1048576) (hn' : ys.length ≤ 1048576) (ho : ∀ t ∈ xs, okL2 t) (ho' : ∀ t ∈ ys, okL2 t) :
    Calls Tryz.prog 14 #[.slice A xs.length c, .slice B ys.length d] w fun e w' => e = .returned (.bool (allSame Ly.same xs ys)) ∧ Below w.heap.size w w' := by
  by_cases hl : xs.length = ys.length
  · have hne := ne_len hl
    have HL := Lib.hid hl
    clear hl
    go_enter Tryz.func14, Tryz.ntmps14
    go_wp2
    clear hne
    go_loopw [5] (fun i wr => ∃ k : Nat, k ≤ xs.length ∧ i = .int .i64 k ∧ Below w.heap.size w wr ∧ allSame Ly.same xs ys = allSame Ly.same (xs.drop k) (ys.drop k)) (fun i _ => xs.length - (intOf i).toNat)
    case atStart => exact ⟨0, Nat.zero_le _, rfl, Below.refl _ _, by simp⟩
    case round =>
      obtain ⟨k, hk, rfl, hb, ht⟩ := hrel
      have HT := Lib.hid ht
      clear ht
      by_cases hlt : k < xs.length
      · have hlt' : k < ys.length := by have := HL.out; omega
        have hFr : ∀ b, F b → b < wr.heap.size := fun b hb' => Nat.lt_of_lt_of_le (hF b hb') hb.size
        have hGr : ∀ b, G' b → b < wr.heap.size := fun b hb' => Nat.lt_of_lt_of_le (hG b hb') hb.size
        obtain ⟨ad, A1, p1, A2, p2, rfl, hf, c1, c2, hl1, hl2, s1, s2⟩ := (h.below hb hF).at_layer hlt
        obtain ⟨ad', A1', p1', A2', p2', rfl, hf', c1', c2', hl1', hl2', s1', s2'⟩ := (h'.below hb hG).at_layer hlt'
        have d1 := Later.cell c1
        have d2 := Later.cell c2
        have d1' := Later.cell c1'
        have d2' := Later.cell c2'
        have hk0 : (0 : Int) ≤ k := by omega
        have hk1 : (k : Int) < xs.length := by omega
        have hk2 : (k : Int) < ys.length := by omega
        have HX := Lib.hid (allSame_yes (b := Ly.same xs[k] ys[k]) HT.out hlt hlt' rfl)
        generalize hxy : Ly.same xs[k] ys[k] = q at *
        have HQ := Lib.hid hxy
        clear hxy h h'
        go_wp2
        refine wp_region_later (by kernel_rfl) (by kernel_rfl) ?_
        repeat (go_big_quiet_step ((go_at_call 49; exact later_of_below (eqLayer_any xs[k] ys[k] A1 A2 A1' A2' p1 p2 p1' p2' F G' _ (s1.below (Later.le _) hFr) (s2.below (Later.le _) hFr) (s1'.below (Later.le _) hGr) (s2'.below (Later.le _) hGr) (fun b hb' => Nat.lt_of_lt_of_le (hFr b hb') (Later.le _).size) (fun b hb' => Nat.lt_of_lt_of_le (hGr b hb') (Later.le _).size) (ho _ (List.getElem_mem _)) (ho' _ (List.getElem_mem _))))))
        refine wpQuiet_nil ?_
        rintro _ ⟨x, rfl⟩
        rw [HQ.out]
        cases q
        · go_wp2
          go_ret
          exact ⟨ret_bool (by rw [HX.out]; rfl), bthen hb x.le⟩
        · go_wp2
          go_roundw
          case rel => exact ⟨k + 1, by omega, by go_num, bthen hb x.le, by rw [HX.out]; simp⟩
          case measure => simp [intOf]; omega
      · have hke : k = xs.length := by omega
        subst hke
        have HE := Lib.hid (allSame_end HT.out HL.out)
        go_wp2
        go_ret
        exact ⟨ret_bool (by rw [HE.out]), hb⟩
  · have hne : (((xs.length : Int) != (ys.length : Int))) = true := by simp; omega
    have HE := Lib.hid (allSame_len (f := Ly.same) hl)
    go_enter Tryz.func14, Tryz.ntmps14
    go_wp2
    go_ret
    exact ⟨ret_bool (by rw [HE.out]), Below.refl _ _⟩

end Go.Proofs.YthcmflhhpgmfaaaGreatDoor

/-! Contracts of the reference's TermSame and CtxSame. -/
namespace Go.Proofs.YthcmflhhpgmfaaaGreatDoor
open Go Go.RowKit

end Go.Proofs.YthcmflhhpgmfaaaGreatDoor

/-! Contracts of the program's TermSame and CtxSame. -/
namespace Go.Proofs.YthcmflhhpgmfaaaGreatDoor
open Go Go.RowKit

end Go.Proofs.YthcmflhhpgmfaaaGreatDoor

/-! Contexts as arguments: what comes in, one form for the program's and the reference's. -/
namespace Go.Proofs.YthcmflhhpgmfaaaGreatDoor
open Go Go.RowKit Go.ChangeShapes Go.WideShapes Go.ChangeAt

theorem opens_layers : Opens Tryz.prog 22 Lay.layer.slice (fun xs => xs.length ≤ maxLen ∧ ∀ x ∈ xs, okLayer x) :=
  Opens.slice Tryz.underlying22 (by kernel_rfl) (by decide)
    (Opens.layer Tryz.underlying61 (by kernel_rfl) (by kernel_rfl) (by kernel_rfl) rfl
      (Opens.slice Tryz.underlying59 (by kernel_rfl) (by decide) (Opens.decl Tryz.underlying41 (by kernel_rfl) Tryz.underlying3 (by kernel_rfl) Tryz.underlying9 (by kernel_rfl) rfl))
      (Opens.slice Tryz.underlying47 (by kernel_rfl) (by decide) (Opens.term Tryz.underlying49 (by kernel_rfl) Tryz.underlying47 (by kernel_rfl) Tryz.underlying3 (by kernel_rfl) Tryz.underlying9 (by kernel_rfl) rfl)))
theorem Ly.small (l : Ly) (h : l.w ≤ 1048576) : okL2 l := by
  unfold Ly.w at h
  obtain ⟨h1, h2⟩ := T.smallS (xs := l.ts) (by omega)
  exact ⟨by omega, h1, h2⟩
theorem Ly.smallS {xs : List Ly} (h : xs.length + wsum Ly.w xs ≤ 1048576) : xs.length ≤ 1048576 ∧ ∀ x ∈ xs, okL2 x :=
  ⟨by omega, fun x hx => Ly.small x (by have := wsum_mem Ly.w hx; omega)⟩
def okLs (c : List Ly) : Prop := c.length ≤ maxLen ∧ ∀ x ∈ c, okLayer x
theorem dsAll_w : ∀ c : List Ly, (dsAll c).length ≤ wsum Ly.w c
  | [] => by simp [dsAll, wsum]
  | l :: c => by
    have := dsAll_w c
    have e : dsAll (l :: c) = l.ds ++ dsAll c := rfl
    rw [e, List.length_append]
    simp only [wsum, Ly.w]
    omega
theorem tsAll_w : ∀ c : List Ly, (tsAll c).length ≤ wsum Ly.w c
  | [] => by simp [tsAll, wsum]
  | l :: c => by
    have := tsAll_w c
    have e : tsAll (l :: c) = l.ts ++ tsAll c := rfl
    rw [e, List.length_append]
    simp only [wsum, Ly.w]
    omega
theorem T.All.and {p q : T → Prop} {t : T} (h : T.All p t) (h' : T.All q t) : T.All (fun t => p t ∧ q t) t := by
  revert h h'
  refine T.ind (p := fun t => T.All p t → T.All q t → T.All (fun t => p t ∧ q t) t) (fun t ih h h' => ?_) t
  exact .mk t ⟨h.here, h'.here⟩ fun k hk => ih k hk (h.kid k hk) (h'.kid k hk)
/-- What the law's size gives. -/
theorem okC_of {c : List Ly} (h : okLs c) (hw : c.length + wsum Ly.w c ≤ 1048576) : okC c where
  len := by omega
  ds := by have := dsAll_w c; omega
  ts := by have := tsAll_w c; omega
  names := fun d hd => by
    obtain ⟨l, hl, hd⟩ := List.mem_flatMap.1 hd
    have := ((h.2 l hl).1.2 d hd)
    unfold okDecl at this
    unfold maxLen at this
    omega
  terms := fun t ht => by
    obtain ⟨l, hl, ht⟩ := List.mem_flatMap.1 ht
    have h1 := (h.2 l hl).2.2 t ht
    have h2 := ((Ly.smallS hw).2 l hl).2.2 t ht
    exact (T.All.and h2 h1).imp fun t h => ⟨h.1, by have := h.2.1; unfold okInt at this; omega⟩
theorem specCtxOk_u (c : List Ly) (A : Option Addr) (q : Nat) (w : World) (h : Lay.layer.Rd w A c) (hq : c.length ≤ q) (hc : okC c) :
    Calls Tryz.prog 11 #[.slice A c.length q] w (RetB w (ctxOk c)) := specCtxOk_any A q c w h hq hc
set_option maxRecDepth 100000 in
set_option maxHeartbeats 2000000 in
theorem implCtxOk_u (c : List Ly) (A : Option Addr) (q : Nat) (w : World) (h : Lay.layer.Rd w A c) (_ : c.length ≤ q) (hc : okC c) :
    Calls Tryz.prog 13 #[.slice A c.length q] w (RetB w (ctxOk c)) := by
  have HF := Lib.hid (flat_any A q c w h hc.len hc.ds hc.ts)
  have HC := Lib.hid hc
  obtain ⟨r, hr⟩ : ∃ r, r = ctxOk c := ⟨_, rfl⟩
  rw [← hr]
  have HR := Lib.hid hr
  clear hc hr
  go_enter Tryz.func13, Tryz.ntmps13
  go_wp2_with fail
  refine HF.out.mono ?_
  rintro e w1 ⟨rfl, hs, hb⟩
  have HO := Lib.hid (stackOk_any w.heap.size w.heap.size c w1 hs HC.out)
  rw [← HR.out] at HO
  clear hs
  go_wp2_with fail
  refine HO.out.mono ?_
  rintro e w2 ⟨rfl, hb2⟩
  have hb9 := bthen hb hb2
  go_wp2
  go_ret
  exact ⟨rfl, hb9⟩
end Go.Proofs.YthcmflhhpgmfaaaGreatDoor

/-! What the rows list of the library's variables: tables that the proofs do not read. -/
namespace Go.Proofs.YthcmflhhpgmfaaaGreatDoor
open Go

theorem dr_own : ownKnob Tryz.prog.godebug = none := by kernel_rfl
abbrev laidU : List (String × DataW Unit) := [("unicode/utf8.acceptRanges", Rows.laid_unicode_utf8_acceptRanges), ("unicode/utf8.first", Rows.laid_unicode_utf8_first)]
end Go.Proofs.YthcmflhhpgmfaaaGreatDoor

/-! FnExactCtxOk: the program's CtxOk says of any context what the reference's says, and leaves it as it was. -/
namespace Go.Proofs.YthcmflhhpgmfaaaGreatDoor
open Go Go.RowKit Go.ChangeShapes Go.WideShapes Go.ChangeAt

/-- A law's post: true, and below the heap as it was nothing has turned. -/
def LawT (w : World) (e : Ending) (w' : World) : Prop := e = .returned (.bool true) ∧ Below w.heap.size w w'
set_option maxRecDepth 100000 in
set_option maxHeartbeats 4000000 in
theorem fnExactCtxOk_walk {A : Option Addr} {c : Nat} {xs : List Ly} (W : World) (hcc : xs.length ≤ c) (okx : okLs xs) (hx : Lay.layer.Rd W A xs) :
    Calls Tryz.prog 3 #[.slice A xs.length c] W (LawT W) := by
  have OKX := Lib.hid okx
  obtain ⟨okx1, okx2⟩ := okx
  unfold maxLen at okx1
  have lt0 : ∀ b, b < W.heap.size → b < W.heap.size := fun _ h => h
  by_cases h1 : (1048576 : Int) < (xs.length + wsum Ly.w xs : Nat)
  · have H1 := Lib.hid (szRes_lt h1)
    go_enter Tryz.func3, Tryz.ntmps3
    go_wp2_with fail
    refine (szLayerS_any A c xs 1048576 _ _ hx lt0 okx2 (by omega) (by omega) (by omega)).mono ?_
    rw [H1.out]
    rintro e w1 ⟨rfl, hb1⟩
    go_wp2
    go_ret
    exact ⟨rfl, hb1⟩
  have H1 := Lib.hid (szRes_ge h1)
  have hn : xs.length + wsum Ly.w xs ≤ 1048576 := by omega
  obtain ⟨sx1, sx2⟩ := Ly.smallS hn
  have HOC := Lib.hid (okC_of OKX.out hn)
  have hln : (0 : Int) ≤ 1048576 - (xs.length + wsum Ly.w xs : Nat) := by omega
  generalize hnn : (1048576 : Int) - (xs.length + wsum Ly.w xs : Nat) = n at *
  clear hnn h1 hn
  go_enter Tryz.func3, Tryz.ntmps3
  go_wp2_with fail
  refine (szLayerS_any A c xs 1048576 _ _ hx lt0 okx2 (by omega) (by omega) (by omega)).mono ?_
  rw [H1.out]
  rintro e w1 ⟨rfl, hb⟩
  go_wp2_with fail
  refine (toLayerS_any A c xs _ _ (hx.up hb) (fun _ h => h) sx1 sx2).mono ?_
  rintro e w3 ⟨A1, c1, rfl, hc1, s1, hb3⟩
  have hb := bthen hb hb3
  go_wp2_with fail
  refine (specCtxOk_u xs A1 c1 w3 (s1.mono fun _ h => h.2.1) hc1 HOC.out).mono ?_
  rintro e w5 ⟨rfl, hb5⟩
  have hb := bthen hb hb5
  clear s1 hb3 hb5
  go_wp2_with fail
  refine (toLayerS_any A c xs _ _ (hx.up hb) (fun _ h => h) sx1 sx2).mono ?_
  rintro e w6 ⟨A6, c6, rfl, hc6, s6, hb6⟩
  have hb := bthen hb hb6
  go_wp2_with fail
  refine (implCtxOk_u xs A6 c6 w6 (s6.mono fun _ h => h.2.1) hc6 HOC.out).mono ?_
  rintro e w8 ⟨rfl, hb8⟩
  have hb := bthen hb hb8
  have s6 := s6.own_up hb8
  have hq : (ctxOk xs != ctxOk xs) = false := by simp
  generalize ctxOk xs = q at *
  clear hb6 hb8
  go_wp2_with fail
  refine (toLayerS_any A c xs _ _ (hx.up hb) (fun _ h => h) sx1 sx2).mono ?_
  rintro e w9 ⟨A9, c9, rfl, _, s9, hb9⟩
  have hb := bthen hb hb9
  have s6 := s6.own_up hb9
  go_wp2_with fail
  refine (eqLayerS_any A6 A9 c6 c9 xs xs _ _ _ s6 s9 (fun _ h => h.2.1) (fun _ h => h.2.1) sx1 sx1 sx2 sx2).mono ?_
  rw [allSame_self Ly.same_self]
  rintro e w10 ⟨rfl, hb10⟩
  have hb := bthen hb hb10
  go_wp2
  go_ret
  exact ⟨rfl, hb⟩

set_option maxRecDepth 100000 in
theorem fnExactCtxOk_lifted (os : Os) (started : os.Started) (H : Type) (enc : TypeId × Value → H) :
    ReturnsInHanded {} Tryz.checked os 3 .any (fun w args => (Rows.fnExactCtxOkSpec.pre enc Tryz.prog Tryz.f3 [] false w args ∧ laidMetH Tryz.prog laidU w) ∧ sizedMet enc Tryz.prog Tryz.f3 (OpenSpec.ofChange Rows.fnExactCtxOkSpec) false w args)
      (Rows.fnExactCtxOkSpec.post enc Tryz.prog Tryz.f3 false true false false) := by
  refine returnsInHanded_of_change_and (C := Tryz.checked) (X := fun w _ => laidMetH Tryz.prog laidU w) (fun _ _ _ hh h => h.of_heap hh) dr_own started (by kernel_rfl) Tryz.func3
    (ChangeSpec.witness_shaped (enc := enc) (C := Tryz.checked) (os := os) (X := fun w _ => laidMetH Tryz.prog laidU w) false (World.laidAll Tryz.prog os laidU) #[.slice none 0 0] 16 (World.laidAll_os _ _ _) (World.shaped_of_ZipB (by kernel_rfl) (by kernel_rfl)) (by kernel_rfl) (by kernel_rfl) (by kernel_rfl)
      (by rw [MakeChecks.laidMetH_plain _ _ _ (by kernel_rfl)]; exact laidMet_laidAll _ (by kernel_rfl) (by kernel_rfl))) ?_
  intro W base args ds gs before hval0 hW _ _ hL _
  have hval : ∀ (j : Nat) t v, Tryz.f3.params[j]? = some t → args[j]? = some v → Value.okWide Tryz.prog W .any base t v := hval0
  have hW' := hW
  obtain ⟨p, q, hA0, hV, rfl, hfz, hnd⟩ := hW
  have hA : DataW.TrodAll enc Tryz.prog W 0 (fun _ => true) true Tryz.f3.params.toList args.toList ds p := hA0
  rw [Tryz.params3] at hA hval
  obtain ⟨v0, vs0, d0, ds0, p0, q0, hargs, rfl, rfl, h0, r0⟩ := trodAll_cons hA
  obtain ⟨rfl, rfl, rfl⟩ := trodAll_nil r0
  obtain rfl : args = #[v0] := by cases args; simp_all
  obtain ⟨rfl, rfl⟩ := trodVars_none hV
  have k0 := h0
  have lt0 : ∀ x ∈ p0, x.block < W.heap.size := by obtain ⟨m, hm⟩ := k0; exact DataW.trod_lt m _ _ _ hm
  obtain ⟨A0, c0, x0, rfl, hc0, ok0, rd0⟩ := open_arg Tryz.underlying22 opens_layers (hval 0 22 v0 rfl rfl) h0
  clear hA0 hval0
  refine (fnExactCtxOk_walk W hc0 ok0 rd0).mono fun e W' ⟨he, bel⟩ => ?_
  subst he
  exact ⟨_, rfl, _, _, _, [], _, [], hW', trodAll_mk1 (shut_bool Tryz.underlying4 _), (trodAll_cons_mk (Below.trod (by kernel_rfl) (by kernel_rfl) (of_decide_eq_true (by kernel_rfl)) k0 bel lt0) trodAll_mk0), rfl, bel.frame _, fun h => by cases h⟩

/-- The given row. -/
theorem fnExactCtxOk_row : Rows.FnExactCtxOkSaid :=
  OpenClaim.holds_of_wide 3 Tryz.f3 rfl rfl rfl rfl rfl rfl rfl ⟨rfl, rfl, rfl, rfl, rfl⟩ rfl rfl rfl rfl rfl (by kernel_rfl) Tryz.func3 (by kernel_rfl)
    (of_decide_eq_true (by kernel_rfl)) (by unfold Func.isWrapper; first | (rw [if_pos (by decide +kernel)]; kernel_rfl) | (rw [if_neg (by decide +kernel)]; exact ⟨rfl, rfl⟩))
    (fun os started H enc _ => fnExactCtxOk_lifted os started H enc)
/-- The given statement: the row, what it lists tied to the program's text. -/
theorem fnExactCtxOk_holds : Rows.FnExactCtxOkCardSaid :=
  Claim7.holds_tied_plain_at .later [] [.data, .pinned] true Rows.fnExactCtxOkCard.stood.harness Rows.fnExactCtxOkCard.stood.looks
    fnExactCtxOk_row (fun _ h => by cases h) (by kernel_rfl) (fun _ h => by cases h) fnExactCtxOk_row_tie rfl ⟨rfl, rfl⟩ (by kernel_rfl) rfl
    (fun f fn hf hfn => by
      obtain rfl : f = 3 := Option.some.inj ((show Tryz.prog.funcNamed "loop.example/seedlip/laws.FnExactCtxOk" = some 3 by kernel_rfl).symm.trans hf) |>.symm
      obtain rfl : fn = Tryz.f3 := (Option.some.inj (Tryz.func3.symm.trans hfn)).symm
      exact ⟨by kernel_rfl, fun j t ht => by
        rw [Tryz.params3] at ht
        have hm : t ∈ [22] := by simpa using Array.mem_of_getElem? ht
        have hall : ([22].all fun u => !Tryz.prog.wantsStandIn u) = true := by kernel_rfl
        exact (show Tryz.prog.wantsStandIn t = false by simpa using List.all_eq_true.1 hall t hm)⟩)
    (by kernel_rfl)
#print axioms fnExactCtxOk_holds
end Go.Proofs.YthcmflhhpgmfaaaGreatDoor
