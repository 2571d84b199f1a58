/- Contracts of the laws' comparisons: eqDeclS, eqTermS, eqLayerS. -/
import Derived.Test.YtohchplomjenfaaTTo
namespace Go.Proofs.Ytohchplomjenfaa
open Go Go.RowKit

theorem ne_len {n m : Nat} (h : n = m) : ((n : Int) != (m : Int)) = false := by simp [h]
theorem eqDecl_any (x y : D) (w : World) :
    Calls Try.prog 85 #[.agg #[.string x.name, .int .i64 x.wide], .agg #[.string y.name, .int .i64 y.wide]] w fun e w' => e = .returned (.bool (D.same x y)) ∧ Below w.heap.size w w' := by
  go_enter Try.func85, Try.ntmps85
  go_wp2
  all_goals
    go_ret
    refine ⟨ret_bool ?_, ((Below.refl _ _).alloc (Nat.le_refl _) _).alloc (by simp) _⟩
    simp_all [D.same]

theorem allSame_yes {α : Type} {f : α → α → Bool} {xs ys : List α} {k : Nat} {b : Bool} (h : allSame f xs ys = allSame f (xs.drop k) (ys.drop k)) (hx : k < xs.length) (hy : k < ys.length) (he : f xs[k] ys[k] = b) :
    allSame f xs ys = (b && allSame f (xs.drop (k + 1)) (ys.drop (k + 1))) := by rw [h, allSame_drop hx hy, he]
theorem allSame_end {α : Type} {f : α → α → Bool} {xs ys : List α} (h : allSame f xs ys = allSame f (xs.drop xs.length) (ys.drop xs.length)) (hl : xs.length = ys.length) : allSame f xs ys = true := by
  rw [h, List.drop_length, hl, List.drop_length]; rfl

set_option maxHeartbeats 1000000 in
theorem eqDeclS_any (A B : Option Addr) (c d : Nat) (xs ys : List D) (F G' : Nat → Prop) (w : World) (h : Lay.decl.Sl w F A xs) (h' : Lay.decl.Sl w G' B ys) (hF : ∀ b, F b → b < w.heap.size) (hG : ∀ b, G' b → b < w.heap.size) (hn : xs.length ≤ 1048576) (hn' : ys.length ≤ 1048576) :
    Calls Try.prog 64 #[.slice A xs.length c, .slice B ys.length d] w fun e w' => e = .returned (.bool (allSame D.same xs ys)) ∧ Below w.heap.size w w' := by
  by_cases hl : xs.length = ys.length
  · have hne := ne_len hl
    have HL := Lib.hid hl
    clear hl
    go_enter Try.func64, Try.ntmps64
    go_wp2
    clear hne
    go_loopw [5] (fun i wr => ∃ k : Nat, k ≤ xs.length ∧ i = .int .i64 k ∧ Below w.heap.size w wr ∧ allSame D.same xs ys = allSame D.same (xs.drop k) (ys.drop k)) (fun i _ => xs.length - (intOf i).toNat)
    case atStart => exact ⟨0, Nat.zero_le _, rfl, Below.refl _ _, by simp⟩
    case round =>
      obtain ⟨k, hk, rfl, hb, ht⟩ := hrel
      have HT := Lib.hid ht
      clear ht
      by_cases hlt : k < xs.length
      · have hlt' : k < ys.length := by have := HL.out; omega
        have hFr : ∀ b, F b → b < wr.heap.size := fun b hb' => Nat.lt_of_lt_of_le (hF b hb') hb.size
        have hGr : ∀ b, G' b → b < wr.heap.size := fun b hb' => Nat.lt_of_lt_of_le (hG b hb') hb.size
        obtain ⟨ad, rfl, hf, c1, c2⟩ := (h.below hb hF).at_decl hlt
        obtain ⟨ad', rfl, hf', c1', c2'⟩ := (h'.below hb hG).at_decl hlt'
        have d1 := Later.cell c1
        have d2 := Later.cell c2
        have d1' := Later.cell c1'
        have d2' := Later.cell c2'
        have hk0 : (0 : Int) ≤ k := by omega
        have hk1 : (k : Int) < xs.length := by omega
        have hk2 : (k : Int) < ys.length := by omega
        have HX := Lib.hid (allSame_yes (b := D.same xs[k] ys[k]) HT.out hlt hlt' rfl)
        generalize hxy : D.same xs[k] ys[k] = q at *
        have HQ := Lib.hid hxy
        clear hxy h h'
        go_wp2
        refine wp_region_later (by kernel_rfl) (by kernel_rfl) ?_
        repeat (go_big_quiet_step ((go_at_call 85; exact later_of_below (eqDecl_any xs[k] ys[k] _))))
        refine wpQuiet_nil ?_
        rintro _ ⟨x, rfl⟩
        rw [HQ.out]
        cases q
        · go_wp2
          go_ret
          exact ⟨ret_bool (by rw [HX.out]; rfl), bthen hb x.le⟩
        · go_wp2
          go_roundw
          case rel => exact ⟨k + 1, by omega, by go_num, bthen hb x.le, by rw [HX.out]; simp⟩
          case measure => simp [intOf]; omega
      · have hke : k = xs.length := by omega
        subst hke
        have HE := Lib.hid (allSame_end HT.out HL.out)
        go_wp2
        go_ret
        exact ⟨ret_bool (by rw [HE.out]), hb⟩
  · have hne : (((xs.length : Int) != (ys.length : Int))) = true := by simp; omega
    have HE := Lib.hid (allSame_len (f := D.same) hl)
    go_enter Try.func64, Try.ntmps64
    go_wp2
    go_ret
    exact ⟨ret_bool (by rw [HE.out]), Below.refl _ _⟩

/-- What the comparison of two terms gives. -/
def EqT (f : FuncId) (x : T) : Prop := ∀ (y : T) (A B : Option Addr) (c d : Nat) (F G' : Nat → Prop) (w : World), Lay.term.Sl w F A x.kids → Lay.term.Sl w G' B y.kids → (∀ b, F b → b < w.heap.size) → (∀ b, G' b → b < w.heap.size) → T.All okT2 y →
  Calls Try.prog f #[.agg #[.int .i64 x.op, .int .i64 x.a, .int .i64 x.b, .string x.name, .slice A x.kids.length c], .agg #[.int .i64 y.op, .int .i64 y.a, .int .i64 y.b, .string y.name, .slice B y.kids.length d]] w fun e w' => e = .returned (.bool (T.same x y)) ∧ Below w.heap.size w w'
theorem T.same_eq (x y : T) : T.same x y = (x.op == y.op && x.a == y.a && x.b == y.b && x.name.toList == y.name.toList && allSame T.same x.kids y.kids) := by
  cases x; cases y; simp [T.same, T.sameL_all, T.op, T.a, T.b, T.name, T.kids]

set_option maxHeartbeats 1000000 in
theorem eqTermS_any (A B : Option Addr) (c d : Nat) (xs ys : List T) (F G' : Nat → Prop) (w : World) (h : Lay.term.Sl w F A xs) (h' : Lay.term.Sl w G' B ys) (hF : ∀ b, F b → b < w.heap.size) (hG : ∀ b, G' b → b < w.heap.size) (hn : xs.length ≤ 1048576) (hn' : ys.length ≤ 1048576) (ho : ∀ t ∈ xs, EqT 86 t) (ho' : ∀ t ∈ ys, T.All okT2 t) :
    Calls Try.prog 65 #[.slice A xs.length c, .slice B ys.length d] w fun e w' => e = .returned (.bool (allSame T.same xs ys)) ∧ Below w.heap.size w w' := by
  by_cases hl : xs.length = ys.length
  · have hne := ne_len hl
    have HL := Lib.hid hl
    clear hl
    go_enter Try.func65, Try.ntmps65
    go_wp2
    clear hne
    go_loopw [5] (fun i wr => ∃ k : Nat, k ≤ xs.length ∧ i = .int .i64 k ∧ Below w.heap.size w wr ∧ allSame T.same xs ys = allSame T.same (xs.drop k) (ys.drop k)) (fun i _ => xs.length - (intOf i).toNat)
    case atStart => exact ⟨0, Nat.zero_le _, rfl, Below.refl _ _, by simp⟩
    case round =>
      obtain ⟨k, hk, rfl, hb, ht⟩ := hrel
      have HT := Lib.hid ht
      clear ht
      by_cases hlt : k < xs.length
      · have hlt' : k < ys.length := by have := HL.out; omega
        have hFr : ∀ b, F b → b < wr.heap.size := fun b hb' => Nat.lt_of_lt_of_le (hF b hb') hb.size
        have hGr : ∀ b, G' b → b < wr.heap.size := fun b hb' => Nat.lt_of_lt_of_le (hG b hb') hb.size
        obtain ⟨ad, A1, c9, rfl, hf, c1, c2, c3, c4, c5, hcc, hkk⟩ := (h.below hb hF).at_term hlt
        obtain ⟨ad', A1', c9', rfl, hf', c1', c2', c3', c4', c5', hcc', hkk'⟩ := (h'.below hb hG).at_term hlt'
        have d1 := Later.cell c1
        have d2 := Later.cell c2
        have d3 := Later.cell c3
        have d4 := Later.cell c4
        have d5 := Later.cell c5
        have d1' := Later.cell c1'
        have d2' := Later.cell c2'
        have d3' := Later.cell c3'
        have d4' := Later.cell c4'
        have d5' := Later.cell c5'
        have hk0 : (0 : Int) ≤ k := by omega
        have hk1 : (k : Int) < xs.length := by omega
        have hk2 : (k : Int) < ys.length := by omega
        have HX := Lib.hid (allSame_yes (b := T.same xs[k] ys[k]) HT.out hlt hlt' rfl)
        generalize hxy : T.same xs[k] ys[k] = q at *
        have HQ := Lib.hid hxy
        clear hxy h h'
        go_wp2
        refine wp_region_later (by kernel_rfl) (by kernel_rfl) ?_
        repeat (go_big_quiet_step ((go_at_call 86; exact later_of_below (ho xs[k] (List.getElem_mem _) ys[k] A1 A1' c9 c9' F G' _ (hkk.below (Later.le _) hFr) (hkk'.below (Later.le _) hGr) (fun b hb' => Nat.lt_of_lt_of_le (hFr b hb') (Later.le _).size) (fun b hb' => Nat.lt_of_lt_of_le (hGr b hb') (Later.le _).size) (ho' _ (List.getElem_mem _))))))
        refine wpQuiet_nil ?_
        rintro _ ⟨x, rfl⟩
        rw [HQ.out]
        cases q
        · go_wp2
          go_ret
          exact ⟨ret_bool (by rw [HX.out]; rfl), bthen hb x.le⟩
        · go_wp2
          go_roundw
          case rel => exact ⟨k + 1, by omega, by go_num, bthen hb x.le, by rw [HX.out]; simp⟩
          case measure => simp [intOf]; omega
      · have hke : k = xs.length := by omega
        subst hke
        have HE := Lib.hid (allSame_end HT.out HL.out)
        go_wp2
        go_ret
        exact ⟨ret_bool (by rw [HE.out]), hb⟩
  · have hne : (((xs.length : Int) != (ys.length : Int))) = true := by simp; omega
    have HE := Lib.hid (allSame_len (f := T.same) hl)
    go_enter Try.func65, Try.ntmps65
    go_wp2
    go_ret
    exact ⟨ret_bool (by rw [HE.out]), Below.refl _ _⟩

set_option maxHeartbeats 1000000 in
theorem eqTerm_any (x : T) (ho : T.All okT2 x) : EqT 86 x := by
  revert ho
  refine T.ind (p := fun x => T.All okT2 x → EqT _ x) (fun x ih ho => ?_) x
  obtain ⟨hkl, _⟩ := ho.here
  have ihk : ∀ k ∈ x.kids, EqT 86 k := fun k hk => ih k hk (ho.kid k hk)
  clear ih ho
  intro y A B c d F G' w h h' hF hG hoy
  obtain ⟨hkl', _⟩ := hoy.here
  have hw2 : Below w.heap.size w ((w.alloc (.cells #[.int .i64 x.op, .int .i64 x.a, .int .i64 x.b, .string x.name, .slice A x.kids.length c] 97)).alloc (.cells #[.int .i64 y.op, .int .i64 y.a, .int .i64 y.b, .string y.name, .slice B y.kids.length d] 97)) :=
    ((Below.refl _ _).alloc (Nat.le_refl _) _).alloc (by simp) _
  have H := h.below hw2 hF
  have H' := h'.below hw2 hG
  have HS := Lib.hid (T.same_eq x y)
  go_enter Try.func86, Try.ntmps86
  go_wp2_with (go_at_call 65; refine (eqTermS_any A B c d x.kids y.kids F G' _ H H' (fun b hb => by have := hF b hb; simp; omega) (fun b hb => by have := hG b hb; simp; omega) hkl hkl' ihk hoy.kid).mono ?_; rintro e w' ⟨rfl, hb⟩)
  all_goals
    go_ret
    refine ⟨ret_bool (by rw [HS.out]; simp_all), ?_⟩
    first
      | exact hw2
      | exact bthen hw2 hb

/-- What the comparison of two layers gives. -/
def EqL (f : FuncId) : Prop := ∀ (x y : Ly) (A1 B1 A2 B2 : Option Addr) (c1 d1 c2 d2 : Nat) (F G' : Nat → Prop) (w : World), Lay.decl.Sl w F A1 x.ds → Lay.term.Sl w F B1 x.ts → Lay.decl.Sl w G' A2 y.ds → Lay.term.Sl w G' B2 y.ts →
  (∀ b, F b → b < w.heap.size) → (∀ b, G' b → b < w.heap.size) → okL2 x → okL2 y →
  Calls Try.prog f #[.agg #[.slice A1 x.ds.length c1, .slice B1 x.ts.length d1], .agg #[.slice A2 y.ds.length c2, .slice B2 y.ts.length d2]] w fun e w' => e = .returned (.bool (Ly.same x y)) ∧ Below w.heap.size w w'
set_option maxHeartbeats 1000000 in
theorem eqLayer_any : EqL 39 := by
  intro x y A1 B1 A2 B2 c1 d1 c2 d2 F G' w hA1 hB1 hA2 hB2 hF hG ⟨x1, x2, x3⟩ ⟨y1, y2, y3⟩
  have hot : ∀ t ∈ x.ts, EqT 86 t := fun t ht => eqTerm_any t (x3 t ht)
  have hw2 : Below w.heap.size w ((w.alloc (.cells #[.slice A1 x.ds.length c1, .slice B1 x.ts.length d1] 64)).alloc (.cells #[.slice A2 y.ds.length c2, .slice B2 y.ts.length d2] 64)) :=
    ((Below.refl _ _).alloc (Nat.le_refl _) _).alloc (by simp) _
  have HS := Lib.hid (show Ly.same x y = (allSame D.same x.ds y.ds && allSame T.same x.ts y.ts) from rfl)
  have hF2 : ∀ b, F b → b < ((w.alloc (.cells #[.slice A1 x.ds.length c1, .slice B1 x.ts.length d1] 64)).alloc (.cells #[.slice A2 y.ds.length c2, .slice B2 y.ts.length d2] 64)).heap.size := fun b hb => Nat.lt_of_lt_of_le (hF b hb) hw2.size
  have hG2 : ∀ b, G' b → b < ((w.alloc (.cells #[.slice A1 x.ds.length c1, .slice B1 x.ts.length d1] 64)).alloc (.cells #[.slice A2 y.ds.length c2, .slice B2 y.ts.length d2] 64)).heap.size := fun b hb => Nat.lt_of_lt_of_le (hG b hb) hw2.size
  generalize hq : allSame D.same x.ds y.ds = q at *
  have HQ := Lib.hid hq
  clear x3 hq
  go_enter Try.func39, Try.ntmps39
  go_wp2_with fail
  refine (eqDeclS_any A1 A2 c1 c2 x.ds y.ds F G' _ (hA1.below hw2 hF) (hA2.below hw2 hG) hF2 hG2 x1 y1).mono ?_
  rw [HQ.out]
  rintro e w3 ⟨rfl, hb⟩
  have hbb := bthen hw2 hb
  obtain ⟨hcc, hff⟩ := bcell hb
  have k1 : w3.cell? ⟨w.heap.size, 1, none⟩ = some (.slice B1 x.ts.length d1) := (hcc _ _ (by simp <;> omega)).trans (by simp [go_sem])
  have k2 : w3.cell? ⟨w.heap.size + 1, 1, none⟩ = some (.slice B2 y.ts.length d2) := (hcc _ _ (by simp <;> omega)).trans (by simp [go_sem])
  clear hcc hff
  cases q
  · go_wp2
    go_ret
    exact ⟨ret_bool (by rw [HS.out]; rfl), hbb⟩
  · go_wp2_with fail
    refine (eqTermS_any B1 B2 d1 d2 x.ts y.ts F G' _ (hB1.below hbb hF) (hB2.below hbb hG) (fun b hb => Nat.lt_of_lt_of_le (hF b hb) hbb.size) (fun b hb => Nat.lt_of_lt_of_le (hG b hb) hbb.size) x2 y2 hot y3).mono ?_
    generalize hq2 : allSame T.same x.ts y.ts = q2 at *
    have HQ2 := Lib.hid hq2
    clear hq2
    rintro e w4 ⟨rfl, hb4⟩
    have hbc := bthen hbb hb4
    cases q2
    all_goals
      go_wp2
      go_ret
      exact ⟨ret_bool (by rw [HS.out]; rfl), hbc⟩

set_option maxHeartbeats 1000000 in
theorem eqLayerS_any (A B : Option Addr) (c d : Nat) (xs ys : List Ly) (F G' : Nat → Prop) (w : World) (h : Lay.layer.Sl w F A xs) (h' : Lay.layer.Sl w G' B ys) (hF : ∀ b, F b → b < w.heap.size) (hG : ∀ b, G' b → b < w.heap.size) (hn : xs.length ≤ 1048576) (hn' : ys.length ≤ 1048576) (ho : ∀ t ∈ xs, okL2 t) (ho' : ∀ t ∈ ys, okL2 t) :
    Calls Try.prog 18 #[.slice A xs.length c, .slice B ys.length d] w fun e w' => e = .returned (.bool (allSame Ly.same xs ys)) ∧ Below w.heap.size w w' := by
  by_cases hl : xs.length = ys.length
  · have hne := ne_len hl
    have HL := Lib.hid hl
    clear hl
    go_enter Try.func18, Try.ntmps18
    go_wp2
    clear hne
    go_loopw [5] (fun i wr => ∃ k : Nat, k ≤ xs.length ∧ i = .int .i64 k ∧ Below w.heap.size w wr ∧ allSame Ly.same xs ys = allSame Ly.same (xs.drop k) (ys.drop k)) (fun i _ => xs.length - (intOf i).toNat)
    case atStart => exact ⟨0, Nat.zero_le _, rfl, Below.refl _ _, by simp⟩
    case round =>
      obtain ⟨k, hk, rfl, hb, ht⟩ := hrel
      have HT := Lib.hid ht
      clear ht
      by_cases hlt : k < xs.length
      · have hlt' : k < ys.length := by have := HL.out; omega
        have hFr : ∀ b, F b → b < wr.heap.size := fun b hb' => Nat.lt_of_lt_of_le (hF b hb') hb.size
        have hGr : ∀ b, G' b → b < wr.heap.size := fun b hb' => Nat.lt_of_lt_of_le (hG b hb') hb.size
        obtain ⟨ad, A1, p1, A2, p2, rfl, hf, c1, c2, hl1, hl2, s1, s2⟩ := (h.below hb hF).at_layer hlt
        obtain ⟨ad', A1', p1', A2', p2', rfl, hf', c1', c2', hl1', hl2', s1', s2'⟩ := (h'.below hb hG).at_layer hlt'
        have d1 := Later.cell c1
        have d2 := Later.cell c2
        have d1' := Later.cell c1'
        have d2' := Later.cell c2'
        have hk0 : (0 : Int) ≤ k := by omega
        have hk1 : (k : Int) < xs.length := by omega
        have hk2 : (k : Int) < ys.length := by omega
        have HX := Lib.hid (allSame_yes (b := Ly.same xs[k] ys[k]) HT.out hlt hlt' rfl)
        generalize hxy : Ly.same xs[k] ys[k] = q at *
        have HQ := Lib.hid hxy
        clear hxy h h'
        go_wp2
        refine wp_region_later (by kernel_rfl) (by kernel_rfl) ?_
        repeat (go_big_quiet_step ((go_at_call 39; exact later_of_below (eqLayer_any xs[k] ys[k] A1 A2 A1' A2' p1 p2 p1' p2' F G' _ (s1.below (Later.le _) hFr) (s2.below (Later.le _) hFr) (s1'.below (Later.le _) hGr) (s2'.below (Later.le _) hGr) (fun b hb' => Nat.lt_of_lt_of_le (hFr b hb') (Later.le _).size) (fun b hb' => Nat.lt_of_lt_of_le (hGr b hb') (Later.le _).size) (ho _ (List.getElem_mem _)) (ho' _ (List.getElem_mem _))))))
        refine wpQuiet_nil ?_
        rintro _ ⟨x, rfl⟩
        rw [HQ.out]
        cases q
        · go_wp2
          go_ret
          exact ⟨ret_bool (by rw [HX.out]; rfl), bthen hb x.le⟩
        · go_wp2
          go_roundw
          case rel => exact ⟨k + 1, by omega, by go_num, bthen hb x.le, by rw [HX.out]; simp⟩
          case measure => simp [intOf]; omega
      · have hke : k = xs.length := by omega
        subst hke
        have HE := Lib.hid (allSame_end HT.out HL.out)
        go_wp2
        go_ret
        exact ⟨ret_bool (by rw [HE.out]), hb⟩
  · have hne : (((xs.length : Int) != (ys.length : Int))) = true := by simp; omega
    have HE := Lib.hid (allSame_len (f := Ly.same) hl)
    go_enter Try.func18, Try.ntmps18
    go_wp2
    go_ret
    exact ⟨ret_bool (by rw [HE.out]), Below.refl _ _⟩

end Go.Proofs.Ytohchplomjenfaa
