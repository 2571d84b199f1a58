/- Contracts of the program's TermSame and CtxSame. -/
import Derived.Test.YtohchplomjenfaaTEq2
namespace Go.Proofs.Ytohchplomjenfaa
open Go Go.RowKit

set_option maxRecDepth 100000 in
set_option maxHeartbeats 2000000 in
theorem equalTerms_any (A B : Option Addr) (c d : Nat) (xs ys : List T) (F G' : Nat → Prop) (w : World) (h : Lay.term.Sl w F A xs) (h' : Lay.term.Sl w G' B ys) (hF : ∀ b, F b → b < w.heap.size) (hG : ∀ b, G' b → b < w.heap.size) (hn : xs.length ≤ 1048576) (hn' : ys.length ≤ 1048576) (ho : ∀ t ∈ xs, EqT 74 t) (ho' : ∀ t ∈ ys, T.All okT2 t) :
    Calls Try.prog 73 #[.slice A xs.length c, .slice B ys.length d, .func (.func 74) #[] #[]] w fun e w' => e = .returned (.bool (allSame T.same xs ys)) ∧ Below w.heap.size w w' := by
  by_cases hl : xs.length = ys.length
  · have hne := ne_len hl
    have HL := Lib.hid hl
    clear hl
    go_enter Try.func73, Try.ntmps73
    go_wp2
    clear hne
    go_loopw [17] (fun i wr => ∃ k : Nat, k ≤ xs.length ∧ i = .int .i64 k ∧ Below w.heap.size w wr ∧ allSame T.same xs ys = allSame T.same (xs.drop k) (ys.drop k)) (fun i _ => xs.length - (intOf i).toNat)
    case atStart => exact ⟨0, Nat.zero_le _, rfl, Below.refl _ _, by simp⟩
    case round =>
      obtain ⟨k, hk, rfl, hb, ht⟩ := hrel
      have HT := Lib.hid ht
      clear ht
      by_cases hlt : k < xs.length
      · have hlt' : k < ys.length := by have := HL.out; omega
        have hFr : ∀ b, F b → b < wr.heap.size := fun b hb' => Nat.lt_of_lt_of_le (hF b hb') hb.size
        have hGr : ∀ b, G' b → b < wr.heap.size := fun b hb' => Nat.lt_of_lt_of_le (hG b hb') hb.size
        obtain ⟨ad, A1, c9, rfl, hf, c1, c2, c3, c4, c5, hcc, hkk⟩ := (h.below hb hF).at_term hlt
        obtain ⟨ad', A1', c9', rfl, hf', c1', c2', c3', c4', c5', hcc', hkk'⟩ := (h'.below hb hG).at_term hlt'
        have hblk : (ad.add (k * 5)).block < wr.heap.size := by rw [block_of_add]; exact hFr _ hf
        have hblk' : (ad'.add (k * 5)).block < wr.heap.size := by rw [block_of_add]; exact hGr _ hf'
        have hk0 : (0 : Int) ≤ k := by omega
        have hk1 : (k : Int) < xs.length := by omega
        have hk2 : (k : Int) < ys.length := by omega
        have HX := Lib.hid (allSame_yes (b := T.same xs[k] ys[k]) HT.out hlt hlt' rfl)
        generalize hxy : T.same xs[k] ys[k] = q at *
        have HQ := Lib.hid hxy
        clear hxy h h'
        go_wp2_with fail
        have hw2 : Below wr.heap.size wr ((wr.alloc (.cells #[.int .i64 xs[k].op, .int .i64 xs[k].a, .int .i64 xs[k].b, .string xs[k].name, .slice A1 xs[k].kids.length c9] 97)).alloc (.cells #[.int .i64 ys[k].op, .int .i64 ys[k].a, .int .i64 ys[k].b, .string ys[k].name, .slice A1' ys[k].kids.length c9'] 97)) := ((Below.refl _ _).alloc (Nat.le_refl _) _).alloc (by simp) _
        refine (ho xs[k] (List.getElem_mem _) ys[k] A1 A1' c9 c9' F G' _ (hkk.below hw2 hFr) (hkk'.below hw2 hGr) (fun b hb' => Nat.lt_of_lt_of_le (hFr b hb') hw2.size) (fun b hb' => Nat.lt_of_lt_of_le (hGr b hb') hw2.size) (ho' _ (List.getElem_mem _))).mono ?_
        rw [HQ.out]
        rintro e w9 ⟨rfl, hb9⟩
        have hbb := bthen hb (bthen hw2 hb9)
        cases q
        · go_wp2
          go_ret
          exact ⟨ret_bool (by rw [HX.out]; rfl), hbb⟩
        · go_wp2
          go_roundw
          case rel => exact ⟨k + 1, by omega, by go_num, hbb, by rw [HX.out]; simp⟩
          case measure => simp [intOf]; omega
      · have hke : k = xs.length := by omega
        subst hke
        have HE := Lib.hid (allSame_end HT.out HL.out)
        go_wp2
        go_ret
        exact ⟨ret_bool (by rw [HE.out]), hb⟩
  · have hne : (((xs.length : Int) != (ys.length : Int))) = true := by simp; omega
    have HE := Lib.hid (allSame_len (f := T.same) hl)
    go_enter Try.func73, Try.ntmps73
    go_wp2
    go_ret
    exact ⟨ret_bool (by rw [HE.out]), Below.refl _ _⟩

set_option maxHeartbeats 2000000 in
theorem implTermSame_any (x : T) (ho : T.All okT2 x) : EqT 74 x := by
  revert ho
  refine T.ind (p := fun x => T.All okT2 x → EqT _ x) (fun x ih ho => ?_) x
  obtain ⟨hkl, _⟩ := ho.here
  have ihk : ∀ k ∈ x.kids, EqT 74 k := fun k hk => ih k hk (ho.kid k hk)
  clear ih ho
  intro y A B c d F G' w h h' hF hG hoy
  obtain ⟨hkl', _⟩ := hoy.here
  have hw2 : Below w.heap.size w ((w.alloc (.cells #[.int .i64 x.op, .int .i64 x.a, .int .i64 x.b, .string x.name, .slice A x.kids.length c] 97)).alloc (.cells #[.int .i64 y.op, .int .i64 y.a, .int .i64 y.b, .string y.name, .slice B y.kids.length d] 97)) :=
    ((Below.refl _ _).alloc (Nat.le_refl _) _).alloc (by simp) _
  have H := h.below hw2 hF
  have H' := h'.below hw2 hG
  have HS := Lib.hid (T.same_eq x y)

  cases hq0 : (x.op == y.op)
  · have HQ0 := Lib.hid hq0
    go_enter Try.func74, Try.ntmps74
    go_wp2
    go_ret
    exact ⟨ret_bool (by rw [HS.out, HQ0.out]; simp), hw2⟩
  have HQ0 := Lib.hid hq0
  cases hq1 : (x.a == y.a)
  · have HQ1 := Lib.hid hq1
    go_enter Try.func74, Try.ntmps74
    go_wp2
    go_ret
    exact ⟨ret_bool (by rw [HS.out, HQ1.out]; simp), hw2⟩
  have HQ1 := Lib.hid hq1
  cases hq2 : (x.b == y.b)
  · have HQ2 := Lib.hid hq2
    go_enter Try.func74, Try.ntmps74
    go_wp2
    go_ret
    exact ⟨ret_bool (by rw [HS.out, HQ2.out]; simp), hw2⟩
  have HQ2 := Lib.hid hq2
  cases hq3 : (x.name.toList == y.name.toList)
  · have HQ3 := Lib.hid hq3
    go_enter Try.func74, Try.ntmps74
    go_wp2
    go_ret
    exact ⟨ret_bool (by rw [HS.out, HQ3.out]; simp), hw2⟩
  have HQ3 := Lib.hid hq3
  go_enter Try.func74, Try.ntmps74
  go_wp2_with fail
  refine (equalTerms_any A B c d x.kids y.kids F G' _ H H' (fun b hb => by have := hF b hb; simp; omega) (fun b hb => by have := hG b hb; simp; omega) hkl hkl' ihk hoy.kid).mono ?_
  rintro e w' ⟨rfl, hb⟩
  go_wp2
  go_ret
  exact ⟨ret_bool (by rw [HS.out, HQ0.out, HQ1.out, HQ2.out, HQ3.out]; simp), bthen hw2 hb⟩

set_option maxHeartbeats 1000000 in
theorem equalDecls_any (A B : Option Addr) (c d : Nat) (xs ys : List D) (F G' : Nat → Prop) (w : World) (h : Lay.decl.Sl w F A xs) (h' : Lay.decl.Sl w G' B ys) (hF : ∀ b, F b → b < w.heap.size) (hG : ∀ b, G' b → b < w.heap.size) (hn : xs.length ≤ 1048576) (hn' : ys.length ≤ 1048576) :
    Calls Try.prog 72 #[.slice A xs.length c, .slice B ys.length d] w fun e w' => e = .returned (.bool (allSame D.same xs ys)) ∧ Below w.heap.size w w' := by
  by_cases hl : xs.length = ys.length
  · have hne := ne_len hl
    have HL := Lib.hid hl
    clear hl
    go_enter Try.func72, Try.ntmps72
    go_wp2
    clear hne
    go_loopw [13] (fun i wr => ∃ k : Nat, k ≤ xs.length ∧ i = .int .i64 k ∧ Below w.heap.size w wr ∧ allSame D.same xs ys = allSame D.same (xs.drop k) (ys.drop k)) (fun i _ => xs.length - (intOf i).toNat)
    case atStart => exact ⟨0, Nat.zero_le _, rfl, Below.refl _ _, by simp⟩
    case round =>
      obtain ⟨k, hk, rfl, hb, ht⟩ := hrel
      have HT := Lib.hid ht
      clear ht
      by_cases hlt : k < xs.length
      · have hlt' : k < ys.length := by have := HL.out; omega
        obtain ⟨ad, rfl, hf, c1, c2⟩ := (h.below hb hF).at_decl hlt
        obtain ⟨ad', rfl, hf', c1', c2'⟩ := (h'.below hb hG).at_decl hlt'
        have d1 := Later.cell c1
        have d2 := Later.cell c2
        have d1' := Later.cell c1'
        have d2' := Later.cell c2'
        have hk0 : (0 : Int) ≤ k := by omega
        have hk1 : (k : Int) < xs.length := by omega
        have hk2 : (k : Int) < ys.length := by omega
        have HX := Lib.hid (allSame_yes (b := D.same xs[k] ys[k]) HT.out hlt hlt' rfl)
        generalize hxy : D.same xs[k] ys[k] = q at *
        have he : ∀ W' : World, (binOp .neq 95 (.agg #[.string xs[k].name, .int .i64 xs[k].wide]) (.agg #[.string ys[k].name, .int .i64 ys[k].wide])).run Try.prog W' = .ok (.bool (!q)) W' := fun W' => by rw [neqD W' _ _, hxy]
        clear hxy h h'
        go_wp2
        refine wp_region_later (by kernel_rfl) (by kernel_rfl) ?_
        repeat (go_big_quiet_step (fail))
        refine wpQuiet_nil ?_
        rintro _ ⟨x9, rfl⟩
        clear he
        cases q
        · go_wp2
          go_ret
          exact ⟨ret_bool (by rw [HX.out]; rfl), bthen hb x9.le⟩
        · go_wp2
          go_roundw
          case rel => exact ⟨k + 1, by omega, by go_num, bthen hb x9.le, by rw [HX.out]; simp⟩
          case measure => simp [intOf]; omega
      · have hke : k = xs.length := by omega
        subst hke
        have HE := Lib.hid (allSame_end HT.out HL.out)
        go_wp2
        go_ret
        exact ⟨ret_bool (by rw [HE.out]), hb⟩
  · have hne : (((xs.length : Int) != (ys.length : Int))) = true := by simp; omega
    have HE := Lib.hid (allSame_len (f := D.same) hl)
    go_enter Try.func72, Try.ntmps72
    go_wp2
    go_ret
    exact ⟨ret_bool (by rw [HE.out]), Below.refl _ _⟩

set_option maxHeartbeats 1000000 in
theorem sameLayer_any : EqL 48 := by
  intro x y A1 B1 A2 B2 c1 d1 c2 d2 F G' w hA1 hB1 hA2 hB2 hF hG ⟨x1, x2, x3⟩ ⟨y1, y2, y3⟩
  have hot : ∀ t ∈ x.ts, EqT 74 t := fun t ht => implTermSame_any t (x3 t ht)
  have hw2 : Below w.heap.size w ((w.alloc (.cells #[.slice A1 x.ds.length c1, .slice B1 x.ts.length d1] 64)).alloc (.cells #[.slice A2 y.ds.length c2, .slice B2 y.ts.length d2] 64)) :=
    ((Below.refl _ _).alloc (Nat.le_refl _) _).alloc (by simp) _
  have HS := Lib.hid (show Ly.same x y = (allSame D.same x.ds y.ds && allSame T.same x.ts y.ts) from rfl)
  have hF2 : ∀ b, F b → b < ((w.alloc (.cells #[.slice A1 x.ds.length c1, .slice B1 x.ts.length d1] 64)).alloc (.cells #[.slice A2 y.ds.length c2, .slice B2 y.ts.length d2] 64)).heap.size := fun b hb => Nat.lt_of_lt_of_le (hF b hb) hw2.size
  have hG2 : ∀ b, G' b → b < ((w.alloc (.cells #[.slice A1 x.ds.length c1, .slice B1 x.ts.length d1] 64)).alloc (.cells #[.slice A2 y.ds.length c2, .slice B2 y.ts.length d2] 64)).heap.size := fun b hb => Nat.lt_of_lt_of_le (hG b hb) hw2.size
  generalize hq : allSame D.same x.ds y.ds = q at *
  have HQ := Lib.hid hq
  clear x3 hq
  go_enter Try.func48, Try.ntmps48
  go_wp2_with fail
  refine (equalDecls_any A1 A2 c1 c2 x.ds y.ds F G' _ (hA1.below hw2 hF) (hA2.below hw2 hG) hF2 hG2 x1 y1).mono ?_
  rw [HQ.out]
  rintro e w3 ⟨rfl, hb⟩
  have hbb := bthen hw2 hb
  obtain ⟨hcc, hff⟩ := bcell hb
  have k1 : w3.cell? ⟨w.heap.size, 1, none⟩ = some (.slice B1 x.ts.length d1) := (hcc _ _ (by simp <;> omega)).trans (by simp [go_sem])
  have k2 : w3.cell? ⟨w.heap.size + 1, 1, none⟩ = some (.slice B2 y.ts.length d2) := (hcc _ _ (by simp <;> omega)).trans (by simp [go_sem])
  clear hcc hff
  cases q
  · go_wp2
    go_ret
    exact ⟨ret_bool (by rw [HS.out]; rfl), hbb⟩
  · go_wp2_with fail
    refine (equalTerms_any B1 B2 d1 d2 x.ts y.ts F G' _ (hB1.below hbb hF) (hB2.below hbb hG) (fun b hb => Nat.lt_of_lt_of_le (hF b hb) hbb.size) (fun b hb => Nat.lt_of_lt_of_le (hG b hb) hbb.size) x2 y2 hot y3).mono ?_
    rintro e w4 ⟨rfl, hb4⟩
    have hbc := bthen hbb hb4
    go_wp2
    go_ret
    exact ⟨ret_bool (by rw [HS.out]; simp), hbc⟩

set_option maxRecDepth 100000 in
set_option maxHeartbeats 2000000 in
theorem equalLayers_any (A B : Option Addr) (c d : Nat) (xs ys : List Ly) (F G' : Nat → Prop) (w : World) (h : Lay.layer.Sl w F A xs) (h' : Lay.layer.Sl w G' B ys) (hF : ∀ b, F b → b < w.heap.size) (hG : ∀ b, G' b → b < w.heap.size) (hn : xs.length ≤ 1048576) (hn' : ys.length ≤ 1048576) (hf9 : EqL 48) (ho : ∀ t ∈ xs, okL2 t) (ho' : ∀ t ∈ ys, okL2 t) :
    Calls Try.prog 47 #[.slice A xs.length c, .slice B ys.length d, .func (.func 48) #[] #[]] w fun e w' => e = .returned (.bool (allSame Ly.same xs ys)) ∧ Below w.heap.size w w' := by
  by_cases hl : xs.length = ys.length
  · have hne := ne_len hl
    have HL := Lib.hid hl
    clear hl
    go_enter Try.func47, Try.ntmps47
    go_wp2
    clear hne
    go_loopw [17] (fun i wr => ∃ k : Nat, k ≤ xs.length ∧ i = .int .i64 k ∧ Below w.heap.size w wr ∧ allSame Ly.same xs ys = allSame Ly.same (xs.drop k) (ys.drop k)) (fun i _ => xs.length - (intOf i).toNat)
    case atStart => exact ⟨0, Nat.zero_le _, rfl, Below.refl _ _, by simp⟩
    case round =>
      obtain ⟨k, hk, rfl, hb, ht⟩ := hrel
      have HT := Lib.hid ht
      clear ht
      by_cases hlt : k < xs.length
      · have hlt' : k < ys.length := by have := HL.out; omega
        have hFr : ∀ b, F b → b < wr.heap.size := fun b hb' => Nat.lt_of_lt_of_le (hF b hb') hb.size
        have hGr : ∀ b, G' b → b < wr.heap.size := fun b hb' => Nat.lt_of_lt_of_le (hG b hb') hb.size
        obtain ⟨ad, A1, p1, A2, p2, rfl, hf, c1, c2, hl1, hl2, s1, s2⟩ := (h.below hb hF).at_layer hlt
        obtain ⟨ad', A1', p1', A2', p2', rfl, hf', c1', c2', hl1', hl2', s1', s2'⟩ := (h'.below hb hG).at_layer hlt'
        have hblk : (ad.add (k * 2)).block < wr.heap.size := by rw [block_of_add]; exact hFr _ hf
        have hblk' : (ad'.add (k * 2)).block < wr.heap.size := by rw [block_of_add]; exact hGr _ hf'
        have hk0 : (0 : Int) ≤ k := by omega
        have hk1 : (k : Int) < xs.length := by omega
        have hk2 : (k : Int) < ys.length := by omega
        have HX := Lib.hid (allSame_yes (b := Ly.same xs[k] ys[k]) HT.out hlt hlt' rfl)
        generalize hxy : Ly.same xs[k] ys[k] = q at *
        have HQ := Lib.hid hxy
        clear hxy h h'
        go_wp2_with fail
        have hw2 : Below wr.heap.size wr ((wr.alloc (.cells #[.slice A1 xs[k].ds.length p1, .slice A2 xs[k].ts.length p2] 64)).alloc (.cells #[.slice A1' ys[k].ds.length p1', .slice A2' ys[k].ts.length p2'] 64)) := ((Below.refl _ _).alloc (Nat.le_refl _) _).alloc (by simp) _
        refine (hf9 xs[k] ys[k] A1 A2 A1' A2' p1 p2 p1' p2' F G' _ (s1.below hw2 hFr) (s2.below hw2 hFr) (s1'.below hw2 hGr) (s2'.below hw2 hGr) (fun b hb' => Nat.lt_of_lt_of_le (hFr b hb') hw2.size) (fun b hb' => Nat.lt_of_lt_of_le (hGr b hb') hw2.size) (ho _ (List.getElem_mem _)) (ho' _ (List.getElem_mem _))).mono ?_
        rw [HQ.out]
        rintro e w9 ⟨rfl, hb9⟩
        have hbb := bthen hb (bthen hw2 hb9)
        cases q
        · go_wp2
          go_ret
          exact ⟨ret_bool (by rw [HX.out]; rfl), hbb⟩
        · go_wp2
          go_roundw
          case rel => exact ⟨k + 1, by omega, by go_num, hbb, by rw [HX.out]; simp⟩
          case measure => simp [intOf]; omega
      · have hke : k = xs.length := by omega
        subst hke
        have HE := Lib.hid (allSame_end HT.out HL.out)
        go_wp2
        go_ret
        exact ⟨ret_bool (by rw [HE.out]), hb⟩
  · have hne : (((xs.length : Int) != (ys.length : Int))) = true := by simp; omega
    have HE := Lib.hid (allSame_len (f := Ly.same) hl)
    go_enter Try.func47, Try.ntmps47
    go_wp2
    go_ret
    exact ⟨ret_bool (by rw [HE.out]), Below.refl _ _⟩


theorem implCtxSame_any (A B : Option Addr) (c d : Nat) (xs ys : List Ly) (F G' : Nat → Prop) (w : World) (h : Lay.layer.Sl w F A xs) (h' : Lay.layer.Sl w G' B ys) (hF : ∀ b, F b → b < w.heap.size) (hG : ∀ b, G' b → b < w.heap.size) (hn : xs.length ≤ 1048576) (hn' : ys.length ≤ 1048576)
    (ho : ∀ t ∈ xs, okL2 t) (ho' : ∀ t ∈ ys, okL2 t) :
    Calls Try.prog 24 #[.slice A xs.length c, .slice B ys.length d] w fun e w' => e = .returned (.bool (allSame Ly.same xs ys)) ∧ Below w.heap.size w w' := by
  go_enter Try.func24, Try.ntmps24
  go_wp2_with fail
  refine (equalLayers_any A B c d xs ys F G' _ h h' hF hG hn hn' sameLayer_any ho ho').mono ?_
  rintro e w' ⟨rfl, hb⟩
  go_wp2
  go_ret
  exact ⟨rfl, hb⟩
end Go.Proofs.Ytohchplomjenfaa
