/- Contracts of the reference's TermSame and CtxSame. -/
import Derived.Test.YtohchplomjenfaaTEq
namespace Go.Proofs.Ytohchplomjenfaa
open Go Go.RowKit

theorem neqD (w : World) (x y : D) : (binOp .neq 95 (.agg #[.string x.name, .int .i64 x.wide]) (.agg #[.string y.name, .int .i64 y.wide])).run Try.prog w = .ok (.bool (!D.same x y)) w := by
  have hh : Try.prog.stoodInHeld 95 = false := by kernel_rfl
  simp [go_sem, hh, D.same]
  (repeat' split) <;> simp_all

set_option maxHeartbeats 4000000 in
theorem specTermSame_any (x : T) (ho : T.All okT2 x) : EqT 69 x := by
  revert ho
  refine T.ind (p := fun x => T.All okT2 x → EqT _ x) (fun x ih ho => ?_) x
  obtain ⟨hkl, _⟩ := ho.here
  have ihk : ∀ k ∈ x.kids, EqT 69 k := fun k hk => ih k hk (ho.kid k hk)
  clear ih ho
  intro y A B c d F G' w h h' hF hG hoy
  obtain ⟨hkl', _⟩ := hoy.here
  have hoyk := hoy.kid
  have HS := Lib.hid (T.same_eq x y)
  have hw2 : Below w.heap.size w ((w.alloc (.cells #[.int .i64 x.op, .int .i64 x.a, .int .i64 x.b, .string x.name, .slice A x.kids.length c] 97)).alloc (.cells #[.int .i64 y.op, .int .i64 y.a, .int .i64 y.b, .string y.name, .slice B y.kids.length d] 97)) :=
    ((Below.refl _ _).alloc (Nat.le_refl _) _).alloc (by simp) _
  by_cases q1 : x.op = y.op
  rotate_left
  · have hb1 : (x.op != y.op) = true := by simp [q1]
    go_enter Try.func69, Try.ntmps69
    go_wp2
    go_ret
    exact ⟨ret_bool (by rw [HS.out]; simp [q1]), hw2⟩
  have hb1 : (x.op != y.op) = false := by simp [q1]
  have Q1 := Lib.hid q1
  clear q1
  by_cases q2 : x.a = y.a
  rotate_left
  · have hb2 : (x.a != y.a) = true := by simp [q2]
    go_enter Try.func69, Try.ntmps69
    go_wp2
    go_ret
    exact ⟨ret_bool (by rw [HS.out]; simp [q2]), hw2⟩
  have hb2 : (x.a != y.a) = false := by simp [q2]
  have Q2 := Lib.hid q2
  clear q2
  by_cases q3 : x.b = y.b
  rotate_left
  · have hb3 : (x.b != y.b) = true := by simp [q3]
    go_enter Try.func69, Try.ntmps69
    go_wp2
    go_ret
    exact ⟨ret_bool (by rw [HS.out]; simp [q3]), hw2⟩
  have hb3 : (x.b != y.b) = false := by simp [q3]
  have Q3 := Lib.hid q3
  clear q3
  by_cases q4 : x.name.toList = y.name.toList
  rotate_left
  · have hb4 : (!(x.name.toList == y.name.toList)) = true := by simp [q4]
    go_enter Try.func69, Try.ntmps69
    go_wp2
    go_ret
    exact ⟨ret_bool (by rw [HS.out]; simp [q4]), hw2⟩
  have hb4 : (!(x.name.toList == y.name.toList)) = false := by simp [q4]
  have Q4 := Lib.hid q4
  clear q4
  by_cases q5 : x.kids.length = y.kids.length
  rotate_left
  · have hb5 : ((x.kids.length : Int) != (y.kids.length : Int)) = true := by simp; omega
    have HN := Lib.hid (allSame_len (f := T.same) q5)
    go_enter Try.func69, Try.ntmps69
    go_wp2
    go_ret
    exact ⟨ret_bool (by rw [HS.out, HN.out]; simp), hw2⟩
  have hb5 := ne_len q5
  have HK := Lib.hid (show T.same x y = allSame T.same x.kids y.kids by rw [HS.out]; simp [Q1.out, Q2.out, Q3.out, Q4.out])
  have HL := Lib.hid q5
  clear q5 HS
  have v1 : ((w.alloc (.cells #[.int .i64 x.op, .int .i64 x.a, .int .i64 x.b, .string x.name, .slice A x.kids.length c] 97)).alloc (.cells #[.int .i64 y.op, .int .i64 y.a, .int .i64 y.b, .string y.name, .slice B y.kids.length d] 97)).cell? ⟨w.heap.size, 4, none⟩ = some (.slice A x.kids.length c) := by simp [go_sem]
  have v2 : ((w.alloc (.cells #[.int .i64 x.op, .int .i64 x.a, .int .i64 x.b, .string x.name, .slice A x.kids.length c] 97)).alloc (.cells #[.int .i64 y.op, .int .i64 y.a, .int .i64 y.b, .string y.name, .slice B y.kids.length d] 97)).cell? ⟨w.heap.size + 1, 4, none⟩ = some (.slice B y.kids.length d) := by simp [go_sem]
  go_enter Try.func69, Try.ntmps69
  go_wp2
  clear hb1 hb2 hb3 hb4 hb5
  generalize ((w.alloc (.cells #[.int .i64 x.op, .int .i64 x.a, .int .i64 x.b, .string x.name, .slice A x.kids.length c] 97)).alloc (.cells #[.int .i64 y.op, .int .i64 y.a, .int .i64 y.b, .string y.name, .slice B y.kids.length d] 97)) = W at *
  have H := h.below hw2 hF
  have H' := h'.below hw2 hG
  have hFW : ∀ b, F b → b < W.heap.size := fun b hb => Nat.lt_of_lt_of_le (hF b hb) hw2.size
  have hGW : ∀ b, G' b → b < W.heap.size := fun b hb => Nat.lt_of_lt_of_le (hG b hb) hw2.size
  clear h h' hoy

  go_loopw [5] (fun i wr => ∃ k : Nat, k ≤ x.kids.length ∧ i = .int .i64 k ∧ Below W.heap.size W wr ∧ allSame T.same x.kids y.kids = allSame T.same (x.kids.drop k) (y.kids.drop k)) (fun i _ => x.kids.length - (intOf i).toNat)
  case atStart => exact ⟨0, Nat.zero_le _, rfl, Below.refl _ _, by simp⟩
  case round =>
    obtain ⟨k, hk, rfl, hb, ht⟩ := hrel
    have HT := Lib.hid ht
    clear ht
    have a1 := (hb.cell (World.block_lt_of_cell? W _ v1)).trans v1
    have a2 := (hb.cell (World.block_lt_of_cell? W _ v2)).trans v2
    by_cases hlt : k < x.kids.length
    · have hlt' : k < y.kids.length := by have := HL.out; omega
      have hFr : ∀ b, F b → b < wr.heap.size := fun b hb' => Nat.lt_of_lt_of_le (hFW b hb') hb.size
      have hGr : ∀ b, G' b → b < wr.heap.size := fun b hb' => Nat.lt_of_lt_of_le (hGW b hb') hb.size
      obtain ⟨ad, A1, c9, rfl, hf, c1, c2, c3, c4, c5, hcc, hkk⟩ := (H.below hb hFW).at_term hlt
      obtain ⟨ad', A1', c9', rfl, hf', c1', c2', c3', c4', c5', hcc', hkk'⟩ := (H'.below hb hGW).at_term hlt'
      have b1 := Later.cell a1
      have b2 := Later.cell a2
      have d1 := Later.cell c1
      have d2 := Later.cell c2
      have d3 := Later.cell c3
      have d4 := Later.cell c4
      have d5 := Later.cell c5
      have d1' := Later.cell c1'
      have d2' := Later.cell c2'
      have d3' := Later.cell c3'
      have d4' := Later.cell c4'
      have d5' := Later.cell c5'
      have hk0 : (0 : Int) ≤ k := by omega
      have hk1 : (k : Int) < x.kids.length := by omega
      have hk2 : (k : Int) < y.kids.length := by omega
      have HX := Lib.hid (allSame_yes (b := T.same x.kids[k] y.kids[k]) HT.out hlt hlt' rfl)
      generalize hxy : T.same x.kids[k] y.kids[k] = q at *
      have HQ := Lib.hid hxy
      clear hxy
      go_wp2
      refine wp_region_later (by kernel_rfl) (by kernel_rfl) ?_
      repeat (go_big_quiet_step ((go_at_call 69; exact later_of_below (ihk x.kids[k] (List.getElem_mem _) y.kids[k] A1 A1' c9 c9' F G' _ (hkk.below (Later.le _) hFr) (hkk'.below (Later.le _) hGr) (fun b hb' => Nat.lt_of_lt_of_le (hFr b hb') (Later.le _).size) (fun b hb' => Nat.lt_of_lt_of_le (hGr b hb') (Later.le _).size) (hoyk _ (List.getElem_mem _))))))
      refine wpQuiet_nil ?_
      rintro _ ⟨x9, rfl⟩
      rw [HQ.out]
      cases q
      · go_wp2
        go_ret
        exact ⟨ret_bool (by rw [HK.out, HX.out]; rfl), bthen (bthen hw2 hb) x9.le⟩
      · go_wp2
        go_roundw
        case rel => exact ⟨k + 1, by omega, by go_num, bthen hb x9.le, by rw [HX.out]; simp⟩
        case measure => simp [intOf]; omega
    · have hke : k = x.kids.length := by omega
      subst hke
      have HE := Lib.hid (allSame_end HT.out HL.out)
      go_wp2
      go_ret
      exact ⟨ret_bool (by rw [HK.out, HE.out]), bthen hw2 hb⟩

set_option maxHeartbeats 4000000 in
theorem l10Same_any : EqL 45 := by
  intro x y A1 B1 A2 B2 c1 d1 c2 d2 F G' w hA1 hB1 hA2 hB2 hF hG ⟨x1, x2, x3⟩ ⟨y1, y2, y3⟩
  have hot : ∀ t ∈ x.ts, EqT 69 t := fun t ht => specTermSame_any t (x3 t ht)
  have hw2 : Below w.heap.size w ((w.alloc (.cells #[.slice A1 x.ds.length c1, .slice B1 x.ts.length d1] 64)).alloc (.cells #[.slice A2 y.ds.length c2, .slice B2 y.ts.length d2] 64)) :=
    ((Below.refl _ _).alloc (Nat.le_refl _) _).alloc (by simp) _
  have HS := Lib.hid (show Ly.same x y = (allSame D.same x.ds y.ds && allSame T.same x.ts y.ts) from rfl)
  clear x3
  by_cases q1 : x.ds.length = y.ds.length
  rotate_left
  · have hb1 : ((x.ds.length : Int) != (y.ds.length : Int)) = true := by simp; omega
    have HN := Lib.hid (allSame_len (f := D.same) q1)
    go_enter Try.func45, Try.ntmps45
    go_wp2
    go_ret
    exact ⟨ret_bool (by rw [HS.out, HN.out]; rfl), hw2⟩
  have hb1 := ne_len q1
  have HL := Lib.hid q1
  clear q1
  by_cases q2 : x.ts.length = y.ts.length
  rotate_left
  · have hb2 : ((x.ts.length : Int) != (y.ts.length : Int)) = true := by simp; omega
    have HN := Lib.hid (allSame_len (f := T.same) q2)
    go_enter Try.func45, Try.ntmps45
    go_wp2
    go_ret
    exact ⟨ret_bool (by rw [HS.out, HN.out]; simp), hw2⟩
  have hb2 := ne_len q2
  have HL2 := Lib.hid q2
  clear q2
  have v1 : ((w.alloc (.cells #[.slice A1 x.ds.length c1, .slice B1 x.ts.length d1] 64)).alloc (.cells #[.slice A2 y.ds.length c2, .slice B2 y.ts.length d2] 64)).cell? ⟨w.heap.size, 0, none⟩ = some (.slice A1 x.ds.length c1) := by simp [go_sem]
  have v2 : ((w.alloc (.cells #[.slice A1 x.ds.length c1, .slice B1 x.ts.length d1] 64)).alloc (.cells #[.slice A2 y.ds.length c2, .slice B2 y.ts.length d2] 64)).cell? ⟨w.heap.size + 1, 0, none⟩ = some (.slice A2 y.ds.length c2) := by simp [go_sem]
  have v3 : ((w.alloc (.cells #[.slice A1 x.ds.length c1, .slice B1 x.ts.length d1] 64)).alloc (.cells #[.slice A2 y.ds.length c2, .slice B2 y.ts.length d2] 64)).cell? ⟨w.heap.size, 1, none⟩ = some (.slice B1 x.ts.length d1) := by simp [go_sem]
  have v4 : ((w.alloc (.cells #[.slice A1 x.ds.length c1, .slice B1 x.ts.length d1] 64)).alloc (.cells #[.slice A2 y.ds.length c2, .slice B2 y.ts.length d2] 64)).cell? ⟨w.heap.size + 1, 1, none⟩ = some (.slice B2 y.ts.length d2) := by simp [go_sem]
  go_enter Try.func45, Try.ntmps45
  go_wp2
  clear hb1 hb2
  generalize ((w.alloc (.cells #[.slice A1 x.ds.length c1, .slice B1 x.ts.length d1] 64)).alloc (.cells #[.slice A2 y.ds.length c2, .slice B2 y.ts.length d2] 64)) = W at *
  have H := hA1.below hw2 hF
  have H' := hA2.below hw2 hG
  have HB := hB1.below hw2 hF
  have HB' := hB2.below hw2 hG
  have hFW : ∀ b, F b → b < W.heap.size := fun b hb => Nat.lt_of_lt_of_le (hF b hb) hw2.size
  have hGW : ∀ b, G' b → b < W.heap.size := fun b hb => Nat.lt_of_lt_of_le (hG b hb) hw2.size
  clear hA1 hB1 hA2 hB2

  go_loopw [5] (fun i wr => ∃ k : Nat, k ≤ x.ds.length ∧ i = .int .i64 k ∧ Below W.heap.size W wr ∧ allSame D.same x.ds y.ds = allSame D.same (x.ds.drop k) (y.ds.drop k)) (fun i _ => x.ds.length - (intOf i).toNat)
  case atStart => exact ⟨0, Nat.zero_le _, rfl, Below.refl _ _, by simp⟩
  case round =>
    obtain ⟨k, hk, rfl, hb, ht⟩ := hrel
    have HT := Lib.hid ht
    clear ht
    have a1 := (hb.cell (World.block_lt_of_cell? W _ v1)).trans v1
    have a2 := (hb.cell (World.block_lt_of_cell? W _ v2)).trans v2
    by_cases hlt : k < x.ds.length
    · have hlt' : k < y.ds.length := by have := HL.out; omega
      have hFr : ∀ b, F b → b < wr.heap.size := fun b hb' => Nat.lt_of_lt_of_le (hFW b hb') hb.size
      have hGr : ∀ b, G' b → b < wr.heap.size := fun b hb' => Nat.lt_of_lt_of_le (hGW b hb') hb.size
      obtain ⟨ad, rfl, hf, c1, c2⟩ := (H.below hb hFW).at_decl hlt
      obtain ⟨ad', rfl, hf', c1', c2'⟩ := (H'.below hb hGW).at_decl hlt'
      have b1 := Later.cell a1
      have b2 := Later.cell a2
      have d1 := Later.cell c1
      have d2 := Later.cell c2
      have d1' := Later.cell c1'
      have d2' := Later.cell c2'
      have hk0 : (0 : Int) ≤ k := by omega
      have hk1 : (k : Int) < x.ds.length := by omega
      have hk2 : (k : Int) < y.ds.length := by omega
      have HX := Lib.hid (allSame_yes (b := D.same x.ds[k] y.ds[k]) HT.out hlt hlt' rfl)
      generalize hxy : D.same x.ds[k] y.ds[k] = q at *
      have HQ := Lib.hid hxy
      clear hxy
      go_wp2
      have he : ∀ W' : World, (binOp .neq 95 (.agg #[.string x.ds[k].name, .int .i64 x.ds[k].wide]) (.agg #[.string y.ds[k].name, .int .i64 y.ds[k].wide])).run Try.prog W' = .ok (.bool (!q)) W' := fun W' => by rw [neqD W' _ _, HQ.out]
      refine wp_region_later (by kernel_rfl) (by kernel_rfl) ?_
      repeat (go_big_quiet_step (fail))
      refine wpQuiet_nil ?_
      rintro _ ⟨x9, rfl⟩
      clear he
      cases q
      · go_wp2
        go_ret
        exact ⟨ret_bool (by rw [HS.out, HX.out]; rfl), bthen (bthen hw2 hb) x9.le⟩
      · go_wp2
        go_roundw
        case rel => exact ⟨k + 1, by omega, by go_num, bthen hb x9.le, by rw [HX.out]; simp⟩
        case measure => simp [intOf]; omega
    · have hke : k = x.ds.length := by omega
      subst hke
      have HE := Lib.hid (allSame_end HT.out HL.out)
      go_wp2
      have HE1 := Lib.hid HE.out
      clear HE
      have HL := HL2
      have z33 := (hb.cell (World.block_lt_of_cell? W _ v3)).trans v3
      have z44 := (hb.cell (World.block_lt_of_cell? W _ v4)).trans v4
      have HB1 := HB.below hb hFW
      have HB1' := HB'.below hb hGW
      have hw3 := bthen hw2 hb
      have hFW1 : ∀ b, F b → b < wr.heap.size := fun b hb' => Nat.lt_of_lt_of_le (hFW b hb') hb.size
      have hGW1 : ∀ b, G' b → b < wr.heap.size := fun b hb' => Nat.lt_of_lt_of_le (hGW b hb') hb.size
      clear hFW hGW hb v1 v2 v3 v4 H H' HB HB'
      have hFW := hFW1
      have hGW := hGW1
      clear hFW1 hGW1 HT HL2 a1 a2 hk hlt
      generalize wr = W1 at *
      go_loopw [6] (fun i wr => ∃ k : Nat, k ≤ x.ts.length ∧ i = .int .i64 k ∧ Below W1.heap.size W1 wr ∧ allSame T.same x.ts y.ts = allSame T.same (x.ts.drop k) (y.ts.drop k)) (fun i _ => x.ts.length - (intOf i).toNat)
      case atStart => exact ⟨0, Nat.zero_le _, rfl, Below.refl _ _, by simp⟩
      case round =>
        obtain ⟨k, hk, rfl, hb, ht⟩ := hrel
        have HT := Lib.hid ht
        clear ht
        have a1 := (hb.cell (World.block_lt_of_cell? W1 _ z33)).trans z33
        have a2 := (hb.cell (World.block_lt_of_cell? W1 _ z44)).trans z44
        by_cases hlt : k < x.ts.length
        · have hlt' : k < y.ts.length := by have := HL.out; omega
          have hFr : ∀ b, F b → b < wr.heap.size := fun b hb' => Nat.lt_of_lt_of_le (hFW b hb') hb.size
          have hGr : ∀ b, G' b → b < wr.heap.size := fun b hb' => Nat.lt_of_lt_of_le (hGW b hb') hb.size
          obtain ⟨ad, A1, c9, rfl, hf, c1, c2, c3, c4, c5, hcc, hkk⟩ := (HB1.below hb hFW).at_term hlt
          obtain ⟨ad', A1', c9', rfl, hf', c1', c2', c3', c4', c5', hcc', hkk'⟩ := (HB1'.below hb hGW).at_term hlt'
          have b1 := Later.cell a1
          have b2 := Later.cell a2
          have d1 := Later.cell c1
          have d2 := Later.cell c2
          have d3 := Later.cell c3
          have d4 := Later.cell c4
          have d5 := Later.cell c5
          have d1' := Later.cell c1'
          have d2' := Later.cell c2'
          have d3' := Later.cell c3'
          have d4' := Later.cell c4'
          have d5' := Later.cell c5'
          have hk0 : (0 : Int) ≤ k := by omega
          have hk1 : (k : Int) < x.ts.length := by omega
          have hk2 : (k : Int) < y.ts.length := by omega
          have HX := Lib.hid (allSame_yes (b := T.same x.ts[k] y.ts[k]) HT.out hlt hlt' rfl)
          generalize hxy : T.same x.ts[k] y.ts[k] = q at *
          have HQ := Lib.hid hxy
          clear hxy
          go_wp2
          refine wp_region_later (by kernel_rfl) (by kernel_rfl) ?_
          repeat (go_big_quiet_step ((go_at_call 69; exact later_of_below (hot x.ts[k] (List.getElem_mem _) y.ts[k] A1 A1' c9 c9' F G' _ (hkk.below (Later.le _) hFr) (hkk'.below (Later.le _) hGr) (fun b hb' => Nat.lt_of_lt_of_le (hFr b hb') (Later.le _).size) (fun b hb' => Nat.lt_of_lt_of_le (hGr b hb') (Later.le _).size) (y3 _ (List.getElem_mem _))))))
          refine wpQuiet_nil ?_
          rintro _ ⟨x9, rfl⟩
          rw [HQ.out]
          cases q
          · go_wp2
            go_ret
            exact ⟨ret_bool (by rw [HS.out, HE1.out, HX.out]; rfl), bthen (bthen hw3 hb) x9.le⟩
          · go_wp2
            go_roundw
            case rel => exact ⟨k + 1, by omega, by go_num, bthen hb x9.le, by rw [HX.out]; simp⟩
            case measure => simp [intOf]; omega
        · have hke : k = x.ts.length := by omega
          subst hke
          have HE := Lib.hid (allSame_end HT.out HL.out)
          go_wp2
          go_ret
          exact ⟨ret_bool (by rw [HS.out, HE1.out, HE.out]; rfl), bthen hw3 hb⟩

set_option maxHeartbeats 1000000 in
theorem specCtxSame_any (A B : Option Addr) (c d : Nat) (xs ys : List Ly) (F G' : Nat → Prop) (w : World) (h : Lay.layer.Sl w F A xs) (h' : Lay.layer.Sl w G' B ys) (hF : ∀ b, F b → b < w.heap.size) (hG : ∀ b, G' b → b < w.heap.size) (hn : xs.length ≤ 1048576) (hn' : ys.length ≤ 1048576) (ho : ∀ t ∈ xs, okL2 t) (ho' : ∀ t ∈ ys, okL2 t) :
    Calls Try.prog 22 #[.slice A xs.length c, .slice B ys.length d] w fun e w' => e = .returned (.bool (allSame Ly.same xs ys)) ∧ Below w.heap.size w w' := by
  by_cases hl : xs.length = ys.length
  · have hne := ne_len hl
    have HL := Lib.hid hl
    clear hl
    go_enter Try.func22, Try.ntmps22
    go_wp2
    clear hne
    go_loopw [5] (fun i wr => ∃ k : Nat, k ≤ xs.length ∧ i = .int .i64 k ∧ Below w.heap.size w wr ∧ allSame Ly.same xs ys = allSame Ly.same (xs.drop k) (ys.drop k)) (fun i _ => xs.length - (intOf i).toNat)
    case atStart => exact ⟨0, Nat.zero_le _, rfl, Below.refl _ _, by simp⟩
    case round =>
      obtain ⟨k, hk, rfl, hb, ht⟩ := hrel
      have HT := Lib.hid ht
      clear ht
      by_cases hlt : k < xs.length
      · have hlt' : k < ys.length := by have := HL.out; omega
        have hFr : ∀ b, F b → b < wr.heap.size := fun b hb' => Nat.lt_of_lt_of_le (hF b hb') hb.size
        have hGr : ∀ b, G' b → b < wr.heap.size := fun b hb' => Nat.lt_of_lt_of_le (hG b hb') hb.size
        obtain ⟨ad, A1, p1, A2, p2, rfl, hf, c1, c2, hl1, hl2, s1, s2⟩ := (h.below hb hF).at_layer hlt
        obtain ⟨ad', A1', p1', A2', p2', rfl, hf', c1', c2', hl1', hl2', s1', s2'⟩ := (h'.below hb hG).at_layer hlt'
        have d1 := Later.cell c1
        have d2 := Later.cell c2
        have d1' := Later.cell c1'
        have d2' := Later.cell c2'
        have hk0 : (0 : Int) ≤ k := by omega
        have hk1 : (k : Int) < xs.length := by omega
        have hk2 : (k : Int) < ys.length := by omega
        have HX := Lib.hid (allSame_yes (b := Ly.same xs[k] ys[k]) HT.out hlt hlt' rfl)
        generalize hxy : Ly.same xs[k] ys[k] = q at *
        have HQ := Lib.hid hxy
        clear hxy h h'
        go_wp2
        refine wp_region_later (by kernel_rfl) (by kernel_rfl) ?_
        repeat (go_big_quiet_step ((go_at_call 45; exact later_of_below (l10Same_any xs[k] ys[k] A1 A2 A1' A2' p1 p2 p1' p2' F G' _ (s1.below (Later.le _) hFr) (s2.below (Later.le _) hFr) (s1'.below (Later.le _) hGr) (s2'.below (Later.le _) hGr) (fun b hb' => Nat.lt_of_lt_of_le (hFr b hb') (Later.le _).size) (fun b hb' => Nat.lt_of_lt_of_le (hGr b hb') (Later.le _).size) (ho _ (List.getElem_mem _)) (ho' _ (List.getElem_mem _))))))
        refine wpQuiet_nil ?_
        rintro _ ⟨x, rfl⟩
        rw [HQ.out]
        cases q
        · go_wp2
          go_ret
          exact ⟨ret_bool (by rw [HX.out]; rfl), bthen hb x.le⟩
        · go_wp2
          go_roundw
          case rel => exact ⟨k + 1, by omega, by go_num, bthen hb x.le, by rw [HX.out]; simp⟩
          case measure => simp [intOf]; omega
      · have hke : k = xs.length := by omega
        subst hke
        have HE := Lib.hid (allSame_end HT.out HL.out)
        go_wp2
        go_ret
        exact ⟨ret_bool (by rw [HE.out]), hb⟩
  · have hne : (((xs.length : Int) != (ys.length : Int))) = true := by simp; omega
    have HE := Lib.hid (allSame_len (f := Ly.same) hl)
    go_enter Try.func22, Try.ntmps22
    go_wp2
    go_ret
    exact ⟨ret_bool (by rw [HE.out]), Below.refl _ _⟩

end Go.Proofs.Ytohchplomjenfaa
