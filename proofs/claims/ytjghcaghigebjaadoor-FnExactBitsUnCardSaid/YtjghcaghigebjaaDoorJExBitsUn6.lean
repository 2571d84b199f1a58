/- The program's comparisons: less, same. The program's comparisons: under, compare. The program's signals turned, signals that are off. -/
import Derived.Lib.Mul64
import Derived.Laws.Bits64b
import Derived.Laws.CopyOwn
import Derived.Deep.OwnRows
import Derived.Test.YtjghcaghigebjaaDoorJExBitsUn5
/-! The program's comparisons: less, same. -/
namespace Go.Proofs.YtjghcaghigebjaaDoor
open Go Go.RowKit

theorem run_less {σ : Type} {o : Ops σ} (xs ys : List Int) (k : Nat) (x y : Int) (hx : xs[k]? = some x) (hy : ys[k]? = some y) (s : σ) (r : Int) :
    run o (lessP (xs.drop k) (ys.drop k) r) s = (let d := o.xor s x y; let p := run o (muxP d.2 y r) d.1; run o (lessP (xs.drop (k + 1)) (ys.drop (k + 1)) p.2) p.1) := by
  obtain ⟨hk, rfl⟩ := List.getElem?_eq_some_iff.1 hx
  obtain ⟨hk', rfl⟩ := List.getElem?_eq_some_iff.1 hy
  rw [List.drop_eq_getElem_cons hk, List.drop_eq_getElem_cons hk']
  simp only [lessP, run, run_bind]
theorem run_same {σ : Type} {o : Ops σ} (xs ys : List Int) (k : Nat) (x y : Int) (hx : xs[k]? = some x) (hy : ys[k]? = some y) (s : σ) (r : Int) :
    run o (sameP (xs.drop k) (ys.drop k) r) s = (let d := o.xor s x y; let p := o.and d.1 r (-d.2); run o (sameP (xs.drop (k + 1)) (ys.drop (k + 1)) p.2) p.1) := by
  obtain ⟨hk, rfl⟩ := List.getElem?_eq_some_iff.1 hx
  obtain ⟨hk', rfl⟩ := List.getElem?_eq_some_iff.1 hy
  rw [List.drop_eq_getElem_cons hk, List.drop_eq_getElem_cons hk']
  simp only [sameP, run]
/-- What is so while two signals are read and a gate is made. -/
def GateI (a0 a1 : Addr) (lo : Nat) (W : World) (q r : Nat) (s s' : BS) (called : Bool) (x : World) : Prop := BelB lo W x ∧ Bd a0 a1 lo x q r (if called = true then s' else s)
theorem GateI.up {a0 a1 : Addr} {lo : Nat} {W : World} {q r : Nat} {s s' : BS} {called : Bool} {x x' : World} (h : GateI a0 a1 lo W q r s s' called x) (hb : Below x.heap.size x x') : GateI a0 a1 lo W q r s s' called x' := ⟨h.1.trans (.of hb h.2.size), h.2.up hb⟩
theorem mux_mb9 {c x y : Int} {s : BS} (h : NB s.n) (hc : RB c) (hx : RB x) (hy : RB y) : NB (run opsP (muxP c x y) s).1.n ∧ MB (run opsP (muxP c x y) s).2 := mux_mb h hc hx hy
set_option maxRecDepth 100000 in
set_option maxHeartbeats 4000000 in
theorem bLess_any (a0 a1 : Addr) (lo q r : Nat) (X Y : Option Addr) (cx cy : Nat) (xs ys : List Int) (s : BS) (w : World) (h : Bd a0 a1 lo w q r s) (hX : Lay.int.Pl w X xs) (hY : Lay.int.Pl w Y ys) (hxm : ∀ x ∈ xs, MB x) (hym : ∀ y ∈ ys, MB y) (hl : xs.length = ys.length) (hn : xs.length ≤ 1000) :
    Calls Tryd.prog 94 #[.pointer (some ⟨q, 0, none⟩), .slice X xs.length cx, .slice Y ys.length cy] w (RetM a0 a1 lo w q r (run opsP (lessP xs ys (-1)) s)) := by
  obtain ⟨T, hT⟩ : ∃ T, T = run opsP (lessP xs ys (-1)) s := ⟨_, rfl⟩
  rw [← hT]
  have HT := Lib.hid hT
  have HB := Lib.hid h
  have HX := Lib.hid hX
  have HY := Lib.hid hY
  have HXM := Lib.hid hxm
  have HYM := Lib.hid hym
  have HL := Lib.hid hl
  have hlo := h.size
  clear hT h hX hY hxm hym
  rw [← hl]
  clear hl
  go_enter Tryd.func94, Tryd.ntmps94
  go_wp2
  go_loopw [7, 12] (fun rv i wr => ∃ (k : Nat) (s1 : BS) (rr : Int), k ≤ xs.length ∧ i = .int .i64 k ∧ rv = .int .i64 rr ∧ MB rr ∧ BelB lo w wr ∧ Bd a0 a1 lo wr q r s1 ∧ Hid (run opsP (lessP (xs.drop k) (ys.drop k) rr) s1 = T)) (fun _ i _ => xs.length - (intOf i).toNat)
  case atStart => exact ⟨0, s, (-1), Nat.zero_le _, rfl, rfl, by unfold MB; omega, .refl _ _, HB.out, Lib.hid (by rw [HT.out]; rfl)⟩
  case round =>
    obtain ⟨k, s1, rr, hk, rfl, rfl, hrr, hbb, hbd, hst⟩ := hrel
    have HRR := Lib.hid hrr
    have HBB := Lib.hid hbb
    have HBD := Lib.hid hbd
    clear hbb hbd hrr
    by_cases hlt : k < xs.length
    · have hlt2 : (k : Int) < xs.length := by omega
      have hlty : k < ys.length := by rw [← HL.out]; exact hlt
      obtain ⟨x, hx⟩ : ∃ x, xs[k]? = some x := ⟨_, List.getElem?_eq_getElem hlt⟩
      obtain ⟨y, hy⟩ : ∃ y, ys[k]? = some y := ⟨_, List.getElem?_eq_getElem hlty⟩
      have hxg : xs[k] = x := (List.getElem?_eq_some_iff.1 hx).2
      have hyg : ys[k] = y := (List.getElem?_eq_some_iff.1 hy).2
      have HXYM := Lib.hid (And.intro (HXM.out x (List.mem_of_getElem? hx)) (HYM.out y (List.mem_of_getElem? hy)))
      obtain ⟨adx, rfl, -, -⟩ := HX.out.at_int hlt
      obtain ⟨ady, rfl, -, -⟩ := HY.out.at_int hlty
      obtain ⟨m, hm⟩ : ∃ m, m = opsP.xor s1 x y := ⟨_, rfl⟩
      have HST := Lib.hid ((run_less (o := opsP) xs ys k x y hx hy s1 rr).symm.trans hst.out)
      have HM := Lib.hid hm
      have HMB : Hid (NB m.1.n ∧ MB m.2) := Lib.hid (by rw [hm]; exact opsP_xor_mb HBD.out.nb HXYM.out.1.rb HXYM.out.2.rb)
      have HRX : Hid (∀ z, BelB lo w z → z.cell? (adx.add k) = some (.int .i64 x)) := Lib.hid fun z hz => by
        obtain ⟨ad, e, _, hc⟩ := (HX.out.upB hz).at_int hlt
        injection e with e; subst e; rw [← hxg]; exact hc
      have HRY : Hid (∀ z, BelB lo w z → z.cell? (ady.add k) = some (.int .i64 y)) := Lib.hid fun z hz => by
        obtain ⟨ad, e, _, hc⟩ := (HY.out.upB hz).at_int hlty
        injection e with e; subst e; rw [← hyg]; exact hc
      clear hm hx hy hxg hyg hst hlty
      go_wp2
      refine wp_region_rel4 [[], [], [], [(1, 16), (2, 17)], [(3, 18)], [], [], [(5, 20), (6, 21)], [(7, 22)], [(0, 15), (4, 19), (8, 23)], [(9, 24)]]
        (fun x9 y9 => Below x9.heap.size x9 y9)
        [(9, fun x9 y9 => BelB lo x9 y9)]
        (fun f9 x9 => GateI a0 a1 lo w q r s1 m.1 (f9 9) x9)
        [fun vs9 _ => vs9 0 = (.pointer (some ⟨q, 0, none⟩)),
    fun vs9 _ => vs9 1 = (.slice (some adx) xs.length cx),
    fun vs9 _ => vs9 2 = (.int .i64 (k : Int)),
    fun vs9 _ => vs9 3 = (.pointer (some (adx.add k))),
    fun vs9 _ => vs9 4 = (.int .i64 x),
    fun vs9 _ => vs9 5 = (.slice (some ady) xs.length cy),
    fun vs9 _ => vs9 6 = (.int .i64 (k : Int)),
    fun vs9 _ => vs9 7 = (.pointer (some (ady.add k))),
    fun vs9 _ => vs9 8 = (.int .i64 y),
    fun vs9 _ => vs9 9 = (.int .i64 m.2),
    fun vs9 _ => vs9 10 = (.int .i64 m.2)]
        [(0, 15), (1, 16), (2, 17), (3, 18), (4, 19), (5, 20), (6, 21), (7, 22), (8, 23), (9, 24), (10, 9)] (by kernel_rfl) (by kernel_rfl) (by kernel_rfl) (by kernel_rfl)
        (fun _ => Below.refl _ _) ⟨fun _ => BelB.refl _ _, trivial⟩
        ⟨⟨.inr (fun _ _ _ h _ => h), ⟨.inr (.inr (fun _ _ _ h _ => h)), trivial⟩⟩,
    ⟨.inr (fun _ _ _ h _ => h), ⟨.inr (.inr (fun _ _ _ h _ => h)), trivial⟩⟩,
    ⟨.inr (fun _ _ _ h _ => h), ⟨.inr (.inr (fun _ _ _ h _ => h)), trivial⟩⟩,
    ⟨.inr (fun _ _ _ h _ => h), ⟨.inr (.inr (fun _ _ _ h _ => h)), trivial⟩⟩,
    ⟨.inr (fun _ _ _ h _ => h), ⟨.inr (.inr (fun _ _ _ h _ => h)), trivial⟩⟩,
    ⟨.inr (fun _ _ _ h _ => h), ⟨.inr (.inr (fun _ _ _ h _ => h)), trivial⟩⟩,
    ⟨.inr (fun _ _ _ h _ => h), ⟨.inr (.inr (fun _ _ _ h _ => h)), trivial⟩⟩,
    ⟨.inr (fun _ _ _ h _ => h), ⟨.inr (.inr (fun _ _ _ h _ => h)), trivial⟩⟩,
    ⟨.inr (fun _ _ _ h _ => h), ⟨.inr (.inr (fun _ _ _ h _ => h)), trivial⟩⟩,
    ⟨.inr (fun _ _ _ h _ => h), ⟨.inr (.inl rfl), trivial⟩⟩,
    ⟨.inr (fun _ _ _ h _ => h), ⟨.inr (.inr (fun _ _ _ h _ => h)), trivial⟩⟩, trivial⟩ ⟨fun vs vs' x h _ hv => (by dsimp only at hv ⊢; first | (rw [← h]; exact hv) | exact hv),
    fun vs vs' x h _ hv => (by dsimp only at hv ⊢; first | (rw [← h]; exact hv) | exact hv),
    fun vs vs' x h _ hv => (by dsimp only at hv ⊢; first | (rw [← h]; exact hv) | exact hv),
    fun vs vs' x h _ hv => (by dsimp only at hv ⊢; first | (rw [← h]; exact hv) | exact hv),
    fun vs vs' x h _ hv => (by dsimp only at hv ⊢; first | (rw [← h]; exact hv) | exact hv),
    fun vs vs' x h _ hv => (by dsimp only at hv ⊢; first | (rw [← h]; exact hv) | exact hv),
    fun vs vs' x h _ hv => (by dsimp only at hv ⊢; first | (rw [← h]; exact hv) | exact hv),
    fun vs vs' x h _ hv => (by dsimp only at hv ⊢; first | (rw [← h]; exact hv) | exact hv),
    fun vs vs' x h _ hv => (by dsimp only at hv ⊢; first | (rw [← h]; exact hv) | exact hv),
    fun vs vs' x h _ hv => (by dsimp only at hv ⊢; first | (rw [← h]; exact hv) | exact hv),
    fun vs vs' x h _ hv => (by dsimp only at hv ⊢; first | (rw [← h]; exact hv) | exact hv), trivial⟩ (⟨HBB.out.trans (.of (below_drewN (Below.refl _ _) 1) HBD.out.size), by rw [if_neg (by simp)]; exact HBD.out.up (below_drewN (Below.refl _ _) 1)⟩) ⟨?_, ?_, ?_, ?_, ?_, ?_, ?_, ?_, ?_, ?_, ?_, trivial⟩ ?_
      · intro vals xw f hf1 hf2 hf3 hI hF
        clear hf2 hf3
        dsimp only [owes4, bare]
        simp only [putsD, Act.put, List.setIfInBounds_toArray, List.set_cons_zero, List.set_cons_succ]
        go_wp2
        exact ⟨rfl, rfl, ⟨fun h9 => absurd h9 (Nat.ne_of_beq_eq_false rfl), fun _ => Below.refl _ _⟩, hI⟩
      · intro vals xw f hf1 hf2 hf3 hI hF
        clear hf2 hf3
        dsimp only [owes4, bare]
        simp only [putsD, Act.put, List.setIfInBounds_toArray, List.set_cons_zero, List.set_cons_succ]
        go_wp2
        exact ⟨rfl, rfl, ⟨fun h9 => absurd h9 (Nat.ne_of_beq_eq_false rfl), fun _ => Below.refl _ _⟩, hI⟩
      · intro vals xw f hf1 hf2 hf3 hI hF
        clear hf2 hf3
        dsimp only [owes4, bare]
        simp only [putsD, Act.put, List.setIfInBounds_toArray, List.set_cons_zero, List.set_cons_succ]
        go_wp2
        exact ⟨rfl, rfl, ⟨fun h9 => absurd h9 (Nat.ne_of_beq_eq_false rfl), fun _ => Below.refl _ _⟩, hI⟩
      · intro vals xw f hf1 hf2 hf3 hI hF
        clear hf2 hf3
        simp only [saysD, List.getD_cons_zero, List.getD_cons_succ, and_true] at hF
        obtain ⟨e16, e17⟩ := hF
        dsimp only [owes4, bare]
        simp only [putsD, Act.put, List.setIfInBounds_toArray, List.set_cons_zero, List.set_cons_succ]
        simp only [e16, e17]
        go_wp2
        exact ⟨rfl, rfl, ⟨fun h9 => absurd h9 (Nat.ne_of_beq_eq_false rfl), fun _ => Below.refl _ _⟩, hI⟩
      · intro vals xw f hf1 hf2 hf3 hI hF
        clear hf2 hf3
        simp only [saysD, List.getD_cons_zero, List.getD_cons_succ, and_true] at hF
        have e18 := hF
        dsimp only [owes4, bare]
        simp only [putsD, Act.put, List.setIfInBounds_toArray, List.set_cons_zero, List.set_cons_succ]
        simp only [e18]
        have c9 := HRX.out _ hI.1
        go_wp2
        exact ⟨rfl, rfl, ⟨fun h9 => absurd h9 (Nat.ne_of_beq_eq_false rfl), fun _ => Below.refl _ _⟩, hI⟩
      · intro vals xw f hf1 hf2 hf3 hI hF
        clear hf2 hf3
        dsimp only [owes4, bare]
        simp only [putsD, Act.put, List.setIfInBounds_toArray, List.set_cons_zero, List.set_cons_succ]
        go_wp2
        exact ⟨rfl, rfl, ⟨fun h9 => absurd h9 (Nat.ne_of_beq_eq_false rfl), fun _ => Below.refl _ _⟩, hI⟩
      · intro vals xw f hf1 hf2 hf3 hI hF
        clear hf2 hf3
        dsimp only [owes4, bare]
        simp only [putsD, Act.put, List.setIfInBounds_toArray, List.set_cons_zero, List.set_cons_succ]
        go_wp2
        exact ⟨rfl, rfl, ⟨fun h9 => absurd h9 (Nat.ne_of_beq_eq_false rfl), fun _ => Below.refl _ _⟩, hI⟩
      · intro vals xw f hf1 hf2 hf3 hI hF
        clear hf2 hf3
        simp only [saysD, List.getD_cons_zero, List.getD_cons_succ, and_true] at hF
        obtain ⟨e20, e21⟩ := hF
        dsimp only [owes4, bare]
        simp only [putsD, Act.put, List.setIfInBounds_toArray, List.set_cons_zero, List.set_cons_succ]
        simp only [e20, e21]
        go_wp2
        exact ⟨rfl, rfl, ⟨fun h9 => absurd h9 (Nat.ne_of_beq_eq_false rfl), fun _ => Below.refl _ _⟩, hI⟩
      · intro vals xw f hf1 hf2 hf3 hI hF
        clear hf2 hf3
        simp only [saysD, List.getD_cons_zero, List.getD_cons_succ, and_true] at hF
        have e22 := hF
        dsimp only [owes4, bare]
        simp only [putsD, Act.put, List.setIfInBounds_toArray, List.set_cons_zero, List.set_cons_succ]
        simp only [e22]
        have c9 := HRY.out _ hI.1
        go_wp2
        exact ⟨rfl, rfl, ⟨fun h9 => absurd h9 (Nat.ne_of_beq_eq_false rfl), fun _ => Below.refl _ _⟩, hI⟩
      · intro vals xw f hf1 hf2 hf3 hI hF
        clear hf2 hf3
        simp only [saysD, List.getD_cons_zero, List.getD_cons_succ, and_true] at hF
        obtain ⟨e15, e19, e23⟩ := hF
        dsimp only [owes4, bare]
        simp only [putsD, Act.put, List.setIfInBounds_toArray, List.set_cons_zero, List.set_cons_succ]
        simp only [e15, e19, e23]
        obtain ⟨i1, i2⟩ := hI
        rw [hf1, if_neg (by simp)] at i2
        have I1 := Lib.hid i1
        have HC := Lib.hid (bXor_any a0 a1 lo q r s1 x y xw i2 HXYM.out.1 HXYM.out.2)
        rw [← HM.out] at HC
        clear i1 i2
        go_wp2_with fail
        refine HC.out.mono ?_
        rintro e wx ⟨rfl, hb9, hd9⟩
        have HB9 := Lib.hid hb9
        have HD9 := Lib.hid hd9
        clear hb9 hd9 HC
        go_wp2
        exact ⟨rfl, rfl, ⟨fun _ => HB9.out, fun h9 => absurd rfl h9⟩, I1.out.trans HB9.out, by rw [did_same, if_pos rfl]; exact HD9.out⟩
      · intro vals xw f hf1 hf2 hf3 hI hF
        clear hf2 hf3
        simp only [saysD, List.getD_cons_zero, List.getD_cons_succ, and_true] at hF
        have e24 := hF
        dsimp only [owes4, bare]
        simp only [putsD, Act.put, List.setIfInBounds_toArray, List.set_cons_zero, List.set_cons_succ]
        simp only [e24]
        go_wp2
        exact ⟨rfl, rfl, ⟨fun h9 => absurd h9 (Nat.ne_of_beq_eq_false rfl), fun _ => Below.refl _ _⟩, hI⟩
      · intro vals xw f hall hI hF
        rw [show List.range _ = [0, 1, 2, 3, 4, 5, 6, 7, 8, 9, 10] from rfl] at hF
        simp only [says, List.getD_cons_zero, List.getD_cons_succ, and_true] at hF
        obtain ⟨i1, i2⟩ := hI
        rw [hall 9 (by decide), if_pos rfl] at i2
        obtain ⟨_, _, _, _, _, _, _, _, _, _, e9⟩ := hF
        simp only [putsD, Act.put, List.setIfInBounds_toArray, List.set_cons_zero, List.set_cons_succ]
        simp only [e9]
        clear e9
        have hmn := HMB.out.2
        obtain ⟨_, hm0, hm1⟩ := hmn
        have c9 := HRY.out _ i1
        obtain ⟨p, hp⟩ : ∃ p, p = run opsP (muxP m.2 y rr) m.1 := ⟨_, rfl⟩
        have HP := Lib.hid hp
        have HC := Lib.hid (bMux_any a0 a1 lo q r m.1 m.2 y rr xw i2 HMB.out.2 HXYM.out.2 HRR.out)
        rw [← hp] at HC
        have HPM : Hid (MB p.2) := Lib.hid (by rw [hp]; exact (mux_mb HMB.out.1 HMB.out.2.rb HXYM.out.2.rb HRR.out.rb).2)
        have I1 := Lib.hid i1
        clear i1 i2 hp
        go_wp2_with fail
        refine HC.out.mono ?_
        rintro e w2 ⟨rfl, hb2, hd2⟩
        have HB2 := Lib.hid (I1.out.trans hb2)
        have HD2 := Lib.hid hd2
        clear hb2 hd2 HC c9
        go_wp2
        go_roundw
        case rel => exact ⟨k + 1, p.1, p.2, by omega, by go_num, rfl, HPM.out, HB2.out, HD2.out, Lib.hid (by rw [HP.out, HM.out]; exact HST.out)⟩
        case measure => simp [intOf]; omega
    · have hke : k = xs.length := by omega
      subst hke
      have hlt2 : ¬ ((xs.length : Nat) : Int) < xs.length := by omega
      go_wp2
      go_ret
      have hd1 : xs.drop xs.length = [] := List.drop_length
      have hd2 : ys.drop xs.length = [] := by rw [HL.out]; exact List.drop_length
      have hst2 := hst.out
      rw [hd1, hd2] at hst2
      have hT2 : T = (s1, rr) := by rw [← hst2]; rfl
      rw [hT2]
      exact ⟨rfl, HBB.out, HBD.out⟩
set_option maxRecDepth 100000 in
set_option maxHeartbeats 4000000 in
theorem bSame_any (a0 a1 : Addr) (lo q r : Nat) (X Y : Option Addr) (cx cy : Nat) (xs ys : List Int) (s : BS) (w : World) (h : Bd a0 a1 lo w q r s) (hX : Lay.int.Pl w X xs) (hY : Lay.int.Pl w Y ys) (hxm : ∀ x ∈ xs, MB x) (hym : ∀ y ∈ ys, MB y) (hl : xs.length = ys.length) (hn : xs.length ≤ 1000) :
    Calls Tryd.prog 93 #[.pointer (some ⟨q, 0, none⟩), .slice X xs.length cx, .slice Y ys.length cy] w (RetM a0 a1 lo w q r (run opsP (sameP xs ys 1) s)) := by
  obtain ⟨T, hT⟩ : ∃ T, T = run opsP (sameP xs ys 1) s := ⟨_, rfl⟩
  rw [← hT]
  have HT := Lib.hid hT
  have HB := Lib.hid h
  have HX := Lib.hid hX
  have HY := Lib.hid hY
  have HXM := Lib.hid hxm
  have HYM := Lib.hid hym
  have HL := Lib.hid hl
  have hlo := h.size
  clear hT h hX hY hxm hym
  rw [← hl]
  clear hl
  go_enter Tryd.func93, Tryd.ntmps93
  go_wp2
  go_loopw [7, 12] (fun rv i wr => ∃ (k : Nat) (s1 : BS) (rr : Int), k ≤ xs.length ∧ i = .int .i64 k ∧ rv = .int .i64 rr ∧ MB rr ∧ BelB lo w wr ∧ Bd a0 a1 lo wr q r s1 ∧ Hid (run opsP (sameP (xs.drop k) (ys.drop k) rr) s1 = T)) (fun _ i _ => xs.length - (intOf i).toNat)
  case atStart => exact ⟨0, s, 1, Nat.zero_le _, rfl, rfl, by unfold MB; omega, .refl _ _, HB.out, Lib.hid (by rw [HT.out]; rfl)⟩
  case round =>
    obtain ⟨k, s1, rr, hk, rfl, rfl, hrr, hbb, hbd, hst⟩ := hrel
    have HRR := Lib.hid hrr
    have HBB := Lib.hid hbb
    have HBD := Lib.hid hbd
    clear hbb hbd hrr
    by_cases hlt : k < xs.length
    · have hlt2 : (k : Int) < xs.length := by omega
      have hlty : k < ys.length := by rw [← HL.out]; exact hlt
      obtain ⟨x, hx⟩ : ∃ x, xs[k]? = some x := ⟨_, List.getElem?_eq_getElem hlt⟩
      obtain ⟨y, hy⟩ : ∃ y, ys[k]? = some y := ⟨_, List.getElem?_eq_getElem hlty⟩
      have hxg : xs[k] = x := (List.getElem?_eq_some_iff.1 hx).2
      have hyg : ys[k] = y := (List.getElem?_eq_some_iff.1 hy).2
      have HXYM := Lib.hid (And.intro (HXM.out x (List.mem_of_getElem? hx)) (HYM.out y (List.mem_of_getElem? hy)))
      obtain ⟨adx, rfl, -, -⟩ := HX.out.at_int hlt
      obtain ⟨ady, rfl, -, -⟩ := HY.out.at_int hlty
      obtain ⟨m, hm⟩ : ∃ m, m = opsP.xor s1 x y := ⟨_, rfl⟩
      have HST := Lib.hid ((run_same (o := opsP) xs ys k x y hx hy s1 rr).symm.trans hst.out)
      have HM := Lib.hid hm
      have HMB : Hid (NB m.1.n ∧ MB m.2) := Lib.hid (by rw [hm]; exact opsP_xor_mb HBD.out.nb HXYM.out.1.rb HXYM.out.2.rb)
      have HRX : Hid (∀ z, BelB lo w z → z.cell? (adx.add k) = some (.int .i64 x)) := Lib.hid fun z hz => by
        obtain ⟨ad, e, _, hc⟩ := (HX.out.upB hz).at_int hlt
        injection e with e; subst e; rw [← hxg]; exact hc
      have HRY : Hid (∀ z, BelB lo w z → z.cell? (ady.add k) = some (.int .i64 y)) := Lib.hid fun z hz => by
        obtain ⟨ad, e, _, hc⟩ := (HY.out.upB hz).at_int hlty
        injection e with e; subst e; rw [← hyg]; exact hc
      clear hm hx hy hxg hyg hst hlty
      go_wp2
      refine wp_region_rel4 [[], [], [], [(1, 16), (2, 17)], [(3, 18)], [], [], [(5, 20), (6, 21)], [(7, 22)], [(0, 15), (4, 19), (8, 23)], [(9, 24)]]
        (fun x9 y9 => Below x9.heap.size x9 y9)
        [(9, fun x9 y9 => BelB lo x9 y9)]
        (fun f9 x9 => GateI a0 a1 lo w q r s1 m.1 (f9 9) x9)
        [fun vs9 _ => vs9 0 = (.pointer (some ⟨q, 0, none⟩)),
    fun vs9 _ => vs9 1 = (.slice (some adx) xs.length cx),
    fun vs9 _ => vs9 2 = (.int .i64 (k : Int)),
    fun vs9 _ => vs9 3 = (.pointer (some (adx.add k))),
    fun vs9 _ => vs9 4 = (.int .i64 x),
    fun vs9 _ => vs9 5 = (.slice (some ady) xs.length cy),
    fun vs9 _ => vs9 6 = (.int .i64 (k : Int)),
    fun vs9 _ => vs9 7 = (.pointer (some (ady.add k))),
    fun vs9 _ => vs9 8 = (.int .i64 y),
    fun vs9 _ => vs9 9 = (.int .i64 m.2),
    fun vs9 _ => vs9 10 = (.int .i64 m.2)]
        [(0, 15), (1, 16), (2, 17), (3, 18), (4, 19), (5, 20), (6, 21), (7, 22), (8, 23), (9, 24), (10, 9)] (by kernel_rfl) (by kernel_rfl) (by kernel_rfl) (by kernel_rfl)
        (fun _ => Below.refl _ _) ⟨fun _ => BelB.refl _ _, trivial⟩
        ⟨⟨.inr (fun _ _ _ h _ => h), ⟨.inr (.inr (fun _ _ _ h _ => h)), trivial⟩⟩,
    ⟨.inr (fun _ _ _ h _ => h), ⟨.inr (.inr (fun _ _ _ h _ => h)), trivial⟩⟩,
    ⟨.inr (fun _ _ _ h _ => h), ⟨.inr (.inr (fun _ _ _ h _ => h)), trivial⟩⟩,
    ⟨.inr (fun _ _ _ h _ => h), ⟨.inr (.inr (fun _ _ _ h _ => h)), trivial⟩⟩,
    ⟨.inr (fun _ _ _ h _ => h), ⟨.inr (.inr (fun _ _ _ h _ => h)), trivial⟩⟩,
    ⟨.inr (fun _ _ _ h _ => h), ⟨.inr (.inr (fun _ _ _ h _ => h)), trivial⟩⟩,
    ⟨.inr (fun _ _ _ h _ => h), ⟨.inr (.inr (fun _ _ _ h _ => h)), trivial⟩⟩,
    ⟨.inr (fun _ _ _ h _ => h), ⟨.inr (.inr (fun _ _ _ h _ => h)), trivial⟩⟩,
    ⟨.inr (fun _ _ _ h _ => h), ⟨.inr (.inr (fun _ _ _ h _ => h)), trivial⟩⟩,
    ⟨.inr (fun _ _ _ h _ => h), ⟨.inr (.inl rfl), trivial⟩⟩,
    ⟨.inr (fun _ _ _ h _ => h), ⟨.inr (.inr (fun _ _ _ h _ => h)), trivial⟩⟩, trivial⟩ ⟨fun vs vs' x h _ hv => (by dsimp only at hv ⊢; first | (rw [← h]; exact hv) | exact hv),
    fun vs vs' x h _ hv => (by dsimp only at hv ⊢; first | (rw [← h]; exact hv) | exact hv),
    fun vs vs' x h _ hv => (by dsimp only at hv ⊢; first | (rw [← h]; exact hv) | exact hv),
    fun vs vs' x h _ hv => (by dsimp only at hv ⊢; first | (rw [← h]; exact hv) | exact hv),
    fun vs vs' x h _ hv => (by dsimp only at hv ⊢; first | (rw [← h]; exact hv) | exact hv),
    fun vs vs' x h _ hv => (by dsimp only at hv ⊢; first | (rw [← h]; exact hv) | exact hv),
    fun vs vs' x h _ hv => (by dsimp only at hv ⊢; first | (rw [← h]; exact hv) | exact hv),
    fun vs vs' x h _ hv => (by dsimp only at hv ⊢; first | (rw [← h]; exact hv) | exact hv),
    fun vs vs' x h _ hv => (by dsimp only at hv ⊢; first | (rw [← h]; exact hv) | exact hv),
    fun vs vs' x h _ hv => (by dsimp only at hv ⊢; first | (rw [← h]; exact hv) | exact hv),
    fun vs vs' x h _ hv => (by dsimp only at hv ⊢; first | (rw [← h]; exact hv) | exact hv), trivial⟩ (⟨HBB.out.trans (.of (below_drewN (Below.refl _ _) 1) HBD.out.size), by rw [if_neg (by simp)]; exact HBD.out.up (below_drewN (Below.refl _ _) 1)⟩) ⟨?_, ?_, ?_, ?_, ?_, ?_, ?_, ?_, ?_, ?_, ?_, trivial⟩ ?_
      · intro vals xw f hf1 hf2 hf3 hI hF
        clear hf2 hf3
        dsimp only [owes4, bare]
        simp only [putsD, Act.put, List.setIfInBounds_toArray, List.set_cons_zero, List.set_cons_succ]
        go_wp2
        exact ⟨rfl, rfl, ⟨fun h9 => absurd h9 (Nat.ne_of_beq_eq_false rfl), fun _ => Below.refl _ _⟩, hI⟩
      · intro vals xw f hf1 hf2 hf3 hI hF
        clear hf2 hf3
        dsimp only [owes4, bare]
        simp only [putsD, Act.put, List.setIfInBounds_toArray, List.set_cons_zero, List.set_cons_succ]
        go_wp2
        exact ⟨rfl, rfl, ⟨fun h9 => absurd h9 (Nat.ne_of_beq_eq_false rfl), fun _ => Below.refl _ _⟩, hI⟩
      · intro vals xw f hf1 hf2 hf3 hI hF
        clear hf2 hf3
        dsimp only [owes4, bare]
        simp only [putsD, Act.put, List.setIfInBounds_toArray, List.set_cons_zero, List.set_cons_succ]
        go_wp2
        exact ⟨rfl, rfl, ⟨fun h9 => absurd h9 (Nat.ne_of_beq_eq_false rfl), fun _ => Below.refl _ _⟩, hI⟩
      · intro vals xw f hf1 hf2 hf3 hI hF
        clear hf2 hf3
        simp only [saysD, List.getD_cons_zero, List.getD_cons_succ, and_true] at hF
        obtain ⟨e16, e17⟩ := hF
        dsimp only [owes4, bare]
        simp only [putsD, Act.put, List.setIfInBounds_toArray, List.set_cons_zero, List.set_cons_succ]
        simp only [e16, e17]
        go_wp2
        exact ⟨rfl, rfl, ⟨fun h9 => absurd h9 (Nat.ne_of_beq_eq_false rfl), fun _ => Below.refl _ _⟩, hI⟩
      · intro vals xw f hf1 hf2 hf3 hI hF
        clear hf2 hf3
        simp only [saysD, List.getD_cons_zero, List.getD_cons_succ, and_true] at hF
        have e18 := hF
        dsimp only [owes4, bare]
        simp only [putsD, Act.put, List.setIfInBounds_toArray, List.set_cons_zero, List.set_cons_succ]
        simp only [e18]
        have c9 := HRX.out _ hI.1
        go_wp2
        exact ⟨rfl, rfl, ⟨fun h9 => absurd h9 (Nat.ne_of_beq_eq_false rfl), fun _ => Below.refl _ _⟩, hI⟩
      · intro vals xw f hf1 hf2 hf3 hI hF
        clear hf2 hf3
        dsimp only [owes4, bare]
        simp only [putsD, Act.put, List.setIfInBounds_toArray, List.set_cons_zero, List.set_cons_succ]
        go_wp2
        exact ⟨rfl, rfl, ⟨fun h9 => absurd h9 (Nat.ne_of_beq_eq_false rfl), fun _ => Below.refl _ _⟩, hI⟩
      · intro vals xw f hf1 hf2 hf3 hI hF
        clear hf2 hf3
        dsimp only [owes4, bare]
        simp only [putsD, Act.put, List.setIfInBounds_toArray, List.set_cons_zero, List.set_cons_succ]
        go_wp2
        exact ⟨rfl, rfl, ⟨fun h9 => absurd h9 (Nat.ne_of_beq_eq_false rfl), fun _ => Below.refl _ _⟩, hI⟩
      · intro vals xw f hf1 hf2 hf3 hI hF
        clear hf2 hf3
        simp only [saysD, List.getD_cons_zero, List.getD_cons_succ, and_true] at hF
        obtain ⟨e20, e21⟩ := hF
        dsimp only [owes4, bare]
        simp only [putsD, Act.put, List.setIfInBounds_toArray, List.set_cons_zero, List.set_cons_succ]
        simp only [e20, e21]
        go_wp2
        exact ⟨rfl, rfl, ⟨fun h9 => absurd h9 (Nat.ne_of_beq_eq_false rfl), fun _ => Below.refl _ _⟩, hI⟩
      · intro vals xw f hf1 hf2 hf3 hI hF
        clear hf2 hf3
        simp only [saysD, List.getD_cons_zero, List.getD_cons_succ, and_true] at hF
        have e22 := hF
        dsimp only [owes4, bare]
        simp only [putsD, Act.put, List.setIfInBounds_toArray, List.set_cons_zero, List.set_cons_succ]
        simp only [e22]
        have c9 := HRY.out _ hI.1
        go_wp2
        exact ⟨rfl, rfl, ⟨fun h9 => absurd h9 (Nat.ne_of_beq_eq_false rfl), fun _ => Below.refl _ _⟩, hI⟩
      · intro vals xw f hf1 hf2 hf3 hI hF
        clear hf2 hf3
        simp only [saysD, List.getD_cons_zero, List.getD_cons_succ, and_true] at hF
        obtain ⟨e15, e19, e23⟩ := hF
        dsimp only [owes4, bare]
        simp only [putsD, Act.put, List.setIfInBounds_toArray, List.set_cons_zero, List.set_cons_succ]
        simp only [e15, e19, e23]
        obtain ⟨i1, i2⟩ := hI
        rw [hf1, if_neg (by simp)] at i2
        have I1 := Lib.hid i1
        have HC := Lib.hid (bXor_any a0 a1 lo q r s1 x y xw i2 HXYM.out.1 HXYM.out.2)
        rw [← HM.out] at HC
        clear i1 i2
        go_wp2_with fail
        refine HC.out.mono ?_
        rintro e wx ⟨rfl, hb9, hd9⟩
        have HB9 := Lib.hid hb9
        have HD9 := Lib.hid hd9
        clear hb9 hd9 HC
        go_wp2
        exact ⟨rfl, rfl, ⟨fun _ => HB9.out, fun h9 => absurd rfl h9⟩, I1.out.trans HB9.out, by rw [did_same, if_pos rfl]; exact HD9.out⟩
      · intro vals xw f hf1 hf2 hf3 hI hF
        clear hf2 hf3
        simp only [saysD, List.getD_cons_zero, List.getD_cons_succ, and_true] at hF
        have e24 := hF
        dsimp only [owes4, bare]
        simp only [putsD, Act.put, List.setIfInBounds_toArray, List.set_cons_zero, List.set_cons_succ]
        simp only [e24]
        go_wp2
        exact ⟨rfl, rfl, ⟨fun h9 => absurd h9 (Nat.ne_of_beq_eq_false rfl), fun _ => Below.refl _ _⟩, hI⟩
      · intro vals xw f hall hI hF
        rw [show List.range _ = [0, 1, 2, 3, 4, 5, 6, 7, 8, 9, 10] from rfl] at hF
        simp only [says, List.getD_cons_zero, List.getD_cons_succ, and_true] at hF
        obtain ⟨i1, i2⟩ := hI
        rw [hall 9 (by decide), if_pos rfl] at i2
        obtain ⟨_, _, _, _, _, _, _, _, _, _, e9⟩ := hF
        simp only [putsD, Act.put, List.setIfInBounds_toArray, List.set_cons_zero, List.set_cons_succ]
        simp only [e9]
        clear e9
        have hmn := HMB.out.2
        obtain ⟨_, hm0, hm1⟩ := hmn
        have c9 := HRY.out _ i1
        obtain ⟨p, hp⟩ : ∃ p, p = opsP.and m.1 rr (-m.2) := ⟨_, rfl⟩
        have HP := Lib.hid hp
        have HC := Lib.hid (bAnd_any a0 a1 lo q r m.1 rr (-m.2) xw i2 HRR.out HMB.out.2.neg)
        rw [← hp] at HC
        have HPM : Hid (MB p.2) := Lib.hid (by rw [hp]; exact (opsP_and_mb HMB.out.1 HRR.out.rb HMB.out.2.neg.rb).2)
        have I1 := Lib.hid i1
        clear i1 i2 hp
        go_wp2_with fail
        refine HC.out.mono ?_
        rintro e w2 ⟨rfl, hb2, hd2⟩
        have HB2 := Lib.hid (I1.out.trans hb2)
        have HD2 := Lib.hid hd2
        clear hb2 hd2 HC c9
        go_wp2
        go_roundw
        case rel => exact ⟨k + 1, p.1, p.2, by omega, by go_num, rfl, HPM.out, HB2.out, HD2.out, Lib.hid (by rw [HP.out, HM.out]; exact HST.out)⟩
        case measure => simp [intOf]; omega
    · have hke : k = xs.length := by omega
      subst hke
      have hlt2 : ¬ ((xs.length : Nat) : Int) < xs.length := by omega
      go_wp2
      go_ret
      have hd1 : xs.drop xs.length = [] := List.drop_length
      have hd2 : ys.drop xs.length = [] := by rw [HL.out]; exact List.drop_length
      have hst2 := hst.out
      rw [hd1, hd2] at hst2
      have hT2 : T = (s1, rr) := by rw [← hst2]; rfl
      rw [hT2]
      exact ⟨rfl, HBB.out, HBD.out⟩
end Go.Proofs.YtjghcaghigebjaaDoor

/-! The program's comparisons: under, compare. -/
namespace Go.Proofs.YtjghcaghigebjaaDoor
open Go Go.RowKit

def RetSg (w : World) (xs : List Int) (e : Ending) (w' : World) : Prop := ∃ A c, e = .returned (.slice A xs.length c) ∧ OwnSg w' w.heap.size (.slice A xs.length c) xs ∧ Below w.heap.size w w'
theorem own_lit0S (W : World) : OwnSg (W.alloc (.cells #[] 83)) W.heap.size (.slice (some ⟨W.heap.size, 0, none⟩) 0 0) [] := own_lit0 rfl
set_option maxRecDepth 100000 in
theorem cloneS_any (A : Option Addr) (c : Nat) (xs : List Int) (w : World) (h : Lay.int.Rd w A xs) (hn : xs.length ≤ 1048576) :
    Calls Tryd.prog 120 #[.slice A xs.length c] w (RetSg w xs) := by
  obtain ⟨i0, hi0, hz0, hz1, hz2⟩ := info_parts signal_info
  cases A with
  | none =>
    have h0 : xs = [] := List.eq_nil_of_length_eq_zero (sl_none h rfl)
    subst h0
    have he : ∀ w : World, (binOp .eql 74 (.slice none 0 c) (.slice none 0 0)).run Tryd.prog w = .ok (.bool true) w := fun _ => rfl
    go_enter Tryd.func120, Tryd.ntmps120
    go_wp2
    go_ret
    exact ⟨none, 0, rfl, World.ownsRow_nil _ _ _ _, Below.refl _ _⟩
  | some ad =>
    have he : ∀ w : World, (binOp .eql 74 (.slice (some ad) xs.length c) (.slice none 0 0)).run Tryd.prog w = .ok (.bool false) w := fun _ => rfl
    go_enter Tryd.func120, Tryd.ntmps120
    go_wp2_with (at_builtin; refine wpList_append_src _ (by rfl) (.tmp 5) (.tmp 6) _ (by rfl) w.heap.size 83 i0 _ 1 8 Tryd.underlying74 hi0 hz0 hz1 hz2 (by rfl) (by omega) (.slice (some ⟨w.heap.size, 0, none⟩) 0 0) 0 [] (by rfl) (own_lit0 rfl) (some ad) xs.length c (xs.map (Value.int .i64)) (by rfl) (src_ints (Lay.Sl.up h ((Below.refl _ _).alloc (Nat.le_refl _) _))) (ints_one _) xs.length (by omega) (by unfold maxLen; omega) (by omega) (by simp) (by simp) ?_; intro A1 c1 w1 hown1 hb1 hg1)
    have hbw : Below w.heap.size w w1 := ((Below.refl _ _).alloc (Nat.le_refl _) _).trans hb1
    go_ret
    exact ⟨A1, c1, rfl, by unfold OwnSg; simpa using hown1, hbw⟩
theorem OwnSg.setS {w : World} {lo g c k : Nat} {xs : List Int} (h : OwnSg w lo (.slice (some ⟨g, 0, none⟩) xs.length c) xs) (x : Int) : OwnSg (w.setCell ⟨g, k, none⟩ (.int .i64 x)) lo (.slice (some ⟨g, 0, none⟩) xs.length c) (xs.set k x) := by
  have := (h.stored k (.int .i64 x)).1
  unfold OwnSg
  rw [List.length_set, List.map_set]
  exact this
theorem OwnSg.other {w : World} {lo g k : Nat} {v : Value} {xs : List Int} (h : OwnSg w lo v xs) (hv : v.ownBlock ≠ some g) (u : Value) : OwnSg (w.setCell ⟨g, k, none⟩ u) lo v xs := rows_set h g k u hv
theorem OwnSg.cellS {w : World} {lo g c k : Nat} {xs : List Int} (h : OwnSg w lo (.slice (some ⟨g, 0, none⟩) xs.length c) xs) (hk : k < xs.length) : w.cell? ⟨g, k, none⟩ = some (.int .i64 xs[k]) ∧ w.frozen? ⟨g, k, none⟩ = false := by
  refine ⟨?_, h.frozenAt k⟩
  have hc := h.2
  rcases hc with ⟨e, _⟩ | ⟨g', cap, cur, e, _, _, h3, _⟩
  · cases e
  · have hx := h.cellAt k (by simp; omega)
    rw [hx, List.getElem?_map, List.getElem?_eq_getElem hk]; rfl
theorem OwnSg.first {w : World} {lo c : Nat} {A : Option Addr} {xs : List Int} (h : OwnSg w lo (.slice A xs.length c) xs) (hx : 0 < xs.length) : ∃ g, A = some ⟨g, 0, none⟩ ∧ lo ≤ g ∧ g < w.heap.size := by
  rcases h.2 with ⟨_, e⟩ | ⟨g, cap, cur, e, hb, hg, _⟩
  · omega
  · injection e with e; exact ⟨g, e, hb, (Array.getElem?_eq_some_iff.1 hg).1⟩
theorem OwnSg.plS {w : World} {lo c : Nat} {A : Option Addr} {xs ys : List Int} (h : OwnSg w lo (.slice A xs.length c) ys) (hl : xs.length = ys.length) : Lay.int.Pl w A ys := by
  rw [hl] at h; exact h.pl.2
/-- The last ones exchanged. -/
def topL (xs ys : List Int) : List Int := xs.set (xs.length - 1) (ys.getD (xs.length - 1) 0)
theorem topL_len (xs ys : List Int) : (topL xs ys).length = xs.length := by unfold topL; simp
theorem getD_at {l : List Int} {k : Nat} (h : k < l.length) : l.getD k 0 = l[k] := by simp [List.getD, h]
theorem topL_mem {xs ys : List Int} {P : Int → Prop} (hx : ∀ x ∈ xs, P x) (hy : ∀ y ∈ ys, P y) (hl : xs.length = ys.length) (h0 : 0 < xs.length) : ∀ z ∈ topL xs ys, P z := fun z hz => by
  unfold topL at hz
  rcases List.mem_or_eq_of_mem_set hz with hz | hz
  · exact hx z hz
  · rw [hz, getD_at (by omega : xs.length - 1 < ys.length)]; exact hy _ (List.getElem_mem _)
set_option maxRecDepth 100000 in
set_option maxHeartbeats 4000000 in
theorem bUnder_any (a0 a1 : Addr) (lo q r : Nat) (X Y : Option Addr) (cx cy : Nat) (xs ys : List Int) (s : BS) (w : World) (h : Bd a0 a1 lo w q r s) (hX : Lay.int.Pl w X xs) (hY : Lay.int.Pl w Y ys) (hxm : ∀ x ∈ xs, MB x) (hym : ∀ y ∈ ys, MB y) (hl : xs.length = ys.length) (h0 : 0 < xs.length) (hn : xs.length ≤ 1000) :
    Calls Tryd.prog 95 #[.pointer (some ⟨q, 0, none⟩), .slice X xs.length cx, .slice Y ys.length cy] w (RetM a0 a1 lo w q r (run opsP (lessP (topL xs ys) (topL ys xs) (-1)) s)) := by
  have HB := Lib.hid h
  have HY := Lib.hid hY
  have HXM := Lib.hid hxm
  have HYM := Lib.hid hym
  have HL := Lib.hid hl
  have hlo := h.size
  have h0' : 0 < ys.length := by omega
  have hny : ys.length ≤ 1000 := by omega
  obtain ⟨k, hk⟩ : ∃ k : Nat, k + 1 = xs.length := ⟨xs.length - 1, by omega⟩
  have hkI : (xs.length : Int) - 1 = (k : Int) := by omega
  have HK : Hid (xs.length - 1 = k ∧ ys.length - 1 = k) := Lib.hid (by omega)
  have hlx : k < xs.length := by omega
  have hly : k < ys.length := by omega
  clear hk
  have HC1 := Lib.hid (cloneS_any X cx xs w hX.plrd (by omega))
  clear h hX hY hxm hym hl
  go_enter Tryd.func95, Tryd.ntmps95
  go_wp2_with fail
  clear hkI
  refine HC1.out.mono ?_
  rintro e w1 ⟨A1, c1, rfl, ho1, hb1⟩
  have HO1 := Lib.hid ho1
  have HB1 := Lib.hid hb1
  have HC2 := Lib.hid (cloneS_any Y cy ys w1 (HY.out.plrd.up hb1) (by omega))
  have hsz1 := hb1.size
  clear ho1 hb1 HC1
  go_wp2_with fail
  refine HC2.out.mono ?_
  rintro e w2 ⟨A2, c2, rfl, ho2, hb2⟩
  have HO2 := Lib.hid ho2
  obtain ⟨gx, rfl, gx0, hgx⟩ := HO1.out.first h0
  have HO1 : Hid (OwnSg w2 w.heap.size (.slice (some ⟨gx, 0, none⟩) xs.length c1) xs) := Lib.hid (own_below HO1.out hb2 (Nat.le_refl _))
  have HB2 := Lib.hid (bthen HB1.out hb2)
  obtain ⟨gy, rfl, gy0, -⟩ := ho2.first h0'
  have hne : gx ≠ gy := by omega
  clear ho2 hb2 HC2 HB1
  obtain ⟨x, hx⟩ : ∃ x, x = xs[k] := ⟨_, rfl⟩
  obtain ⟨y, hy⟩ : ∃ y, y = ys[k] := ⟨_, rfl⟩
  have HXE := Lib.hid hx
  have HYE := Lib.hid hy
  have HTX : Hid (topL xs ys = xs.set k y) := Lib.hid (by unfold topL; rw [HK.out.1, getD_at hly, hy])
  have HTY : Hid (topL ys xs = ys.set k x) := Lib.hid (by unfold topL; rw [HK.out.2, getD_at hlx, hx])
  have hkx2 : (k : Int) < xs.length := by omega
  have hky2 : (k : Int) < ys.length := by omega
  clear hx hy
  go_wp2
  refine wp_region_rel4 [[], [], [], [], [], [], [(4, 19), (5, 20)], [(6, 21)], [], [], [(8, 23), (9, 24)], [(10, 25)], [(0, 15), (1, 16)], [(7, 22), (12, 27)], [(2, 17), (3, 18)], [(11, 26), (14, 28)]]
    (fun x9 y9 => Below x9.heap.size x9 y9)
    [(13, fun x9 y9 => x9.grownBy y9 (some gx)), (15, fun x9 y9 => x9.grownBy y9 (some gy))]
    (fun f9 x9 => Below w.heap.size w x9 ∧ (f9 13 = false → OwnSg x9 w.heap.size (.slice (some ⟨gx, 0, none⟩) xs.length c1) xs) ∧ (f9 13 = true → OwnSg x9 w.heap.size (.slice (some ⟨gx, 0, none⟩) xs.length c1) (xs.set k y)) ∧ (f9 15 = false → OwnSg x9 w1.heap.size (.slice (some ⟨gy, 0, none⟩) ys.length c2) ys) ∧ (f9 15 = true → OwnSg x9 w1.heap.size (.slice (some ⟨gy, 0, none⟩) ys.length c2) (ys.set k x)))
    [fun vs9 _ => vs9 0 = (.slice (some ⟨gx, 0, none⟩) xs.length c1),
    fun vs9 _ => vs9 1 = (.int .i64 (k : Int)),
    fun vs9 _ => vs9 2 = (.slice (some ⟨gy, 0, none⟩) ys.length c2),
    fun vs9 _ => vs9 3 = (.int .i64 (k : Int)),
    fun vs9 _ => vs9 4 = (.slice (some ⟨gy, 0, none⟩) ys.length c2),
    fun vs9 _ => vs9 5 = (.int .i64 (k : Int)),
    fun vs9 _ => vs9 6 = (.pointer (some ⟨gy, k, none⟩)),
    fun vs9 _ => vs9 7 = (.int .i64 y),
    fun vs9 _ => vs9 8 = (.slice (some ⟨gx, 0, none⟩) xs.length c1),
    fun vs9 _ => vs9 9 = (.int .i64 (k : Int)),
    fun vs9 _ => vs9 10 = (.pointer (some ⟨gx, k, none⟩)),
    fun vs9 _ => vs9 11 = (.int .i64 x),
    fun vs9 _ => vs9 12 = (.pointer (some ⟨gx, k, none⟩)),
    fun _ _ => True,
    fun vs9 _ => vs9 14 = (.pointer (some ⟨gy, k, none⟩)),
    fun _ _ => True]
    [(0, 15), (1, 16), (2, 17), (3, 18), (4, 19), (5, 20), (6, 21), (7, 22), (8, 23), (9, 24), (10, 25), (11, 26), (12, 27), (14, 28)] (by kernel_rfl) (by kernel_rfl) (by kernel_rfl) (by kernel_rfl)
    (fun _ => Below.refl _ _) ⟨fun _ => World.grownBy.refl _ _, fun _ => World.grownBy.refl _ _, trivial⟩
    ⟨⟨.inr (fun _ _ _ h _ => h), ⟨.inr (.inr (fun _ _ _ h _ => h)), .inr (.inr (fun _ _ _ h _ => h)), trivial⟩⟩,
    ⟨.inr (fun _ _ _ h _ => h), ⟨.inr (.inr (fun _ _ _ h _ => h)), .inr (.inr (fun _ _ _ h _ => h)), trivial⟩⟩,
    ⟨.inr (fun _ _ _ h _ => h), ⟨.inr (.inr (fun _ _ _ h _ => h)), .inr (.inr (fun _ _ _ h _ => h)), trivial⟩⟩,
    ⟨.inr (fun _ _ _ h _ => h), ⟨.inr (.inr (fun _ _ _ h _ => h)), .inr (.inr (fun _ _ _ h _ => h)), trivial⟩⟩,
    ⟨.inr (fun _ _ _ h _ => h), ⟨.inr (.inr (fun _ _ _ h _ => h)), .inr (.inr (fun _ _ _ h _ => h)), trivial⟩⟩,
    ⟨.inr (fun _ _ _ h _ => h), ⟨.inr (.inr (fun _ _ _ h _ => h)), .inr (.inr (fun _ _ _ h _ => h)), trivial⟩⟩,
    ⟨.inr (fun _ _ _ h _ => h), ⟨.inr (.inr (fun _ _ _ h _ => h)), .inr (.inr (fun _ _ _ h _ => h)), trivial⟩⟩,
    ⟨.inr (fun _ _ _ h _ => h), ⟨.inr (.inr (fun _ _ _ h _ => h)), .inr (.inr (fun _ _ _ h _ => h)), trivial⟩⟩,
    ⟨.inr (fun _ _ _ h _ => h), ⟨.inr (.inr (fun _ _ _ h _ => h)), .inr (.inr (fun _ _ _ h _ => h)), trivial⟩⟩,
    ⟨.inr (fun _ _ _ h _ => h), ⟨.inr (.inr (fun _ _ _ h _ => h)), .inr (.inr (fun _ _ _ h _ => h)), trivial⟩⟩,
    ⟨.inr (fun _ _ _ h _ => h), ⟨.inr (.inr (fun _ _ _ h _ => h)), .inr (.inr (fun _ _ _ h _ => h)), trivial⟩⟩,
    ⟨.inr (fun _ _ _ h _ => h), ⟨.inr (.inr (fun _ _ _ h _ => h)), .inr (.inr (fun _ _ _ h _ => h)), trivial⟩⟩,
    ⟨.inr (fun _ _ _ h _ => h), ⟨.inr (.inr (fun _ _ _ h _ => h)), .inr (.inr (fun _ _ _ h _ => h)), trivial⟩⟩,
    ⟨.inr (fun _ _ _ h _ => h), ⟨.inr (.inl rfl), .inr (.inr (fun _ _ _ h _ => h)), trivial⟩⟩,
    ⟨.inr (fun _ _ _ h _ => h), ⟨.inr (.inr (fun _ _ _ h _ => h)), .inr (.inr (fun _ _ _ h _ => h)), trivial⟩⟩,
    ⟨.inr (fun _ _ _ h _ => h), ⟨.inr (.inr (fun _ _ _ h _ => h)), .inr (.inl rfl), trivial⟩⟩, trivial⟩ ⟨fun vs vs' x h _ hv => (by dsimp only at hv ⊢; first | (rw [← h]; exact hv) | exact hv),
    fun vs vs' x h _ hv => (by dsimp only at hv ⊢; first | (rw [← h]; exact hv) | exact hv),
    fun vs vs' x h _ hv => (by dsimp only at hv ⊢; first | (rw [← h]; exact hv) | exact hv),
    fun vs vs' x h _ hv => (by dsimp only at hv ⊢; first | (rw [← h]; exact hv) | exact hv),
    fun vs vs' x h _ hv => (by dsimp only at hv ⊢; first | (rw [← h]; exact hv) | exact hv),
    fun vs vs' x h _ hv => (by dsimp only at hv ⊢; first | (rw [← h]; exact hv) | exact hv),
    fun vs vs' x h _ hv => (by dsimp only at hv ⊢; first | (rw [← h]; exact hv) | exact hv),
    fun vs vs' x h _ hv => (by dsimp only at hv ⊢; first | (rw [← h]; exact hv) | exact hv),
    fun vs vs' x h _ hv => (by dsimp only at hv ⊢; first | (rw [← h]; exact hv) | exact hv),
    fun vs vs' x h _ hv => (by dsimp only at hv ⊢; first | (rw [← h]; exact hv) | exact hv),
    fun vs vs' x h _ hv => (by dsimp only at hv ⊢; first | (rw [← h]; exact hv) | exact hv),
    fun vs vs' x h _ hv => (by dsimp only at hv ⊢; first | (rw [← h]; exact hv) | exact hv),
    fun vs vs' x h _ hv => (by dsimp only at hv ⊢; first | (rw [← h]; exact hv) | exact hv),
    fun _ _ _ _ _ _ => trivial,
    fun vs vs' x h _ hv => (by dsimp only at hv ⊢; first | (rw [← h]; exact hv) | exact hv),
    fun _ _ _ _ _ _ => trivial, trivial⟩ (⟨bthen HB2.out (below_drewN (Below.refl _ _) 1), (fun _ => own_below HO1.out (below_drewN (Below.refl _ _) 1) (Nat.le_refl _)), (fun h => by cases h), (fun _ => own_below HO2.out (below_drewN (Below.refl _ _) 1) (Nat.le_refl _)), fun h => by cases h⟩) ⟨?_, ?_, ?_, ?_, ?_, ?_, ?_, ?_, ?_, ?_, ?_, ?_, ?_, ?_, ?_, ?_, trivial⟩ ?_
  · intro vals xw f hf1 hf2 hf3 hI hF
    clear hf2 hf3
    dsimp only [owes4, bare]
    simp only [putsD, Act.put, List.setIfInBounds_toArray, List.set_cons_zero, List.set_cons_succ]
    go_wp2
    exact ⟨rfl, rfl, ⟨fun h9 => absurd h9 (Nat.ne_of_beq_eq_false rfl), fun _ => ⟨fun h9 => absurd h9 (Nat.ne_of_beq_eq_false rfl), fun _ => Below.refl _ _⟩⟩, hI⟩
  · intro vals xw f hf1 hf2 hf3 hI hF
    clear hf2 hf3
    dsimp only [owes4, bare]
    simp only [putsD, Act.put, List.setIfInBounds_toArray, List.set_cons_zero, List.set_cons_succ]
    go_wp2
    exact ⟨rfl, rfl, ⟨fun h9 => absurd h9 (Nat.ne_of_beq_eq_false rfl), fun _ => ⟨fun h9 => absurd h9 (Nat.ne_of_beq_eq_false rfl), fun _ => Below.refl _ _⟩⟩, hI⟩
  · intro vals xw f hf1 hf2 hf3 hI hF
    clear hf2 hf3
    dsimp only [owes4, bare]
    simp only [putsD, Act.put, List.setIfInBounds_toArray, List.set_cons_zero, List.set_cons_succ]
    go_wp2
    exact ⟨rfl, rfl, ⟨fun h9 => absurd h9 (Nat.ne_of_beq_eq_false rfl), fun _ => ⟨fun h9 => absurd h9 (Nat.ne_of_beq_eq_false rfl), fun _ => Below.refl _ _⟩⟩, hI⟩
  · intro vals xw f hf1 hf2 hf3 hI hF
    clear hf2 hf3
    dsimp only [owes4, bare]
    simp only [putsD, Act.put, List.setIfInBounds_toArray, List.set_cons_zero, List.set_cons_succ]
    go_wp2
    exact ⟨rfl, rfl, ⟨fun h9 => absurd h9 (Nat.ne_of_beq_eq_false rfl), fun _ => ⟨fun h9 => absurd h9 (Nat.ne_of_beq_eq_false rfl), fun _ => Below.refl _ _⟩⟩, hI⟩
  · intro vals xw f hf1 hf2 hf3 hI hF
    clear hf2 hf3
    dsimp only [owes4, bare]
    simp only [putsD, Act.put, List.setIfInBounds_toArray, List.set_cons_zero, List.set_cons_succ]
    go_wp2
    exact ⟨rfl, rfl, ⟨fun h9 => absurd h9 (Nat.ne_of_beq_eq_false rfl), fun _ => ⟨fun h9 => absurd h9 (Nat.ne_of_beq_eq_false rfl), fun _ => Below.refl _ _⟩⟩, hI⟩
  · intro vals xw f hf1 hf2 hf3 hI hF
    clear hf2 hf3
    dsimp only [owes4, bare]
    simp only [putsD, Act.put, List.setIfInBounds_toArray, List.set_cons_zero, List.set_cons_succ]
    go_wp2
    exact ⟨rfl, rfl, ⟨fun h9 => absurd h9 (Nat.ne_of_beq_eq_false rfl), fun _ => ⟨fun h9 => absurd h9 (Nat.ne_of_beq_eq_false rfl), fun _ => Below.refl _ _⟩⟩, hI⟩
  · intro vals xw f hf1 hf2 hf3 hI hF
    clear hf2 hf3
    simp only [saysD, List.getD_cons_zero, List.getD_cons_succ, and_true] at hF
    obtain ⟨e19, e20⟩ := hF
    have had : ∀ g : Nat, (⟨g, 0, none⟩ : Addr).add k = ⟨g, k, none⟩ := fun g => by unfold Addr.add; split <;> simp_all
    dsimp only [owes4, bare]
    simp only [putsD, Act.put, List.setIfInBounds_toArray, List.set_cons_zero, List.set_cons_succ]
    simp only [e19, e20]
    go_wp2
    exact ⟨rfl, rfl, ⟨fun h9 => absurd h9 (Nat.ne_of_beq_eq_false rfl), fun _ => ⟨fun h9 => absurd h9 (Nat.ne_of_beq_eq_false rfl), fun _ => Below.refl _ _⟩⟩, hI⟩
  · intro vals xw f hf1 hf2 hf3 hI hF
    have k15 : f 15 = false := hf3 15 (by kernel_rfl)
    clear hf2 hf3
    simp only [saysD, List.getD_cons_zero, List.getD_cons_succ, and_true] at hF
    have e21 := hF
    dsimp only [owes4, bare]
    simp only [putsD, Act.put, List.setIfInBounds_toArray, List.set_cons_zero, List.set_cons_succ]
    simp only [e21]
    have c9 := ((hI.2.2.2.1 k15).cellS (k := k) (by omega)).1
    rw [← HYE.out] at c9
    go_wp2
    exact ⟨rfl, rfl, ⟨fun h9 => absurd h9 (Nat.ne_of_beq_eq_false rfl), fun _ => ⟨fun h9 => absurd h9 (Nat.ne_of_beq_eq_false rfl), fun _ => Below.refl _ _⟩⟩, hI⟩
  · intro vals xw f hf1 hf2 hf3 hI hF
    clear hf2 hf3
    dsimp only [owes4, bare]
    simp only [putsD, Act.put, List.setIfInBounds_toArray, List.set_cons_zero, List.set_cons_succ]
    go_wp2
    exact ⟨rfl, rfl, ⟨fun h9 => absurd h9 (Nat.ne_of_beq_eq_false rfl), fun _ => ⟨fun h9 => absurd h9 (Nat.ne_of_beq_eq_false rfl), fun _ => Below.refl _ _⟩⟩, hI⟩
  · intro vals xw f hf1 hf2 hf3 hI hF
    clear hf2 hf3
    dsimp only [owes4, bare]
    simp only [putsD, Act.put, List.setIfInBounds_toArray, List.set_cons_zero, List.set_cons_succ]
    go_wp2
    exact ⟨rfl, rfl, ⟨fun h9 => absurd h9 (Nat.ne_of_beq_eq_false rfl), fun _ => ⟨fun h9 => absurd h9 (Nat.ne_of_beq_eq_false rfl), fun _ => Below.refl _ _⟩⟩, hI⟩
  · intro vals xw f hf1 hf2 hf3 hI hF
    clear hf2 hf3
    simp only [saysD, List.getD_cons_zero, List.getD_cons_succ, and_true] at hF
    obtain ⟨e23, e24⟩ := hF
    have had : ∀ g : Nat, (⟨g, 0, none⟩ : Addr).add k = ⟨g, k, none⟩ := fun g => by unfold Addr.add; split <;> simp_all
    dsimp only [owes4, bare]
    simp only [putsD, Act.put, List.setIfInBounds_toArray, List.set_cons_zero, List.set_cons_succ]
    simp only [e23, e24]
    go_wp2
    exact ⟨rfl, rfl, ⟨fun h9 => absurd h9 (Nat.ne_of_beq_eq_false rfl), fun _ => ⟨fun h9 => absurd h9 (Nat.ne_of_beq_eq_false rfl), fun _ => Below.refl _ _⟩⟩, hI⟩
  · intro vals xw f hf1 hf2 hf3 hI hF
    have k13 : f 13 = false := hf3 13 (by kernel_rfl)
    clear hf2 hf3
    simp only [saysD, List.getD_cons_zero, List.getD_cons_succ, and_true] at hF
    have e25 := hF
    dsimp only [owes4, bare]
    simp only [putsD, Act.put, List.setIfInBounds_toArray, List.set_cons_zero, List.set_cons_succ]
    simp only [e25]
    have c9 := ((hI.2.1 k13).cellS (k := k) (by omega)).1
    rw [← HXE.out] at c9
    go_wp2
    exact ⟨rfl, rfl, ⟨fun h9 => absurd h9 (Nat.ne_of_beq_eq_false rfl), fun _ => ⟨fun h9 => absurd h9 (Nat.ne_of_beq_eq_false rfl), fun _ => Below.refl _ _⟩⟩, hI⟩
  · intro vals xw f hf1 hf2 hf3 hI hF
    clear hf2 hf3
    simp only [saysD, List.getD_cons_zero, List.getD_cons_succ, and_true] at hF
    obtain ⟨e15, e16⟩ := hF
    have had : ∀ g : Nat, (⟨g, 0, none⟩ : Addr).add k = ⟨g, k, none⟩ := fun g => by unfold Addr.add; split <;> simp_all
    dsimp only [owes4, bare]
    simp only [putsD, Act.put, List.setIfInBounds_toArray, List.set_cons_zero, List.set_cons_succ]
    simp only [e15, e16]
    go_wp2
    exact ⟨rfl, rfl, ⟨fun h9 => absurd h9 (Nat.ne_of_beq_eq_false rfl), fun _ => ⟨fun h9 => absurd h9 (Nat.ne_of_beq_eq_false rfl), fun _ => Below.refl _ _⟩⟩, hI⟩
  · intro vals xw f hf1 hf2 hf3 hI hF
    clear hf2 hf3
    simp only [saysD, List.getD_cons_zero, List.getD_cons_succ, and_true] at hF
    obtain ⟨e22, e27⟩ := hF
    dsimp only [owes4, bare]
    simp only [putsD, Act.put, List.setIfInBounds_toArray, List.set_cons_zero, List.set_cons_succ]
    simp only [e22, e27]
    obtain ⟨i1, i2, i3, i4, i5⟩ := hI
    have j2 := i2 hf1
    have c9 := (j2.cellS (k := k) (by omega)).1
    have f9 := (j2.cellS (k := k) (by omega)).2
    have J2 := Lib.hid (j2.setS (k := k) y)
    have I1 := Lib.hid i1
    have I4 := Lib.hid i4
    have I5 := Lib.hid i5
    clear i1 i2 i3 i4 i5 j2
    go_wp2
    have hg9 : xw.grownBy (xw.setCell ⟨gx, k, none⟩ (.int .i64 y)) (some gx) := only_setCell (World.grownBy.refl _ _) _ _
    exact ⟨rfl, trivial, ⟨fun _ => hg9, fun h9 => absurd rfl h9⟩, below_set I1.out gx0 _, fun h => absurd ((did_same f 13).symm.trans h) (by simp), fun _ => J2.out, fun h => (I4.out h).other (by intro e; injection e with e; exact hne e.symm) _, fun h => (I5.out h).other (by intro e; injection e with e; exact hne e.symm) _⟩
  · intro vals xw f hf1 hf2 hf3 hI hF
    clear hf2 hf3
    simp only [saysD, List.getD_cons_zero, List.getD_cons_succ, and_true] at hF
    obtain ⟨e17, e18⟩ := hF
    have had : ∀ g : Nat, (⟨g, 0, none⟩ : Addr).add k = ⟨g, k, none⟩ := fun g => by unfold Addr.add; split <;> simp_all
    dsimp only [owes4, bare]
    simp only [putsD, Act.put, List.setIfInBounds_toArray, List.set_cons_zero, List.set_cons_succ]
    simp only [e17, e18]
    go_wp2
    exact ⟨rfl, rfl, ⟨fun h9 => absurd h9 (Nat.ne_of_beq_eq_false rfl), fun _ => ⟨fun h9 => absurd h9 (Nat.ne_of_beq_eq_false rfl), fun _ => Below.refl _ _⟩⟩, hI⟩
  · intro vals xw f hf1 hf2 hf3 hI hF
    clear hf2 hf3
    simp only [saysD, List.getD_cons_zero, List.getD_cons_succ, and_true] at hF
    obtain ⟨e26, e28⟩ := hF
    dsimp only [owes4, bare]
    simp only [putsD, Act.put, List.setIfInBounds_toArray, List.set_cons_zero, List.set_cons_succ]
    simp only [e26, e28]
    obtain ⟨i1, i2, i3, i4, i5⟩ := hI
    have j4 := i4 hf1
    have c9 := (j4.cellS (k := k) (by omega)).1
    have f9 := (j4.cellS (k := k) (by omega)).2
    have J4 := Lib.hid (j4.setS (k := k) x)
    have I1 := Lib.hid i1
    have I2 := Lib.hid i2
    have I3 := Lib.hid i3
    clear i1 i2 i3 i4 i5 j4
    go_wp2
    have hg9 : xw.grownBy (xw.setCell ⟨gy, k, none⟩ (.int .i64 x)) (some gy) := only_setCell (World.grownBy.refl _ _) _ _
    exact ⟨rfl, trivial, ⟨fun h9 => absurd h9 (Nat.ne_of_beq_eq_false rfl), fun _ => ⟨fun _ => hg9, fun h9 => absurd rfl h9⟩⟩, below_set I1.out (show w.heap.size ≤ gy by omega) _, fun h => (I2.out h).other (by intro e; injection e with e; exact hne e) _, fun h => (I3.out h).other (by intro e; injection e with e; exact hne e) _, fun h => absurd ((did_same f 15).symm.trans h) (by simp), fun _ => J4.out⟩
  · intro vals xw f hall hI hF
    rw [show List.range _ = [0, 1, 2, 3, 4, 5, 6, 7, 8, 9, 10, 11, 12, 13, 14, 15] from rfl] at hF
    simp only [says, List.getD_cons_zero, List.getD_cons_succ, and_true] at hF
    obtain ⟨i1, _, i3, _, i5⟩ := hI
    have j3 := i3 (hall 13 (by decide))
    have j5 := i5 (hall 15 (by decide))
    have hlx9 : xs.length = (topL xs ys).length := (topL_len xs ys).symm
    have hly9 : ys.length = (topL ys xs).length := (topL_len ys xs).symm
    rw [← HTX.out] at j3
    rw [← HTY.out] at j5
    have HC := Lib.hid (bLess_any a0 a1 lo q r (some ⟨gx, 0, none⟩) (some ⟨gy, 0, none⟩) c1 c2 (topL xs ys) (topL ys xs) s xw (HB.out.up i1) (j3.plS hlx9) (j5.plS hly9) (topL_mem HXM.out HYM.out HL.out h0) (topL_mem HYM.out HXM.out HL.out.symm h0') (by rw [topL_len, topL_len]; exact HL.out) (by rw [topL_len]; omega))
    rw [← hlx9, ← hly9] at HC
    have I1 := Lib.hid i1
    clear i1 i3 i5 j3 j5 hlx9 hly9 hF
    simp only [putsD, Act.put, List.setIfInBounds_toArray, List.set_cons_zero, List.set_cons_succ]
    go_wp2_with fail
    refine HC.out.mono ?_
    rintro e w9 ⟨rfl, hb9, hd9⟩
    have HB9 := Lib.hid (BelB.trans (.of I1.out hlo) hb9)
    have HD9 := Lib.hid hd9
    clear hb9 hd9 HC
    go_wp2
    go_ret
    exact ⟨rfl, HB9.out, HD9.out⟩
/-- A comparison's gates. -/
def cmpP (op : Int) (xs ys : List Int) : PG Int := if op = 15 then sameP xs ys 1 else if op = 16 then lessP xs ys (-1) else lessP (topL xs ys) (topL ys xs) (-1)
def cmpE (e : Option Nat) (op : Int) (xs ys : List Int) : Option Nat := failE (failE e (xs.length != ys.length) 0) (!(decide (15 ≤ op) && decide (op ≤ 17))) 0
def cmpS (s : BS) (op : Int) (xs ys : List Int) : BS × Int := if cmpE s.e op xs ys = none then run opsP (cmpP op xs ys) s else (⟨s.n, cmpE s.e op xs ys⟩, -1)
set_option maxHeartbeats 4000000 in
theorem bCompare_any (a0 a1 : Addr) (lo q r : Nat) (s : BS) (op : Int) (X Y : Option Addr) (cx cy : Nat) (xs ys : List Int) (w : World) (h : Bd a0 a1 lo w q r s) (hX : Lay.int.Pl w X xs) (hY : Lay.int.Pl w Y ys) (hm : s.e = none → (∀ x ∈ xs, MB x) ∧ (∀ y ∈ ys, MB y) ∧ 0 < xs.length) (hn : xs.length ≤ 1000) (hop : okInt op) :
    Calls Tryd.prog 67 #[.pointer (some ⟨q, 0, none⟩), .int .i64 op, .slice X xs.length cx, .slice Y ys.length cy] w (RetM a0 a1 lo w q r (cmpS s op xs ys)) := by
  have hvb : ((xs.length : Int) != (ys.length : Int)) = (xs.length != ys.length) := by
    by_cases e : xs.length = ys.length
    · rw [e]; simp
    · have h1 : (xs.length != ys.length) = true := by simpa using e
      have h2 : ((xs.length : Int) != (ys.length : Int)) = true := by simpa using (by omega : ¬ (xs.length : Int) = ys.length)
      rw [h1, h2]
  obtain ⟨b, hb⟩ : ∃ b, b = (xs.length != ys.length) := ⟨_, rfl⟩
  have HBE := Lib.hid hb
  rw [← hb] at hvb
  have HBD := Lib.hid h
  have HX := Lib.hid hX
  have HY := Lib.hid hY
  have HM := Lib.hid hm
  have HF := Lib.hid (fail_any a0 a1 lo q r s.e b 0 w h.toBx)
  have g0 := h.g.c0
  have hv : errV a0 a1 (some 0) = sentV a0 := rfl
  rw [hv] at HF
  unfold okInt at hop
  obtain ⟨hop0, hop1⟩ := hop
  have HCE : Hid (cmpE s.e op xs ys = failE (failE s.e b 0) (!(decide (15 ≤ op) && decide (op ≤ 17))) 0) := Lib.hid (by unfold cmpE; rw [← hb])
  clear h hX hY hm hb hv
  go_enter Tryd.func67, Tryd.ntmps67
  go_wp2_with fail
  refine HF.out.mono ?_
  rintro e w1 ⟨rfl, hb1, hx1, hk1⟩
  have HB1 := Lib.hid hb1
  have HX1 := Lib.hid (HX.out.upB hb1)
  have HY1 := Lib.hid (HY.out.upB hb1)
  have HD1 := Lib.hid (Bx.bd HBD.out hx1 hk1 (fun h => (failE_none h).1))
  have HLE : Hid (failE s.e b 0 = none → s = ⟨s.n, none⟩ ∧ xs.length = ys.length) := Lib.hid fun h => by
    obtain ⟨h1, h2⟩ := failE_none h
    exact ⟨by cases s; dsimp only at h1; rw [h1], by rw [HBE.out] at h2; simpa using h2⟩
  have z1 := (cell_of_block hx1.box 1).1
  clear hb1 hx1 hk1 HF hvb g0
  generalize failE s.e b 0 = e1 at *
  rcases e1 with _ | e1
  · simp only [errV] at z1
    obtain ⟨hs, hl⟩ := HLE.out rfl
    obtain ⟨m2, m3, m0⟩ := HM.out (by rw [hs])
    have HS := Lib.hid hs
    have HD1 : Hid (Bd a0 a1 lo w1 q r s) := Lib.hid (by rw [hs]; exact HD1.out)
    have HC1 := Lib.hid (bSame_any a0 a1 lo q r X Y cx cy xs ys s w1 HD1.out HX1.out HY1.out m2 m3 hl hn)
    have HC2 := Lib.hid (bLess_any a0 a1 lo q r X Y cx cy xs ys s w1 HD1.out HX1.out HY1.out m2 m3 hl hn)
    have HC3 := Lib.hid (bUnder_any a0 a1 lo q r X Y cx cy xs ys s w1 HD1.out HX1.out HY1.out m2 m3 hl m0 hn)
    clear hs hl m2 m3 HM HLE
    by_cases o1 : op = 15
    · have HO : Hid (cmpS s op xs ys = run opsP (sameP xs ys 1) s) := Lib.hid (by unfold cmpS; rw [HCE.out, o1, if_pos (by simp [failE])]; unfold cmpP; rw [if_pos rfl])
      have o1b : (op == 15) = true := by simpa using o1
      clear o1 HC2 HC3
      go_wp2_with fail
      refine HC1.out.mono ?_
      rintro e w9 ⟨rfl, hb9, hd9⟩
      have HB9 := Lib.hid (HB1.out.trans hb9)
      have HD9 := Lib.hid hd9
      clear hb9 hd9 HC1
      go_wp2
      go_ret
      rw [HO.out]
      exact ⟨rfl, HB9.out, HD9.out⟩
    have o1b : (op == 15) = false := by simpa using o1
    by_cases o2 : op = 16
    · have HO : Hid (cmpS s op xs ys = run opsP (lessP xs ys (-1)) s) := Lib.hid (by unfold cmpS; rw [HCE.out, o2, if_pos (by simp [failE])]; unfold cmpP; rw [if_neg (by decide), if_pos rfl])
      have o2b : (op == 16) = true := by simpa using o2
      clear o1 o2 HC1 HC3
      go_wp2_with fail
      refine HC2.out.mono ?_
      rintro e w9 ⟨rfl, hb9, hd9⟩
      have HB9 := Lib.hid (HB1.out.trans hb9)
      have HD9 := Lib.hid hd9
      clear hb9 hd9 HC2
      go_wp2
      go_ret
      rw [HO.out]
      exact ⟨rfl, HB9.out, HD9.out⟩
    have o2b : (op == 16) = false := by simpa using o2
    by_cases o3 : op = 17
    · have HO : Hid (cmpS s op xs ys = run opsP (lessP (topL xs ys) (topL ys xs) (-1)) s) := Lib.hid (by unfold cmpS; rw [HCE.out, o3, if_pos (by simp [failE])]; unfold cmpP; rw [if_neg (by decide), if_neg (by decide)])
      have o3b : (op == 17) = true := by simpa using o3
      clear o1 o2 o3 HC1 HC2
      go_wp2_with fail
      refine HC3.out.mono ?_
      rintro e w9 ⟨rfl, hb9, hd9⟩
      have HB9 := Lib.hid (HB1.out.trans hb9)
      have HD9 := Lib.hid hd9
      clear hb9 hd9 HC3
      go_wp2
      go_ret
      rw [HO.out]
      exact ⟨rfl, HB9.out, HD9.out⟩
    have o3b : (op == 17) = false := by simpa using o3
    have HE : Hid (cmpE s.e op xs ys = some 0) := Lib.hid (by rw [HCE.out]; unfold failE; rw [if_pos ⟨by rw [Bool.not_eq_true', Bool.and_eq_false_iff, decide_eq_false_iff_not, decide_eq_false_iff_not]; omega, rfl⟩])
    have HF2 := Lib.hid (fail_any a0 a1 lo q r s.e true 0 w1 HD1.out.toBx)
    rw [show errV a0 a1 (some 0) = sentV a0 from rfl, show failE s.e true 0 = some 0 by rw [HS.out]; rfl] at HF2
    have g0 := HD1.out.g.c0
    clear o1 o2 o3 HC1 HC2 HC3
    go_wp2_with fail
    refine HF2.out.mono ?_
    rintro e w9 ⟨rfl, hb9, hx9, hk9⟩
    have HB9 := Lib.hid (HB1.out.trans hb9)
    have HD9 := Lib.hid (Bx.bd HD1.out hx9 hk9 (fun h => by cases h))
    clear hb9 hx9 hk9 HF2 g0
    go_wp2
    go_ret
    rw [show cmpS s op xs ys = (⟨s.n, some 0⟩, -1) by unfold cmpS; rw [HE.out]; exact if_neg (by simp)]
    exact ⟨rfl, HB9.out, HD9.out⟩
  · obtain ⟨a, ha⟩ : ∃ a, errV a0 a1 (some e1) = sentV a := by rcases e1 with _ | e1 <;> exact ⟨_, rfl⟩
    simp only [ha] at z1
    clear ha
    go_wp2
    go_ret
    have HE : cmpE s.e op xs ys = some e1 := by rw [HCE.out]; unfold failE; rw [if_neg (by simp)]
    rw [show cmpS s op xs ys = (⟨s.n, some e1⟩, -1) by unfold cmpS; rw [HE]; exact if_neg (by simp)]
    exact ⟨rfl, HB1.out, HD1.out⟩
end Go.Proofs.YtjghcaghigebjaaDoor

/-! The program's signals turned, signals that are off. -/
namespace Go.Proofs.YtjghcaghigebjaaDoor
open Go Go.RowKit

/-! negated -/
set_option maxHeartbeats 1000000 in
theorem neg1_any (x y : Int) (w : World) (hx : RB x) : Calls Tryd.prog 121 #[.int .i64 x, .int .i64 y] w fun e w' => e = .returned (.int .i64 (-x)) ∧ w = w' := by
  obtain ⟨h0, h1⟩ := hx
  go_enter Tryd.func121, Tryd.ntmps121
  go_wp2
  go_ret
  exact ⟨rfl, rfl⟩
theorem run_turned : ∀ (xs ys : List Int) (s : BS), xs.length = ys.length → run opsP (eachP (fun x _ => .ret (-x)) xs ys) s = (s, xs.map Neg.neg)
  | [], [], s, _ => rfl
  | x :: xs, y :: ys, s, h => by
    show run opsP ((PG.ret (-x)).bind fun m => (eachP _ xs ys).bind fun l => .ret (m :: l)) s = _
    rw [run_bind, run_bind]
    simp only [run, run_turned xs ys s (by simpa using h), List.map_cons]
  | [], _ :: _, _, h => by simp at h
  | _ :: _, [], _, h => by simp at h
set_option maxRecDepth 100000 in
set_option maxHeartbeats 4000000 in
theorem each_negated (a0 a1 : Addr) (lo q r : Nat)  (X Y : Option Addr) (cx cy : Nat) (xs ys : List Int) (s : BS) (w : World) (K : World → Prop) (hK : K w) (hKs : ∀ x, BelB lo w x → K x) (h : Bd a0 a1 lo w q r s) (hX : Lay.int.Pl w X xs) (hY : Lay.int.Pl w Y ys) (hxm : ∀ x ∈ xs, MB x) (hym : ∀ y ∈ ys, MB y) (hl : xs.length = ys.length) (hn : xs.length ≤ 1000)
    (hcall : ∀ (x y : Int) (s : BS) (z : World), Bd a0 a1 lo z q r s → MB x → MB y → K z → Calls Tryd.prog 121 #[.int .i64 x, .int .i64 y] z (RetM a0 a1 lo z q r (run opsP ((fun x _ => .ret (-x)) x y) s)))
    (hnb : ∀ (x y : Int) (s : BS), NB s.n → MB x → MB y → MB (run opsP ((fun x _ => .ret (-x)) x y) s).2) :
    Calls Tryd.prog 85 #[.slice X xs.length cx, .slice Y ys.length cy, .func (.func 121) #[] #[]] w (RetL a0 a1 lo w q r (run opsP (eachP (fun x _ => .ret (-x)) xs ys) s)) := by
  obtain ⟨T, hT⟩ : ∃ T, T = run opsP (eachP (fun x _ => .ret (-x)) xs ys) s := ⟨_, rfl⟩
  rw [← hT]
  have HT := Lib.hid hT
  have HB := Lib.hid h
  have HX := Lib.hid hX
  have HY := Lib.hid hY
  have HK := Lib.hid hKs
  have HXM := Lib.hid hxm
  have HYM := Lib.hid hym
  have HCALL := Lib.hid hcall
  have HNB := Lib.hid hnb
  have HL := Lib.hid hl
  have hlo := h.size
  clear hT h hX hY hKs hxm hym hcall hnb hK
  rw [← hl]
  clear hl
  go_enter Tryd.func85, Tryd.ntmps85
  go_wp2
  go_loopw [7, 11] (fun out i wr => ∃ (k : Nat) (s1 : BS) (l : List Int) (A : Option Addr) (c : Nat), k ≤ xs.length ∧ i = .int .i64 k ∧ out = .slice A l.length c ∧ l.length = k ∧ OwnSg wr w.heap.size (.slice A l.length c) l ∧ (∀ m ∈ l, MB m) ∧ BelB lo w wr ∧ Bd a0 a1 lo wr q r s1 ∧ Hid ((let z := run opsP (eachP (fun x _ => .ret (-x)) (xs.drop k) (ys.drop k)) s1; (z.1, l ++ z.2)) = T)) (fun _ i _ => xs.length - (intOf i).toNat)
  case atStart => exact ⟨0, s, [], none, 0, Nat.zero_le _, rfl, rfl, rfl, OwnSg.nil _ _, (fun _ h => by cases h), .refl _ _, HB.out, Lib.hid (by rw [HT.out]; rfl)⟩
  case round =>
    obtain ⟨k, s1, l, A, c, hk, rfl, rfl, hlk, hown, hlm, hbb, hbd, hst⟩ := hrel
    have HOWN := Lib.hid hown
    have HLM := Lib.hid hlm
    have HBB := Lib.hid hbb
    have HBD := Lib.hid hbd
    have HLK := Lib.hid hlk
    have hsz := hbb.bel.size
    clear hown hlm hbb hbd hlk
    by_cases hlt : k < xs.length
    · have hlt2 : (k : Int) < xs.length := by omega
      have hlty : k < ys.length := by rw [← HL.out]; exact hlt
      obtain ⟨x, hx⟩ : ∃ x, xs[k]? = some x := ⟨_, List.getElem?_eq_getElem hlt⟩
      obtain ⟨y, hy⟩ : ∃ y, ys[k]? = some y := ⟨_, List.getElem?_eq_getElem hlty⟩
      have hxg : xs[k] = x := (List.getElem?_eq_some_iff.1 hx).2
      have hyg : ys[k] = y := (List.getElem?_eq_some_iff.1 hy).2
      have hxM : MB x := HXM.out x (List.mem_of_getElem? hx)
      have hyM : MB y := HYM.out y (List.mem_of_getElem? hy)
      obtain ⟨adx, rfl, -, -⟩ := HX.out.at_int hlt
      obtain ⟨ady, rfl, -, -⟩ := HY.out.at_int hlty
      obtain ⟨m, hm⟩ : ∃ m, m = run opsP ((fun x _ => .ret (-x)) x y) s1 := ⟨_, rfl⟩
      have HST := Lib.hid ((run_each (o := opsP) (f := (fun x _ => .ret (-x))) xs ys k x y hx hy s1 l).symm.trans hst.out)
      have HM := Lib.hid hm
      have HMB : Hid (MB m.2) := Lib.hid (by rw [hm]; exact HNB.out x y s1 HBD.out.nb hxM hyM)
      have HRX : Hid (∀ z, BelB lo w z → z.cell? (adx.add k) = some (.int .i64 x)) := Lib.hid fun z hz => by
        obtain ⟨ad, e, _, hc⟩ := (HX.out.upB hz).at_int hlt
        injection e with e; subst e; rw [← hxg]; exact hc
      have HRY : Hid (∀ z, BelB lo w z → z.cell? (ady.add k) = some (.int .i64 y)) := Lib.hid fun z hz => by
        obtain ⟨ad, e, _, hc⟩ := (HY.out.upB hz).at_int hlty
        injection e with e; subst e; rw [← hyg]; exact hc
      obtain ⟨l2, hl2⟩ : ∃ l2, l2 = l ++ [m.2] := ⟨_, rfl⟩
      have HL2 := Lib.hid hl2
      have hky : (k : Int) < ys.length := by omega
      have hkx : (k : Int) < cx + 1 + xs.length := by omega
      have HXYM := Lib.hid (And.intro hxM hyM)
      clear hm hx hy hxg hyg hst hl2 hxM hyM hlty hkx
      go_wp2
      refine wp_region_rel4 [[], [], [], [], [(2, 16), (3, 17)], [(4, 18)], [], [], [(6, 20), (7, 21)], [(8, 22)], [(1, 15), (5, 19), (9, 23)], [(10, 24)], [(0, 14), (11, 25)], [(12, 26)]]
        (fun x9 y9 => Below x9.heap.size x9 y9)
        [(10, fun x9 y9 => BelB lo x9 y9), (12, fun x9 y9 => x9.grownBy y9 (Value.slice A l.length c).ownBlock)]
        (fun f9 x9 => EachI a0 a1 lo w q r s1 m.1 A c l (f9 10) (f9 12) x9)
        [fun vs9 _ => vs9 0 = (.slice A l.length c),
    fun vs9 _ => vs9 1 = (.func (.func 121) #[] #[]),
    fun vs9 _ => vs9 2 = (.slice (some adx) xs.length cx),
    fun vs9 _ => vs9 3 = (.int .i64 (k : Int)),
    fun vs9 _ => vs9 4 = (.pointer (some (adx.add k))),
    fun vs9 _ => vs9 5 = (.int .i64 x),
    fun vs9 _ => vs9 6 = (.slice (some ady) xs.length cy),
    fun vs9 _ => vs9 7 = (.int .i64 (k : Int)),
    fun vs9 _ => vs9 8 = (.pointer (some (ady.add k))),
    fun vs9 _ => vs9 9 = (.int .i64 y),
    fun vs9 _ => vs9 10 = (.int .i64 m.2),
    fun vs9 y9 => (fun v z => ∃ b : Nat, v = .slice (some ⟨b, 0, none⟩) 1 1 ∧ z.heap[b]? = some (.cells #[.int .i64 m.2] 83 (0, 0)) ∧ some b ≠ (Value.slice A l.length c).ownBlock) (vs9 11) y9,
    fun vs9 y9 => (fun v z => ∃ A' c', v = .slice A' l2.length c' ∧ OwnSg z w.heap.size (.slice A' l2.length c') l2) (vs9 12) y9,
    fun vs9 _ => vs9 13 = vs9 12]
        [(0, 14), (1, 15), (2, 16), (3, 17), (4, 18), (5, 19), (6, 20), (7, 21), (8, 22), (9, 23), (10, 24), (11, 25), (12, 26), (13, 7)] (by kernel_rfl) (by kernel_rfl) (by kernel_rfl) (by kernel_rfl)
        (fun _ => Below.refl _ _) ⟨fun _ => BelB.refl _ _, fun _ => World.grownBy.refl _ _, trivial⟩
        ⟨⟨.inr (fun _ _ _ h _ => h), ⟨.inr (.inr (fun _ _ _ h _ => h)), .inr (.inr (fun _ _ _ h _ => h)), trivial⟩⟩,
    ⟨.inr (fun _ _ _ h _ => h), ⟨.inr (.inr (fun _ _ _ h _ => h)), .inr (.inr (fun _ _ _ h _ => h)), trivial⟩⟩,
    ⟨.inr (fun _ _ _ h _ => h), ⟨.inr (.inr (fun _ _ _ h _ => h)), .inr (.inr (fun _ _ _ h _ => h)), trivial⟩⟩,
    ⟨.inr (fun _ _ _ h _ => h), ⟨.inr (.inr (fun _ _ _ h _ => h)), .inr (.inr (fun _ _ _ h _ => h)), trivial⟩⟩,
    ⟨.inr (fun _ _ _ h _ => h), ⟨.inr (.inr (fun _ _ _ h _ => h)), .inr (.inr (fun _ _ _ h _ => h)), trivial⟩⟩,
    ⟨.inr (fun _ _ _ h _ => h), ⟨.inr (.inr (fun _ _ _ h _ => h)), .inr (.inr (fun _ _ _ h _ => h)), trivial⟩⟩,
    ⟨.inr (fun _ _ _ h _ => h), ⟨.inr (.inr (fun _ _ _ h _ => h)), .inr (.inr (fun _ _ _ h _ => h)), trivial⟩⟩,
    ⟨.inr (fun _ _ _ h _ => h), ⟨.inr (.inr (fun _ _ _ h _ => h)), .inr (.inr (fun _ _ _ h _ => h)), trivial⟩⟩,
    ⟨.inr (fun _ _ _ h _ => h), ⟨.inr (.inr (fun _ _ _ h _ => h)), .inr (.inr (fun _ _ _ h _ => h)), trivial⟩⟩,
    ⟨.inr (fun _ _ _ h _ => h), ⟨.inr (.inr (fun _ _ _ h _ => h)), .inr (.inr (fun _ _ _ h _ => h)), trivial⟩⟩,
    ⟨.inr (fun _ _ _ h _ => h), ⟨.inr (.inl rfl), .inr (.inr (fun _ _ _ h _ => h)), trivial⟩⟩,
    ⟨.inr (fun vs9 x9 y9 h9 hR9 => (show ∀ v9 y8 y7, (fun v z => ∃ b : Nat, v = .slice (some ⟨b, 0, none⟩) 1 1 ∧ z.heap[b]? = some (.cells #[.int .i64 m.2] 83 (0, 0)) ∧ some b ≠ (Value.slice A l.length c).ownBlock) v9 y8 → (fun x9 y9 => Below x9.heap.size x9 y9) y8 y7 → (fun v z => ∃ b : Nat, v = .slice (some ⟨b, 0, none⟩) 1 1 ∧ z.heap[b]? = some (.cells #[.int .i64 m.2] 83 (0, 0)) ∧ some b ≠ (Value.slice A l.length c).ownBlock) v9 y7 from fun _ _ _ ⟨b, h1, h2, h3⟩ hR => ⟨b, h1, (hR.block b (lt_of_block h2)).trans h2, h3⟩) (vs9 11) x9 y9 h9 hR9), ⟨.inl (by kernel_rfl), .inr (.inr (fun vs9 x9 y9 h9 hR9 => (show ∀ v9 y8 y7, (fun v z => ∃ b : Nat, v = .slice (some ⟨b, 0, none⟩) 1 1 ∧ z.heap[b]? = some (.cells #[.int .i64 m.2] 83 (0, 0)) ∧ some b ≠ (Value.slice A l.length c).ownBlock) v9 y8 → (fun x9 y9 => x9.grownBy y9 (Value.slice A l.length c).ownBlock) y8 y7 → (fun v z => ∃ b : Nat, v = .slice (some ⟨b, 0, none⟩) 1 1 ∧ z.heap[b]? = some (.cells #[.int .i64 m.2] 83 (0, 0)) ∧ some b ≠ (Value.slice A l.length c).ownBlock) v9 y7 from fun _ _ _ ⟨b, h1, h2, h3⟩ hR => ⟨b, h1, (hR.block b (lt_of_block h2) h3).trans h2, h3⟩) (vs9 11) x9 y9 h9 hR9)), trivial⟩⟩,
    ⟨.inr (fun vs9 x9 y9 h9 hR9 => (show ∀ v9 y8 y7, (fun v z => ∃ A' c', v = .slice A' l2.length c' ∧ OwnSg z w.heap.size (.slice A' l2.length c') l2) v9 y8 → (fun x9 y9 => Below x9.heap.size x9 y9) y8 y7 → (fun v z => ∃ A' c', v = .slice A' l2.length c' ∧ OwnSg z w.heap.size (.slice A' l2.length c') l2) v9 y7 from fun _ _ _ ⟨A', c', h1, h2⟩ hR => ⟨A', c', h1, own_below h2 hR (Nat.le_refl _)⟩) (vs9 12) x9 y9 h9 hR9), ⟨.inl (by kernel_rfl), .inr (.inl rfl), trivial⟩⟩,
    ⟨.inr (fun _ _ _ h _ => h), ⟨.inr (.inr (fun _ _ _ h _ => h)), .inr (.inr (fun _ _ _ h _ => h)), trivial⟩⟩, trivial⟩ ⟨fun vs vs' x h _ hv => (by dsimp only at hv ⊢; first | (rw [← h]; exact hv) | exact hv),
    fun vs vs' x h _ hv => (by dsimp only at hv ⊢; first | (rw [← h]; exact hv) | exact hv),
    fun vs vs' x h _ hv => (by dsimp only at hv ⊢; first | (rw [← h]; exact hv) | exact hv),
    fun vs vs' x h _ hv => (by dsimp only at hv ⊢; first | (rw [← h]; exact hv) | exact hv),
    fun vs vs' x h _ hv => (by dsimp only at hv ⊢; first | (rw [← h]; exact hv) | exact hv),
    fun vs vs' x h _ hv => (by dsimp only at hv ⊢; first | (rw [← h]; exact hv) | exact hv),
    fun vs vs' x h _ hv => (by dsimp only at hv ⊢; first | (rw [← h]; exact hv) | exact hv),
    fun vs vs' x h _ hv => (by dsimp only at hv ⊢; first | (rw [← h]; exact hv) | exact hv),
    fun vs vs' x h _ hv => (by dsimp only at hv ⊢; first | (rw [← h]; exact hv) | exact hv),
    fun vs vs' x h _ hv => (by dsimp only at hv ⊢; first | (rw [← h]; exact hv) | exact hv),
    fun vs vs' x h _ hv => (by dsimp only at hv ⊢; first | (rw [← h]; exact hv) | exact hv),
    fun vs vs' x h _ hv => (by dsimp only at hv ⊢; first | (rw [← h]; exact hv) | exact hv),
    fun vs vs' x h _ hv => (by dsimp only at hv ⊢; first | (rw [← h]; exact hv) | exact hv),
    fun vs vs' x h hd hv => (by have h2 := hd 12 (by decide); show vs' 13 = vs' 12; exact h.symm.trans (Eq.trans hv h2)), trivial⟩ (⟨HBB.out.trans (.of (below_drewN (Below.refl _ _) 1) (Nat.le_trans hlo hsz)), by rw [if_neg (by simp)]; exact HBD.out.up (below_drewN (Below.refl _ _) 1), fun _ => own_below HOWN.out (below_drewN (Below.refl _ _) 1) (Nat.le_refl _)⟩) ⟨?_, ?_, ?_, ?_, ?_, ?_, ?_, ?_, ?_, ?_, ?_, ?_, ?_, ?_, trivial⟩ ?_
      · intro vals xw f hf1 hf2 hf3 hI hF
        clear hf2 hf3
        dsimp only [owes4, bare]
        simp only [putsD, Act.put, List.setIfInBounds_toArray, List.set_cons_zero, List.set_cons_succ]
        go_wp2
        exact ⟨rfl, rfl, ⟨fun h9 => absurd h9 (Nat.ne_of_beq_eq_false rfl), fun _ => ⟨fun h9 => absurd h9 (Nat.ne_of_beq_eq_false rfl), fun _ => Below.refl _ _⟩⟩, hI⟩
      · intro vals xw f hf1 hf2 hf3 hI hF
        clear hf2 hf3
        dsimp only [owes4, bare]
        simp only [putsD, Act.put, List.setIfInBounds_toArray, List.set_cons_zero, List.set_cons_succ]
        go_wp2
        exact ⟨rfl, rfl, ⟨fun h9 => absurd h9 (Nat.ne_of_beq_eq_false rfl), fun _ => ⟨fun h9 => absurd h9 (Nat.ne_of_beq_eq_false rfl), fun _ => Below.refl _ _⟩⟩, hI⟩
      · intro vals xw f hf1 hf2 hf3 hI hF
        clear hf2 hf3
        dsimp only [owes4, bare]
        simp only [putsD, Act.put, List.setIfInBounds_toArray, List.set_cons_zero, List.set_cons_succ]
        go_wp2
        exact ⟨rfl, rfl, ⟨fun h9 => absurd h9 (Nat.ne_of_beq_eq_false rfl), fun _ => ⟨fun h9 => absurd h9 (Nat.ne_of_beq_eq_false rfl), fun _ => Below.refl _ _⟩⟩, hI⟩
      · intro vals xw f hf1 hf2 hf3 hI hF
        clear hf2 hf3
        dsimp only [owes4, bare]
        simp only [putsD, Act.put, List.setIfInBounds_toArray, List.set_cons_zero, List.set_cons_succ]
        go_wp2
        exact ⟨rfl, rfl, ⟨fun h9 => absurd h9 (Nat.ne_of_beq_eq_false rfl), fun _ => ⟨fun h9 => absurd h9 (Nat.ne_of_beq_eq_false rfl), fun _ => Below.refl _ _⟩⟩, hI⟩
      · intro vals xw f hf1 hf2 hf3 hI hF
        clear hf2 hf3
        simp only [saysD, List.getD_cons_zero, List.getD_cons_succ, and_true] at hF
        obtain ⟨e16, e17⟩ := hF
        dsimp only [owes4, bare]
        simp only [putsD, Act.put, List.setIfInBounds_toArray, List.set_cons_zero, List.set_cons_succ]
        simp only [e16, e17]
        go_wp2
        exact ⟨rfl, rfl, ⟨fun h9 => absurd h9 (Nat.ne_of_beq_eq_false rfl), fun _ => ⟨fun h9 => absurd h9 (Nat.ne_of_beq_eq_false rfl), fun _ => Below.refl _ _⟩⟩, hI⟩
      · intro vals xw f hf1 hf2 hf3 hI hF
        clear hf2 hf3
        simp only [saysD, List.getD_cons_zero, List.getD_cons_succ, and_true] at hF
        have e18 := hF
        dsimp only [owes4, bare]
        simp only [putsD, Act.put, List.setIfInBounds_toArray, List.set_cons_zero, List.set_cons_succ]
        simp only [e18]
        have c9 := HRX.out _ hI.1
        go_wp2
        exact ⟨rfl, rfl, ⟨fun h9 => absurd h9 (Nat.ne_of_beq_eq_false rfl), fun _ => ⟨fun h9 => absurd h9 (Nat.ne_of_beq_eq_false rfl), fun _ => Below.refl _ _⟩⟩, hI⟩
      · intro vals xw f hf1 hf2 hf3 hI hF
        clear hf2 hf3
        dsimp only [owes4, bare]
        simp only [putsD, Act.put, List.setIfInBounds_toArray, List.set_cons_zero, List.set_cons_succ]
        go_wp2
        exact ⟨rfl, rfl, ⟨fun h9 => absurd h9 (Nat.ne_of_beq_eq_false rfl), fun _ => ⟨fun h9 => absurd h9 (Nat.ne_of_beq_eq_false rfl), fun _ => Below.refl _ _⟩⟩, hI⟩
      · intro vals xw f hf1 hf2 hf3 hI hF
        clear hf2 hf3
        dsimp only [owes4, bare]
        simp only [putsD, Act.put, List.setIfInBounds_toArray, List.set_cons_zero, List.set_cons_succ]
        go_wp2
        exact ⟨rfl, rfl, ⟨fun h9 => absurd h9 (Nat.ne_of_beq_eq_false rfl), fun _ => ⟨fun h9 => absurd h9 (Nat.ne_of_beq_eq_false rfl), fun _ => Below.refl _ _⟩⟩, hI⟩
      · intro vals xw f hf1 hf2 hf3 hI hF
        clear hf2 hf3
        simp only [saysD, List.getD_cons_zero, List.getD_cons_succ, and_true] at hF
        obtain ⟨e20, e21⟩ := hF
        dsimp only [owes4, bare]
        simp only [putsD, Act.put, List.setIfInBounds_toArray, List.set_cons_zero, List.set_cons_succ]
        simp only [e20, e21]
        go_wp2
        exact ⟨rfl, rfl, ⟨fun h9 => absurd h9 (Nat.ne_of_beq_eq_false rfl), fun _ => ⟨fun h9 => absurd h9 (Nat.ne_of_beq_eq_false rfl), fun _ => Below.refl _ _⟩⟩, hI⟩
      · intro vals xw f hf1 hf2 hf3 hI hF
        clear hf2 hf3
        simp only [saysD, List.getD_cons_zero, List.getD_cons_succ, and_true] at hF
        have e22 := hF
        dsimp only [owes4, bare]
        simp only [putsD, Act.put, List.setIfInBounds_toArray, List.set_cons_zero, List.set_cons_succ]
        simp only [e22]
        have c9 := HRY.out _ hI.1
        go_wp2
        exact ⟨rfl, rfl, ⟨fun h9 => absurd h9 (Nat.ne_of_beq_eq_false rfl), fun _ => ⟨fun h9 => absurd h9 (Nat.ne_of_beq_eq_false rfl), fun _ => Below.refl _ _⟩⟩, hI⟩
      · intro vals xw f hf1 hf2 hf3 hI hF
        have k12 : f 12 = false := hf3 12 (by kernel_rfl)
        clear hf2 hf3
        simp only [saysD, List.getD_cons_zero, List.getD_cons_succ, and_true] at hF
        obtain ⟨e15, e19, e23⟩ := hF
        dsimp only [owes4, bare]
        simp only [putsD, Act.put, List.setIfInBounds_toArray, List.set_cons_zero, List.set_cons_succ]
        simp only [e15, e19, e23]
        obtain ⟨i1, i2, i3⟩ := hI
        rw [hf1, if_neg (by simp)] at i2
        have I3 := Lib.hid (i3 k12)
        have I1 := Lib.hid i1
        have HC := Lib.hid (HCALL.out x y s1 xw i2 HXYM.out.1 HXYM.out.2 (HK.out xw i1))
        rw [← HM.out] at HC
        clear i1 i2 i3
        go_wp2_with fail
        refine HC.out.mono ?_
        rintro e wx ⟨rfl, hb9, hd9⟩
        have HB9 := Lib.hid hb9
        have HD9 := Lib.hid hd9
        clear hb9 hd9 HC
        go_wp2
        exact ⟨rfl, rfl, ⟨fun _ => HB9.out, fun h9 => absurd rfl h9⟩, I1.out.trans HB9.out, by rw [did_same, if_pos rfl]; exact HD9.out, fun _ => I3.out.upB HB9.out⟩
      · intro vals xw f hf1 hf2 hf3 hI hF
        have k12 : f 12 = false := hf3 12 (by kernel_rfl)
        clear hf2 hf3
        simp only [saysD, List.getD_cons_zero, List.getD_cons_succ, and_true] at hF
        have e24 := hF
        dsimp only [owes4, bare]
        simp only [putsD, Act.put, List.setIfInBounds_toArray, List.set_cons_zero, List.set_cons_succ]
        simp only [e24]
        have k9 := hI.2.2 k12
        have h9 : some xw.heap.size ≠ (Value.slice A l.length c).ownBlock := fun e => by have := (k9.lt _ e.symm).2; omega
        have H9 := Lib.hid h9
        have hal : Below xw.heap.size xw (xw.alloc (.cells #[.int .i64 m.2] 83)) := (Below.refl _ _).alloc (Nat.le_refl _) _
        have HI := Lib.hid hI
        have HAL := Lib.hid hal
        clear k9 h9 hal hI
        go_wp2
        exact ⟨rfl, ⟨_, rfl, heap_alloc_new _ _, H9.out⟩, ⟨fun h9 => absurd h9 (Nat.ne_of_beq_eq_false rfl), fun _ => ⟨fun h9 => absurd h9 (Nat.ne_of_beq_eq_false rfl), fun _ => HAL.out⟩⟩, HI.out.up HAL.out⟩
      · intro vals xw f hf1 hf2 hf3 hI hF
        clear hf2 hf3
        simp only [saysD, List.getD_cons_zero, List.getD_cons_succ, and_true] at hF
        obtain ⟨e14, b9, e25, hb9, _⟩ := hF
        dsimp only [owes4, bare]
        simp only [putsD, Act.put, List.setIfInBounds_toArray, List.set_cons_zero, List.set_cons_succ]
        simp only [e14, e25]
        obtain ⟨i1, i2, i3⟩ := hI
        have hsz9 := i1.bel.size
        have hll : l.length ≤ 1048576 := by have := HLK.out; omega
        have I1 := Lib.hid i1
        have I2 := Lib.hid i2
        have I3 := Lib.hid (i3 hf1)
        clear i1 i2 i3
        at_builtin; refine wpList_append_sig2 (ys := l2) (by rfl) (.tmp 14) (.tmp 25) (by rfl) (by rfl) (by rfl) I3.out hb9 hll hsz9 HL2.out ?_; intro A9 c9 w9 hown9 hg9
        obtain ⟨hs9, hb8⟩ := I3.out.grown hg9 hsz9 hlo
        go_wp2
        exact ⟨rfl, ⟨A9, c9, rfl, hown9⟩, ⟨fun h9 => absurd h9 (Nat.ne_of_beq_eq_false rfl), fun _ => ⟨fun _ => hg9, fun h9 => absurd rfl h9⟩⟩, I1.out.then hb8 hlo, I2.out.upS hs9, fun h => absurd ((did_same f 12).symm.trans h) (by simp)⟩
      · intro vals xw f hf1 hf2 hf3 hI hF
        clear hf2 hf3
        simp only [saysD, List.getD_cons_zero, List.getD_cons_succ, and_true] at hF
        obtain ⟨A8, c8, e26, _⟩ := hF
        dsimp only [owes4, bare]
        simp only [putsD, Act.put, List.setIfInBounds_toArray, List.set_cons_zero, List.set_cons_succ]
        simp only [e26]
        go_wp2
        exact ⟨rfl, e26.symm, ⟨fun h9 => absurd h9 (Nat.ne_of_beq_eq_false rfl), fun _ => ⟨fun h9 => absurd h9 (Nat.ne_of_beq_eq_false rfl), fun _ => Below.refl _ _⟩⟩, hI⟩
      · intro vals xw f hall hI hF
        rw [show List.range _ = [0, 1, 2, 3, 4, 5, 6, 7, 8, 9, 10, 11, 12, 13] from rfl] at hF
        simp only [says, List.getD_cons_zero, List.getD_cons_succ, and_true] at hF
        obtain ⟨i1, i2, _⟩ := hI
        rw [hall 10 (by decide), if_pos rfl] at i2
        obtain ⟨_, _, _, _, _, _, _, _, _, _, _, _, ⟨A8, c8, e26, o26⟩, e7⟩ := hF
        rw [e26] at e7
        simp only [putsD, Act.put, List.setIfInBounds_toArray, List.set_cons_zero, List.set_cons_succ]
        simp only [e7]
        have I1 := Lib.hid i1
        have I2 := Lib.hid i2
        have O26 := Lib.hid o26
        clear i1 i2 o26 e26 e7
        go_wp2
        go_roundw
        case rel => exact ⟨k + 1, m.1, l2, A8, c8, by omega, by go_num, rfl, by rw [HL2.out, List.length_append, HLK.out]; rfl, O26.out, fun z hz => by
                rw [HL2.out] at hz
                rcases List.mem_append.1 hz with hz | hz
                · exact HLM.out z hz
                · rw [List.mem_singleton.1 hz]; exact HMB.out, I1.out, I2.out, Lib.hid (by rw [HL2.out, HM.out]; exact HST.out)⟩
        case measure => simp [intOf]; omega
    · have hke : k = xs.length := by omega
      subst hke
      have hlt2 : ¬ ((xs.length : Nat) : Int) < xs.length := by omega
      go_wp2
      go_ret
      have hd1 : xs.drop xs.length = [] := List.drop_length
      have hd2 : ys.drop xs.length = [] := by rw [HL.out]; exact List.drop_length
      have hst2 := hst.out
      rw [hd1, hd2] at hst2
      have hT2 : T = (s1, l) := by rw [← hst2]; show (s1, l ++ []) = _; rw [List.append_nil]
      rw [hT2]
      exact ⟨A, c, rfl, HOWN.out.pl.1, HOWN.out.pl.2, HLM.out, HBB.out, HBD.out⟩
set_option maxHeartbeats 1000000 in
theorem negated_any (a0 a1 : Addr) (lo q r : Nat) (X : Option Addr) (cx : Nat) (xs : List Int) (s : BS) (w : World) (h : Bd a0 a1 lo w q r s) (hX : Lay.int.Pl w X xs) (hxm : ∀ x ∈ xs, MB x) (hn : xs.length ≤ 1000) :
    Calls Tryd.prog 99 #[.slice X xs.length cx] w (RetL a0 a1 lo w q r (s, xs.map Neg.neg)) := by
  show Calls _ _ _ _ (RetL a0 a1 lo w q r (s, xs.map Neg.neg))
  have HC := Lib.hid (each_negated a0 a1 lo q r X X cx cx xs xs s w (fun _ => True) trivial (fun _ _ => trivial) h hX hX hxm hxm rfl hn
    (fun x y s z hz hx hy _ => (neg1_any x y z hx.rb).mono fun e z' ⟨h1, h2⟩ => by subst h2; exact ⟨h1, .refl _ _, hz⟩) (fun x y s _ hx _ => hx.neg))
  rw [run_turned xs xs s rfl] at HC
  clear h hX hxm
  go_enter Tryd.func99, Tryd.ntmps99
  go_wp2_with fail
  refine HC.out.mono ?_
  generalize hns : xs.map Neg.neg = ns at *
  rintro e w1 ⟨A, c, rfl, h1, h2, h3, h4, h5⟩
  dsimp only at h1 h2 h3 h5
  have H2 := Lib.hid h2
  have H4 := Lib.hid h4
  have H5 := Lib.hid h5
  have H3 := Lib.hid h3
  clear h2 h3 h4 h5 HC
  go_wp2
  go_ret
  exact ⟨A, c, rfl, h1, H2.out, H3.out, H4.out, H5.out⟩

/-! offs -/
theorem maskN9 (a : Nat) (ha : a < 18446744073709551616) : bits .and .u64 (a : Int) 4294967295 = ((a % 4294967296 : Nat) : Int) := by
  have h := bits_and_u64_nat a 4294967295 ha (by omega)
  have e : a &&& 4294967295 = a % 4294967296 := Nat.and_two_pow_sub_one_eq_mod a 32
  rw [e] at h
  exact h
theorem divN9 (a : Nat) : (a : Int) / 4294967296 = ((a / 4294967296 : Nat) : Int) := by omega
theorem mulN9 (a b : Nat) : (a : Int) * (b : Int) = ((a * b : Nat) : Int) := (Int.natCast_mul a b).symm
theorem addN9 (a b : Nat) : (a : Int) + (b : Int) = ((a + b : Nat) : Int) := (Int.natCast_add a b).symm
theorem wrapN9 (a : Nat) (ha : a < 18446744073709551616) : IntKind.u64.wrap (a : Int) = (a : Int) := by rw [IntKind.wrap_u64]; omega
theorem wrapM9 (a : Nat) : IntKind.u64.wrap (a : Int) = ((a % 18446744073709551616 : Nat) : Int) := by rw [IntKind.wrap_u64]; omega
set_option maxHeartbeats 2000000 in
theorem mul64_any (x y : Nat) (hx : x < 18446744073709551616) (hy : y < 18446744073709551616) (w : World) :
    Calls Tryd.prog 135 #[.int .u64 x, .int .u64 y] w fun e w' => e = .returned (.tuple #[.int .u64 ((x * y / 18446744073709551616 : Nat) : Int), .int .u64 ((x * y % 18446744073709551616 : Nat) : Int)]) ∧ w = w' := by
  obtain ⟨bd, bt, bw, hhi⟩ := Lib.mul64_hi x y hx hy
  have ba := Lib.half_mul_le (a := x / 4294967296) (b := y / 4294967296) (by omega) (by omega)
  have bb := Lib.half_mul_le (a := x / 4294967296) (b := y % 4294967296) (by omega) (by omega)
  have bc := Lib.half_mul_le (a := x % 4294967296) (b := y / 4294967296) (by omega) (by omega)
  have ba' : x / 4294967296 * (y / 4294967296) < 18446744073709551616 := by omega
  have bb' : x / 4294967296 * (y % 4294967296) < 18446744073709551616 := by omega
  have bc' : x % 4294967296 * (y / 4294967296) < 18446744073709551616 := by omega
  have bh1 : x / 4294967296 * (y / 4294967296) + (x / 4294967296 * (y % 4294967296) + x % 4294967296 * (y % 4294967296) / 4294967296) / 4294967296 < 18446744073709551616 := by omega
  have bh : x / 4294967296 * (y / 4294967296) + (x / 4294967296 * (y % 4294967296) + x % 4294967296 * (y % 4294967296) / 4294967296) / 4294967296 + ((x / 4294967296 * (y % 4294967296) + x % 4294967296 * (y % 4294967296) / 4294967296) % 4294967296 + x % 4294967296 * (y / 4294967296)) / 4294967296 < 18446744073709551616 := by omega
  go_enter Tryd.func135, Tryd.ntmps135
  go_wp2
  simp only [maskN9 x hx, maskN9 y hy, divN9, mulN9, addN9, wrapN9 _ bd, wrapN9 _ bb', wrapN9 _ bt, maskN9 _ bt, wrapN9 _ bc', wrapN9 _ bw, wrapN9 _ ba', wrapN9 _ bh1, wrapN9 _ bh, wrapM9 (x * y)]
  rw [hhi]
  go_ret2
  exact ⟨rfl, rfl⟩
set_option maxHeartbeats 1000000 in
theorem mulOne_any (n : Nat) (hn : n ≤ 1000) (w : World) :
    Calls Tryd.prog 130 #[.int .u64 1, .int .u64 n] w fun e w' => e = .returned (.tuple #[.int .u64 0, .int .u64 (n : Int)]) ∧ w = w' := by
  have HC := Lib.hid (mul64_any 1 n (by omega) (by omega) w)
  have e1 : (1 * n / 18446744073709551616 : Nat) = 0 := by omega
  have e2 : (1 * n % 18446744073709551616 : Nat) = n := by omega
  rw [e1, e2] at HC
  clear e1 e2
  go_enter Tryd.func130, Tryd.ntmps130
  go_wp2_with fail
  refine HC.out.mono ?_
  rintro e w' ⟨rfl, rfl⟩
  clear HC
  go_wp2
  go_ret2
  exact ⟨rfl, rfl⟩
/-- A row of which the head is written. -/
def rowH (m : Int) (n k : Nat) : List Value := List.replicate k (.int .i64 m) ++ List.replicate (n - k) (.int .i64 0)
theorem rowH_len {m : Int} {n k : Nat} (h : k ≤ n) : (rowH m n k).length = n := by unfold rowH; simp; omega
theorem rowH_splice {m : Int} {n k j : Nat} (h : k + j ≤ n) : splice (rowH m n k) k (List.replicate j (.int .i64 m)) = rowH m n (k + j) := by
  unfold splice rowH
  rw [List.length_replicate, List.take_left' (by simp), List.drop_append, List.drop_replicate, List.drop_replicate, List.length_replicate]
  rw [show k - (k + j) = 0 by omega, show n - k - (k + j - k) = n - (k + j) by omega, ← List.append_assoc, ← List.append_assoc, List.replicate_append_replicate]
  simp
theorem rowH_get {m : Int} {n k j : Nat} (h : j < k) : (rowH m n k)[j]? = some (.int .i64 m) := by
  unfold rowH; rw [List.getElem?_append_left (by simpa using h)]; simp [h]
theorem own_of_cells {w : World} {base g n : Nat} {e : TypeId} {L : List Value} (h : w.heap[g]? = some (.cells L.toArray e (0, 0))) (hl : L.length = n) (hb : base ≤ g) (hm : n ≤ maxLen) : w.ownsRow base e 1 (.slice (some ⟨g, 0, none⟩) n n) n L :=
  ⟨by simp [hl], .inr ⟨g, n, L.toArray, rfl, hb, h, Nat.le_refl _, hm, by simp [hl], by rw [Nat.mul_one, ← hl]; simp⟩⟩
/-- A new row of signals. -/
def RetOw (xs : List Int) (w : World) (e : Ending) (w' : World) : Prop := ∃ A c, e = .returned (.slice A xs.length c) ∧ OwnSg w' w.heap.size (.slice A xs.length c) xs ∧ Below w.heap.size w w'
theorem copy_one (m : Int) (n g b : Nat) (t : TypeId) (W : World) (hg : W.heap[g]? = some (.cells (rowH m n 0).toArray 83 (0, 0))) (hb : W.heap[b]? = some (.cells #[.int .i64 m] t (0, 0))) :
    ∃ w2, (Builtin.copy_ #[74, 74] 3 #[.slice (some ⟨g, 0, none⟩) n n, .slice (some ⟨b, 0, none⟩) 1 1]).run Tryd.prog W = .ok (.int .i64 (Nat.min 1 n : Nat)) w2 ∧ w2.heap[g]? = some (.cells (rowH m n (Nat.min 1 n)).toArray 83 (0, 0)) ∧ Below g W w2 := by
  have hs : (Tryd.prog.info? 83).map (·.size) = some 1 := by kernel_rfl
  have hl := rowH_len (m := m) (n := n) (Nat.zero_le n)
  rcases n with _ | n
  · exact ⟨W, run_copy_none _ _ _ _ _ _ _ _ _ _ _ Tryd.underlying74 hs rfl, hg, Below.refl _ _⟩
  · have h1 : Nat.min 1 (n + 1) = 1 := Nat.min_eq_left (by omega)
    rw [h1]
    have hfit : 0 + 1 ≤ (rowH m (n + 1) 0).toArray.size := by simp only [List.size_toArray]; omega
    have hr := run_copy_row (P := Tryd.prog) W 74 74 3 83 g 0 (n + 1) (n + 1) ⟨b, 0, none⟩ 1 1 (rowH m (n + 1) 0).toArray 83 [.int .i64 m] Tryd.underlying74 hs hg (by rw [h1]; rfl)
      (fun j v hj => by
        rcases j with _ | j
        · have e : Value.int .i64 m = v := Option.some.inj hj
          subst e
          exact (cell_of_block hb 0).1
        · simp at hj) hfit (fun v hv => by have e : v = .int .i64 m := List.mem_singleton.1 hv; subst e; rfl)
    refine ⟨_, hr, ?_, below_setRow (Below.refl _ _) (Nat.le_refl _) _⟩
    rw [setRow_heap _ _ _ _ _ _ hg]
    refine congrArg (fun l : List Value => some (Obj.cells l.toArray 83 (0, 0))) ?_
    have := rowH_splice (m := m) (n := n + 1) (k := 0) (j := 1) (by omega)
    rw [Nat.zero_add] at this
    rw [← this]
    simp [splice]
theorem copy_in (m : Int) (n g k q1 q2 : Nat) (hk : 0 < k) (hkn : k < n) (W : World) (hg : W.heap[g]? = some (.cells (rowH m n k).toArray 83 (0, 0))) :
    ∃ w2, (Builtin.copy_ #[74, 74] 3 #[.slice (some ⟨g, k, none⟩) (n - k) q1, .slice (some ⟨g, 0, none⟩) k q2]).run Tryd.prog W = .ok (.int .i64 (Nat.min k (n - k) : Nat)) w2 ∧ w2.heap[g]? = some (.cells (rowH m n (k + Nat.min k (n - k))).toArray 83 (0, 0)) ∧ Below g W w2 := by
  have hs : (Tryd.prog.info? 83).map (·.size) = some 1 := by kernel_rfl
  have hl := rowH_len (m := m) (Nat.le_of_lt hkn)
  have h1 : Nat.min k (n - k) ≤ k := Nat.min_le_left _ _
  have h2 : Nat.min k (n - k) ≤ n - k := Nat.min_le_right _ _
  have hr := run_copy_row (P := Tryd.prog) W 74 74 3 83 g k (n - k) q1 ⟨g, 0, none⟩ k q2 (rowH m n k).toArray 83 (List.replicate (Nat.min k (n - k)) (.int .i64 m)) Tryd.underlying74 hs hg (by rw [List.length_replicate])
    (fun j v hj => by
      obtain ⟨hj1, rfl⟩ := List.getElem?_eq_some_iff.1 hj
      rw [List.length_replicate] at hj1
      have h8 := (cell_of_block hg j).1
      rw [List.getElem?_toArray, rowH_get (by omega)] at h8
      have ha : (⟨g, 0, none⟩ : Addr).add j = ⟨g, j, none⟩ := by unfold Addr.add; split <;> simp_all
      rw [ha, h8, List.getElem_replicate]) (by simp only [List.length_replicate, List.size_toArray]; omega) (by intro v hv; rw [List.eq_of_mem_replicate hv]; rfl)
  rw [List.length_replicate] at hr
  refine ⟨_, hr, ?_, below_setRow (Below.refl _ _) (Nat.le_refl _) _⟩
  rw [setRow_heap _ _ _ _ _ _ hg]
  refine congrArg (fun l : List Value => some (Obj.cells l.toArray 83 (0, 0))) ?_
  rw [← rowH_splice (m := m) (n := n) (k := k) (j := Nat.min k (n - k)) (by omega)]
  simp [splice]
set_option maxRecDepth 100000 in
set_option maxHeartbeats 4000000 in
theorem repeat_any (m : Int) (n b : Nat) (t : TypeId) (w : World) (hb : w.heap[b]? = some (.cells #[.int .i64 m] t (0, 0))) (hn : n ≤ 1000) :
    Calls Tryd.prog 122 #[.slice (some ⟨b, 0, none⟩) 1 1, .int .i64 (n : Int)] w (RetOw (List.replicate n m) w) := by
  have hmk := run_make_row' (P := Tryd.prog) 74 83 (.int .i64 0) 8 Tryd.underlying74 signal_info rfl .i64 .i64 n (by omega) (by omega)
  have HM := Lib.hid (mulOne_any n hn w)
  have hw1 : Below w.heap.size w (w.alloc (.cells (madeCells #[.int .i64 0] n) 83)) := (Below.refl _ _).alloc (Nat.le_refl _) _
  have hg0 : (w.alloc (.cells (madeCells #[.int .i64 0] n) 83)).heap[w.heap.size]? = some (.cells (rowH m n 0).toArray 83 (0, 0)) := by
    rw [heap_alloc_new, show madeCells #[.int .i64 0] n = (rowH m n 0).toArray by rw [← Array.toArray_toList (xs := madeCells _ _), toList_madeCells_one]; rfl]
  obtain ⟨w2, hcp, hg2, hb2⟩ := copy_one m n w.heap.size b t _ hg0 ((hw1.block b (lt_of_block hb)).trans hb)
  obtain ⟨k0, hk0⟩ : ∃ k0, k0 = Nat.min 1 n := ⟨_, rfl⟩
  rw [← hk0] at hcp hg2
  have HG2 := Lib.hid hg2
  have HB2 := Lib.hid (hw1.trans hb2)
  have HKL := Lib.hid (show k0 ≤ n ∧ (0 < n → 0 < k0) by rw [hk0]; exact ⟨Nat.min_le_right 1 n, fun h => by have h9 : Nat.min 1 n = 1 := Nat.min_eq_left h; omega⟩)
  clear hb hw1 hg0 hg2 hb2 hk0
  go_enter Tryd.func122, Tryd.ntmps122
  go_wp2_with fail
  refine HM.out.mono ?_
  rintro e w' ⟨rfl, rfl⟩
  clear HM
  go_wp2
  clear hmk hcp
  go_loopw [8] (fun kk wr => ∃ k : Nat, kk = .int .i64 k ∧ k ≤ n ∧ (0 < n → 0 < k) ∧ Hid (wr.heap[w.heap.size]? = some (.cells (rowH m n k).toArray 83 (0, 0))) ∧ Below w.heap.size w wr) (fun kk _ => n - (intOf kk).toNat)
  case atStart => exact ⟨k0, rfl, HKL.out.1, HKL.out.2, HG2, HB2.out⟩
  case round =>
    obtain ⟨k, rfl, hk, hk0, hg, hbr⟩ := hrel
    by_cases hlt : k < n
    · have hlt2 : (k : Int) < n := by omega
      have hpos : 0 < k := hk0 (by omega)
      have HBR := Lib.hid hbr
      obtain ⟨j, hj⟩ : ∃ j, j = Nat.min k (n - k) := ⟨_, rfl⟩
      have hj1 : j ≤ k ∧ k + j ≤ n ∧ 0 < j := by have h1 : Nat.min k (n - k) ≤ k := Nat.min_le_left _ _; have h2 : Nat.min k (n - k) ≤ n - k := Nat.min_le_right _ _; have h3 : 0 < Nat.min k (n - k) := Nat.lt_min.2 ⟨hpos, by omega⟩; omega
      have HCI := Lib.hid (fun q1 q2 W => copy_in m n w.heap.size k q1 q2 hpos hlt W)
      rw [← hj] at HCI
      obtain ⟨L1, hL1⟩ : ∃ L1, L1 = rowH m n k := ⟨_, rfl⟩
      obtain ⟨L2, hL2⟩ : ∃ L2, L2 = rowH m n (k + j) := ⟨_, rfl⟩
      have HL2 := Lib.hid hL2
      rw [← hL1] at hg HCI
      rw [← hL2] at HCI
      have HG := Lib.hid hg.out
      clear hj hbr hg hL1 hL2
      go_wp2
      refine wp_region_rel4 [[], [], [], [(1, 39), (2, 40)], [], [], [(4, 42), (5, 43)], [(3, 41), (6, 44)], [(0, 38), (7, 45)], [(8, 46)]]
        (fun _ _ => True)
        []
        (fun f9 x9 => Below w.heap.size w x9 ∧ (f9 7 = false → x9.heap[w.heap.size]? = some (.cells L1.toArray 83 (0, 0))) ∧ (f9 7 = true → x9.heap[w.heap.size]? = some (.cells L2.toArray 83 (0, 0))))
        [fun vs9 _ => vs9 0 = (.int .i64 (k : Int)),
    fun vs9 _ => vs9 1 = (.slice (some ⟨w.heap.size, 0, none⟩) n n),
    fun vs9 _ => vs9 2 = (.int .i64 (k : Int)),
    fun vs9 y9 => (fun v z => ∃ q : Nat, v = .slice (some ⟨w.heap.size, k, none⟩) (n - k) q) (vs9 3) y9,
    fun vs9 _ => vs9 4 = (.slice (some ⟨w.heap.size, 0, none⟩) n n),
    fun vs9 _ => vs9 5 = (.int .i64 (k : Int)),
    fun vs9 y9 => (fun v z => ∃ q : Nat, v = .slice (some ⟨w.heap.size, 0, none⟩) k q) (vs9 6) y9,
    fun vs9 _ => vs9 7 = (.int .i64 (j : Int)),
    fun vs9 _ => vs9 8 = (.int .i64 ((k : Int) + (j : Int))),
    fun vs9 _ => vs9 9 = (.int .i64 ((k : Int) + (j : Int)))]
        [(0, 38), (1, 39), (2, 40), (3, 41), (4, 42), (5, 43), (6, 44), (7, 45), (8, 46), (9, 8)] (by kernel_rfl) (by kernel_rfl) (by kernel_rfl) (by kernel_rfl)
        (fun _ => trivial) trivial
        ⟨⟨.inr (fun _ _ _ h _ => h), trivial⟩,
    ⟨.inr (fun _ _ _ h _ => h), trivial⟩,
    ⟨.inr (fun _ _ _ h _ => h), trivial⟩,
    ⟨.inr (fun vs9 x9 y9 h9 hR9 => (show ∀ v9 y8 y7, (fun v z => ∃ q : Nat, v = .slice (some ⟨w.heap.size, k, none⟩) (n - k) q) v9 y8 → (fun _ _ => True) y8 y7 → (fun v z => ∃ q : Nat, v = .slice (some ⟨w.heap.size, k, none⟩) (n - k) q) v9 y7 from fun _ _ _ h _ => h) (vs9 3) x9 y9 h9 hR9), trivial⟩,
    ⟨.inr (fun _ _ _ h _ => h), trivial⟩,
    ⟨.inr (fun _ _ _ h _ => h), trivial⟩,
    ⟨.inr (fun vs9 x9 y9 h9 hR9 => (show ∀ v9 y8 y7, (fun v z => ∃ q : Nat, v = .slice (some ⟨w.heap.size, 0, none⟩) k q) v9 y8 → (fun _ _ => True) y8 y7 → (fun v z => ∃ q : Nat, v = .slice (some ⟨w.heap.size, 0, none⟩) k q) v9 y7 from fun _ _ _ h _ => h) (vs9 6) x9 y9 h9 hR9), trivial⟩,
    ⟨.inr (fun _ _ _ h _ => h), trivial⟩,
    ⟨.inr (fun _ _ _ h _ => h), trivial⟩,
    ⟨.inr (fun _ _ _ h _ => h), trivial⟩, trivial⟩ ⟨fun vs vs' x h _ hv => (by dsimp only at hv ⊢; first | (rw [← h]; exact hv) | exact hv),
    fun vs vs' x h _ hv => (by dsimp only at hv ⊢; first | (rw [← h]; exact hv) | exact hv),
    fun vs vs' x h _ hv => (by dsimp only at hv ⊢; first | (rw [← h]; exact hv) | exact hv),
    fun vs vs' x h _ hv => (by dsimp only at hv ⊢; first | (rw [← h]; exact hv) | exact hv),
    fun vs vs' x h _ hv => (by dsimp only at hv ⊢; first | (rw [← h]; exact hv) | exact hv),
    fun vs vs' x h _ hv => (by dsimp only at hv ⊢; first | (rw [← h]; exact hv) | exact hv),
    fun vs vs' x h _ hv => (by dsimp only at hv ⊢; first | (rw [← h]; exact hv) | exact hv),
    fun vs vs' x h _ hv => (by dsimp only at hv ⊢; first | (rw [← h]; exact hv) | exact hv),
    fun vs vs' x h _ hv => (by dsimp only at hv ⊢; first | (rw [← h]; exact hv) | exact hv),
    fun vs vs' x h _ hv => (by dsimp only at hv ⊢; first | (rw [← h]; exact hv) | exact hv), trivial⟩ (⟨HBR.out.trans (below_drewN (Below.refl _ _) 1), fun _ => HG.out, fun h => by cases h⟩) ⟨?_, ?_, ?_, ?_, ?_, ?_, ?_, ?_, ?_, ?_, trivial⟩ ?_
      · intro vals xw f hf1 hf2 hf3 hI hF
        clear hf2 hf3
        dsimp only [owes4, bare]
        simp only [putsD, Act.put, List.setIfInBounds_toArray, List.set_cons_zero, List.set_cons_succ]
        go_wp2
        exact ⟨rfl, rfl, trivial, hI⟩
      · intro vals xw f hf1 hf2 hf3 hI hF
        clear hf2 hf3
        dsimp only [owes4, bare]
        simp only [putsD, Act.put, List.setIfInBounds_toArray, List.set_cons_zero, List.set_cons_succ]
        go_wp2
        exact ⟨rfl, rfl, trivial, hI⟩
      · intro vals xw f hf1 hf2 hf3 hI hF
        clear hf2 hf3
        dsimp only [owes4, bare]
        simp only [putsD, Act.put, List.setIfInBounds_toArray, List.set_cons_zero, List.set_cons_succ]
        go_wp2
        exact ⟨rfl, rfl, trivial, hI⟩
      · intro vals xw f hf1 hf2 hf3 hI hF
        clear hf2 hf3
        simp only [saysD, List.getD_cons_zero, List.getD_cons_succ, and_true] at hF
        obtain ⟨e39, e40⟩ := hF
        dsimp only [owes4, bare]
        simp only [putsD, Act.put, List.setIfInBounds_toArray, List.set_cons_zero, List.set_cons_succ]
        simp only [e39, e40]
        go_wp2
        exact ⟨rfl, ⟨_, rfl⟩, trivial, hI⟩
      · intro vals xw f hf1 hf2 hf3 hI hF
        clear hf2 hf3
        dsimp only [owes4, bare]
        simp only [putsD, Act.put, List.setIfInBounds_toArray, List.set_cons_zero, List.set_cons_succ]
        go_wp2
        exact ⟨rfl, rfl, trivial, hI⟩
      · intro vals xw f hf1 hf2 hf3 hI hF
        clear hf2 hf3
        dsimp only [owes4, bare]
        simp only [putsD, Act.put, List.setIfInBounds_toArray, List.set_cons_zero, List.set_cons_succ]
        go_wp2
        exact ⟨rfl, rfl, trivial, hI⟩
      · intro vals xw f hf1 hf2 hf3 hI hF
        clear hf2 hf3
        simp only [saysD, List.getD_cons_zero, List.getD_cons_succ, and_true] at hF
        obtain ⟨e39, e40⟩ := hF
        dsimp only [owes4, bare]
        simp only [putsD, Act.put, List.setIfInBounds_toArray, List.set_cons_zero, List.set_cons_succ]
        simp only [e39, e40]
        go_wp2
        exact ⟨rfl, ⟨_, rfl⟩, trivial, hI⟩
      · intro vals xw f hf1 hf2 hf3 hI hF
        clear hf2 hf3
        simp only [saysD, List.getD_cons_zero, List.getD_cons_succ, and_true] at hF
        obtain ⟨⟨q1, e41⟩, ⟨q2, e44⟩⟩ := hF
        dsimp only [owes4, bare]
        simp only [putsD, Act.put, List.setIfInBounds_toArray, List.set_cons_zero, List.set_cons_succ]
        simp only [e41, e44]
        obtain ⟨i1, i2, _⟩ := hI
        have HI2 := Lib.hid (i2 hf1)
        clear i2
        obtain ⟨w9, hcp9, hg9, hb9⟩ := HCI.out q1 q2 xw HI2.out
        have HG9 := Lib.hid hg9
        have HB9 := Lib.hid (i1.trans hb9)
        clear hg9 hb9
        go_wp2
        exact ⟨rfl, rfl, trivial, HB9.out, fun h => absurd ((did_same f 7).symm.trans h) (by simp), fun _ => HG9.out⟩
      · intro vals xw f hf1 hf2 hf3 hI hF
        clear hf2 hf3
        simp only [saysD, List.getD_cons_zero, List.getD_cons_succ, and_true] at hF
        obtain ⟨e38, e45⟩ := hF
        dsimp only [owes4, bare]
        simp only [putsD, Act.put, List.setIfInBounds_toArray, List.set_cons_zero, List.set_cons_succ]
        simp only [e38, e45]
        go_wp2
        exact ⟨rfl, rfl, trivial, hI⟩
      · intro vals xw f hf1 hf2 hf3 hI hF
        clear hf2 hf3
        simp only [saysD, List.getD_cons_zero, List.getD_cons_succ, and_true] at hF
        have e46 := hF
        dsimp only [owes4, bare]
        simp only [putsD, Act.put, List.setIfInBounds_toArray, List.set_cons_zero, List.set_cons_succ]
        simp only [e46]
        go_wp2
        exact ⟨rfl, rfl, trivial, hI⟩
      · intro vals xw f hall hI hF
        rw [show List.range _ = [0, 1, 2, 3, 4, 5, 6, 7, 8, 9] from rfl] at hF
        simp only [says, List.getD_cons_zero, List.getD_cons_succ, and_true] at hF
        obtain ⟨i1, _, i3⟩ := hI
        have HI3 := Lib.hid (i3 (hall 7 (by decide)))
        have e9 : vals 9 = .int .i64 ((k : Int) + (j : Int)) := by obtain ⟨_, _, _, _, _, _, _, _, _, e9⟩ := hF; exact e9
        simp only [putsD, Act.put, List.setIfInBounds_toArray, List.set_cons_zero, List.set_cons_succ]
        simp only [e9]
        clear e9 hF i3
        go_wp2
        go_roundw
        case rel => exact ⟨k + j, by go_num, hj1.2.1, fun _ => by omega, Lib.hid (by rw [← HL2.out]; exact HI3.out), i1⟩
        case measure => simp [intOf]; omega
    · have hkn : k = n := by omega
      subst hkn
      have hlt2 : ¬ ((k : Nat) : Int) < k := by omega
      have HBR := Lib.hid hbr
      clear hbr
      go_wp2
      go_ret
      have hg9 := hg.out
      have hrow : rowH m k k = (List.replicate k m).map (Value.int .i64) := by unfold rowH; simp
      rw [hrow] at hg9
      have hl : (List.replicate k m).length = k := by simp
      refine ⟨some ⟨w.heap.size, 0, none⟩, k, by rw [hl]; rfl, ?_, HBR.out⟩
      unfold OwnSg
      rw [hl]
      exact own_of_cells hg9 (by simp) (Nat.le_refl _) (by unfold maxLen; omega)
end Go.Proofs.YtjghcaghigebjaaDoor
