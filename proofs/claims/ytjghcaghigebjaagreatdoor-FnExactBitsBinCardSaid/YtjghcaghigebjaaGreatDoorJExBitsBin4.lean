/- The program's signals turned, signals that are off. The reference's l7Less, l7Same. Contracts of the reference's clauses and unit propagation: l4Clause, CnfOk, l5Sign, l5Look, l5Find. Contracts of the reference's unit propagation: l5Find, l5Vals, l5Units, l5Rup, RupOk. Contracts of the reference's unit propagation: l5Vals, l5Units, l5Rup, RupOk. Contracts of the reference's l5Rup and RupOk. The program's trail: what lies in memory; what is asked of it. The program's trail: next, push. The program's trail: push. Draws of clauses: l4Draw, l5Clause. The reference's l7Fill and l7Turn. The reference's l7Add. -/
import Derived.Lib.Mul64
import Derived.Laws.Bits64b
import Derived.Laws.CopyOwn
import Derived.Deep.OwnRows
import Derived.Test.YtjghcaghigebjaaGreatDoorJExBitsBin0
import Derived.Test.YtjghcaghigebjaaGreatDoorJExBitsBin1
import Derived.Test.YtjghcaghigebjaaGreatDoorJExBitsBin2
import Derived.Test.YtjghcaghigebjaaGreatDoorJExBitsBin3
/-! The program's signals turned, signals that are off. -/
namespace Go.Proofs.YtjghcaghigebjaaGreatDoor
open Go Go.RowKit

/-! negated -/
set_option maxHeartbeats 1000000 in
theorem neg1_any (x y : Int) (w : World) (hx : RB x) : Calls Tryz.prog 126 #[.int .i64 x, .int .i64 y] w fun e w' => e = .returned (.int .i64 (-x)) ∧ w = w' := by
  obtain ⟨h0, h1⟩ := hx
  go_enter Tryz.func126, Tryz.ntmps126
  go_wp2
  go_ret
  exact ⟨rfl, rfl⟩
theorem run_turned : ∀ (xs ys : List Int) (s : BS), xs.length = ys.length → run opsP (eachP (fun x _ => .ret (-x)) xs ys) s = (s, xs.map Neg.neg)
  | [], [], s, _ => rfl
  | x :: xs, y :: ys, s, h => by
    show run opsP ((PG.ret (-x)).bind fun m => (eachP _ xs ys).bind fun l => .ret (m :: l)) s = _
    rw [run_bind, run_bind]
    simp only [run, run_turned xs ys s (by simpa using h), List.map_cons]
  | [], _ :: _, _, h => by simp at h
  | _ :: _, [], _, h => by simp at h
set_option maxRecDepth 100000 in
set_option maxHeartbeats 4000000 in
theorem each_negated (a0 a1 : Addr) (lo q r : Nat)  (X Y : Option Addr) (cx cy : Nat) (xs ys : List Int) (s : BS) (w : World) (K : World → Prop) (hK : K w) (hKs : ∀ x, BelB lo w x → K x) (h : Bd a0 a1 lo w q r s) (hX : Lay.int.Pl w X xs) (hY : Lay.int.Pl w Y ys) (hxm : ∀ x ∈ xs, MB x) (hym : ∀ y ∈ ys, MB y) (hl : xs.length = ys.length) (hn : xs.length ≤ 1000)
    (hcall : ∀ (x y : Int) (s : BS) (z : World), Bd a0 a1 lo z q r s → MB x → MB y → K z → Calls Tryz.prog 126 #[.int .i64 x, .int .i64 y] z (RetM a0 a1 lo z q r (run opsP ((fun x _ => .ret (-x)) x y) s)))
    (hnb : ∀ (x y : Int) (s : BS), NB s.n → MB x → MB y → MB (run opsP ((fun x _ => .ret (-x)) x y) s).2) :
    Calls Tryz.prog 92 #[.slice X xs.length cx, .slice Y ys.length cy, .func (.func 126) #[] #[]] w (RetL a0 a1 lo w q r (run opsP (eachP (fun x _ => .ret (-x)) xs ys) s)) := by
  obtain ⟨T, hT⟩ : ∃ T, T = run opsP (eachP (fun x _ => .ret (-x)) xs ys) s := ⟨_, rfl⟩
  rw [← hT]
  have HT := Lib.hid hT
  have HB := Lib.hid h
  have HX := Lib.hid hX
  have HY := Lib.hid hY
  have HK := Lib.hid hKs
  have HXM := Lib.hid hxm
  have HYM := Lib.hid hym
  have HCALL := Lib.hid hcall
  have HNB := Lib.hid hnb
  have HL := Lib.hid hl
  have hlo := h.size
  clear hT h hX hY hKs hxm hym hcall hnb hK
  rw [← hl]
  clear hl
  go_enter Tryz.func92, Tryz.ntmps92
  go_wp2
  go_loopw [7, 11] (fun out i wr => ∃ (k : Nat) (s1 : BS) (l : List Int) (A : Option Addr) (c : Nat), k ≤ xs.length ∧ i = .int .i64 k ∧ out = .slice A l.length c ∧ l.length = k ∧ OwnSg wr w.heap.size (.slice A l.length c) l ∧ (∀ m ∈ l, MB m) ∧ BelB lo w wr ∧ Bd a0 a1 lo wr q r s1 ∧ Hid ((let z := run opsP (eachP (fun x _ => .ret (-x)) (xs.drop k) (ys.drop k)) s1; (z.1, l ++ z.2)) = T)) (fun _ i _ => xs.length - (intOf i).toNat)
  case atStart => exact ⟨0, s, [], none, 0, Nat.zero_le _, rfl, rfl, rfl, OwnSg.nil _ _, (fun _ h => by cases h), .refl _ _, HB.out, Lib.hid (by rw [HT.out]; rfl)⟩
  case round =>
    obtain ⟨k, s1, l, A, c, hk, rfl, rfl, hlk, hown, hlm, hbb, hbd, hst⟩ := hrel
    have HOWN := Lib.hid hown
    have HLM := Lib.hid hlm
    have HBB := Lib.hid hbb
    have HBD := Lib.hid hbd
    have HLK := Lib.hid hlk
    have hsz := hbb.bel.size
    clear hown hlm hbb hbd hlk
    by_cases hlt : k < xs.length
    · have hlt2 : (k : Int) < xs.length := by omega
      have hlty : k < ys.length := by rw [← HL.out]; exact hlt
      obtain ⟨x, hx⟩ : ∃ x, xs[k]? = some x := ⟨_, List.getElem?_eq_getElem hlt⟩
      obtain ⟨y, hy⟩ : ∃ y, ys[k]? = some y := ⟨_, List.getElem?_eq_getElem hlty⟩
      have hxg : xs[k] = x := (List.getElem?_eq_some_iff.1 hx).2
      have hyg : ys[k] = y := (List.getElem?_eq_some_iff.1 hy).2
      have hxM : MB x := HXM.out x (List.mem_of_getElem? hx)
      have hyM : MB y := HYM.out y (List.mem_of_getElem? hy)
      obtain ⟨adx, rfl, -, -⟩ := HX.out.at_int hlt
      obtain ⟨ady, rfl, -, -⟩ := HY.out.at_int hlty
      obtain ⟨m, hm⟩ : ∃ m, m = run opsP ((fun x _ => .ret (-x)) x y) s1 := ⟨_, rfl⟩
      have HST := Lib.hid ((run_each (o := opsP) (f := (fun x _ => .ret (-x))) xs ys k x y hx hy s1 l).symm.trans hst.out)
      have HM := Lib.hid hm
      have HMB : Hid (MB m.2) := Lib.hid (by rw [hm]; exact HNB.out x y s1 HBD.out.nb hxM hyM)
      have HRX : Hid (∀ z, BelB lo w z → z.cell? (adx.add k) = some (.int .i64 x)) := Lib.hid fun z hz => by
        obtain ⟨ad, e, _, hc⟩ := (HX.out.upB hz).at_int hlt
        injection e with e; subst e; rw [← hxg]; exact hc
      have HRY : Hid (∀ z, BelB lo w z → z.cell? (ady.add k) = some (.int .i64 y)) := Lib.hid fun z hz => by
        obtain ⟨ad, e, _, hc⟩ := (HY.out.upB hz).at_int hlty
        injection e with e; subst e; rw [← hyg]; exact hc
      obtain ⟨l2, hl2⟩ : ∃ l2, l2 = l ++ [m.2] := ⟨_, rfl⟩
      have HL2 := Lib.hid hl2
      have hky : (k : Int) < ys.length := by omega
      have hkx : (k : Int) < cx + 1 + xs.length := by omega
      have HXYM := Lib.hid (And.intro hxM hyM)
      clear hm hx hy hxg hyg hst hl2 hxM hyM hlty hkx
      go_wp2
      refine wp_region_rel4 [[], [], [], [], [(2, 16), (3, 17)], [(4, 18)], [], [], [(6, 20), (7, 21)], [(8, 22)], [(1, 15), (5, 19), (9, 23)], [(10, 24)], [(0, 14), (11, 25)], [(12, 26)]]
        (fun x9 y9 => Below x9.heap.size x9 y9)
        [(10, fun x9 y9 => BelB lo x9 y9), (12, fun x9 y9 => x9.grownBy y9 (Value.slice A l.length c).ownBlock)]
        (fun f9 x9 => EachI a0 a1 lo w q r s1 m.1 A c l (f9 10) (f9 12) x9)
        [fun vs9 _ => vs9 0 = (.slice A l.length c),
    fun vs9 _ => vs9 1 = (.func (.func 126) #[] #[]),
    fun vs9 _ => vs9 2 = (.slice (some adx) xs.length cx),
    fun vs9 _ => vs9 3 = (.int .i64 (k : Int)),
    fun vs9 _ => vs9 4 = (.pointer (some (adx.add k))),
    fun vs9 _ => vs9 5 = (.int .i64 x),
    fun vs9 _ => vs9 6 = (.slice (some ady) xs.length cy),
    fun vs9 _ => vs9 7 = (.int .i64 (k : Int)),
    fun vs9 _ => vs9 8 = (.pointer (some (ady.add k))),
    fun vs9 _ => vs9 9 = (.int .i64 y),
    fun vs9 _ => vs9 10 = (.int .i64 m.2),
    fun vs9 y9 => (fun v z => ∃ b : Nat, v = .slice (some ⟨b, 0, none⟩) 1 1 ∧ z.heap[b]? = some (.cells #[.int .i64 m.2] 123 (0, 0)) ∧ some b ≠ (Value.slice A l.length c).ownBlock) (vs9 11) y9,
    fun vs9 y9 => (fun v z => ∃ A' c', v = .slice A' l2.length c' ∧ OwnSg z w.heap.size (.slice A' l2.length c') l2) (vs9 12) y9,
    fun vs9 _ => vs9 13 = vs9 12]
        [(0, 14), (1, 15), (2, 16), (3, 17), (4, 18), (5, 19), (6, 20), (7, 21), (8, 22), (9, 23), (10, 24), (11, 25), (12, 26), (13, 7)] (by kernel_rfl) (by kernel_rfl) (by kernel_rfl) (by kernel_rfl)
        (fun _ => Below.refl _ _) ⟨fun _ => BelB.refl _ _, fun _ => World.grownBy.refl _ _, trivial⟩
        ⟨⟨.inr (fun _ _ _ h _ => h), ⟨.inr (.inr (fun _ _ _ h _ => h)), .inr (.inr (fun _ _ _ h _ => h)), trivial⟩⟩,
    ⟨.inr (fun _ _ _ h _ => h), ⟨.inr (.inr (fun _ _ _ h _ => h)), .inr (.inr (fun _ _ _ h _ => h)), trivial⟩⟩,
    ⟨.inr (fun _ _ _ h _ => h), ⟨.inr (.inr (fun _ _ _ h _ => h)), .inr (.inr (fun _ _ _ h _ => h)), trivial⟩⟩,
    ⟨.inr (fun _ _ _ h _ => h), ⟨.inr (.inr (fun _ _ _ h _ => h)), .inr (.inr (fun _ _ _ h _ => h)), trivial⟩⟩,
    ⟨.inr (fun _ _ _ h _ => h), ⟨.inr (.inr (fun _ _ _ h _ => h)), .inr (.inr (fun _ _ _ h _ => h)), trivial⟩⟩,
    ⟨.inr (fun _ _ _ h _ => h), ⟨.inr (.inr (fun _ _ _ h _ => h)), .inr (.inr (fun _ _ _ h _ => h)), trivial⟩⟩,
    ⟨.inr (fun _ _ _ h _ => h), ⟨.inr (.inr (fun _ _ _ h _ => h)), .inr (.inr (fun _ _ _ h _ => h)), trivial⟩⟩,
    ⟨.inr (fun _ _ _ h _ => h), ⟨.inr (.inr (fun _ _ _ h _ => h)), .inr (.inr (fun _ _ _ h _ => h)), trivial⟩⟩,
    ⟨.inr (fun _ _ _ h _ => h), ⟨.inr (.inr (fun _ _ _ h _ => h)), .inr (.inr (fun _ _ _ h _ => h)), trivial⟩⟩,
    ⟨.inr (fun _ _ _ h _ => h), ⟨.inr (.inr (fun _ _ _ h _ => h)), .inr (.inr (fun _ _ _ h _ => h)), trivial⟩⟩,
    ⟨.inr (fun _ _ _ h _ => h), ⟨.inr (.inl rfl), .inr (.inr (fun _ _ _ h _ => h)), trivial⟩⟩,
    ⟨.inr (fun vs9 x9 y9 h9 hR9 => (show ∀ v9 y8 y7, (fun v z => ∃ b : Nat, v = .slice (some ⟨b, 0, none⟩) 1 1 ∧ z.heap[b]? = some (.cells #[.int .i64 m.2] 123 (0, 0)) ∧ some b ≠ (Value.slice A l.length c).ownBlock) v9 y8 → (fun x9 y9 => Below x9.heap.size x9 y9) y8 y7 → (fun v z => ∃ b : Nat, v = .slice (some ⟨b, 0, none⟩) 1 1 ∧ z.heap[b]? = some (.cells #[.int .i64 m.2] 123 (0, 0)) ∧ some b ≠ (Value.slice A l.length c).ownBlock) v9 y7 from fun _ _ _ ⟨b, h1, h2, h3⟩ hR => ⟨b, h1, (hR.block b (lt_of_block h2)).trans h2, h3⟩) (vs9 11) x9 y9 h9 hR9), ⟨.inl (by kernel_rfl), .inr (.inr (fun vs9 x9 y9 h9 hR9 => (show ∀ v9 y8 y7, (fun v z => ∃ b : Nat, v = .slice (some ⟨b, 0, none⟩) 1 1 ∧ z.heap[b]? = some (.cells #[.int .i64 m.2] 123 (0, 0)) ∧ some b ≠ (Value.slice A l.length c).ownBlock) v9 y8 → (fun x9 y9 => x9.grownBy y9 (Value.slice A l.length c).ownBlock) y8 y7 → (fun v z => ∃ b : Nat, v = .slice (some ⟨b, 0, none⟩) 1 1 ∧ z.heap[b]? = some (.cells #[.int .i64 m.2] 123 (0, 0)) ∧ some b ≠ (Value.slice A l.length c).ownBlock) v9 y7 from fun _ _ _ ⟨b, h1, h2, h3⟩ hR => ⟨b, h1, (hR.block b (lt_of_block h2) h3).trans h2, h3⟩) (vs9 11) x9 y9 h9 hR9)), trivial⟩⟩,
    ⟨.inr (fun vs9 x9 y9 h9 hR9 => (show ∀ v9 y8 y7, (fun v z => ∃ A' c', v = .slice A' l2.length c' ∧ OwnSg z w.heap.size (.slice A' l2.length c') l2) v9 y8 → (fun x9 y9 => Below x9.heap.size x9 y9) y8 y7 → (fun v z => ∃ A' c', v = .slice A' l2.length c' ∧ OwnSg z w.heap.size (.slice A' l2.length c') l2) v9 y7 from fun _ _ _ ⟨A', c', h1, h2⟩ hR => ⟨A', c', h1, own_below h2 hR (Nat.le_refl _)⟩) (vs9 12) x9 y9 h9 hR9), ⟨.inl (by kernel_rfl), .inr (.inl rfl), trivial⟩⟩,
    ⟨.inr (fun _ _ _ h _ => h), ⟨.inr (.inr (fun _ _ _ h _ => h)), .inr (.inr (fun _ _ _ h _ => h)), trivial⟩⟩, trivial⟩ ⟨fun vs vs' x h _ hv => (by dsimp only at hv ⊢; first | (rw [← h]; exact hv) | exact hv),
    fun vs vs' x h _ hv => (by dsimp only at hv ⊢; first | (rw [← h]; exact hv) | exact hv),
    fun vs vs' x h _ hv => (by dsimp only at hv ⊢; first | (rw [← h]; exact hv) | exact hv),
    fun vs vs' x h _ hv => (by dsimp only at hv ⊢; first | (rw [← h]; exact hv) | exact hv),
    fun vs vs' x h _ hv => (by dsimp only at hv ⊢; first | (rw [← h]; exact hv) | exact hv),
    fun vs vs' x h _ hv => (by dsimp only at hv ⊢; first | (rw [← h]; exact hv) | exact hv),
    fun vs vs' x h _ hv => (by dsimp only at hv ⊢; first | (rw [← h]; exact hv) | exact hv),
    fun vs vs' x h _ hv => (by dsimp only at hv ⊢; first | (rw [← h]; exact hv) | exact hv),
    fun vs vs' x h _ hv => (by dsimp only at hv ⊢; first | (rw [← h]; exact hv) | exact hv),
    fun vs vs' x h _ hv => (by dsimp only at hv ⊢; first | (rw [← h]; exact hv) | exact hv),
    fun vs vs' x h _ hv => (by dsimp only at hv ⊢; first | (rw [← h]; exact hv) | exact hv),
    fun vs vs' x h _ hv => (by dsimp only at hv ⊢; first | (rw [← h]; exact hv) | exact hv),
    fun vs vs' x h _ hv => (by dsimp only at hv ⊢; first | (rw [← h]; exact hv) | exact hv),
    fun vs vs' x h hd hv => (by have h2 := hd 12 (by decide); show vs' 13 = vs' 12; exact h.symm.trans (Eq.trans hv h2)), trivial⟩ (⟨HBB.out.trans (.of (below_drewN (Below.refl _ _) 1) (Nat.le_trans hlo hsz)), by rw [if_neg (by simp)]; exact HBD.out.up (below_drewN (Below.refl _ _) 1), fun _ => own_below HOWN.out (below_drewN (Below.refl _ _) 1) (Nat.le_refl _)⟩) ⟨?_, ?_, ?_, ?_, ?_, ?_, ?_, ?_, ?_, ?_, ?_, ?_, ?_, ?_, trivial⟩ ?_
      · intro vals xw f hf1 hf2 hf3 hI hF
        clear hf2 hf3
        dsimp only [owes4, bare]
        simp only [putsD, Act.put, List.setIfInBounds_toArray, List.set_cons_zero, List.set_cons_succ]
        go_wp2
        exact ⟨rfl, rfl, ⟨fun h9 => absurd h9 (Nat.ne_of_beq_eq_false rfl), fun _ => ⟨fun h9 => absurd h9 (Nat.ne_of_beq_eq_false rfl), fun _ => Below.refl _ _⟩⟩, hI⟩
      · intro vals xw f hf1 hf2 hf3 hI hF
        clear hf2 hf3
        dsimp only [owes4, bare]
        simp only [putsD, Act.put, List.setIfInBounds_toArray, List.set_cons_zero, List.set_cons_succ]
        go_wp2
        exact ⟨rfl, rfl, ⟨fun h9 => absurd h9 (Nat.ne_of_beq_eq_false rfl), fun _ => ⟨fun h9 => absurd h9 (Nat.ne_of_beq_eq_false rfl), fun _ => Below.refl _ _⟩⟩, hI⟩
      · intro vals xw f hf1 hf2 hf3 hI hF
        clear hf2 hf3
        dsimp only [owes4, bare]
        simp only [putsD, Act.put, List.setIfInBounds_toArray, List.set_cons_zero, List.set_cons_succ]
        go_wp2
        exact ⟨rfl, rfl, ⟨fun h9 => absurd h9 (Nat.ne_of_beq_eq_false rfl), fun _ => ⟨fun h9 => absurd h9 (Nat.ne_of_beq_eq_false rfl), fun _ => Below.refl _ _⟩⟩, hI⟩
      · intro vals xw f hf1 hf2 hf3 hI hF
        clear hf2 hf3
        dsimp only [owes4, bare]
        simp only [putsD, Act.put, List.setIfInBounds_toArray, List.set_cons_zero, List.set_cons_succ]
        go_wp2
        exact ⟨rfl, rfl, ⟨fun h9 => absurd h9 (Nat.ne_of_beq_eq_false rfl), fun _ => ⟨fun h9 => absurd h9 (Nat.ne_of_beq_eq_false rfl), fun _ => Below.refl _ _⟩⟩, hI⟩
      · intro vals xw f hf1 hf2 hf3 hI hF
        clear hf2 hf3
        simp only [saysD, List.getD_cons_zero, List.getD_cons_succ, and_true] at hF
        obtain ⟨e16, e17⟩ := hF
        dsimp only [owes4, bare]
        simp only [putsD, Act.put, List.setIfInBounds_toArray, List.set_cons_zero, List.set_cons_succ]
        simp only [e16, e17]
        go_wp2
        exact ⟨rfl, rfl, ⟨fun h9 => absurd h9 (Nat.ne_of_beq_eq_false rfl), fun _ => ⟨fun h9 => absurd h9 (Nat.ne_of_beq_eq_false rfl), fun _ => Below.refl _ _⟩⟩, hI⟩
      · intro vals xw f hf1 hf2 hf3 hI hF
        clear hf2 hf3
        simp only [saysD, List.getD_cons_zero, List.getD_cons_succ, and_true] at hF
        have e18 := hF
        dsimp only [owes4, bare]
        simp only [putsD, Act.put, List.setIfInBounds_toArray, List.set_cons_zero, List.set_cons_succ]
        simp only [e18]
        have c9 := HRX.out _ hI.1
        go_wp2
        exact ⟨rfl, rfl, ⟨fun h9 => absurd h9 (Nat.ne_of_beq_eq_false rfl), fun _ => ⟨fun h9 => absurd h9 (Nat.ne_of_beq_eq_false rfl), fun _ => Below.refl _ _⟩⟩, hI⟩
      · intro vals xw f hf1 hf2 hf3 hI hF
        clear hf2 hf3
        dsimp only [owes4, bare]
        simp only [putsD, Act.put, List.setIfInBounds_toArray, List.set_cons_zero, List.set_cons_succ]
        go_wp2
        exact ⟨rfl, rfl, ⟨fun h9 => absurd h9 (Nat.ne_of_beq_eq_false rfl), fun _ => ⟨fun h9 => absurd h9 (Nat.ne_of_beq_eq_false rfl), fun _ => Below.refl _ _⟩⟩, hI⟩
      · intro vals xw f hf1 hf2 hf3 hI hF
        clear hf2 hf3
        dsimp only [owes4, bare]
        simp only [putsD, Act.put, List.setIfInBounds_toArray, List.set_cons_zero, List.set_cons_succ]
        go_wp2
        exact ⟨rfl, rfl, ⟨fun h9 => absurd h9 (Nat.ne_of_beq_eq_false rfl), fun _ => ⟨fun h9 => absurd h9 (Nat.ne_of_beq_eq_false rfl), fun _ => Below.refl _ _⟩⟩, hI⟩
      · intro vals xw f hf1 hf2 hf3 hI hF
        clear hf2 hf3
        simp only [saysD, List.getD_cons_zero, List.getD_cons_succ, and_true] at hF
        obtain ⟨e20, e21⟩ := hF
        dsimp only [owes4, bare]
        simp only [putsD, Act.put, List.setIfInBounds_toArray, List.set_cons_zero, List.set_cons_succ]
        simp only [e20, e21]
        go_wp2
        exact ⟨rfl, rfl, ⟨fun h9 => absurd h9 (Nat.ne_of_beq_eq_false rfl), fun _ => ⟨fun h9 => absurd h9 (Nat.ne_of_beq_eq_false rfl), fun _ => Below.refl _ _⟩⟩, hI⟩
      · intro vals xw f hf1 hf2 hf3 hI hF
        clear hf2 hf3
        simp only [saysD, List.getD_cons_zero, List.getD_cons_succ, and_true] at hF
        have e22 := hF
        dsimp only [owes4, bare]
        simp only [putsD, Act.put, List.setIfInBounds_toArray, List.set_cons_zero, List.set_cons_succ]
        simp only [e22]
        have c9 := HRY.out _ hI.1
        go_wp2
        exact ⟨rfl, rfl, ⟨fun h9 => absurd h9 (Nat.ne_of_beq_eq_false rfl), fun _ => ⟨fun h9 => absurd h9 (Nat.ne_of_beq_eq_false rfl), fun _ => Below.refl _ _⟩⟩, hI⟩
      · intro vals xw f hf1 hf2 hf3 hI hF
        have k12 : f 12 = false := hf3 12 (by kernel_rfl)
        clear hf2 hf3
        simp only [saysD, List.getD_cons_zero, List.getD_cons_succ, and_true] at hF
        obtain ⟨e15, e19, e23⟩ := hF
        dsimp only [owes4, bare]
        simp only [putsD, Act.put, List.setIfInBounds_toArray, List.set_cons_zero, List.set_cons_succ]
        simp only [e15, e19, e23]
        obtain ⟨i1, i2, i3⟩ := hI
        rw [hf1, if_neg (by simp)] at i2
        have I3 := Lib.hid (i3 k12)
        have I1 := Lib.hid i1
        have HC := Lib.hid (HCALL.out x y s1 xw i2 HXYM.out.1 HXYM.out.2 (HK.out xw i1))
        rw [← HM.out] at HC
        clear i1 i2 i3
        go_wp2_with fail
        refine HC.out.mono ?_
        rintro e wx ⟨rfl, hb9, hd9⟩
        have HB9 := Lib.hid hb9
        have HD9 := Lib.hid hd9
        clear hb9 hd9 HC
        go_wp2
        exact ⟨rfl, rfl, ⟨fun _ => HB9.out, fun h9 => absurd rfl h9⟩, I1.out.trans HB9.out, by rw [did_same, if_pos rfl]; exact HD9.out, fun _ => I3.out.upB HB9.out⟩
      · intro vals xw f hf1 hf2 hf3 hI hF
        have k12 : f 12 = false := hf3 12 (by kernel_rfl)
        clear hf2 hf3
        simp only [saysD, List.getD_cons_zero, List.getD_cons_succ, and_true] at hF
        have e24 := hF
        dsimp only [owes4, bare]
        simp only [putsD, Act.put, List.setIfInBounds_toArray, List.set_cons_zero, List.set_cons_succ]
        simp only [e24]
        have k9 := hI.2.2 k12
        have h9 : some xw.heap.size ≠ (Value.slice A l.length c).ownBlock := fun e => by have := (k9.lt _ e.symm).2; omega
        have H9 := Lib.hid h9
        have hal : Below xw.heap.size xw (xw.alloc (.cells #[.int .i64 m.2] 123)) := (Below.refl _ _).alloc (Nat.le_refl _) _
        have HI := Lib.hid hI
        have HAL := Lib.hid hal
        clear k9 h9 hal hI
        go_wp2
        exact ⟨rfl, ⟨_, rfl, heap_alloc_new _ _, H9.out⟩, ⟨fun h9 => absurd h9 (Nat.ne_of_beq_eq_false rfl), fun _ => ⟨fun h9 => absurd h9 (Nat.ne_of_beq_eq_false rfl), fun _ => HAL.out⟩⟩, HI.out.up HAL.out⟩
      · intro vals xw f hf1 hf2 hf3 hI hF
        clear hf2 hf3
        simp only [saysD, List.getD_cons_zero, List.getD_cons_succ, and_true] at hF
        obtain ⟨e14, b9, e25, hb9, _⟩ := hF
        dsimp only [owes4, bare]
        simp only [putsD, Act.put, List.setIfInBounds_toArray, List.set_cons_zero, List.set_cons_succ]
        simp only [e14, e25]
        obtain ⟨i1, i2, i3⟩ := hI
        have hsz9 := i1.bel.size
        have hll : l.length ≤ 1048576 := by have := HLK.out; omega
        have I1 := Lib.hid i1
        have I2 := Lib.hid i2
        have I3 := Lib.hid (i3 hf1)
        clear i1 i2 i3
        at_builtin; refine wpList_append_sig2 (ys := l2) (by rfl) (.tmp 14) (.tmp 25) (by rfl) (by rfl) (by rfl) I3.out hb9 hll hsz9 HL2.out ?_; intro A9 c9 w9 hown9 hg9
        obtain ⟨hs9, hb8⟩ := I3.out.grown hg9 hsz9 hlo
        go_wp2
        exact ⟨rfl, ⟨A9, c9, rfl, hown9⟩, ⟨fun h9 => absurd h9 (Nat.ne_of_beq_eq_false rfl), fun _ => ⟨fun _ => hg9, fun h9 => absurd rfl h9⟩⟩, I1.out.then hb8 hlo, I2.out.upS hs9, fun h => absurd ((did_same f 12).symm.trans h) (by simp)⟩
      · intro vals xw f hf1 hf2 hf3 hI hF
        clear hf2 hf3
        simp only [saysD, List.getD_cons_zero, List.getD_cons_succ, and_true] at hF
        obtain ⟨A8, c8, e26, _⟩ := hF
        dsimp only [owes4, bare]
        simp only [putsD, Act.put, List.setIfInBounds_toArray, List.set_cons_zero, List.set_cons_succ]
        simp only [e26]
        go_wp2
        exact ⟨rfl, e26.symm, ⟨fun h9 => absurd h9 (Nat.ne_of_beq_eq_false rfl), fun _ => ⟨fun h9 => absurd h9 (Nat.ne_of_beq_eq_false rfl), fun _ => Below.refl _ _⟩⟩, hI⟩
      · intro vals xw f hall hI hF
        rw [show List.range _ = [0, 1, 2, 3, 4, 5, 6, 7, 8, 9, 10, 11, 12, 13] from rfl] at hF
        simp only [says, List.getD_cons_zero, List.getD_cons_succ, and_true] at hF
        obtain ⟨i1, i2, _⟩ := hI
        rw [hall 10 (by decide), if_pos rfl] at i2
        obtain ⟨_, _, _, _, _, _, _, _, _, _, _, _, ⟨A8, c8, e26, o26⟩, e7⟩ := hF
        rw [e26] at e7
        simp only [putsD, Act.put, List.setIfInBounds_toArray, List.set_cons_zero, List.set_cons_succ]
        simp only [e7]
        have I1 := Lib.hid i1
        have I2 := Lib.hid i2
        have O26 := Lib.hid o26
        clear i1 i2 o26 e26 e7
        go_wp2
        go_roundw
        case rel => exact ⟨k + 1, m.1, l2, A8, c8, by omega, by go_num, rfl, by rw [HL2.out, List.length_append, HLK.out]; rfl, O26.out, fun z hz => by
                rw [HL2.out] at hz
                rcases List.mem_append.1 hz with hz | hz
                · exact HLM.out z hz
                · rw [List.mem_singleton.1 hz]; exact HMB.out, I1.out, I2.out, Lib.hid (by rw [HL2.out, HM.out]; exact HST.out)⟩
        case measure => simp [intOf]; omega
    · have hke : k = xs.length := by omega
      subst hke
      have hlt2 : ¬ ((xs.length : Nat) : Int) < xs.length := by omega
      go_wp2
      go_ret
      have hd1 : xs.drop xs.length = [] := List.drop_length
      have hd2 : ys.drop xs.length = [] := by rw [HL.out]; exact List.drop_length
      have hst2 := hst.out
      rw [hd1, hd2] at hst2
      have hT2 : T = (s1, l) := by rw [← hst2]; show (s1, l ++ []) = _; rw [List.append_nil]
      rw [hT2]
      exact ⟨A, c, rfl, HOWN.out.pl.1, HOWN.out.pl.2, HLM.out, HBB.out, HBD.out⟩
set_option maxHeartbeats 1000000 in
theorem negated_any (a0 a1 : Addr) (lo q r : Nat) (X : Option Addr) (cx : Nat) (xs : List Int) (s : BS) (w : World) (h : Bd a0 a1 lo w q r s) (hX : Lay.int.Pl w X xs) (hxm : ∀ x ∈ xs, MB x) (hn : xs.length ≤ 1000) :
    Calls Tryz.prog 97 #[.slice X xs.length cx] w (RetL a0 a1 lo w q r (s, xs.map Neg.neg)) := by
  show Calls _ _ _ _ (RetL a0 a1 lo w q r (s, xs.map Neg.neg))
  have HC := Lib.hid (each_negated a0 a1 lo q r X X cx cx xs xs s w (fun _ => True) trivial (fun _ _ => trivial) h hX hX hxm hxm rfl hn
    (fun x y s z hz hx hy _ => (neg1_any x y z hx.rb).mono fun e z' ⟨h1, h2⟩ => by subst h2; exact ⟨h1, .refl _ _, hz⟩) (fun x y s _ hx _ => hx.neg))
  rw [run_turned xs xs s rfl] at HC
  clear h hX hxm
  go_enter Tryz.func97, Tryz.ntmps97
  go_wp2_with fail
  refine HC.out.mono ?_
  generalize hns : xs.map Neg.neg = ns at *
  rintro e w1 ⟨A, c, rfl, h1, h2, h3, h4, h5⟩
  dsimp only at h1 h2 h3 h5
  have H2 := Lib.hid h2
  have H4 := Lib.hid h4
  have H5 := Lib.hid h5
  have H3 := Lib.hid h3
  clear h2 h3 h4 h5 HC
  go_wp2
  go_ret
  exact ⟨A, c, rfl, h1, H2.out, H3.out, H4.out, H5.out⟩

/-! offs -/
theorem maskN9 (a : Nat) (ha : a < 18446744073709551616) : bits .and .u64 (a : Int) 4294967295 = ((a % 4294967296 : Nat) : Int) := by
  have h := bits_and_u64_nat a 4294967295 ha (by omega)
  have e : a &&& 4294967295 = a % 4294967296 := Nat.and_two_pow_sub_one_eq_mod a 32
  rw [e] at h
  exact h
theorem divN9 (a : Nat) : (a : Int) / 4294967296 = ((a / 4294967296 : Nat) : Int) := by omega
theorem mulN9 (a b : Nat) : (a : Int) * (b : Int) = ((a * b : Nat) : Int) := (Int.natCast_mul a b).symm
theorem addN9 (a b : Nat) : (a : Int) + (b : Int) = ((a + b : Nat) : Int) := (Int.natCast_add a b).symm
theorem wrapN9 (a : Nat) (ha : a < 18446744073709551616) : IntKind.u64.wrap (a : Int) = (a : Int) := by rw [IntKind.wrap_u64]; omega
theorem wrapM9 (a : Nat) : IntKind.u64.wrap (a : Int) = ((a % 18446744073709551616 : Nat) : Int) := by rw [IntKind.wrap_u64]; omega
set_option maxHeartbeats 2000000 in
theorem mul64_any (x y : Nat) (hx : x < 18446744073709551616) (hy : y < 18446744073709551616) (w : World) :
    Calls Tryz.prog 146 #[.int .u64 x, .int .u64 y] w fun e w' => e = .returned (.tuple #[.int .u64 ((x * y / 18446744073709551616 : Nat) : Int), .int .u64 ((x * y % 18446744073709551616 : Nat) : Int)]) ∧ w = w' := by
  obtain ⟨bd, bt, bw, hhi⟩ := Lib.mul64_hi x y hx hy
  have ba := Lib.half_mul_le (a := x / 4294967296) (b := y / 4294967296) (by omega) (by omega)
  have bb := Lib.half_mul_le (a := x / 4294967296) (b := y % 4294967296) (by omega) (by omega)
  have bc := Lib.half_mul_le (a := x % 4294967296) (b := y / 4294967296) (by omega) (by omega)
  have ba' : x / 4294967296 * (y / 4294967296) < 18446744073709551616 := by omega
  have bb' : x / 4294967296 * (y % 4294967296) < 18446744073709551616 := by omega
  have bc' : x % 4294967296 * (y / 4294967296) < 18446744073709551616 := by omega
  have bh1 : x / 4294967296 * (y / 4294967296) + (x / 4294967296 * (y % 4294967296) + x % 4294967296 * (y % 4294967296) / 4294967296) / 4294967296 < 18446744073709551616 := by omega
  have bh : x / 4294967296 * (y / 4294967296) + (x / 4294967296 * (y % 4294967296) + x % 4294967296 * (y % 4294967296) / 4294967296) / 4294967296 + ((x / 4294967296 * (y % 4294967296) + x % 4294967296 * (y % 4294967296) / 4294967296) % 4294967296 + x % 4294967296 * (y / 4294967296)) / 4294967296 < 18446744073709551616 := by omega
  go_enter Tryz.func146, Tryz.ntmps146
  go_wp2
  simp only [maskN9 x hx, maskN9 y hy, divN9, mulN9, addN9, wrapN9 _ bd, wrapN9 _ bb', wrapN9 _ bt, maskN9 _ bt, wrapN9 _ bc', wrapN9 _ bw, wrapN9 _ ba', wrapN9 _ bh1, wrapN9 _ bh, wrapM9 (x * y)]
  rw [hhi]
  go_ret2
  exact ⟨rfl, rfl⟩
set_option maxHeartbeats 1000000 in
theorem mulOne_any (n : Nat) (hn : n ≤ 1000) (w : World) :
    Calls Tryz.prog 144 #[.int .u64 1, .int .u64 n] w fun e w' => e = .returned (.tuple #[.int .u64 0, .int .u64 (n : Int)]) ∧ w = w' := by
  have HC := Lib.hid (mul64_any 1 n (by omega) (by omega) w)
  have e1 : (1 * n / 18446744073709551616 : Nat) = 0 := by omega
  have e2 : (1 * n % 18446744073709551616 : Nat) = n := by omega
  rw [e1, e2] at HC
  clear e1 e2
  go_enter Tryz.func144, Tryz.ntmps144
  go_wp2_with fail
  refine HC.out.mono ?_
  rintro e w' ⟨rfl, rfl⟩
  clear HC
  go_wp2
  go_ret2
  exact ⟨rfl, rfl⟩
/-- A row of which the head is written. -/
def rowH (m : Int) (n k : Nat) : List Value := List.replicate k (.int .i64 m) ++ List.replicate (n - k) (.int .i64 0)
theorem rowH_len {m : Int} {n k : Nat} (h : k ≤ n) : (rowH m n k).length = n := by unfold rowH; simp; omega
theorem rowH_splice {m : Int} {n k j : Nat} (h : k + j ≤ n) : splice (rowH m n k) k (List.replicate j (.int .i64 m)) = rowH m n (k + j) := by
  unfold splice rowH
  rw [List.length_replicate, List.take_left' (by simp), List.drop_append, List.drop_replicate, List.drop_replicate, List.length_replicate]
  rw [show k - (k + j) = 0 by omega, show n - k - (k + j - k) = n - (k + j) by omega, ← List.append_assoc, ← List.append_assoc, List.replicate_append_replicate]
  simp
theorem rowH_get {m : Int} {n k j : Nat} (h : j < k) : (rowH m n k)[j]? = some (.int .i64 m) := by
  unfold rowH; rw [List.getElem?_append_left (by simpa using h)]; simp [h]
theorem own_of_cells {w : World} {base g n : Nat} {e : TypeId} {L : List Value} (h : w.heap[g]? = some (.cells L.toArray e (0, 0))) (hl : L.length = n) (hb : base ≤ g) (hm : n ≤ maxLen) : w.ownsRow base e 1 (.slice (some ⟨g, 0, none⟩) n n) n L :=
  ⟨by simp [hl], .inr ⟨g, n, L.toArray, rfl, hb, h, Nat.le_refl _, hm, by simp [hl], by rw [Nat.mul_one, ← hl]; simp⟩⟩
/-- A new row of signals. -/
def RetOw (xs : List Int) (w : World) (e : Ending) (w' : World) : Prop := ∃ A c, e = .returned (.slice A xs.length c) ∧ OwnSg w' w.heap.size (.slice A xs.length c) xs ∧ Below w.heap.size w w'
theorem copy_one (m : Int) (n g b : Nat) (t : TypeId) (W : World) (hg : W.heap[g]? = some (.cells (rowH m n 0).toArray 123 (0, 0))) (hb : W.heap[b]? = some (.cells #[.int .i64 m] t (0, 0))) :
    ∃ w2, (Builtin.copy_ #[77, 77] 3 #[.slice (some ⟨g, 0, none⟩) n n, .slice (some ⟨b, 0, none⟩) 1 1]).run Tryz.prog W = .ok (.int .i64 (Nat.min 1 n : Nat)) w2 ∧ w2.heap[g]? = some (.cells (rowH m n (Nat.min 1 n)).toArray 123 (0, 0)) ∧ Below g W w2 := by
  have hs : (Tryz.prog.info? 123).map (·.size) = some 1 := by kernel_rfl
  have hl := rowH_len (m := m) (n := n) (Nat.zero_le n)
  rcases n with _ | n
  · exact ⟨W, run_copy_none _ _ _ _ _ _ _ _ _ _ _ Tryz.underlying77 hs rfl, hg, Below.refl _ _⟩
  · have h1 : Nat.min 1 (n + 1) = 1 := Nat.min_eq_left (by omega)
    rw [h1]
    have hfit : 0 + 1 ≤ (rowH m (n + 1) 0).toArray.size := by simp only [List.size_toArray]; omega
    have hr := run_copy_row (P := Tryz.prog) W 77 77 3 123 g 0 (n + 1) (n + 1) ⟨b, 0, none⟩ 1 1 (rowH m (n + 1) 0).toArray 123 [.int .i64 m] Tryz.underlying77 hs hg (by rw [h1]; rfl)
      (fun j v hj => by
        rcases j with _ | j
        · have e : Value.int .i64 m = v := Option.some.inj hj
          subst e
          exact (cell_of_block hb 0).1
        · simp at hj) hfit (fun v hv => by have e : v = .int .i64 m := List.mem_singleton.1 hv; subst e; rfl)
    refine ⟨_, hr, ?_, below_setRow (Below.refl _ _) (Nat.le_refl _) _⟩
    rw [setRow_heap _ _ _ _ _ _ hg]
    refine congrArg (fun l : List Value => some (Obj.cells l.toArray 123 (0, 0))) ?_
    have := rowH_splice (m := m) (n := n + 1) (k := 0) (j := 1) (by omega)
    rw [Nat.zero_add] at this
    rw [← this]
    simp [splice]
theorem copy_in (m : Int) (n g k q1 q2 : Nat) (hk : 0 < k) (hkn : k < n) (W : World) (hg : W.heap[g]? = some (.cells (rowH m n k).toArray 123 (0, 0))) :
    ∃ w2, (Builtin.copy_ #[77, 77] 3 #[.slice (some ⟨g, k, none⟩) (n - k) q1, .slice (some ⟨g, 0, none⟩) k q2]).run Tryz.prog W = .ok (.int .i64 (Nat.min k (n - k) : Nat)) w2 ∧ w2.heap[g]? = some (.cells (rowH m n (k + Nat.min k (n - k))).toArray 123 (0, 0)) ∧ Below g W w2 := by
  have hs : (Tryz.prog.info? 123).map (·.size) = some 1 := by kernel_rfl
  have hl := rowH_len (m := m) (Nat.le_of_lt hkn)
  have h1 : Nat.min k (n - k) ≤ k := Nat.min_le_left _ _
  have h2 : Nat.min k (n - k) ≤ n - k := Nat.min_le_right _ _
  have hr := run_copy_row (P := Tryz.prog) W 77 77 3 123 g k (n - k) q1 ⟨g, 0, none⟩ k q2 (rowH m n k).toArray 123 (List.replicate (Nat.min k (n - k)) (.int .i64 m)) Tryz.underlying77 hs hg (by rw [List.length_replicate])
    (fun j v hj => by
      obtain ⟨hj1, rfl⟩ := List.getElem?_eq_some_iff.1 hj
      rw [List.length_replicate] at hj1
      have h8 := (cell_of_block hg j).1
      rw [List.getElem?_toArray, rowH_get (by omega)] at h8
      have ha : (⟨g, 0, none⟩ : Addr).add j = ⟨g, j, none⟩ := by unfold Addr.add; split <;> simp_all
      rw [ha, h8, List.getElem_replicate]) (by simp only [List.length_replicate, List.size_toArray]; omega) (by intro v hv; rw [List.eq_of_mem_replicate hv]; rfl)
  rw [List.length_replicate] at hr
  refine ⟨_, hr, ?_, below_setRow (Below.refl _ _) (Nat.le_refl _) _⟩
  rw [setRow_heap _ _ _ _ _ _ hg]
  refine congrArg (fun l : List Value => some (Obj.cells l.toArray 123 (0, 0))) ?_
  rw [← rowH_splice (m := m) (n := n) (k := k) (j := Nat.min k (n - k)) (by omega)]
  simp [splice]
set_option maxRecDepth 100000 in
set_option maxHeartbeats 4000000 in
theorem repeat_any (m : Int) (n b : Nat) (t : TypeId) (w : World) (hb : w.heap[b]? = some (.cells #[.int .i64 m] t (0, 0))) (hn : n ≤ 1000) :
    Calls Tryz.prog 142 #[.slice (some ⟨b, 0, none⟩) 1 1, .int .i64 (n : Int)] w (RetOw (List.replicate n m) w) := by
  have hmk := run_make_row' (P := Tryz.prog) 77 123 (.int .i64 0) 8 Tryz.underlying77 signal_info rfl .i64 .i64 n (by omega) (by omega)
  have HM := Lib.hid (mulOne_any n hn w)
  have hw1 : Below w.heap.size w (w.alloc (.cells (madeCells #[.int .i64 0] n) 123)) := (Below.refl _ _).alloc (Nat.le_refl _) _
  have hg0 : (w.alloc (.cells (madeCells #[.int .i64 0] n) 123)).heap[w.heap.size]? = some (.cells (rowH m n 0).toArray 123 (0, 0)) := by
    rw [heap_alloc_new, show madeCells #[.int .i64 0] n = (rowH m n 0).toArray by rw [← Array.toArray_toList (xs := madeCells _ _), toList_madeCells_one]; rfl]
  obtain ⟨w2, hcp, hg2, hb2⟩ := copy_one m n w.heap.size b t _ hg0 ((hw1.block b (lt_of_block hb)).trans hb)
  obtain ⟨k0, hk0⟩ : ∃ k0, k0 = Nat.min 1 n := ⟨_, rfl⟩
  rw [← hk0] at hcp hg2
  have HG2 := Lib.hid hg2
  have HB2 := Lib.hid (hw1.trans hb2)
  have HKL := Lib.hid (show k0 ≤ n ∧ (0 < n → 0 < k0) by rw [hk0]; exact ⟨Nat.min_le_right 1 n, fun h => by have h9 : Nat.min 1 n = 1 := Nat.min_eq_left h; omega⟩)
  clear hb hw1 hg0 hg2 hb2 hk0
  go_enter Tryz.func142, Tryz.ntmps142
  go_wp2_with fail
  refine HM.out.mono ?_
  rintro e w' ⟨rfl, rfl⟩
  clear HM
  go_wp2
  clear hmk hcp
  go_loopw [8] (fun kk wr => ∃ k : Nat, kk = .int .i64 k ∧ k ≤ n ∧ (0 < n → 0 < k) ∧ Hid (wr.heap[w.heap.size]? = some (.cells (rowH m n k).toArray 123 (0, 0))) ∧ Below w.heap.size w wr) (fun kk _ => n - (intOf kk).toNat)
  case atStart => exact ⟨k0, rfl, HKL.out.1, HKL.out.2, HG2, HB2.out⟩
  case round =>
    obtain ⟨k, rfl, hk, hk0, hg, hbr⟩ := hrel
    by_cases hlt : k < n
    · have hlt2 : (k : Int) < n := by omega
      have hpos : 0 < k := hk0 (by omega)
      have HBR := Lib.hid hbr
      obtain ⟨j, hj⟩ : ∃ j, j = Nat.min k (n - k) := ⟨_, rfl⟩
      have hj1 : j ≤ k ∧ k + j ≤ n ∧ 0 < j := by have h1 : Nat.min k (n - k) ≤ k := Nat.min_le_left _ _; have h2 : Nat.min k (n - k) ≤ n - k := Nat.min_le_right _ _; have h3 : 0 < Nat.min k (n - k) := Nat.lt_min.2 ⟨hpos, by omega⟩; omega
      have HCI := Lib.hid (fun q1 q2 W => copy_in m n w.heap.size k q1 q2 hpos hlt W)
      rw [← hj] at HCI
      obtain ⟨L1, hL1⟩ : ∃ L1, L1 = rowH m n k := ⟨_, rfl⟩
      obtain ⟨L2, hL2⟩ : ∃ L2, L2 = rowH m n (k + j) := ⟨_, rfl⟩
      have HL2 := Lib.hid hL2
      rw [← hL1] at hg HCI
      rw [← hL2] at HCI
      have HG := Lib.hid hg.out
      clear hj hbr hg hL1 hL2
      go_wp2
      refine wp_region_rel4 [[], [], [], [(1, 39), (2, 40)], [], [], [(4, 42), (5, 43)], [(3, 41), (6, 44)], [(0, 38), (7, 45)], [(8, 46)]]
        (fun _ _ => True)
        []
        (fun f9 x9 => Below w.heap.size w x9 ∧ (f9 7 = false → x9.heap[w.heap.size]? = some (.cells L1.toArray 123 (0, 0))) ∧ (f9 7 = true → x9.heap[w.heap.size]? = some (.cells L2.toArray 123 (0, 0))))
        [fun vs9 _ => vs9 0 = (.int .i64 (k : Int)),
    fun vs9 _ => vs9 1 = (.slice (some ⟨w.heap.size, 0, none⟩) n n),
    fun vs9 _ => vs9 2 = (.int .i64 (k : Int)),
    fun vs9 y9 => (fun v z => ∃ q : Nat, v = .slice (some ⟨w.heap.size, k, none⟩) (n - k) q) (vs9 3) y9,
    fun vs9 _ => vs9 4 = (.slice (some ⟨w.heap.size, 0, none⟩) n n),
    fun vs9 _ => vs9 5 = (.int .i64 (k : Int)),
    fun vs9 y9 => (fun v z => ∃ q : Nat, v = .slice (some ⟨w.heap.size, 0, none⟩) k q) (vs9 6) y9,
    fun vs9 _ => vs9 7 = (.int .i64 (j : Int)),
    fun vs9 _ => vs9 8 = (.int .i64 ((k : Int) + (j : Int))),
    fun vs9 _ => vs9 9 = (.int .i64 ((k : Int) + (j : Int)))]
        [(0, 38), (1, 39), (2, 40), (3, 41), (4, 42), (5, 43), (6, 44), (7, 45), (8, 46), (9, 8)] (by kernel_rfl) (by kernel_rfl) (by kernel_rfl) (by kernel_rfl)
        (fun _ => trivial) trivial
        ⟨⟨.inr (fun _ _ _ h _ => h), trivial⟩,
    ⟨.inr (fun _ _ _ h _ => h), trivial⟩,
    ⟨.inr (fun _ _ _ h _ => h), trivial⟩,
    ⟨.inr (fun vs9 x9 y9 h9 hR9 => (show ∀ v9 y8 y7, (fun v z => ∃ q : Nat, v = .slice (some ⟨w.heap.size, k, none⟩) (n - k) q) v9 y8 → (fun _ _ => True) y8 y7 → (fun v z => ∃ q : Nat, v = .slice (some ⟨w.heap.size, k, none⟩) (n - k) q) v9 y7 from fun _ _ _ h _ => h) (vs9 3) x9 y9 h9 hR9), trivial⟩,
    ⟨.inr (fun _ _ _ h _ => h), trivial⟩,
    ⟨.inr (fun _ _ _ h _ => h), trivial⟩,
    ⟨.inr (fun vs9 x9 y9 h9 hR9 => (show ∀ v9 y8 y7, (fun v z => ∃ q : Nat, v = .slice (some ⟨w.heap.size, 0, none⟩) k q) v9 y8 → (fun _ _ => True) y8 y7 → (fun v z => ∃ q : Nat, v = .slice (some ⟨w.heap.size, 0, none⟩) k q) v9 y7 from fun _ _ _ h _ => h) (vs9 6) x9 y9 h9 hR9), trivial⟩,
    ⟨.inr (fun _ _ _ h _ => h), trivial⟩,
    ⟨.inr (fun _ _ _ h _ => h), trivial⟩,
    ⟨.inr (fun _ _ _ h _ => h), trivial⟩, trivial⟩ ⟨fun vs vs' x h _ hv => (by dsimp only at hv ⊢; first | (rw [← h]; exact hv) | exact hv),
    fun vs vs' x h _ hv => (by dsimp only at hv ⊢; first | (rw [← h]; exact hv) | exact hv),
    fun vs vs' x h _ hv => (by dsimp only at hv ⊢; first | (rw [← h]; exact hv) | exact hv),
    fun vs vs' x h _ hv => (by dsimp only at hv ⊢; first | (rw [← h]; exact hv) | exact hv),
    fun vs vs' x h _ hv => (by dsimp only at hv ⊢; first | (rw [← h]; exact hv) | exact hv),
    fun vs vs' x h _ hv => (by dsimp only at hv ⊢; first | (rw [← h]; exact hv) | exact hv),
    fun vs vs' x h _ hv => (by dsimp only at hv ⊢; first | (rw [← h]; exact hv) | exact hv),
    fun vs vs' x h _ hv => (by dsimp only at hv ⊢; first | (rw [← h]; exact hv) | exact hv),
    fun vs vs' x h _ hv => (by dsimp only at hv ⊢; first | (rw [← h]; exact hv) | exact hv),
    fun vs vs' x h _ hv => (by dsimp only at hv ⊢; first | (rw [← h]; exact hv) | exact hv), trivial⟩ (⟨HBR.out.trans (below_drewN (Below.refl _ _) 1), fun _ => HG.out, fun h => by cases h⟩) ⟨?_, ?_, ?_, ?_, ?_, ?_, ?_, ?_, ?_, ?_, trivial⟩ ?_
      · intro vals xw f hf1 hf2 hf3 hI hF
        clear hf2 hf3
        dsimp only [owes4, bare]
        simp only [putsD, Act.put, List.setIfInBounds_toArray, List.set_cons_zero, List.set_cons_succ]
        go_wp2
        exact ⟨rfl, rfl, trivial, hI⟩
      · intro vals xw f hf1 hf2 hf3 hI hF
        clear hf2 hf3
        dsimp only [owes4, bare]
        simp only [putsD, Act.put, List.setIfInBounds_toArray, List.set_cons_zero, List.set_cons_succ]
        go_wp2
        exact ⟨rfl, rfl, trivial, hI⟩
      · intro vals xw f hf1 hf2 hf3 hI hF
        clear hf2 hf3
        dsimp only [owes4, bare]
        simp only [putsD, Act.put, List.setIfInBounds_toArray, List.set_cons_zero, List.set_cons_succ]
        go_wp2
        exact ⟨rfl, rfl, trivial, hI⟩
      · intro vals xw f hf1 hf2 hf3 hI hF
        clear hf2 hf3
        simp only [saysD, List.getD_cons_zero, List.getD_cons_succ, and_true] at hF
        obtain ⟨e39, e40⟩ := hF
        dsimp only [owes4, bare]
        simp only [putsD, Act.put, List.setIfInBounds_toArray, List.set_cons_zero, List.set_cons_succ]
        simp only [e39, e40]
        go_wp2
        exact ⟨rfl, ⟨_, rfl⟩, trivial, hI⟩
      · intro vals xw f hf1 hf2 hf3 hI hF
        clear hf2 hf3
        dsimp only [owes4, bare]
        simp only [putsD, Act.put, List.setIfInBounds_toArray, List.set_cons_zero, List.set_cons_succ]
        go_wp2
        exact ⟨rfl, rfl, trivial, hI⟩
      · intro vals xw f hf1 hf2 hf3 hI hF
        clear hf2 hf3
        dsimp only [owes4, bare]
        simp only [putsD, Act.put, List.setIfInBounds_toArray, List.set_cons_zero, List.set_cons_succ]
        go_wp2
        exact ⟨rfl, rfl, trivial, hI⟩
      · intro vals xw f hf1 hf2 hf3 hI hF
        clear hf2 hf3
        simp only [saysD, List.getD_cons_zero, List.getD_cons_succ, and_true] at hF
        obtain ⟨e39, e40⟩ := hF
        dsimp only [owes4, bare]
        simp only [putsD, Act.put, List.setIfInBounds_toArray, List.set_cons_zero, List.set_cons_succ]
        simp only [e39, e40]
        go_wp2
        exact ⟨rfl, ⟨_, rfl⟩, trivial, hI⟩
      · intro vals xw f hf1 hf2 hf3 hI hF
        clear hf2 hf3
        simp only [saysD, List.getD_cons_zero, List.getD_cons_succ, and_true] at hF
        obtain ⟨⟨q1, e41⟩, ⟨q2, e44⟩⟩ := hF
        dsimp only [owes4, bare]
        simp only [putsD, Act.put, List.setIfInBounds_toArray, List.set_cons_zero, List.set_cons_succ]
        simp only [e41, e44]
        obtain ⟨i1, i2, _⟩ := hI
        have HI2 := Lib.hid (i2 hf1)
        clear i2
        obtain ⟨w9, hcp9, hg9, hb9⟩ := HCI.out q1 q2 xw HI2.out
        have HG9 := Lib.hid hg9
        have HB9 := Lib.hid (i1.trans hb9)
        clear hg9 hb9
        go_wp2
        exact ⟨rfl, rfl, trivial, HB9.out, fun h => absurd ((did_same f 7).symm.trans h) (by simp), fun _ => HG9.out⟩
      · intro vals xw f hf1 hf2 hf3 hI hF
        clear hf2 hf3
        simp only [saysD, List.getD_cons_zero, List.getD_cons_succ, and_true] at hF
        obtain ⟨e38, e45⟩ := hF
        dsimp only [owes4, bare]
        simp only [putsD, Act.put, List.setIfInBounds_toArray, List.set_cons_zero, List.set_cons_succ]
        simp only [e38, e45]
        go_wp2
        exact ⟨rfl, rfl, trivial, hI⟩
      · intro vals xw f hf1 hf2 hf3 hI hF
        clear hf2 hf3
        simp only [saysD, List.getD_cons_zero, List.getD_cons_succ, and_true] at hF
        have e46 := hF
        dsimp only [owes4, bare]
        simp only [putsD, Act.put, List.setIfInBounds_toArray, List.set_cons_zero, List.set_cons_succ]
        simp only [e46]
        go_wp2
        exact ⟨rfl, rfl, trivial, hI⟩
      · intro vals xw f hall hI hF
        rw [show List.range _ = [0, 1, 2, 3, 4, 5, 6, 7, 8, 9] from rfl] at hF
        simp only [says, List.getD_cons_zero, List.getD_cons_succ, and_true] at hF
        obtain ⟨i1, _, i3⟩ := hI
        have HI3 := Lib.hid (i3 (hall 7 (by decide)))
        have e9 : vals 9 = .int .i64 ((k : Int) + (j : Int)) := by obtain ⟨_, _, _, _, _, _, _, _, _, e9⟩ := hF; exact e9
        simp only [putsD, Act.put, List.setIfInBounds_toArray, List.set_cons_zero, List.set_cons_succ]
        simp only [e9]
        clear e9 hF i3
        go_wp2
        go_roundw
        case rel => exact ⟨k + j, by go_num, hj1.2.1, fun _ => by omega, Lib.hid (by rw [← HL2.out]; exact HI3.out), i1⟩
        case measure => simp [intOf]; omega
    · have hkn : k = n := by omega
      subst hkn
      have hlt2 : ¬ ((k : Nat) : Int) < k := by omega
      have HBR := Lib.hid hbr
      clear hbr
      go_wp2
      go_ret
      have hg9 := hg.out
      have hrow : rowH m k k = (List.replicate k m).map (Value.int .i64) := by unfold rowH; simp
      rw [hrow] at hg9
      have hl : (List.replicate k m).length = k := by simp
      refine ⟨some ⟨w.heap.size, 0, none⟩, k, by rw [hl]; rfl, ?_, HBR.out⟩
      unfold OwnSg
      rw [hl]
      exact own_of_cells hg9 (by simp) (Nat.le_refl _) (by unfold maxLen; omega)
end Go.Proofs.YtjghcaghigebjaaGreatDoor

/-! The reference's l7Less, l7Same. -/
namespace Go.Proofs.YtjghcaghigebjaaGreatDoor
open Go Go.RowKit

theorem KS.two2 {F : Nat → Prop} {w x : World} {k : N × Bool} {A : Option Addr} {c : Nat} (h : KS F w x k A c) : KS2 F w x k A c (fun _ => False) := ⟨h.bel, h.var, h.res, h.row.mono fun b hb => hb.imp id fun h9 => ⟨h9.1, h9.2, fun e => e⟩, h.nil⟩
theorem KS2.one2 {F : Nat → Prop} {w x : World} {k : N × Bool} {A : Option Addr} {c : Nat} {S : Nat → Prop} (h : KS2 F w x k A c S) : KS F w x k A c := ⟨h.bel, h.var, h.res, h.row.mono fun b hb => hb.imp id fun h9 => ⟨h9.1, h9.2.1⟩, h.nil⟩
theorem opsR_xor_nb {k : N × Bool} {x y : Int} (h : NB k.1) (hx : RB x) (hy : RB y) : NB (opsR.xor k x y).1.1 ∧ RB (opsR.xor k x y).2 := stepR_nb h (xor1_nb h hx hy)
theorem opsR_and_nb {k : N × Bool} {x y : Int} (h : NB k.1) (hx : RB x) (hy : RB y) : NB (opsR.and k x y).1.1 ∧ RB (opsR.and k x y).2 := stepR_nb h (and1_nb h hx hy)
def KTup (F : Nat → Prop) (w : World) (m : (N × Bool) × Int) (v : Value) (z : World) : Prop := ∃ A2 c2, v = .tuple #[.agg #[.int .i64 m.1.1.ins, .slice A2 m.1.1.gs.length c2, .bool m.1.2], .int .i64 m.2] ∧ (A2 = none → m.1.1.gs.length = 0) ∧ Lay.gate.Sl z (G2 F w z (fun _ => False)) A2 m.1.1.gs ∧ w.heap.size ≤ z.heap.size
def KNet (F : Nat → Prop) (w : World) (m : (N × Bool) × Int) (v : Value) (z : World) : Prop := ∃ A2 c2, v = .agg #[.int .i64 m.1.1.ins, .slice A2 m.1.1.gs.length c2, .bool m.1.2] ∧ (A2 = none → m.1.1.gs.length = 0) ∧ Lay.gate.Sl z (G2 F w z (fun _ => False)) A2 m.1.1.gs ∧ w.heap.size ≤ z.heap.size
theorem g2_st {F : Nat → Prop} {w x y : World} {A : Option Addr} {gs : List G} (hF : ∀ b, F b → b < w.heap.size) (h3 : Lay.gate.Sl x (G2 F w x (fun _ => False)) A gs) (h4 : w.heap.size ≤ x.heap.size) (hR : x.grownBy y (some w.heap.size)) : Lay.gate.Sl y (G2 F w y (fun _ => False)) A gs :=
  (h3.keep fun b hb => hR.block b (hb.elim (fun h9 => Nat.lt_of_lt_of_le (hF b h9) h4) (fun h9 => h9.2.1)) (fun e => by injection e with e; exact hb.elim (fun h9 => by have := hF b h9; omega) (fun h9 => by omega))).mono fun b hb => hb.imp id fun h9 => ⟨h9.1, Nat.lt_of_lt_of_le h9.2.1 hR.size, h9.2.2⟩
theorem KTup.up {F : Nat → Prop} {w x y : World} {m : (N × Bool) × Int} {v : Value} (hF : ∀ b, F b → b < w.heap.size) (h : KTup F w m v x) (hb : Below x.heap.size x y) : KTup F w m v y := by
  obtain ⟨A2, c2, h1, h2, h3, h4⟩ := h
  exact ⟨A2, c2, h1, h2, G2.up2 h3 (fun b hb => Nat.lt_of_lt_of_le (hF b hb) h4) hb, Nat.le_trans h4 hb.size⟩
theorem KTup.st {F : Nat → Prop} {w x y : World} {m : (N × Bool) × Int} {v : Value} (hF : ∀ b, F b → b < w.heap.size) (h : KTup F w m v x) (hR : x.grownBy y (some w.heap.size)) : KTup F w m v y := by
  obtain ⟨A2, c2, h1, h2, h3, h4⟩ := h
  exact ⟨A2, c2, h1, h2, g2_st hF h3 h4 hR, Nat.le_trans h4 hR.size⟩
theorem KNet.up {F : Nat → Prop} {w x y : World} {m : (N × Bool) × Int} {v : Value} (hF : ∀ b, F b → b < w.heap.size) (h : KNet F w m v x) (hb : Below x.heap.size x y) : KNet F w m v y := by
  obtain ⟨A2, c2, h1, h2, h3, h4⟩ := h
  exact ⟨A2, c2, h1, h2, G2.up2 h3 (fun b hb => Nat.lt_of_lt_of_le (hF b hb) h4) hb, Nat.le_trans h4 hb.size⟩
theorem KNet.st {F : Nat → Prop} {w x y : World} {m : (N × Bool) × Int} {v : Value} (hF : ∀ b, F b → b < w.heap.size) (h : KNet F w m v x) (hR : x.grownBy y (some w.heap.size)) : KNet F w m v y := by
  obtain ⟨A2, c2, h1, h2, h3, h4⟩ := h
  exact ⟨A2, c2, h1, h2, g2_st hF h3 h4 hR, Nat.le_trans h4 hR.size⟩
set_option maxRecDepth 100000 in
set_option maxHeartbeats 4000000 in
theorem l7Less_any (F : Nat → Prop) (A : Option Addr) (c : Nat) (k : N × Bool) (X Y : Option Addr) (cx cy : Nat) (xs ys : List Int) (w : World) (h : Lay.gate.Sl w F A k.1.gs) (hF : ∀ b, F b → b < w.heap.size) (hA : A = none → k.1.gs.length = 0) (hnb : NB k.1) (hX : Lay.int.Rd w X xs) (hY : Lay.int.Rd w Y ys) (hxm : ∀ x ∈ xs, RB x) (hym : ∀ y ∈ ys, RB y) (hl : xs.length = ys.length) (hn : xs.length ≤ 1000) :
    Calls Tryz.prog 136 #[.agg #[.int .i64 k.1.ins, .slice A k.1.gs.length c, .bool k.2], .slice X xs.length cx, .slice Y ys.length cy] w (RetK F w (run opsR (lessP xs ys (-1)) k)) := by
  obtain ⟨T, hT⟩ : ∃ T, T = run opsR (lessP xs ys (-1)) k := ⟨_, rfl⟩
  rw [← hT]
  have HT := Lib.hid hT
  have K0 := Lib.hid (KS.two (c := c) h hF hA)
  have HF := Lib.hid hF
  have HNB := Lib.hid hnb
  have HX := Lib.hid hX
  have HY := Lib.hid hY
  have HXM := Lib.hid hxm
  have HYM := Lib.hid hym
  have HL := Lib.hid hl
  clear h hA hnb hX hY hxm hym hT
  rw [← hl]
  clear hl
  go_enter Tryz.func136, Tryz.ntmps136
  go_wp2
  generalize hX0 : (w.alloc (.cells #[.int .i64 k.1.ins, .slice A k.1.gs.length c, .bool k.2] 95)).alloc (.cells #[.int .i64 0, .slice none 0 0, .bool false] 95) = X0 at *
  clear hX0
  go_loopw [8, 9] (fun rv i wr => ∃ (j : Nat) (k1 : N × Bool) (rr : Int) (A1 : Option Addr) (c1 : Nat), j ≤ xs.length ∧ i = .int .i64 j ∧ rv = .int .i64 rr ∧ RB rr ∧ KS2 F w wr k1 A1 c1 (fun _ => False) ∧ NB k1.1 ∧ Hid (run opsR (lessP (xs.drop j) (ys.drop j) rr) k1 = T)) (fun _ i _ => xs.length - (intOf i).toNat)
  case atStart => exact ⟨0, k, (-1), A, c, Nat.zero_le _, rfl, rfl, by unfold RB; omega, K0.out.two2, HNB.out, Lib.hid (by rw [HT.out]; rfl)⟩
  case round =>
    obtain ⟨j, k1, rr, A1, c1, hj, rfl, rfl, hrr, hks, hnb1, hst⟩ := hrel
    have HRR := Lib.hid hrr
    have HKS := Lib.hid hks
    have HNB1 := Lib.hid hnb1
    clear hrr hks hnb1
    by_cases hlt : j < xs.length
    · have hlt2 : (j : Int) < xs.length := by omega
      have hlty : j < ys.length := by rw [← HL.out]; exact hlt
      obtain ⟨x, hx⟩ : ∃ x, xs[j]? = some x := ⟨_, List.getElem?_eq_getElem hlt⟩
      obtain ⟨y, hy⟩ : ∃ y, ys[j]? = some y := ⟨_, List.getElem?_eq_getElem hlty⟩
      have hxg : xs[j] = x := (List.getElem?_eq_some_iff.1 hx).2
      have hyg : ys[j] = y := (List.getElem?_eq_some_iff.1 hy).2
      have HXYM := Lib.hid (And.intro (HXM.out x (List.mem_of_getElem? hx)) (HYM.out y (List.mem_of_getElem? hy)))
      obtain ⟨adx, rfl, -, -⟩ := HX.out.at_int hlt
      obtain ⟨ady, rfl, -, -⟩ := HY.out.at_int hlty
      obtain ⟨m, hm⟩ : ∃ m, m = opsR.xor k1 x y := ⟨_, rfl⟩
      have HST := Lib.hid ((run_less (o := opsR) xs ys j x y hx hy k1 rr).symm.trans hst.out)
      have HM := Lib.hid hm
      have HMB : Hid (NB m.1.1 ∧ RB m.2) := Lib.hid (by rw [hm]; exact opsR_xor_nb HNB1.out HXYM.out.1 HXYM.out.2)
      have HRX : Hid (∀ z, Below w.heap.size w z → z.cell? (adx.add j) = some (.int .i64 x)) := Lib.hid fun z hz => by
        obtain ⟨ad, e, _, hc⟩ := (HX.out.up hz).at_int hlt
        injection e with e; subst e; rw [← hxg]; exact hc
      have HRY : Hid (∀ z, Below w.heap.size w z → z.cell? (ady.add j) = some (.int .i64 y)) := Lib.hid fun z hz => by
        obtain ⟨ad, e, _, hc⟩ := (HY.out.up hz).at_int hlty
        injection e with e; subst e; rw [← hyg]; exact hc
      clear hm hx hy hxg hyg hst hlty
      go_wp2
      refine wp_region_rel4 [[], [], [], [(1, 19), (2, 20)], [(3, 21)], [], [], [(5, 23), (6, 24)], [(7, 25)], [(0, 18), (4, 22), (8, 26)], [(9, 27)], [(10, 17)], [(10, 17)], [(11, 28)], [(12, 29)]]
        (fun x9 y9 => Below x9.heap.size x9 y9)
        [(13, fun x9 y9 => x9.grownBy y9 (some w.heap.size))]
        (fun f9 x9 => (f9 13 = false → KS2 F w x9 k1 A1 c1 (fun _ => False)) ∧ (f9 13 = true → ∃ A2 c2, KS2 F w x9 m.1 A2 c2 (fun _ => False)) ∧ Below w.heap.size w x9)
        [fun vs9 _ => vs9 0 = (.agg #[.int .i64 k1.1.ins, .slice A1 k1.1.gs.length c1, .bool k1.2]),
    fun vs9 _ => vs9 1 = (.slice (some adx) xs.length cx),
    fun vs9 _ => vs9 2 = (.int .i64 (j : Int)),
    fun vs9 _ => vs9 3 = (.pointer (some (adx.add j))),
    fun vs9 _ => vs9 4 = (.int .i64 x),
    fun vs9 _ => vs9 5 = (.slice (some ady) xs.length cy),
    fun vs9 _ => vs9 6 = (.int .i64 (j : Int)),
    fun vs9 _ => vs9 7 = (.pointer (some (ady.add j))),
    fun vs9 _ => vs9 8 = (.int .i64 y),
    fun vs9 y9 => (fun v z => KTup F w m v z) (vs9 9) y9,
    fun vs9 y9 => (fun v z => KTup F w m v z) (vs9 10) y9,
    fun vs9 y9 => (fun v z => KNet F w m v z) (vs9 11) y9,
    fun vs9 _ => vs9 12 = (.int .i64 m.2),
    fun _ _ => True,
    fun vs9 _ => vs9 14 = (.int .i64 m.2)]
        [(0, 18), (1, 19), (2, 20), (3, 21), (4, 22), (5, 23), (6, 24), (7, 25), (8, 26), (9, 27), (10, 17), (11, 28), (12, 29), (14, 10)] (by kernel_rfl) (by kernel_rfl) (by kernel_rfl) (by kernel_rfl)
        (fun _ => Below.refl _ _) ⟨fun _ => World.grownBy.refl _ _, trivial⟩
        ⟨⟨.inr (fun _ _ _ h _ => h), ⟨.inr (.inr (fun _ _ _ h _ => h)), trivial⟩⟩,
    ⟨.inr (fun _ _ _ h _ => h), ⟨.inr (.inr (fun _ _ _ h _ => h)), trivial⟩⟩,
    ⟨.inr (fun _ _ _ h _ => h), ⟨.inr (.inr (fun _ _ _ h _ => h)), trivial⟩⟩,
    ⟨.inr (fun _ _ _ h _ => h), ⟨.inr (.inr (fun _ _ _ h _ => h)), trivial⟩⟩,
    ⟨.inr (fun _ _ _ h _ => h), ⟨.inr (.inr (fun _ _ _ h _ => h)), trivial⟩⟩,
    ⟨.inr (fun _ _ _ h _ => h), ⟨.inr (.inr (fun _ _ _ h _ => h)), trivial⟩⟩,
    ⟨.inr (fun _ _ _ h _ => h), ⟨.inr (.inr (fun _ _ _ h _ => h)), trivial⟩⟩,
    ⟨.inr (fun _ _ _ h _ => h), ⟨.inr (.inr (fun _ _ _ h _ => h)), trivial⟩⟩,
    ⟨.inr (fun _ _ _ h _ => h), ⟨.inr (.inr (fun _ _ _ h _ => h)), trivial⟩⟩,
    ⟨.inr (fun vs9 x9 y9 h9 hR9 => (show ∀ v9 y8 y7, (fun v z => KTup F w m v z) v9 y8 → (fun x9 y9 => Below x9.heap.size x9 y9) y8 y7 → (fun v z => KTup F w m v z) v9 y7 from fun _ _ _ h9 hR => h9.up HF.out hR) (vs9 9) x9 y9 h9 hR9), ⟨.inr (.inr (fun vs9 x9 y9 h9 hR9 => (show ∀ v9 y8 y7, (fun v z => KTup F w m v z) v9 y8 → (fun x9 y9 => x9.grownBy y9 (some w.heap.size)) y8 y7 → (fun v z => KTup F w m v z) v9 y7 from fun _ _ _ h9 hR => h9.st HF.out hR) (vs9 9) x9 y9 h9 hR9)), trivial⟩⟩,
    ⟨.inr (fun vs9 x9 y9 h9 hR9 => (show ∀ v9 y8 y7, (fun v z => KTup F w m v z) v9 y8 → (fun x9 y9 => Below x9.heap.size x9 y9) y8 y7 → (fun v z => KTup F w m v z) v9 y7 from fun _ _ _ h9 hR => h9.up HF.out hR) (vs9 10) x9 y9 h9 hR9), ⟨.inr (.inr (fun vs9 x9 y9 h9 hR9 => (show ∀ v9 y8 y7, (fun v z => KTup F w m v z) v9 y8 → (fun x9 y9 => x9.grownBy y9 (some w.heap.size)) y8 y7 → (fun v z => KTup F w m v z) v9 y7 from fun _ _ _ h9 hR => h9.st HF.out hR) (vs9 10) x9 y9 h9 hR9)), trivial⟩⟩,
    ⟨.inr (fun vs9 x9 y9 h9 hR9 => (show ∀ v9 y8 y7, (fun v z => KNet F w m v z) v9 y8 → (fun x9 y9 => Below x9.heap.size x9 y9) y8 y7 → (fun v z => KNet F w m v z) v9 y7 from fun _ _ _ h9 hR => h9.up HF.out hR) (vs9 11) x9 y9 h9 hR9), ⟨.inr (.inr (fun vs9 x9 y9 h9 hR9 => (show ∀ v9 y8 y7, (fun v z => KNet F w m v z) v9 y8 → (fun x9 y9 => x9.grownBy y9 (some w.heap.size)) y8 y7 → (fun v z => KNet F w m v z) v9 y7 from fun _ _ _ h9 hR => h9.st HF.out hR) (vs9 11) x9 y9 h9 hR9)), trivial⟩⟩,
    ⟨.inr (fun _ _ _ h _ => h), ⟨.inr (.inr (fun _ _ _ h _ => h)), trivial⟩⟩,
    ⟨.inr (fun _ _ _ h _ => h), ⟨.inr (.inl rfl), trivial⟩⟩,
    ⟨.inr (fun _ _ _ h _ => h), ⟨.inr (.inr (fun _ _ _ h _ => h)), trivial⟩⟩, trivial⟩ ⟨fun vs vs' x h _ hv => (by dsimp only at hv ⊢; first | (rw [← h]; exact hv) | exact hv),
    fun vs vs' x h _ hv => (by dsimp only at hv ⊢; first | (rw [← h]; exact hv) | exact hv),
    fun vs vs' x h _ hv => (by dsimp only at hv ⊢; first | (rw [← h]; exact hv) | exact hv),
    fun vs vs' x h _ hv => (by dsimp only at hv ⊢; first | (rw [← h]; exact hv) | exact hv),
    fun vs vs' x h _ hv => (by dsimp only at hv ⊢; first | (rw [← h]; exact hv) | exact hv),
    fun vs vs' x h _ hv => (by dsimp only at hv ⊢; first | (rw [← h]; exact hv) | exact hv),
    fun vs vs' x h _ hv => (by dsimp only at hv ⊢; first | (rw [← h]; exact hv) | exact hv),
    fun vs vs' x h _ hv => (by dsimp only at hv ⊢; first | (rw [← h]; exact hv) | exact hv),
    fun vs vs' x h _ hv => (by dsimp only at hv ⊢; first | (rw [← h]; exact hv) | exact hv),
    fun vs vs' x h _ hv => (by dsimp only at hv ⊢; first | (rw [← h]; exact hv) | exact hv),
    fun vs vs' x h _ hv => (by dsimp only at hv ⊢; first | (rw [← h]; exact hv) | exact hv),
    fun vs vs' x h _ hv => (by dsimp only at hv ⊢; first | (rw [← h]; exact hv) | exact hv),
    fun vs vs' x h _ hv => (by dsimp only at hv ⊢; first | (rw [← h]; exact hv) | exact hv),
    fun _ _ _ _ _ _ => trivial,
    fun vs vs' x h _ hv => (by dsimp only at hv ⊢; first | (rw [← h]; exact hv) | exact hv), trivial⟩ (⟨fun _ => HKS.out.up HF.out (below_drewN (Below.refl _ _) 1), (fun h => by cases h), bthen HKS.out.bel (below_drewN (Below.refl _ _) 1)⟩) ⟨?_, ?_, ?_, ?_, ?_, ?_, ?_, ?_, ?_, ?_, ?_, ?_, ?_, ?_, ?_, trivial⟩ ?_
      · intro vals xw f hf1 hf2 hf3 hI hF
        have k13 : f 13 = false := hf3 13 (by kernel_rfl)
        clear hf2 hf3
        dsimp only [owes4, bare]
        simp only [putsD, Act.put, List.setIfInBounds_toArray, List.set_cons_zero, List.set_cons_succ]
        have hv9 := (hI.1 k13).var
        have y0 := (cell_of_block hv9 0).1
        have y1 := (cell_of_block hv9 1).1
        have y2 := (cell_of_block hv9 2).1
        go_wp2
        exact ⟨rfl, rfl, ⟨fun h9 => absurd h9 (Nat.ne_of_beq_eq_false rfl), fun _ => Below.refl _ _⟩, hI⟩
      · intro vals xw f hf1 hf2 hf3 hI hF
        clear hf2 hf3
        dsimp only [owes4, bare]
        simp only [putsD, Act.put, List.setIfInBounds_toArray, List.set_cons_zero, List.set_cons_succ]
        go_wp2
        exact ⟨rfl, rfl, ⟨fun h9 => absurd h9 (Nat.ne_of_beq_eq_false rfl), fun _ => Below.refl _ _⟩, hI⟩
      · intro vals xw f hf1 hf2 hf3 hI hF
        clear hf2 hf3
        dsimp only [owes4, bare]
        simp only [putsD, Act.put, List.setIfInBounds_toArray, List.set_cons_zero, List.set_cons_succ]
        go_wp2
        exact ⟨rfl, rfl, ⟨fun h9 => absurd h9 (Nat.ne_of_beq_eq_false rfl), fun _ => Below.refl _ _⟩, hI⟩
      · intro vals xw f hf1 hf2 hf3 hI hF
        clear hf2 hf3
        simp only [saysD, List.getD_cons_zero, List.getD_cons_succ, and_true] at hF
        obtain ⟨e19, e20⟩ := hF
        dsimp only [owes4, bare]
        simp only [putsD, Act.put, List.setIfInBounds_toArray, List.set_cons_zero, List.set_cons_succ]
        simp only [e19, e20]
        go_wp2
        exact ⟨rfl, rfl, ⟨fun h9 => absurd h9 (Nat.ne_of_beq_eq_false rfl), fun _ => Below.refl _ _⟩, hI⟩
      · intro vals xw f hf1 hf2 hf3 hI hF
        clear hf2 hf3
        simp only [saysD, List.getD_cons_zero, List.getD_cons_succ, and_true] at hF
        have e21 := hF
        dsimp only [owes4, bare]
        simp only [putsD, Act.put, List.setIfInBounds_toArray, List.set_cons_zero, List.set_cons_succ]
        simp only [e21]
        have c9 := HRX.out _ hI.2.2
        go_wp2
        exact ⟨rfl, rfl, ⟨fun h9 => absurd h9 (Nat.ne_of_beq_eq_false rfl), fun _ => Below.refl _ _⟩, hI⟩
      · intro vals xw f hf1 hf2 hf3 hI hF
        clear hf2 hf3
        dsimp only [owes4, bare]
        simp only [putsD, Act.put, List.setIfInBounds_toArray, List.set_cons_zero, List.set_cons_succ]
        go_wp2
        exact ⟨rfl, rfl, ⟨fun h9 => absurd h9 (Nat.ne_of_beq_eq_false rfl), fun _ => Below.refl _ _⟩, hI⟩
      · intro vals xw f hf1 hf2 hf3 hI hF
        clear hf2 hf3
        dsimp only [owes4, bare]
        simp only [putsD, Act.put, List.setIfInBounds_toArray, List.set_cons_zero, List.set_cons_succ]
        go_wp2
        exact ⟨rfl, rfl, ⟨fun h9 => absurd h9 (Nat.ne_of_beq_eq_false rfl), fun _ => Below.refl _ _⟩, hI⟩
      · intro vals xw f hf1 hf2 hf3 hI hF
        clear hf2 hf3
        simp only [saysD, List.getD_cons_zero, List.getD_cons_succ, and_true] at hF
        obtain ⟨e23, e24⟩ := hF
        dsimp only [owes4, bare]
        simp only [putsD, Act.put, List.setIfInBounds_toArray, List.set_cons_zero, List.set_cons_succ]
        simp only [e23, e24]
        go_wp2
        exact ⟨rfl, rfl, ⟨fun h9 => absurd h9 (Nat.ne_of_beq_eq_false rfl), fun _ => Below.refl _ _⟩, hI⟩
      · intro vals xw f hf1 hf2 hf3 hI hF
        clear hf2 hf3
        simp only [saysD, List.getD_cons_zero, List.getD_cons_succ, and_true] at hF
        have e25 := hF
        dsimp only [owes4, bare]
        simp only [putsD, Act.put, List.setIfInBounds_toArray, List.set_cons_zero, List.set_cons_succ]
        simp only [e25]
        have c9 := HRY.out _ hI.2.2
        go_wp2
        exact ⟨rfl, rfl, ⟨fun h9 => absurd h9 (Nat.ne_of_beq_eq_false rfl), fun _ => Below.refl _ _⟩, hI⟩
      · intro vals xw f hf1 hf2 hf3 hI hF
        have k13 : f 13 = false := hf3 13 (by kernel_rfl)
        clear hf2 hf3
        simp only [saysD, List.getD_cons_zero, List.getD_cons_succ, and_true] at hF
        obtain ⟨e18, e22, e26⟩ := hF
        dsimp only [owes4, bare]
        simp only [putsD, Act.put, List.setIfInBounds_toArray, List.set_cons_zero, List.set_cons_succ]
        simp only [e18, e22, e26]
        have HI := Lib.hid hI
        have HK := Lib.hid (hI.1 k13)
        have hsz9 := hI.2.2.size
        clear hI
        have HC := Lib.hid (l7Xor_any (G2 F w xw (fun _ => False)) A1 c1 k1 x y xw HK.out.row (KS2.lt HK.out.bel HF.out) HK.out.nil HNB1.out HXYM.out.1 HXYM.out.2)
        rw [← HM.out] at HC
        go_wp2_with fail
        refine HC.out.mono ?_
        rintro e wx ⟨A2, c2, rfl, h2, h3, h4⟩
        have H3 := Lib.hid h3
        have H4 := Lib.hid h4
        clear h3 h4 HC
        go_wp2
        refine ⟨rfl, ⟨A2, c2, rfl, h2, H3.out.mono ?_, Nat.le_trans hsz9 H4.out.size⟩, ⟨fun h9 => absurd h9 (Nat.ne_of_beq_eq_false rfl), fun _ => H4.out⟩, (fun h => (HI.out.1 h).up HF.out H4.out), (fun h => absurd (k13.symm.trans h) (by simp)), bthen HI.out.2.2 H4.out⟩
        intro b hb
        rcases hb with (h9 | h9) | h9
        · exact .inl h9
        · exact .inr ⟨h9.1, Nat.lt_of_lt_of_le h9.2.1 H4.out.size, h9.2.2⟩
        · exact .inr ⟨by have := HK.out.bel.size; have := lt_of_block HK.out.res; omega, h9.2, fun e => e⟩
      · intro vals xw f hf1 hf2 hf3 hI hF
        clear hf2 hf3
        simp only [saysD, List.getD_cons_zero, List.getD_cons_succ, and_true] at hF
        obtain ⟨A2, c2, e27, h2, h3, h4⟩ := hF
        dsimp only [owes4, bare]
        simp only [putsD, Act.put, List.setIfInBounds_toArray, List.set_cons_zero, List.set_cons_succ]
        simp only [e27]
        go_wp2
        exact ⟨rfl, ⟨A2, c2, rfl, h2, h3, h4⟩, ⟨fun h9 => absurd h9 (Nat.ne_of_beq_eq_false rfl), fun _ => Below.refl _ _⟩, hI⟩
      · intro vals xw f hf1 hf2 hf3 hI hF
        clear hf2 hf3
        simp only [saysD, List.getD_cons_zero, List.getD_cons_succ, and_true] at hF
        obtain ⟨A2, c2, e17, h2, h3, h4⟩ := hF
        dsimp only [owes4, bare]
        simp only [putsD, Act.put, List.setIfInBounds_toArray, List.set_cons_zero, List.set_cons_succ]
        simp only [e17]
        go_wp2
        exact ⟨rfl, ⟨A2, c2, rfl, h2, h3, h4⟩, ⟨fun h9 => absurd h9 (Nat.ne_of_beq_eq_false rfl), fun _ => Below.refl _ _⟩, hI⟩
      · intro vals xw f hf1 hf2 hf3 hI hF
        clear hf2 hf3
        simp only [saysD, List.getD_cons_zero, List.getD_cons_succ, and_true] at hF
        obtain ⟨A2, c2, e17, h2, h3, h4⟩ := hF
        dsimp only [owes4, bare]
        simp only [putsD, Act.put, List.setIfInBounds_toArray, List.set_cons_zero, List.set_cons_succ]
        simp only [e17]
        go_wp2
        exact ⟨rfl, rfl, ⟨fun h9 => absurd h9 (Nat.ne_of_beq_eq_false rfl), fun _ => Below.refl _ _⟩, hI⟩
      · intro vals xw f hf1 hf2 hf3 hI hF
        clear hf2 hf3
        simp only [saysD, List.getD_cons_zero, List.getD_cons_succ, and_true] at hF
        obtain ⟨A2, c2, e28, h2, h3, h4⟩ := hF
        dsimp only [owes4, bare]
        simp only [putsD, Act.put, List.setIfInBounds_toArray, List.set_cons_zero, List.set_cons_succ]
        simp only [e28]
        have HI := Lib.hid hI
        have HK := Lib.hid (hI.1 hf1)
        have hv9 := HK.out.var
        have y0 := (cell_of_block hv9 0).1
        have y1 := (cell_of_block hv9 1).1
        have y2 := (cell_of_block hv9 2).1
        have g0 := (cell_of_block hv9 0).2
        have g1 := (cell_of_block hv9 1).2
        have g2 := (cell_of_block hv9 2).2
        have H3 := Lib.hid h3
        clear hI hv9 h3 h4
        go_wp2
        have hset := HK.out.set (c' := c2) HF.out H3.out h2
        have hgr : xw.grownBy (st3 xw w.heap.size (.int .i64 m.1.1.ins) (.slice A2 m.1.1.gs.length c2) (.bool m.1.2)) (some w.heap.size) := only_setCell (only_setCell (only_setCell (World.grownBy.refl _ _) _ _) _ _) _ _
        exact ⟨rfl, trivial, ⟨fun _ => hgr, fun h9 => absurd rfl h9⟩, fun h => absurd ((did_same f 13).symm.trans h) (by simp), fun _ => ⟨A2, c2, hset⟩, st3_below HI.out.2.2 (Nat.le_refl _) _ _ _⟩
      · intro vals xw f hf1 hf2 hf3 hI hF
        clear hf2 hf3
        simp only [saysD, List.getD_cons_zero, List.getD_cons_succ, and_true] at hF
        have e29 := hF
        dsimp only [owes4, bare]
        simp only [putsD, Act.put, List.setIfInBounds_toArray, List.set_cons_zero, List.set_cons_succ]
        simp only [e29]
        go_wp2
        exact ⟨rfl, rfl, ⟨fun h9 => absurd h9 (Nat.ne_of_beq_eq_false rfl), fun _ => Below.refl _ _⟩, hI⟩
      · intro vals xw f hall hI hF
        rw [show List.range _ = [0, 1, 2, 3, 4, 5, 6, 7, 8, 9, 10, 11, 12, 13, 14] from rfl] at hF
        simp only [says, List.getD_cons_zero, List.getD_cons_succ, and_true] at hF
        obtain ⟨A2, c2, hk2⟩ := hI.2.1 (hall 13 (by decide))
        have e9 : vals 14 = .int .i64 m.2 := by obtain ⟨_, _, _, _, _, _, _, _, _, _, _, _, _, _, e9⟩ := hF; exact e9
        have HK2 := Lib.hid hk2
        clear hF hk2 hI
        simp only [putsD, Act.put, List.setIfInBounds_toArray, List.set_cons_zero, List.set_cons_succ]
        simp only [e9]
        clear e9
        have hmb := HMB.out.2
        obtain ⟨hm0, hm1⟩ := hmb
        obtain ⟨p, hp⟩ : ∃ p, p = run opsR (muxP m.2 y rr) m.1 := ⟨_, rfl⟩
        have HP := Lib.hid hp
        have HPB : Hid (NB p.1.1 ∧ RB p.2) := Lib.hid (by rw [hp]; exact mux_rb HMB.out.1 HMB.out.2 HXYM.out.2 HRR.out)
        clear hp
        go_wp2
        refine wp_region_rel4 [[], [], [], [], [(2, 33), (3, 34)], [(4, 35)], [], [(0, 31), (1, 32), (5, 36), (6, 37)], [(7, 38)], [(8, 30)], [(8, 30)], [(9, 39)], [(10, 40)]]
          (fun x9 y9 => Below x9.heap.size x9 y9)
          [(11, fun x9 y9 => x9.grownBy y9 (some w.heap.size))]
          (fun f9 x9 => (f9 11 = false → KS2 F w x9 m.1 A2 c2 (fun _ => False)) ∧ (f9 11 = true → ∃ A3 c3, KS2 F w x9 p.1 A3 c3 (fun _ => False)) ∧ Below w.heap.size w x9)
          [fun vs9 _ => vs9 0 = (.agg #[.int .i64 m.1.1.ins, .slice A2 m.1.1.gs.length c2, .bool m.1.2]),
    fun vs9 _ => vs9 1 = (.int .i64 m.2),
    fun vs9 _ => vs9 2 = (.slice (some ady) xs.length cy),
    fun vs9 _ => vs9 3 = (.int .i64 (j : Int)),
    fun vs9 _ => vs9 4 = (.pointer (some (ady.add j))),
    fun vs9 _ => vs9 5 = (.int .i64 y),
    fun vs9 _ => vs9 6 = (.int .i64 rr),
    fun vs9 y9 => (fun v z => KTup F w p v z) (vs9 7) y9,
    fun vs9 y9 => (fun v z => KTup F w p v z) (vs9 8) y9,
    fun vs9 y9 => (fun v z => KNet F w p v z) (vs9 9) y9,
    fun vs9 _ => vs9 10 = (.int .i64 p.2),
    fun _ _ => True,
    fun vs9 _ => vs9 12 = (.int .i64 p.2)]
          [(0, 31), (1, 32), (2, 33), (3, 34), (4, 35), (5, 36), (6, 37), (7, 38), (8, 30), (9, 39), (10, 40), (12, 8)] (by kernel_rfl) (by kernel_rfl) (by kernel_rfl) (by kernel_rfl)
          (fun _ => Below.refl _ _) ⟨fun _ => World.grownBy.refl _ _, trivial⟩
          ⟨⟨.inr (fun _ _ _ h _ => h), ⟨.inr (.inr (fun _ _ _ h _ => h)), trivial⟩⟩,
    ⟨.inr (fun _ _ _ h _ => h), ⟨.inr (.inr (fun _ _ _ h _ => h)), trivial⟩⟩,
    ⟨.inr (fun _ _ _ h _ => h), ⟨.inr (.inr (fun _ _ _ h _ => h)), trivial⟩⟩,
    ⟨.inr (fun _ _ _ h _ => h), ⟨.inr (.inr (fun _ _ _ h _ => h)), trivial⟩⟩,
    ⟨.inr (fun _ _ _ h _ => h), ⟨.inr (.inr (fun _ _ _ h _ => h)), trivial⟩⟩,
    ⟨.inr (fun _ _ _ h _ => h), ⟨.inr (.inr (fun _ _ _ h _ => h)), trivial⟩⟩,
    ⟨.inr (fun _ _ _ h _ => h), ⟨.inr (.inr (fun _ _ _ h _ => h)), trivial⟩⟩,
    ⟨.inr (fun vs9 x9 y9 h9 hR9 => (show ∀ v9 y8 y7, (fun v z => KTup F w p v z) v9 y8 → (fun x9 y9 => Below x9.heap.size x9 y9) y8 y7 → (fun v z => KTup F w p v z) v9 y7 from fun _ _ _ h9 hR => h9.up HF.out hR) (vs9 7) x9 y9 h9 hR9), ⟨.inr (.inr (fun vs9 x9 y9 h9 hR9 => (show ∀ v9 y8 y7, (fun v z => KTup F w p v z) v9 y8 → (fun x9 y9 => x9.grownBy y9 (some w.heap.size)) y8 y7 → (fun v z => KTup F w p v z) v9 y7 from fun _ _ _ h9 hR => h9.st HF.out hR) (vs9 7) x9 y9 h9 hR9)), trivial⟩⟩,
    ⟨.inr (fun vs9 x9 y9 h9 hR9 => (show ∀ v9 y8 y7, (fun v z => KTup F w p v z) v9 y8 → (fun x9 y9 => Below x9.heap.size x9 y9) y8 y7 → (fun v z => KTup F w p v z) v9 y7 from fun _ _ _ h9 hR => h9.up HF.out hR) (vs9 8) x9 y9 h9 hR9), ⟨.inr (.inr (fun vs9 x9 y9 h9 hR9 => (show ∀ v9 y8 y7, (fun v z => KTup F w p v z) v9 y8 → (fun x9 y9 => x9.grownBy y9 (some w.heap.size)) y8 y7 → (fun v z => KTup F w p v z) v9 y7 from fun _ _ _ h9 hR => h9.st HF.out hR) (vs9 8) x9 y9 h9 hR9)), trivial⟩⟩,
    ⟨.inr (fun vs9 x9 y9 h9 hR9 => (show ∀ v9 y8 y7, (fun v z => KNet F w p v z) v9 y8 → (fun x9 y9 => Below x9.heap.size x9 y9) y8 y7 → (fun v z => KNet F w p v z) v9 y7 from fun _ _ _ h9 hR => h9.up HF.out hR) (vs9 9) x9 y9 h9 hR9), ⟨.inr (.inr (fun vs9 x9 y9 h9 hR9 => (show ∀ v9 y8 y7, (fun v z => KNet F w p v z) v9 y8 → (fun x9 y9 => x9.grownBy y9 (some w.heap.size)) y8 y7 → (fun v z => KNet F w p v z) v9 y7 from fun _ _ _ h9 hR => h9.st HF.out hR) (vs9 9) x9 y9 h9 hR9)), trivial⟩⟩,
    ⟨.inr (fun _ _ _ h _ => h), ⟨.inr (.inr (fun _ _ _ h _ => h)), trivial⟩⟩,
    ⟨.inr (fun _ _ _ h _ => h), ⟨.inr (.inl rfl), trivial⟩⟩,
    ⟨.inr (fun _ _ _ h _ => h), ⟨.inr (.inr (fun _ _ _ h _ => h)), trivial⟩⟩, trivial⟩ ⟨fun vs vs' x h _ hv => (by dsimp only at hv ⊢; first | (rw [← h]; exact hv) | exact hv),
    fun vs vs' x h _ hv => (by dsimp only at hv ⊢; first | (rw [← h]; exact hv) | exact hv),
    fun vs vs' x h _ hv => (by dsimp only at hv ⊢; first | (rw [← h]; exact hv) | exact hv),
    fun vs vs' x h _ hv => (by dsimp only at hv ⊢; first | (rw [← h]; exact hv) | exact hv),
    fun vs vs' x h _ hv => (by dsimp only at hv ⊢; first | (rw [← h]; exact hv) | exact hv),
    fun vs vs' x h _ hv => (by dsimp only at hv ⊢; first | (rw [← h]; exact hv) | exact hv),
    fun vs vs' x h _ hv => (by dsimp only at hv ⊢; first | (rw [← h]; exact hv) | exact hv),
    fun vs vs' x h _ hv => (by dsimp only at hv ⊢; first | (rw [← h]; exact hv) | exact hv),
    fun vs vs' x h _ hv => (by dsimp only at hv ⊢; first | (rw [← h]; exact hv) | exact hv),
    fun vs vs' x h _ hv => (by dsimp only at hv ⊢; first | (rw [← h]; exact hv) | exact hv),
    fun vs vs' x h _ hv => (by dsimp only at hv ⊢; first | (rw [← h]; exact hv) | exact hv),
    fun _ _ _ _ _ _ => trivial,
    fun vs vs' x h _ hv => (by dsimp only at hv ⊢; first | (rw [← h]; exact hv) | exact hv), trivial⟩ (⟨fun _ => HK2.out.up HF.out (below_drewN (Below.refl _ _) 1), (fun h => by cases h), bthen HK2.out.bel (below_drewN (Below.refl _ _) 1)⟩) ⟨?_, ?_, ?_, ?_, ?_, ?_, ?_, ?_, ?_, ?_, ?_, ?_, ?_, trivial⟩ ?_
        · intro vals xw f hf1 hf2 hf3 hI hF
          have k11 : f 11 = false := hf3 11 (by kernel_rfl)
          clear hf2 hf3
          dsimp only [owes4, bare]
          simp only [putsD, Act.put, List.setIfInBounds_toArray, List.set_cons_zero, List.set_cons_succ]
          have hv9 := (hI.1 k11).var
          have y0 := (cell_of_block hv9 0).1
          have y1 := (cell_of_block hv9 1).1
          have y2 := (cell_of_block hv9 2).1
          go_wp2
          exact ⟨rfl, rfl, ⟨fun h9 => absurd h9 (Nat.ne_of_beq_eq_false rfl), fun _ => Below.refl _ _⟩, hI⟩
        · intro vals xw f hf1 hf2 hf3 hI hF
          clear hf2 hf3
          dsimp only [owes4, bare]
          simp only [putsD, Act.put, List.setIfInBounds_toArray, List.set_cons_zero, List.set_cons_succ]
          go_wp2
          exact ⟨rfl, rfl, ⟨fun h9 => absurd h9 (Nat.ne_of_beq_eq_false rfl), fun _ => Below.refl _ _⟩, hI⟩
        · intro vals xw f hf1 hf2 hf3 hI hF
          clear hf2 hf3
          dsimp only [owes4, bare]
          simp only [putsD, Act.put, List.setIfInBounds_toArray, List.set_cons_zero, List.set_cons_succ]
          go_wp2
          exact ⟨rfl, rfl, ⟨fun h9 => absurd h9 (Nat.ne_of_beq_eq_false rfl), fun _ => Below.refl _ _⟩, hI⟩
        · intro vals xw f hf1 hf2 hf3 hI hF
          clear hf2 hf3
          dsimp only [owes4, bare]
          simp only [putsD, Act.put, List.setIfInBounds_toArray, List.set_cons_zero, List.set_cons_succ]
          go_wp2
          exact ⟨rfl, rfl, ⟨fun h9 => absurd h9 (Nat.ne_of_beq_eq_false rfl), fun _ => Below.refl _ _⟩, hI⟩
        · intro vals xw f hf1 hf2 hf3 hI hF
          clear hf2 hf3
          simp only [saysD, List.getD_cons_zero, List.getD_cons_succ, and_true] at hF
          obtain ⟨e33, e34⟩ := hF
          dsimp only [owes4, bare]
          simp only [putsD, Act.put, List.setIfInBounds_toArray, List.set_cons_zero, List.set_cons_succ]
          simp only [e33, e34]
          go_wp2
          exact ⟨rfl, rfl, ⟨fun h9 => absurd h9 (Nat.ne_of_beq_eq_false rfl), fun _ => Below.refl _ _⟩, hI⟩
        · intro vals xw f hf1 hf2 hf3 hI hF
          clear hf2 hf3
          simp only [saysD, List.getD_cons_zero, List.getD_cons_succ, and_true] at hF
          have e35 := hF
          dsimp only [owes4, bare]
          simp only [putsD, Act.put, List.setIfInBounds_toArray, List.set_cons_zero, List.set_cons_succ]
          simp only [e35]
          have c9 := HRY.out _ hI.2.2
          go_wp2
          exact ⟨rfl, rfl, ⟨fun h9 => absurd h9 (Nat.ne_of_beq_eq_false rfl), fun _ => Below.refl _ _⟩, hI⟩
        · intro vals xw f hf1 hf2 hf3 hI hF
          clear hf2 hf3
          dsimp only [owes4, bare]
          simp only [putsD, Act.put, List.setIfInBounds_toArray, List.set_cons_zero, List.set_cons_succ]
          go_wp2
          exact ⟨rfl, rfl, ⟨fun h9 => absurd h9 (Nat.ne_of_beq_eq_false rfl), fun _ => Below.refl _ _⟩, hI⟩
        · intro vals xw f hf1 hf2 hf3 hI hF
          have k11 : f 11 = false := hf3 11 (by kernel_rfl)
          clear hf2 hf3
          simp only [saysD, List.getD_cons_zero, List.getD_cons_succ, and_true] at hF
          obtain ⟨e31, e32, e36, e37⟩ := hF
          dsimp only [owes4, bare]
          simp only [putsD, Act.put, List.setIfInBounds_toArray, List.set_cons_zero, List.set_cons_succ]
          simp only [e31, e32, e36, e37]
          have HI := Lib.hid hI
          have HK := Lib.hid (hI.1 k11)
          have hsz9 := hI.2.2.size
          clear hI
          have HC := Lib.hid (l7One_any (G2 F w xw (fun _ => False)) A2 c2 m.1 m.2 y rr xw HK.out.row (KS2.lt HK.out.bel HF.out) HK.out.nil HMB.out.1 HMB.out.2 HXYM.out.2 HRR.out)
          rw [← HP.out] at HC
          go_wp2_with fail
          refine HC.out.mono ?_
          rintro e wx ⟨A3, c3, rfl, h2, h3, h4⟩
          have H3 := Lib.hid h3
          have H4 := Lib.hid h4
          clear h3 h4 HC
          go_wp2
          refine ⟨rfl, ⟨A3, c3, rfl, h2, H3.out.mono ?_, Nat.le_trans hsz9 H4.out.size⟩, ⟨fun h9 => absurd h9 (Nat.ne_of_beq_eq_false rfl), fun _ => H4.out⟩, (fun h => (HI.out.1 h).up HF.out H4.out), (fun h => absurd (k11.symm.trans h) (by simp)), bthen HI.out.2.2 H4.out⟩
          intro b hb
          rcases hb with (h9 | h9) | h9
          · exact .inl h9
          · exact .inr ⟨h9.1, Nat.lt_of_lt_of_le h9.2.1 H4.out.size, h9.2.2⟩
          · exact .inr ⟨by have := HK.out.bel.size; have := lt_of_block HK.out.res; omega, h9.2, fun e => e⟩
        · intro vals xw f hf1 hf2 hf3 hI hF
          clear hf2 hf3
          simp only [saysD, List.getD_cons_zero, List.getD_cons_succ, and_true] at hF
          obtain ⟨A3, c3, e38, h2, h3, h4⟩ := hF
          dsimp only [owes4, bare]
          simp only [putsD, Act.put, List.setIfInBounds_toArray, List.set_cons_zero, List.set_cons_succ]
          simp only [e38]
          go_wp2
          exact ⟨rfl, ⟨A3, c3, rfl, h2, h3, h4⟩, ⟨fun h9 => absurd h9 (Nat.ne_of_beq_eq_false rfl), fun _ => Below.refl _ _⟩, hI⟩
        · intro vals xw f hf1 hf2 hf3 hI hF
          clear hf2 hf3
          simp only [saysD, List.getD_cons_zero, List.getD_cons_succ, and_true] at hF
          obtain ⟨A3, c3, e30, h2, h3, h4⟩ := hF
          dsimp only [owes4, bare]
          simp only [putsD, Act.put, List.setIfInBounds_toArray, List.set_cons_zero, List.set_cons_succ]
          simp only [e30]
          go_wp2
          exact ⟨rfl, ⟨A3, c3, rfl, h2, h3, h4⟩, ⟨fun h9 => absurd h9 (Nat.ne_of_beq_eq_false rfl), fun _ => Below.refl _ _⟩, hI⟩
        · intro vals xw f hf1 hf2 hf3 hI hF
          clear hf2 hf3
          simp only [saysD, List.getD_cons_zero, List.getD_cons_succ, and_true] at hF
          obtain ⟨A3, c3, e30, h2, h3, h4⟩ := hF
          dsimp only [owes4, bare]
          simp only [putsD, Act.put, List.setIfInBounds_toArray, List.set_cons_zero, List.set_cons_succ]
          simp only [e30]
          go_wp2
          exact ⟨rfl, rfl, ⟨fun h9 => absurd h9 (Nat.ne_of_beq_eq_false rfl), fun _ => Below.refl _ _⟩, hI⟩
        · intro vals xw f hf1 hf2 hf3 hI hF
          clear hf2 hf3
          simp only [saysD, List.getD_cons_zero, List.getD_cons_succ, and_true] at hF
          obtain ⟨A3, c3, e39, h2, h3, h4⟩ := hF
          dsimp only [owes4, bare]
          simp only [putsD, Act.put, List.setIfInBounds_toArray, List.set_cons_zero, List.set_cons_succ]
          simp only [e39]
          have HI := Lib.hid hI
          have HK := Lib.hid (hI.1 hf1)
          have hv9 := HK.out.var
          have y0 := (cell_of_block hv9 0).1
          have y1 := (cell_of_block hv9 1).1
          have y2 := (cell_of_block hv9 2).1
          have g0 := (cell_of_block hv9 0).2
          have g1 := (cell_of_block hv9 1).2
          have g2 := (cell_of_block hv9 2).2
          have H3 := Lib.hid h3
          clear hI hv9 h3 h4
          go_wp2
          have hset := HK.out.set (c' := c3) HF.out H3.out h2
          have hgr : xw.grownBy (st3 xw w.heap.size (.int .i64 p.1.1.ins) (.slice A3 p.1.1.gs.length c3) (.bool p.1.2)) (some w.heap.size) := only_setCell (only_setCell (only_setCell (World.grownBy.refl _ _) _ _) _ _) _ _
          exact ⟨rfl, trivial, ⟨fun _ => hgr, fun h9 => absurd rfl h9⟩, fun h => absurd ((did_same f 11).symm.trans h) (by simp), fun _ => ⟨A3, c3, hset⟩, st3_below HI.out.2.2 (Nat.le_refl _) _ _ _⟩
        · intro vals xw f hf1 hf2 hf3 hI hF
          clear hf2 hf3
          simp only [saysD, List.getD_cons_zero, List.getD_cons_succ, and_true] at hF
          have e40 := hF
          dsimp only [owes4, bare]
          simp only [putsD, Act.put, List.setIfInBounds_toArray, List.set_cons_zero, List.set_cons_succ]
          simp only [e40]
          go_wp2
          exact ⟨rfl, rfl, ⟨fun h9 => absurd h9 (Nat.ne_of_beq_eq_false rfl), fun _ => Below.refl _ _⟩, hI⟩
        · intro vals xw f hall hI hF
          rw [show List.range _ = [0, 1, 2, 3, 4, 5, 6, 7, 8, 9, 10, 11, 12] from rfl] at hF
          simp only [says, List.getD_cons_zero, List.getD_cons_succ, and_true] at hF
          obtain ⟨A3, c3, hk2⟩ := hI.2.1 (hall 11 (by decide))
          have e9 : vals 12 = .int .i64 p.2 := by obtain ⟨_, _, _, _, _, _, _, _, _, _, _, _, e9⟩ := hF; exact e9
          have HK2 := Lib.hid hk2
          clear hF hk2 hI
          simp only [putsD, Act.put, List.setIfInBounds_toArray, List.set_cons_zero, List.set_cons_succ]
          simp only [e9]
          clear e9
          go_wp2
          go_roundw
          case rel => exact ⟨j + 1, p.1, p.2, A3, c3, by omega, by go_num, rfl, HPB.out.2, HK2.out, HPB.out.1, Lib.hid (by rw [HP.out, HM.out]; exact HST.out)⟩
          case measure => simp [intOf]; omega
    · have hje : j = xs.length := by omega
      subst hje
      have hlt2 : ¬ ((xs.length : Nat) : Int) < xs.length := by omega
      have hv9 := HKS.out.var
      have y0 := (cell_of_block hv9 0).1
      have y1 := (cell_of_block hv9 1).1
      have y2 := (cell_of_block hv9 2).1
      have hr9 := HKS.out.res
      have r0 := (cell_of_block hr9 0).1
      have r1 := (cell_of_block hr9 1).1
      have r2 := (cell_of_block hr9 2).1
      have rf0 := (cell_of_block hr9 0).2
      have rf1 := (cell_of_block hr9 1).2
      have rf2 := (cell_of_block hr9 2).2
      clear hv9 hr9
      go_wp2
      have hs := st3_same HKS.out.res (.int .i64 k1.1.ins) (.slice A1 k1.1.gs.length c1) (.bool k1.2)
      have k5 := (cell_of_block hs 0).1
      have k6 := (cell_of_block hs 1).1
      have k7 := (cell_of_block hs 2).1
      have kf5 := (cell_of_block hs 0).2
      have kf6 := (cell_of_block hs 1).2
      have kf7 := (cell_of_block hs 2).2
      refine bodyPost_ret (v := .tuple #[.agg #[.int .i64 k1.1.ins, .slice A1 k1.1.gs.length c1, .bool k1.2], .int .i64 rr]) (by simp [results, Tryz.results136, go_sem, k5, k6, k7, kf5, kf6, kf7]) rfl ?_
      have hd1 : xs.drop xs.length = [] := List.drop_length
      have hd2 : ys.drop xs.length = [] := by rw [HL.out]; exact List.drop_length
      have hst2 := hst.out
      rw [hd1, hd2] at hst2
      have hT2 : T = (k1, rr) := by rw [← hst2]; rfl
      rw [hT2]
      exact HKS.out.one2.done HF.out
end Go.Proofs.YtjghcaghigebjaaGreatDoor

/-! Contracts of the reference's clauses and unit propagation: l4Clause, CnfOk, l5Sign, l5Look, l5Find. -/
namespace Go.Proofs.YtjghcaghigebjaaGreatDoor
open Go Go.RowKit

/-- The list says of each mark how it is. -/
def Vals (many : Nat) (put : List Int) (vs : List Int) : Prop := vs.length = many + 1 ∧ ∀ v : Nat, 1 ≤ v → v ≤ many → vs[v]? = some (sg put v)
end Go.Proofs.YtjghcaghigebjaaGreatDoor

/-! Contracts of the reference's unit propagation: l5Find, l5Vals, l5Units, l5Rup, RupOk. -/
namespace Go.Proofs.YtjghcaghigebjaaGreatDoor
open Go Go.RowKit

end Go.Proofs.YtjghcaghigebjaaGreatDoor

/-! Contracts of the reference's unit propagation: l5Vals, l5Units, l5Rup, RupOk. -/
namespace Go.Proofs.YtjghcaghigebjaaGreatDoor
open Go Go.RowKit

theorem Good.at {many : Int} {put : List Int} (h : Good many put) {k : Nat} (hk : k < put.length) : put[k] ∉ put.take k ∧ -put[k] ∉ put.take k := by
  have hp := List.pairwise_iff_getElem.1 h.nodup
  refine ⟨fun hm => ?_, fun hm => ?_⟩
  all_goals
    obtain ⟨i, hi, e⟩ := List.getElem_of_mem hm
    have hik : i < k := by simp at hi; omega
    rw [List.getElem_take] at e
    exact hp i k (by simp <;> omega) (by simpa using hk) hik (by simp only [List.getElem_map, e] <;> omega)

def ValsAt (M : Nat) (put : List Int) (v : Value) (x : World) : Prop := ∃ (A : Option Addr) (c : Nat) (vs : List Int), v = .slice A vs.length c ∧ Vals M put vs ∧ Lay.int.Rd x A vs
theorem ValsAt.up {M : Nat} {put : List Int} {v : Value} {x x' : World} (h : ValsAt M put v x) (hb : Below x.heap.size x x') : ValsAt M put v x' := by
  obtain ⟨A, c, vs, h1, h2, h3⟩ := h
  exact ⟨A, c, vs, h1, h2, h3.up hb⟩
def Fact.vals (M : Nat) (put : List Int) : Fact := .of (ValsAt M put) fun _ _ _ h hb => h.up hb
def lenOf : Value → Nat
  | .slice _ n _ => n
  | _ => 0
end Go.Proofs.YtjghcaghigebjaaGreatDoor

/-! Contracts of the reference's l5Rup and RupOk. -/
namespace Go.Proofs.YtjghcaghigebjaaGreatDoor
open Go Go.RowKit

end Go.Proofs.YtjghcaghigebjaaGreatDoor

/-! The program's trail: what lies in memory; what is asked of it. -/
namespace Go.Proofs.YtjghcaghigebjaaGreatDoor
open Go Go.RowKit

/-- The places say of each variable where it is put, plus one; 0 if it is not. -/
def PlacesOk (M : Nat) (put pl : List Int) : Prop :=
  pl.length = M + 1 ∧ ∀ v : Nat, 1 ≤ v → v ≤ M → (∃ k, ∃ h : k < put.length, put[k].natAbs = v ∧ pl[v]? = some ((k : Int) + 1)) ∨ ((∀ l ∈ put, l.natAbs ≠ v) ∧ pl[v]? = some 0)
end Go.Proofs.YtjghcaghigebjaaGreatDoor

/-! The program's trail: next, push. -/
namespace Go.Proofs.YtjghcaghigebjaaGreatDoor
open Go Go.RowKit

end Go.Proofs.YtjghcaghigebjaaGreatDoor

/-! The program's trail: push. -/
namespace Go.Proofs.YtjghcaghigebjaaGreatDoor
open Go Go.RowKit

/-- Below lo, and on the spared blocks, nothing turned. -/
def BelowS (lo : Nat) (S : Nat → Prop) (w w' : World) : Prop := Below lo w w' ∧ ∀ x, S x → w'.heap[x]? = w.heap[x]?
theorem BelowS.refl (lo : Nat) (S : Nat → Prop) (w : World) : BelowS lo S w w := ⟨Below.refl _ _, fun _ _ => rfl⟩
theorem BelowS.trans {lo : Nat} {S : Nat → Prop} {w w' w'' : World} (h : BelowS lo S w w') (h' : BelowS lo S w' w'') : BelowS lo S w w'' := ⟨h.1.trans h'.1, fun x hx => (h'.2 x hx).trans (h.2 x hx)⟩
theorem BelowS.of {lo : Nat} {S : Nat → Prop} {w w' : World} (h : Below w.heap.size w w') (hlo : lo ≤ w.heap.size) (hS : ∀ x, S x → x < w.heap.size) : BelowS lo S w w' := ⟨h.mono hlo, fun x hx => h.block x (hS x hx)⟩
theorem PlacesOk.snoc {M : Nat} {put pl : List Int} (h : PlacesOk M put pl) {l : Int} (h0 : l ≠ 0) (h1 : -(M : Int) ≤ l) (h2 : l ≤ M) (h3 : l ∉ put) (h4 : -l ∉ put) : PlacesOk M (put ++ [l]) (pl.set l.natAbs ((put.length : Int) + 1)) := by
  refine ⟨by rw [List.length_set]; exact h.1, fun v hv1 hv2 => ?_⟩
  by_cases e : l.natAbs = v
  · refine .inl ⟨put.length, by simp, by simp [e], ?_⟩
    rw [← e, List.getElem?_set_self (by rw [h.1]; omega)]
  · rw [List.getElem?_set_ne e]
    rcases h.2 v hv1 hv2 with ⟨k, hk, hk1, hk2⟩ | ⟨hn, hk2⟩
    · exact .inl ⟨k, by simp; omega, by rw [List.getElem_append_left hk]; exact hk1, hk2⟩
    · refine .inr ⟨fun x hx => ?_, hk2⟩
      rcases List.mem_append.1 hx with hx | hx
      · exact hn x hx
      · rw [List.mem_singleton.1 hx]; exact e
end Go.Proofs.YtjghcaghigebjaaGreatDoor

/-! Draws of clauses: l4Draw, l5Clause. -/
namespace Go.Proofs.YtjghcaghigebjaaGreatDoor
open Go Go.RowKit

theorem OwnI.ab {S : Nat → Prop} {w : World} {base c : Nat} {A : Option Addr} {xs : List Int} (h : OwnI w base (.slice A xs.length c) xs) (hr : ∀ b, S b → b < base) : Lay.int.Sl w (Ab S w) A xs := by
  obtain ⟨A', c', e, h1, h2⟩ := h.form
  injection e with e1 e2 e3
  subst e1
  exact h2.mono fun b hb => ⟨hb.2, fun e => by have := hr b e; have := hb.1; omega⟩
theorem own_lit0I (w : World) : OwnI (w.alloc (.cells #[] 3)) w.heap.size (.slice (some ⟨w.heap.size, 0, none⟩) 0 0) [] := own_lit0 rfl

end Go.Proofs.YtjghcaghigebjaaGreatDoor

/-! The reference's l7Fill and l7Turn. -/
namespace Go.Proofs.YtjghcaghigebjaaGreatDoor
open Go Go.RowKit

/-- A new row. -/
def RetNw (xs : List Int) (w : World) (e : Ending) (w' : World) : Prop := ∃ B d, e = .returned (.slice B xs.length d) ∧ xs.length ≤ d ∧ Lay.int.Sl w' (Own w.heap.size w') B xs ∧ Below w.heap.size w w'
theorem take_step' {α : Type} {l : List α} {j : Nat} {x : α} (h : l[j]? = some x) : l.take (j + 1) = l.take j ++ [x] := by
  rw [List.take_add_one, h]; rfl
set_option maxRecDepth 100000 in
set_option maxHeartbeats 2000000 in
theorem l7Turn_any (X : Option Addr) (c : Nat) (xs : List Int) (w : World) (hX : Lay.int.Rd w X xs) (hxi : ∀ x ∈ xs, RB x) (hn : xs.length ≤ 500) :
    Calls Tryz.prog 105 #[.slice X xs.length c] w (RetNw (xs.map Neg.neg) w) := by
  have hal : Below w.heap.size w (w.alloc (.cells #[] 3)) := (Below.refl _ _).alloc (Nat.le_refl _) _
  have hown0 : OwnI (w.alloc (.cells #[] 3)) w.heap.size (.slice (some ⟨w.heap.size, 0, none⟩) ([] : List Int).length 0) [] := own_lit0I w
  have HX := Lib.hid hX
  have HXI := Lib.hid hxi
  clear hX hxi
  go_enter Tryz.func105, Tryz.ntmps105
  go_wp2
  go_loopw [3, 4] (fun s i wr => ∃ (j : Nat) (l : List Int) (B : Option Addr) (d : Nat), j ≤ xs.length ∧ i = .int .i64 j ∧ s = .slice B l.length d ∧ l.length = j ∧ l = (xs.map Neg.neg).take j ∧ OwnI wr w.heap.size (.slice B l.length d) l ∧ Below w.heap.size w wr) (fun _ i _ => xs.length - (intOf i).toNat)
  case atStart => exact ⟨0, [], _, 0, Nat.zero_le _, rfl, rfl, rfl, rfl, hown0, hal⟩
  case round =>
    obtain ⟨j, l, B, d, hj, rfl, rfl, hlj, hle, hown, hbr⟩ := hrel
    have HLE := Lib.hid hle
    have HLJ := Lib.hid hlj
    have hl3 : l.length ≤ 1000 := by omega
    have hws : w.heap.size ≤ wr.heap.size := hbr.size
    clear hle hlj
    by_cases hlt : j < xs.length
    · have hlt2 : (j : Int) < xs.length := by omega
      have hxi := HXI.out _ (List.getElem_mem hlt)
      obtain ⟨ad, rfl, -, hcell⟩ := (HX.out.up hbr).at_int hlt
      have HXT := Lib.hid (show (xs.map Neg.neg)[j]? = some (-xs[j]) by rw [List.getElem?_map, List.getElem?_eq_getElem hlt]; rfl)
      obtain ⟨x, hx⟩ : ∃ x, x = xs[j] := ⟨_, rfl⟩
      rw [← hx] at hcell hxi HXT
      clear hx
      obtain ⟨hx0, hx1⟩ := hxi
      obtain ⟨l2, hl2⟩ : ∃ l2, l2 = l ++ [(-x)] := ⟨_, rfl⟩
      have HL2 := Lib.hid hl2
      clear hl2
      go_wp2_with (at_builtin; refine wpList_append_int8 (ys := l2) (by rfl) (.tmp 12) (.tmp 18) (by rfl) (by rfl) (by rfl) hown (by omega) hws HL2.out ?_; intro B3 d3 w3 hown3 hg3 hbk3)
      have hb3 := hbr.grown hg3 hbr.size fun g e => (hown.lt g e).1
      clear hbk3 hg3 hown hbr
      go_roundw
      case rel => exact ⟨j + 1, l2, B3, d3, by omega, by go_num, rfl, by rw [HL2.out, List.length_append, HLJ.out]; rfl, by
          rw [HL2.out, HLE.out]
          exact (take_step' HXT.out).symm, hown3, hb3⟩
      case measure => simp [intOf]; omega
    · have hje : j = xs.length := by omega
      have hfin : l = xs.map Neg.neg := by rw [HLE.out, hje]; exact List.take_of_length_le (by simp)
      go_wp2
      go_ret
      rw [← hfin]
      exact ⟨B, d, rfl, hown.cap, hown.own, hbr⟩
end Go.Proofs.YtjghcaghigebjaaGreatDoor

/-! The reference's l7Add. -/
namespace Go.Proofs.YtjghcaghigebjaaGreatDoor
open Go Go.RowKit

theorem run_sum {σ : Type} {o : Ops σ} (xs ys : List Int) (k : Nat) (x y : Int) (hx : xs[k]? = some x) (hy : ys[k]? = some y) (s : σ) (c : Int) (l : List Int) :
    (let r := run o (sumP (xs.drop k) (ys.drop k) c) s; (r.1, l ++ r.2)) = (let m := o.xor s x y; let u := o.xor m.1 m.2 c; let p := o.and u.1 x y; let q := o.and p.1 m.2 c; let g := run o (orP p.2 q.2) q.1; let r := run o (sumP (xs.drop (k + 1)) (ys.drop (k + 1)) g.2) g.1; (r.1, (l ++ [u.2]) ++ r.2)) := by
  obtain ⟨hk, rfl⟩ := List.getElem?_eq_some_iff.1 hx
  obtain ⟨hk', rfl⟩ := List.getElem?_eq_some_iff.1 hy
  rw [List.drop_eq_getElem_cons hk, List.drop_eq_getElem_cons hk']
  simp only [sumP, run_bind, run, List.append_assoc, List.singleton_append]
theorem or_rb {x y : Int} {k : N × Bool} (h : NB k.1) (hx : RB x) (hy : RB y) : NB (run opsR (orP x y) k).1.1 ∧ RB (run opsR (orP x y) k).2 := by
  have h3 : NB (opsR.and k (-x) (-y)).1.1 ∧ RB (opsR.and k (-x) (-y)).2 := stepR_nb h (and1_nb h hx.neg hy.neg)
  exact ⟨h3.1, h3.2.neg⟩
theorem wpList_append_int7 {Q : Exit → Act → World → Prop} {ops : Array Oper} {rest : List Oper} {o : Oper} {a : Act} {W : World} {lo b : Nat} {A : Option Addr} {c : Nat} {xs ys : List Int} {x : Int} {e' : TypeId} (hgd : o.guard = none) (s y : Operand)
    (ho : o.op = .call { callee := .builtin .append, args := #[s, y], argTypes := #[34, 34] }) (hs : a.eval s = .slice A xs.length c) (hy : a.eval y = .slice (some ⟨b, 0, none⟩) 1 1) (hb : b = W.heap.size)
    (hown : OwnI W lo (.slice A xs.length c) xs) (hn : xs.length ≤ 2000000) (hlo : lo ≤ W.heap.size) (hys : ys = xs ++ [x])
    (h : ∀ A' c' w', OwnI w' lo (.slice A' ys.length c') ys → W.grownBy w' (Value.slice A xs.length c).ownBlock →
      ((Value.slice A' ys.length c').ownBlock = (Value.slice A xs.length c).ownBlock ∨ ∃ g, (Value.slice A' ys.length c').ownBlock = some g ∧ W.heap.size ≤ g) → wpList Tryz.prog ops Q rest (a.put o.dst (.slice A' ys.length c')) w') :
    wpList Tryz.prog ops Q (o :: rest) a (W.alloc (.cells #[.int .i64 x] e')) := by
  subst hb; exact wpList_append_int8 hgd s y ho hs hy hown hn hlo hys h
/-- The variable of a net with room, the result's cells, and a row of the call's own. -/
structure AddI (F : Nat → Prop) (w x : World) (k : N × Bool) (A : Option Addr) (c : Nat) (B : Option Addr) (d : Nat) (l : List Int) : Prop where
  ks : KS2 F w x k A c (fun b => (Value.slice B l.length d).ownBlock = some b)
  own : OwnI x (w.heap.size + 2) (.slice B l.length d) l
theorem AddI.up {F : Nat → Prop} {w x x' : World} {k : N × Bool} {A : Option Addr} {c : Nat} {B : Option Addr} {d : Nat} {l : List Int} (h : AddI F w x k A c B d l) (hF : ∀ b, F b → b < w.heap.size) (hb : Below x.heap.size x x') : AddI F w x' k A c B d l := ⟨h.ks.up hF hb, h.own.up hb⟩
theorem AddI.set {F : Nat → Prop} {w x : World} {k k' : N × Bool} {A A' : Option Addr} {c c' : Nat} {B : Option Addr} {d : Nat} {l : List Int} (h : AddI F w x k A c B d l) (hF : ∀ b, F b → b < w.heap.size) (hs : Lay.gate.Sl x (G2 F w x (fun b => (Value.slice B l.length d).ownBlock = some b)) A' k'.1.gs) (hn : A' = none → k'.1.gs.length = 0) :
    AddI F w (st3 x w.heap.size (.int .i64 k'.1.ins) (.slice A' k'.1.gs.length c') (.bool k'.2)) k' A' c' B d l := by
  have hgr : x.grownBy (st3 x w.heap.size (.int .i64 k'.1.ins) (.slice A' k'.1.gs.length c') (.bool k'.2)) (some w.heap.size) := only_setCell (only_setCell (only_setCell (World.grownBy.refl _ _) _ _) _ _) _ _
  exact ⟨h.ks.set hF hs hn, own_of_heap h.own fun g hg => hgr.block g (h.own.lt g hg).2 (fun e => by injection e with e; have := (h.own.lt g hg).1; omega)⟩
theorem AddI.call {F : Nat → Prop} {w x x' : World} {k k' : N × Bool} {A A' : Option Addr} {c c' : Nat} {B : Option Addr} {d : Nat} {l : List Int} (h : AddI F w x k A c B d l) (hF : ∀ b, F b → b < w.heap.size) (hs : Lay.gate.Sl x' (fun b => G2 F w x (fun b => (Value.slice B l.length d).ownBlock = some b) b ∨ (x.heap.size ≤ b ∧ b < x'.heap.size)) A' k'.1.gs) (hb : Below x.heap.size x x') (hn : A' = none → k'.1.gs.length = 0) :
    AddI F w (st3 x' w.heap.size (.int .i64 k'.1.ins) (.slice A' k'.1.gs.length c') (.bool k'.2)) k' A' c' B d l := by
  refine (h.up hF hb).set hF (hs.mono fun b hb' => ?_) hn
  have hr := lt_of_block h.ks.res
  rcases hb' with (h9 | h9) | h9
  · exact .inl h9
  · exact .inr ⟨h9.1, Nat.lt_of_lt_of_le h9.2.1 hb.size, h9.2.2⟩
  · exact .inr ⟨by omega, h9.2, fun e => by have := (h.own.lt b e).2; omega⟩
def ATup (F S : Nat → Prop) (w : World) (m : (N × Bool) × Int) (v : Value) (z : World) : Prop := ∃ A2 c2, v = .tuple #[.agg #[.int .i64 m.1.1.ins, .slice A2 m.1.1.gs.length c2, .bool m.1.2], .int .i64 m.2] ∧ (A2 = none → m.1.1.gs.length = 0) ∧ Lay.gate.Sl z (G2 F w z S) A2 m.1.1.gs ∧ w.heap.size ≤ z.heap.size
def ANet (F S : Nat → Prop) (w : World) (m : (N × Bool) × Int) (v : Value) (z : World) : Prop := ∃ A2 c2, v = .agg #[.int .i64 m.1.1.ins, .slice A2 m.1.1.gs.length c2, .bool m.1.2] ∧ (A2 = none → m.1.1.gs.length = 0) ∧ Lay.gate.Sl z (G2 F w z S) A2 m.1.1.gs ∧ w.heap.size ≤ z.heap.size
theorem g2_stS {F S : Nat → Prop} {w x y : World} {A : Option Addr} {gs : List G} (hF : ∀ b, F b → b < w.heap.size) (h3 : Lay.gate.Sl x (G2 F w x S) A gs) (h4 : w.heap.size ≤ x.heap.size) (hR : x.grownBy y (some w.heap.size)) : Lay.gate.Sl y (G2 F w y S) A gs :=
  (h3.keep fun b hb => hR.block b (hb.elim (fun h9 => Nat.lt_of_lt_of_le (hF b h9) h4) (fun h9 => h9.2.1)) (fun e => by injection e with e; exact hb.elim (fun h9 => by have := hF b h9; omega) (fun h9 => by omega))).mono fun b hb => hb.imp id fun h9 => ⟨h9.1, Nat.lt_of_lt_of_le h9.2.1 hR.size, h9.2.2⟩
theorem ATup.up {F S : Nat → Prop} {w x y : World} {m : (N × Bool) × Int} {v : Value} (hF : ∀ b, F b → b < w.heap.size) (h : ATup F S w m v x) (hb : Below x.heap.size x y) : ATup F S w m v y := by
  obtain ⟨A2, c2, h1, h2, h3, h4⟩ := h
  exact ⟨A2, c2, h1, h2, G2.up2 h3 (fun b hb => Nat.lt_of_lt_of_le (hF b hb) h4) hb, Nat.le_trans h4 hb.size⟩
theorem ATup.st {F S : Nat → Prop} {w x y : World} {m : (N × Bool) × Int} {v : Value} (hF : ∀ b, F b → b < w.heap.size) (h : ATup F S w m v x) (hR : x.grownBy y (some w.heap.size)) : ATup F S w m v y := by
  obtain ⟨A2, c2, h1, h2, h3, h4⟩ := h
  exact ⟨A2, c2, h1, h2, g2_stS hF h3 h4 hR, Nat.le_trans h4 hR.size⟩
theorem ANet.up {F S : Nat → Prop} {w x y : World} {m : (N × Bool) × Int} {v : Value} (hF : ∀ b, F b → b < w.heap.size) (h : ANet F S w m v x) (hb : Below x.heap.size x y) : ANet F S w m v y := by
  obtain ⟨A2, c2, h1, h2, h3, h4⟩ := h
  exact ⟨A2, c2, h1, h2, G2.up2 h3 (fun b hb => Nat.lt_of_lt_of_le (hF b hb) h4) hb, Nat.le_trans h4 hb.size⟩
theorem ANet.st {F S : Nat → Prop} {w x y : World} {m : (N × Bool) × Int} {v : Value} (hF : ∀ b, F b → b < w.heap.size) (h : ANet F S w m v x) (hR : x.grownBy y (some w.heap.size)) : ANet F S w m v y := by
  obtain ⟨A2, c2, h1, h2, h3, h4⟩ := h
  exact ⟨A2, c2, h1, h2, g2_stS hF h3 h4 hR, Nat.le_trans h4 hR.size⟩
set_option maxRecDepth 100000 in
set_option maxHeartbeats 8000000 in
theorem l7Add_any (F : Nat → Prop) (A : Option Addr) (c : Nat) (k : N × Bool) (c0 : Int) (X Y : Option Addr) (cx cy : Nat) (xs ys : List Int) (w : World) (h : Lay.gate.Sl w F A k.1.gs) (hF : ∀ b, F b → b < w.heap.size) (hA : A = none → k.1.gs.length = 0) (hnb : NB k.1) (hc : RB c0) (hX : Lay.int.Rd w X xs) (hY : Lay.int.Rd w Y ys) (hxm : ∀ x ∈ xs, RB x) (hym : ∀ y ∈ ys, RB y) (hl : xs.length = ys.length) (hn : xs.length ≤ 1000) :
    Calls Tryz.prog 104 #[.agg #[.int .i64 k.1.ins, .slice A k.1.gs.length c, .bool k.2], .slice X xs.length cx, .slice Y ys.length cy, .int .i64 c0] w (RetKL F w (run opsR (sumP xs ys c0) k)) := by
  obtain ⟨T, hT⟩ : ∃ T, T = run opsR (sumP xs ys c0) k := ⟨_, rfl⟩
  rw [← hT]
  have HT := Lib.hid hT
  have K0 := KS.two (c := c) h hF hA
  have HRW := Lib.hid (h.below K0.bel hF)
  have HNIL := Lib.hid hA
  have HF := Lib.hid hF
  have HNB := Lib.hid hnb
  have HX := Lib.hid hX
  have HY := Lib.hid hY
  have HXM := Lib.hid hxm
  have HYM := Lib.hid hym
  have HL := Lib.hid hl
  have HC0 := Lib.hid hc
  have K0 := Lib.hid K0
  have hX0s : ((w.alloc (.cells #[.int .i64 k.1.ins, .slice A k.1.gs.length c, .bool k.2] 95)).alloc (.cells #[.int .i64 0, .slice none 0 0, .bool false] 95)).heap.size = w.heap.size + 2 := by simp
  clear h hA hnb hX hY hxm hym hc hT
  rw [← hl]
  clear hl
  go_enter Tryz.func104, Tryz.ntmps104
  go_wp2
  generalize hX0 : (w.alloc (.cells #[.int .i64 k.1.ins, .slice A k.1.gs.length c, .bool k.2] 95)).alloc (.cells #[.int .i64 0, .slice none 0 0, .bool false] 95) = X0 at *
  clear hX0
  have hal : Below X0.heap.size X0 (X0.alloc (.cells #[] 3)) := (Below.refl _ _).alloc (Nat.le_refl _) _
  have hown0 : OwnI (X0.alloc (.cells #[] 3)) (w.heap.size + 2) (.slice (some ⟨w.heap.size + 1 + 1, 0, none⟩) 0 0) [] := own_lit0 hX0s
  have K1 := Lib.hid (K0.out.up HF.out hal)
  have HO0 := Lib.hid hown0
  have HRW := Lib.hid (HRW.out.below hal (fun b hb => by have := HF.out b hb; omega))
  clear hal hown0 K0
  go_loopw [10, 11, 3] (fun out i cv wr => ∃ (j : Nat) (k1 : N × Bool) (l : List Int) (A1 B : Option Addr) (c1 d : Nat) (cc : Int), j ≤ xs.length ∧ i = .int .i64 j ∧ out = .slice B l.length d ∧ cv = .int .i64 cc ∧ RB cc ∧ l.length = j ∧ (∀ m ∈ l, RB m) ∧ AddI F w wr k1 A1 c1 B d l ∧ NB k1.1 ∧ Hid ((let z := run opsR (sumP (xs.drop j) (ys.drop j) cc) k1; (z.1, l ++ z.2)) = T)) (fun _ i _ _ => xs.length - (intOf i).toNat)
  case atStart => exact ⟨0, k, [], A, some ⟨w.heap.size + 1 + 1, 0, none⟩, c, 0, c0, Nat.zero_le _, rfl, rfl, rfl, HC0.out, rfl, (fun _ h => by cases h), ⟨⟨K1.out.bel, K1.out.var, K1.out.res, HRW.out.mono fun _ => .inl, HNIL.out⟩, HO0.out⟩, HNB.out, Lib.hid (by rw [HT.out]; rfl)⟩
  case round =>
    obtain ⟨j, k1, l, A1, B, c1, d, cc, hj, rfl, rfl, rfl, hcc, hlj, hlm, hks, hnb1, hst⟩ := hrel
    have HCC := Lib.hid hcc
    have HLM := Lib.hid hlm
    have HKS := Lib.hid hks
    have HLJ := Lib.hid hlj
    have HNB1 := Lib.hid hnb1
    clear hlm hks hlj hnb1 hcc
    by_cases hlt : j < xs.length
    · have hlt2 : (j : Int) < xs.length := by omega
      have hlty : j < ys.length := by rw [← HL.out]; exact hlt
      obtain ⟨x, hx⟩ : ∃ x, xs[j]? = some x := ⟨_, List.getElem?_eq_getElem hlt⟩
      obtain ⟨y, hy⟩ : ∃ y, ys[j]? = some y := ⟨_, List.getElem?_eq_getElem hlty⟩
      have hxg : xs[j] = x := (List.getElem?_eq_some_iff.1 hx).2
      have hyg : ys[j] = y := (List.getElem?_eq_some_iff.1 hy).2
      have HXYM := Lib.hid (And.intro (HXM.out x (List.mem_of_getElem? hx)) (HYM.out y (List.mem_of_getElem? hy)))
      obtain ⟨adx, rfl, -, -⟩ := HX.out.at_int hlt
      obtain ⟨ady, rfl, -, -⟩ := HY.out.at_int hlty
      have HST := Lib.hid ((run_sum (o := opsR) xs ys j x y hx hy k1 cc l).symm.trans hst.out)
      have HRX : Hid (∀ z, Below w.heap.size w z → z.cell? (adx.add j) = some (.int .i64 x)) := Lib.hid fun z hz => by
        obtain ⟨ad, e, _, hc⟩ := (HX.out.up hz).at_int hlt
        injection e with e; subst e; rw [← hxg]; exact hc
      have HRY : Hid (∀ z, Below w.heap.size w z → z.cell? (ady.add j) = some (.int .i64 y)) := Lib.hid fun z hz => by
        obtain ⟨ad, e, _, hc⟩ := (HY.out.up hz).at_int hlty
        injection e with e; subst e; rw [← hyg]; exact hc
      have hll : l.length ≤ 1000 := by have := HLJ.out; omega
      clear hx hy hxg hyg hst hlty
      obtain ⟨m, h9⟩ : ∃ m, m = opsR.xor k1 x y := ⟨_, rfl⟩
      have HM := Lib.hid h9
      have HMB : Hid (NB m.1.1 ∧ RB m.2) := Lib.hid (by rw [h9]; exact opsR_xor_nb HNB1.out HXYM.out.1 HXYM.out.2)
      clear h9
      obtain ⟨u, h9⟩ : ∃ u, u = opsR.xor m.1 m.2 cc := ⟨_, rfl⟩
      have HU := Lib.hid h9
      have HUB : Hid (NB u.1.1 ∧ RB u.2) := Lib.hid (by rw [h9]; exact opsR_xor_nb HMB.out.1 HMB.out.2 HCC.out)
      clear h9
      obtain ⟨p, h9⟩ : ∃ p, p = opsR.and u.1 x y := ⟨_, rfl⟩
      have HP := Lib.hid h9
      have HPB : Hid (NB p.1.1 ∧ RB p.2) := Lib.hid (by rw [h9]; exact opsR_and_nb HUB.out.1 HXYM.out.1 HXYM.out.2)
      clear h9
      obtain ⟨q, h9⟩ : ∃ q, q = opsR.and p.1 m.2 cc := ⟨_, rfl⟩
      have HQ := Lib.hid h9
      have HQB : Hid (NB q.1.1 ∧ RB q.2) := Lib.hid (by rw [h9]; exact opsR_and_nb HPB.out.1 HMB.out.2 HCC.out)
      clear h9
      obtain ⟨g, h9⟩ : ∃ g, g = run opsR (orP p.2 q.2) q.1 := ⟨_, rfl⟩
      have HG := Lib.hid h9
      have HGB : Hid (NB g.1.1 ∧ RB g.2) := Lib.hid (by rw [h9]; exact or_rb HQB.out.1 HPB.out.2 HQB.out.2)
      clear h9
      have HST : Hid ((let r := run opsR (sumP (xs.drop (j + 1)) (ys.drop (j + 1)) g.2) g.1; (r.1, (l ++ [u.2]) ++ r.2)) = T) := Lib.hid (by rw [HG.out, HQ.out, HP.out, HU.out, HM.out]; exact HST.out)
      obtain ⟨l2, hl2⟩ : ∃ l2, l2 = l ++ [u.2] := ⟨_, rfl⟩
      have HL2 := Lib.hid hl2
      clear hl2
      go_wp2
      refine wp_region_rel4 [[], [], [], [(1, 25), (2, 26)], [(3, 27)], [], [], [(5, 29), (6, 30)], [(7, 31)], [(0, 24), (4, 28), (8, 32)], [(9, 33)], [(10, 23)], [(10, 23)], [(11, 34)], [(12, 35)]]
        (fun x9 y9 => Below x9.heap.size x9 y9)
        [(13, fun x9 y9 => x9.grownBy y9 (some w.heap.size))]
        (fun f9 x9 => (f9 13 = false → AddI F w x9 k1 A1 c1 B d l) ∧ (f9 13 = true → ∃ A9 c9, AddI F w x9 m.1 A9 c9 B d l) ∧ Below w.heap.size w x9)
        [fun vs9 _ => vs9 0 = (.agg #[.int .i64 k1.1.ins, .slice A1 k1.1.gs.length c1, .bool k1.2]),
    fun vs9 _ => vs9 1 = (.slice (some adx) xs.length cx),
    fun vs9 _ => vs9 2 = (.int .i64 (j : Int)),
    fun vs9 _ => vs9 3 = (.pointer (some (adx.add j))),
    fun vs9 _ => vs9 4 = (.int .i64 x),
    fun vs9 _ => vs9 5 = (.slice (some ady) xs.length cy),
    fun vs9 _ => vs9 6 = (.int .i64 (j : Int)),
    fun vs9 _ => vs9 7 = (.pointer (some (ady.add j))),
    fun vs9 _ => vs9 8 = (.int .i64 y),
    fun vs9 y9 => (fun v z => ATup F (fun b => (Value.slice B l.length d).ownBlock = some b) w m v z) (vs9 9) y9,
    fun vs9 y9 => (fun v z => ATup F (fun b => (Value.slice B l.length d).ownBlock = some b) w m v z) (vs9 10) y9,
    fun vs9 y9 => (fun v z => ANet F (fun b => (Value.slice B l.length d).ownBlock = some b) w m v z) (vs9 11) y9,
    fun vs9 _ => vs9 12 = (.int .i64 m.2),
    fun _ _ => True,
    fun vs9 _ => vs9 14 = (.int .i64 m.2)]
        [(0, 24), (1, 25), (2, 26), (3, 27), (4, 28), (5, 29), (6, 30), (7, 31), (8, 32), (9, 33), (10, 23), (11, 34), (12, 35), (14, 12)] (by kernel_rfl) (by kernel_rfl) (by kernel_rfl) (by kernel_rfl)
        (fun _ => Below.refl _ _) ⟨fun _ => World.grownBy.refl _ _, trivial⟩
        ⟨⟨.inr (fun _ _ _ h _ => h), ⟨.inr (.inr (fun _ _ _ h _ => h)), trivial⟩⟩,
    ⟨.inr (fun _ _ _ h _ => h), ⟨.inr (.inr (fun _ _ _ h _ => h)), trivial⟩⟩,
    ⟨.inr (fun _ _ _ h _ => h), ⟨.inr (.inr (fun _ _ _ h _ => h)), trivial⟩⟩,
    ⟨.inr (fun _ _ _ h _ => h), ⟨.inr (.inr (fun _ _ _ h _ => h)), trivial⟩⟩,
    ⟨.inr (fun _ _ _ h _ => h), ⟨.inr (.inr (fun _ _ _ h _ => h)), trivial⟩⟩,
    ⟨.inr (fun _ _ _ h _ => h), ⟨.inr (.inr (fun _ _ _ h _ => h)), trivial⟩⟩,
    ⟨.inr (fun _ _ _ h _ => h), ⟨.inr (.inr (fun _ _ _ h _ => h)), trivial⟩⟩,
    ⟨.inr (fun _ _ _ h _ => h), ⟨.inr (.inr (fun _ _ _ h _ => h)), trivial⟩⟩,
    ⟨.inr (fun _ _ _ h _ => h), ⟨.inr (.inr (fun _ _ _ h _ => h)), trivial⟩⟩,
    ⟨.inr (fun vs9 x9 y9 h9 hR9 => (show ∀ v9 y8 y7, (fun v z => ATup F (fun b => (Value.slice B l.length d).ownBlock = some b) w m v z) v9 y8 → (fun x9 y9 => Below x9.heap.size x9 y9) y8 y7 → (fun v z => ATup F (fun b => (Value.slice B l.length d).ownBlock = some b) w m v z) v9 y7 from fun _ _ _ h9 hR => h9.up HF.out hR) (vs9 9) x9 y9 h9 hR9), ⟨.inr (.inr (fun vs9 x9 y9 h9 hR9 => (show ∀ v9 y8 y7, (fun v z => ATup F (fun b => (Value.slice B l.length d).ownBlock = some b) w m v z) v9 y8 → (fun x9 y9 => x9.grownBy y9 (some w.heap.size)) y8 y7 → (fun v z => ATup F (fun b => (Value.slice B l.length d).ownBlock = some b) w m v z) v9 y7 from fun _ _ _ h9 hR => h9.st HF.out hR) (vs9 9) x9 y9 h9 hR9)), trivial⟩⟩,
    ⟨.inr (fun vs9 x9 y9 h9 hR9 => (show ∀ v9 y8 y7, (fun v z => ATup F (fun b => (Value.slice B l.length d).ownBlock = some b) w m v z) v9 y8 → (fun x9 y9 => Below x9.heap.size x9 y9) y8 y7 → (fun v z => ATup F (fun b => (Value.slice B l.length d).ownBlock = some b) w m v z) v9 y7 from fun _ _ _ h9 hR => h9.up HF.out hR) (vs9 10) x9 y9 h9 hR9), ⟨.inr (.inr (fun vs9 x9 y9 h9 hR9 => (show ∀ v9 y8 y7, (fun v z => ATup F (fun b => (Value.slice B l.length d).ownBlock = some b) w m v z) v9 y8 → (fun x9 y9 => x9.grownBy y9 (some w.heap.size)) y8 y7 → (fun v z => ATup F (fun b => (Value.slice B l.length d).ownBlock = some b) w m v z) v9 y7 from fun _ _ _ h9 hR => h9.st HF.out hR) (vs9 10) x9 y9 h9 hR9)), trivial⟩⟩,
    ⟨.inr (fun vs9 x9 y9 h9 hR9 => (show ∀ v9 y8 y7, (fun v z => ANet F (fun b => (Value.slice B l.length d).ownBlock = some b) w m v z) v9 y8 → (fun x9 y9 => Below x9.heap.size x9 y9) y8 y7 → (fun v z => ANet F (fun b => (Value.slice B l.length d).ownBlock = some b) w m v z) v9 y7 from fun _ _ _ h9 hR => h9.up HF.out hR) (vs9 11) x9 y9 h9 hR9), ⟨.inr (.inr (fun vs9 x9 y9 h9 hR9 => (show ∀ v9 y8 y7, (fun v z => ANet F (fun b => (Value.slice B l.length d).ownBlock = some b) w m v z) v9 y8 → (fun x9 y9 => x9.grownBy y9 (some w.heap.size)) y8 y7 → (fun v z => ANet F (fun b => (Value.slice B l.length d).ownBlock = some b) w m v z) v9 y7 from fun _ _ _ h9 hR => h9.st HF.out hR) (vs9 11) x9 y9 h9 hR9)), trivial⟩⟩,
    ⟨.inr (fun _ _ _ h _ => h), ⟨.inr (.inr (fun _ _ _ h _ => h)), trivial⟩⟩,
    ⟨.inr (fun _ _ _ h _ => h), ⟨.inr (.inl rfl), trivial⟩⟩,
    ⟨.inr (fun _ _ _ h _ => h), ⟨.inr (.inr (fun _ _ _ h _ => h)), trivial⟩⟩, trivial⟩ ⟨fun vs vs' x h _ hv => (by dsimp only at hv ⊢; first | (rw [← h]; exact hv) | exact hv),
    fun vs vs' x h _ hv => (by dsimp only at hv ⊢; first | (rw [← h]; exact hv) | exact hv),
    fun vs vs' x h _ hv => (by dsimp only at hv ⊢; first | (rw [← h]; exact hv) | exact hv),
    fun vs vs' x h _ hv => (by dsimp only at hv ⊢; first | (rw [← h]; exact hv) | exact hv),
    fun vs vs' x h _ hv => (by dsimp only at hv ⊢; first | (rw [← h]; exact hv) | exact hv),
    fun vs vs' x h _ hv => (by dsimp only at hv ⊢; first | (rw [← h]; exact hv) | exact hv),
    fun vs vs' x h _ hv => (by dsimp only at hv ⊢; first | (rw [← h]; exact hv) | exact hv),
    fun vs vs' x h _ hv => (by dsimp only at hv ⊢; first | (rw [← h]; exact hv) | exact hv),
    fun vs vs' x h _ hv => (by dsimp only at hv ⊢; first | (rw [← h]; exact hv) | exact hv),
    fun vs vs' x h _ hv => (by dsimp only at hv ⊢; first | (rw [← h]; exact hv) | exact hv),
    fun vs vs' x h _ hv => (by dsimp only at hv ⊢; first | (rw [← h]; exact hv) | exact hv),
    fun vs vs' x h _ hv => (by dsimp only at hv ⊢; first | (rw [← h]; exact hv) | exact hv),
    fun vs vs' x h _ hv => (by dsimp only at hv ⊢; first | (rw [← h]; exact hv) | exact hv),
    fun _ _ _ _ _ _ => trivial,
    fun vs vs' x h _ hv => (by dsimp only at hv ⊢; first | (rw [← h]; exact hv) | exact hv), trivial⟩ (⟨fun _ => HKS.out.up HF.out (below_drewN (Below.refl _ _) 1), (fun h => by cases h), bthen HKS.out.ks.bel (below_drewN (Below.refl _ _) 1)⟩) ⟨?_, ?_, ?_, ?_, ?_, ?_, ?_, ?_, ?_, ?_, ?_, ?_, ?_, ?_, ?_, trivial⟩ ?_
      · intro vals xw f hf1 hf2 hf3 hI hF
        have k13 : f 13 = false := hf3 13 (by kernel_rfl)
        clear hf2 hf3
        dsimp only [owes4, bare]
        simp only [putsD, Act.put, List.setIfInBounds_toArray, List.set_cons_zero, List.set_cons_succ]
        have hv9 := (hI.1 k13).ks.var
        have y0 := (cell_of_block hv9 0).1
        have y1 := (cell_of_block hv9 1).1
        have y2 := (cell_of_block hv9 2).1
        go_wp2
        exact ⟨rfl, rfl, ⟨fun h9 => absurd h9 (Nat.ne_of_beq_eq_false rfl), fun _ => Below.refl _ _⟩, hI⟩
      · intro vals xw f hf1 hf2 hf3 hI hF
        clear hf2 hf3
        dsimp only [owes4, bare]
        simp only [putsD, Act.put, List.setIfInBounds_toArray, List.set_cons_zero, List.set_cons_succ]
        go_wp2
        exact ⟨rfl, rfl, ⟨fun h9 => absurd h9 (Nat.ne_of_beq_eq_false rfl), fun _ => Below.refl _ _⟩, hI⟩
      · intro vals xw f hf1 hf2 hf3 hI hF
        clear hf2 hf3
        dsimp only [owes4, bare]
        simp only [putsD, Act.put, List.setIfInBounds_toArray, List.set_cons_zero, List.set_cons_succ]
        go_wp2
        exact ⟨rfl, rfl, ⟨fun h9 => absurd h9 (Nat.ne_of_beq_eq_false rfl), fun _ => Below.refl _ _⟩, hI⟩
      · intro vals xw f hf1 hf2 hf3 hI hF
        clear hf2 hf3
        simp only [saysD, List.getD_cons_zero, List.getD_cons_succ, and_true] at hF
        obtain ⟨e25, e26⟩ := hF
        dsimp only [owes4, bare]
        simp only [putsD, Act.put, List.setIfInBounds_toArray, List.set_cons_zero, List.set_cons_succ]
        simp only [e25, e26]
        go_wp2
        exact ⟨rfl, rfl, ⟨fun h9 => absurd h9 (Nat.ne_of_beq_eq_false rfl), fun _ => Below.refl _ _⟩, hI⟩
      · intro vals xw f hf1 hf2 hf3 hI hF
        clear hf2 hf3
        simp only [saysD, List.getD_cons_zero, List.getD_cons_succ, and_true] at hF
        have e27 := hF
        dsimp only [owes4, bare]
        simp only [putsD, Act.put, List.setIfInBounds_toArray, List.set_cons_zero, List.set_cons_succ]
        simp only [e27]
        have c9 := HRX.out _ hI.2.2
        go_wp2
        exact ⟨rfl, rfl, ⟨fun h9 => absurd h9 (Nat.ne_of_beq_eq_false rfl), fun _ => Below.refl _ _⟩, hI⟩
      · intro vals xw f hf1 hf2 hf3 hI hF
        clear hf2 hf3
        dsimp only [owes4, bare]
        simp only [putsD, Act.put, List.setIfInBounds_toArray, List.set_cons_zero, List.set_cons_succ]
        go_wp2
        exact ⟨rfl, rfl, ⟨fun h9 => absurd h9 (Nat.ne_of_beq_eq_false rfl), fun _ => Below.refl _ _⟩, hI⟩
      · intro vals xw f hf1 hf2 hf3 hI hF
        clear hf2 hf3
        dsimp only [owes4, bare]
        simp only [putsD, Act.put, List.setIfInBounds_toArray, List.set_cons_zero, List.set_cons_succ]
        go_wp2
        exact ⟨rfl, rfl, ⟨fun h9 => absurd h9 (Nat.ne_of_beq_eq_false rfl), fun _ => Below.refl _ _⟩, hI⟩
      · intro vals xw f hf1 hf2 hf3 hI hF
        clear hf2 hf3
        simp only [saysD, List.getD_cons_zero, List.getD_cons_succ, and_true] at hF
        obtain ⟨e29, e30⟩ := hF
        dsimp only [owes4, bare]
        simp only [putsD, Act.put, List.setIfInBounds_toArray, List.set_cons_zero, List.set_cons_succ]
        simp only [e29, e30]
        go_wp2
        exact ⟨rfl, rfl, ⟨fun h9 => absurd h9 (Nat.ne_of_beq_eq_false rfl), fun _ => Below.refl _ _⟩, hI⟩
      · intro vals xw f hf1 hf2 hf3 hI hF
        clear hf2 hf3
        simp only [saysD, List.getD_cons_zero, List.getD_cons_succ, and_true] at hF
        have e31 := hF
        dsimp only [owes4, bare]
        simp only [putsD, Act.put, List.setIfInBounds_toArray, List.set_cons_zero, List.set_cons_succ]
        simp only [e31]
        have c9 := HRY.out _ hI.2.2
        go_wp2
        exact ⟨rfl, rfl, ⟨fun h9 => absurd h9 (Nat.ne_of_beq_eq_false rfl), fun _ => Below.refl _ _⟩, hI⟩
      · intro vals xw f hf1 hf2 hf3 hI hF
        have k13 : f 13 = false := hf3 13 (by kernel_rfl)
        clear hf2 hf3
        simp only [saysD, List.getD_cons_zero, List.getD_cons_succ, and_true] at hF
        obtain ⟨e24, e28, e32⟩ := hF
        dsimp only [owes4, bare]
        simp only [putsD, Act.put, List.setIfInBounds_toArray, List.set_cons_zero, List.set_cons_succ]
        simp only [e24, e28, e32]
        have HI := Lib.hid hI
        have HK := Lib.hid (hI.1 k13)
        have hsz9 := hI.2.2.size
        clear hI
        have HC := Lib.hid (l7Xor_any (G2 F w xw (fun b => (Value.slice B l.length d).ownBlock = some b)) A1 c1 k1 x y xw HK.out.ks.row (KS2.lt HK.out.ks.bel HF.out) HK.out.ks.nil HNB1.out HXYM.out.1 HXYM.out.2)
        rw [← HM.out] at HC
        go_wp2_with fail
        refine HC.out.mono ?_
        rintro e wx ⟨A9, c9, rfl, h2, h3, h4⟩
        have H3 := Lib.hid h3
        have H4 := Lib.hid h4
        clear h3 h4 HC
        go_wp2
        refine ⟨rfl, ⟨A9, c9, rfl, h2, H3.out.mono ?_, Nat.le_trans hsz9 H4.out.size⟩, ⟨fun h9 => absurd h9 (Nat.ne_of_beq_eq_false rfl), fun _ => H4.out⟩, (fun h => (HI.out.1 h).up HF.out H4.out), (fun h => absurd (k13.symm.trans h) (by simp)), bthen HI.out.2.2 H4.out⟩
        intro b hb
        rcases hb with (h9 | h9) | h9
        · exact .inl h9
        · exact .inr ⟨h9.1, Nat.lt_of_lt_of_le h9.2.1 H4.out.size, h9.2.2⟩
        · exact .inr ⟨by have := lt_of_block HK.out.ks.res; omega, h9.2, fun e => by have := (HK.out.own.lt b e).2; omega⟩
      · intro vals xw f hf1 hf2 hf3 hI hF
        clear hf2 hf3
        simp only [saysD, List.getD_cons_zero, List.getD_cons_succ, and_true] at hF
        obtain ⟨A9, c9, e33, h2, h3, h4⟩ := hF
        dsimp only [owes4, bare]
        simp only [putsD, Act.put, List.setIfInBounds_toArray, List.set_cons_zero, List.set_cons_succ]
        simp only [e33]
        go_wp2
        exact ⟨rfl, ⟨A9, c9, rfl, h2, h3, h4⟩, ⟨fun h9 => absurd h9 (Nat.ne_of_beq_eq_false rfl), fun _ => Below.refl _ _⟩, hI⟩
      · intro vals xw f hf1 hf2 hf3 hI hF
        clear hf2 hf3
        simp only [saysD, List.getD_cons_zero, List.getD_cons_succ, and_true] at hF
        obtain ⟨A9, c9, e23, h2, h3, h4⟩ := hF
        dsimp only [owes4, bare]
        simp only [putsD, Act.put, List.setIfInBounds_toArray, List.set_cons_zero, List.set_cons_succ]
        simp only [e23]
        go_wp2
        exact ⟨rfl, ⟨A9, c9, rfl, h2, h3, h4⟩, ⟨fun h9 => absurd h9 (Nat.ne_of_beq_eq_false rfl), fun _ => Below.refl _ _⟩, hI⟩
      · intro vals xw f hf1 hf2 hf3 hI hF
        clear hf2 hf3
        simp only [saysD, List.getD_cons_zero, List.getD_cons_succ, and_true] at hF
        obtain ⟨A9, c9, e23, h2, h3, h4⟩ := hF
        dsimp only [owes4, bare]
        simp only [putsD, Act.put, List.setIfInBounds_toArray, List.set_cons_zero, List.set_cons_succ]
        simp only [e23]
        go_wp2
        exact ⟨rfl, rfl, ⟨fun h9 => absurd h9 (Nat.ne_of_beq_eq_false rfl), fun _ => Below.refl _ _⟩, hI⟩
      · intro vals xw f hf1 hf2 hf3 hI hF
        clear hf2 hf3
        simp only [saysD, List.getD_cons_zero, List.getD_cons_succ, and_true] at hF
        obtain ⟨A9, c9, e34, h2, h3, h4⟩ := hF
        dsimp only [owes4, bare]
        simp only [putsD, Act.put, List.setIfInBounds_toArray, List.set_cons_zero, List.set_cons_succ]
        simp only [e34]
        have HI := Lib.hid hI
        have HK := Lib.hid (hI.1 hf1)
        have hv9 := HK.out.ks.var
        have y0 := (cell_of_block hv9 0).1
        have y1 := (cell_of_block hv9 1).1
        have y2 := (cell_of_block hv9 2).1
        have g0 := (cell_of_block hv9 0).2
        have g1 := (cell_of_block hv9 1).2
        have g2 := (cell_of_block hv9 2).2
        have H3 := Lib.hid h3
        clear hI hv9 h3 h4
        go_wp2
        have hset := HK.out.set (c' := c9) HF.out H3.out h2
        have hgr : xw.grownBy (st3 xw w.heap.size (.int .i64 m.1.1.ins) (.slice A9 m.1.1.gs.length c9) (.bool m.1.2)) (some w.heap.size) := only_setCell (only_setCell (only_setCell (World.grownBy.refl _ _) _ _) _ _) _ _
        exact ⟨rfl, trivial, ⟨fun _ => hgr, fun h9 => absurd rfl h9⟩, fun h => absurd ((did_same f 13).symm.trans h) (by simp), fun _ => ⟨A9, c9, hset⟩, st3_below HI.out.2.2 (Nat.le_refl _) _ _ _⟩
      · intro vals xw f hf1 hf2 hf3 hI hF
        clear hf2 hf3
        simp only [saysD, List.getD_cons_zero, List.getD_cons_succ, and_true] at hF
        have e35 := hF
        dsimp only [owes4, bare]
        simp only [putsD, Act.put, List.setIfInBounds_toArray, List.set_cons_zero, List.set_cons_succ]
        simp only [e35]
        go_wp2
        exact ⟨rfl, rfl, ⟨fun h9 => absurd h9 (Nat.ne_of_beq_eq_false rfl), fun _ => Below.refl _ _⟩, hI⟩
      · intro vals xw f hall hI hF
        rw [show List.range _ = [0, 1, 2, 3, 4, 5, 6, 7, 8, 9, 10, 11, 12, 13, 14] from rfl] at hF
        simp only [says, List.getD_cons_zero, List.getD_cons_succ, and_true] at hF
        obtain ⟨A2, c2, hk2⟩ := hI.2.1 (hall 13 (by decide))
        have e9 : vals 14 = .int .i64 m.2 := by obtain ⟨_, _, _, _, _, _, _, _, _, _, _, _, _, _, e9⟩ := hF; exact e9
        have K2 := Lib.hid hk2
        clear hF hk2 hI
        simp only [putsD, Act.put, List.setIfInBounds_toArray, List.set_cons_zero, List.set_cons_succ]
        simp only [e9]
        clear e9
        have hv9 := K2.out.ks.var
        have y0 := (cell_of_block hv9 0).1
        have y1 := (cell_of_block hv9 1).1
        have y2 := (cell_of_block hv9 2).1
        clear hv9
        have HC := Lib.hid (l7Xor_any _ A2 c2 m.1 m.2 cc _ K2.out.ks.row (KS2.lt K2.out.ks.bel HF.out) K2.out.ks.nil HMB.out.1 HMB.out.2 HCC.out)
        rw [← HU.out] at HC
        go_wp2_with fail
        refine HC.out.mono ?_
        rintro e z3 ⟨A3, c3, rfl, hn9, hs9, hb9⟩
        have hv9 := (hb9.block _ (lt_of_block K2.out.ks.var)).trans K2.out.ks.var
        clear y0 y1 y2 HC
        have y0 := (cell_of_block hv9 0).1
        have y1 := (cell_of_block hv9 1).1
        have y2 := (cell_of_block hv9 2).1
        have g0 := (cell_of_block hv9 0).2
        have g1 := (cell_of_block hv9 1).2
        have g2 := (cell_of_block hv9 2).2
        have K9 := K2.out.call (c' := c3) HF.out hs9 hb9 hn9
        dsimp only [st3] at K9
        have K3 := Lib.hid K9
        clear K9 hs9 hb9 hn9 hv9 K2
        go_wp2
        generalize hX3 : ((z3.setCell ⟨w.heap.size, 0, none⟩ (.int .i64 u.1.1.ins)).setCell ⟨w.heap.size, 1, none⟩ (.slice A3 u.1.1.gs.length c3)).setCell ⟨w.heap.size, 2, none⟩ (.bool u.1.2) = X3 at *
        clear hX3 y0 y1 y2 g0 g1 g2
        refine wp_region_rel4 [[], [], [], [(1, 45), (2, 46)], [(3, 47)], [], [], [(5, 49), (6, 50)], [(7, 51)], [(0, 44), (4, 48), (8, 52)], [(9, 53)], [(10, 43)], [(10, 43)], [(11, 54)], [(12, 55)]]
          (fun x9 y9 => Below x9.heap.size x9 y9)
          [(13, fun x9 y9 => x9.grownBy y9 (some w.heap.size))]
          (fun f9 x9 => (f9 13 = false → AddI F w x9 u.1 A3 c3 B d l) ∧ (f9 13 = true → ∃ A9 c9, AddI F w x9 p.1 A9 c9 B d l) ∧ Below w.heap.size w x9)
          [fun vs9 _ => vs9 0 = (.agg #[.int .i64 u.1.1.ins, .slice A3 u.1.1.gs.length c3, .bool u.1.2]),
    fun vs9 _ => vs9 1 = (.slice (some adx) xs.length cx),
    fun vs9 _ => vs9 2 = (.int .i64 (j : Int)),
    fun vs9 _ => vs9 3 = (.pointer (some (adx.add j))),
    fun vs9 _ => vs9 4 = (.int .i64 x),
    fun vs9 _ => vs9 5 = (.slice (some ady) xs.length cy),
    fun vs9 _ => vs9 6 = (.int .i64 (j : Int)),
    fun vs9 _ => vs9 7 = (.pointer (some (ady.add j))),
    fun vs9 _ => vs9 8 = (.int .i64 y),
    fun vs9 y9 => (fun v z => ATup F (fun b => (Value.slice B l.length d).ownBlock = some b) w p v z) (vs9 9) y9,
    fun vs9 y9 => (fun v z => ATup F (fun b => (Value.slice B l.length d).ownBlock = some b) w p v z) (vs9 10) y9,
    fun vs9 y9 => (fun v z => ANet F (fun b => (Value.slice B l.length d).ownBlock = some b) w p v z) (vs9 11) y9,
    fun vs9 _ => vs9 12 = (.int .i64 p.2),
    fun _ _ => True,
    fun vs9 _ => vs9 14 = (.int .i64 p.2)]
          [(0, 44), (1, 45), (2, 46), (3, 47), (4, 48), (5, 49), (6, 50), (7, 51), (8, 52), (9, 53), (10, 43), (11, 54), (12, 55), (14, 14)] (by kernel_rfl) (by kernel_rfl) (by kernel_rfl) (by kernel_rfl)
          (fun _ => Below.refl _ _) ⟨fun _ => World.grownBy.refl _ _, trivial⟩
          ⟨⟨.inr (fun _ _ _ h _ => h), ⟨.inr (.inr (fun _ _ _ h _ => h)), trivial⟩⟩,
    ⟨.inr (fun _ _ _ h _ => h), ⟨.inr (.inr (fun _ _ _ h _ => h)), trivial⟩⟩,
    ⟨.inr (fun _ _ _ h _ => h), ⟨.inr (.inr (fun _ _ _ h _ => h)), trivial⟩⟩,
    ⟨.inr (fun _ _ _ h _ => h), ⟨.inr (.inr (fun _ _ _ h _ => h)), trivial⟩⟩,
    ⟨.inr (fun _ _ _ h _ => h), ⟨.inr (.inr (fun _ _ _ h _ => h)), trivial⟩⟩,
    ⟨.inr (fun _ _ _ h _ => h), ⟨.inr (.inr (fun _ _ _ h _ => h)), trivial⟩⟩,
    ⟨.inr (fun _ _ _ h _ => h), ⟨.inr (.inr (fun _ _ _ h _ => h)), trivial⟩⟩,
    ⟨.inr (fun _ _ _ h _ => h), ⟨.inr (.inr (fun _ _ _ h _ => h)), trivial⟩⟩,
    ⟨.inr (fun _ _ _ h _ => h), ⟨.inr (.inr (fun _ _ _ h _ => h)), trivial⟩⟩,
    ⟨.inr (fun vs9 x9 y9 h9 hR9 => (show ∀ v9 y8 y7, (fun v z => ATup F (fun b => (Value.slice B l.length d).ownBlock = some b) w p v z) v9 y8 → (fun x9 y9 => Below x9.heap.size x9 y9) y8 y7 → (fun v z => ATup F (fun b => (Value.slice B l.length d).ownBlock = some b) w p v z) v9 y7 from fun _ _ _ h9 hR => h9.up HF.out hR) (vs9 9) x9 y9 h9 hR9), ⟨.inr (.inr (fun vs9 x9 y9 h9 hR9 => (show ∀ v9 y8 y7, (fun v z => ATup F (fun b => (Value.slice B l.length d).ownBlock = some b) w p v z) v9 y8 → (fun x9 y9 => x9.grownBy y9 (some w.heap.size)) y8 y7 → (fun v z => ATup F (fun b => (Value.slice B l.length d).ownBlock = some b) w p v z) v9 y7 from fun _ _ _ h9 hR => h9.st HF.out hR) (vs9 9) x9 y9 h9 hR9)), trivial⟩⟩,
    ⟨.inr (fun vs9 x9 y9 h9 hR9 => (show ∀ v9 y8 y7, (fun v z => ATup F (fun b => (Value.slice B l.length d).ownBlock = some b) w p v z) v9 y8 → (fun x9 y9 => Below x9.heap.size x9 y9) y8 y7 → (fun v z => ATup F (fun b => (Value.slice B l.length d).ownBlock = some b) w p v z) v9 y7 from fun _ _ _ h9 hR => h9.up HF.out hR) (vs9 10) x9 y9 h9 hR9), ⟨.inr (.inr (fun vs9 x9 y9 h9 hR9 => (show ∀ v9 y8 y7, (fun v z => ATup F (fun b => (Value.slice B l.length d).ownBlock = some b) w p v z) v9 y8 → (fun x9 y9 => x9.grownBy y9 (some w.heap.size)) y8 y7 → (fun v z => ATup F (fun b => (Value.slice B l.length d).ownBlock = some b) w p v z) v9 y7 from fun _ _ _ h9 hR => h9.st HF.out hR) (vs9 10) x9 y9 h9 hR9)), trivial⟩⟩,
    ⟨.inr (fun vs9 x9 y9 h9 hR9 => (show ∀ v9 y8 y7, (fun v z => ANet F (fun b => (Value.slice B l.length d).ownBlock = some b) w p v z) v9 y8 → (fun x9 y9 => Below x9.heap.size x9 y9) y8 y7 → (fun v z => ANet F (fun b => (Value.slice B l.length d).ownBlock = some b) w p v z) v9 y7 from fun _ _ _ h9 hR => h9.up HF.out hR) (vs9 11) x9 y9 h9 hR9), ⟨.inr (.inr (fun vs9 x9 y9 h9 hR9 => (show ∀ v9 y8 y7, (fun v z => ANet F (fun b => (Value.slice B l.length d).ownBlock = some b) w p v z) v9 y8 → (fun x9 y9 => x9.grownBy y9 (some w.heap.size)) y8 y7 → (fun v z => ANet F (fun b => (Value.slice B l.length d).ownBlock = some b) w p v z) v9 y7 from fun _ _ _ h9 hR => h9.st HF.out hR) (vs9 11) x9 y9 h9 hR9)), trivial⟩⟩,
    ⟨.inr (fun _ _ _ h _ => h), ⟨.inr (.inr (fun _ _ _ h _ => h)), trivial⟩⟩,
    ⟨.inr (fun _ _ _ h _ => h), ⟨.inr (.inl rfl), trivial⟩⟩,
    ⟨.inr (fun _ _ _ h _ => h), ⟨.inr (.inr (fun _ _ _ h _ => h)), trivial⟩⟩, trivial⟩ ⟨fun vs vs' x h _ hv => (by dsimp only at hv ⊢; first | (rw [← h]; exact hv) | exact hv),
    fun vs vs' x h _ hv => (by dsimp only at hv ⊢; first | (rw [← h]; exact hv) | exact hv),
    fun vs vs' x h _ hv => (by dsimp only at hv ⊢; first | (rw [← h]; exact hv) | exact hv),
    fun vs vs' x h _ hv => (by dsimp only at hv ⊢; first | (rw [← h]; exact hv) | exact hv),
    fun vs vs' x h _ hv => (by dsimp only at hv ⊢; first | (rw [← h]; exact hv) | exact hv),
    fun vs vs' x h _ hv => (by dsimp only at hv ⊢; first | (rw [← h]; exact hv) | exact hv),
    fun vs vs' x h _ hv => (by dsimp only at hv ⊢; first | (rw [← h]; exact hv) | exact hv),
    fun vs vs' x h _ hv => (by dsimp only at hv ⊢; first | (rw [← h]; exact hv) | exact hv),
    fun vs vs' x h _ hv => (by dsimp only at hv ⊢; first | (rw [← h]; exact hv) | exact hv),
    fun vs vs' x h _ hv => (by dsimp only at hv ⊢; first | (rw [← h]; exact hv) | exact hv),
    fun vs vs' x h _ hv => (by dsimp only at hv ⊢; first | (rw [← h]; exact hv) | exact hv),
    fun vs vs' x h _ hv => (by dsimp only at hv ⊢; first | (rw [← h]; exact hv) | exact hv),
    fun vs vs' x h _ hv => (by dsimp only at hv ⊢; first | (rw [← h]; exact hv) | exact hv),
    fun _ _ _ _ _ _ => trivial,
    fun vs vs' x h _ hv => (by dsimp only at hv ⊢; first | (rw [← h]; exact hv) | exact hv), trivial⟩ (⟨fun _ => K3.out.up HF.out (below_drewN (Below.refl _ _) 1), (fun h => by cases h), bthen K3.out.ks.bel (below_drewN (Below.refl _ _) 1)⟩) ⟨?_, ?_, ?_, ?_, ?_, ?_, ?_, ?_, ?_, ?_, ?_, ?_, ?_, ?_, ?_, trivial⟩ ?_
        · intro vals xw f hf1 hf2 hf3 hI hF
          have k13 : f 13 = false := hf3 13 (by kernel_rfl)
          clear hf2 hf3
          dsimp only [owes4, bare]
          simp only [putsD, Act.put, List.setIfInBounds_toArray, List.set_cons_zero, List.set_cons_succ]
          have hv9 := (hI.1 k13).ks.var
          have y0 := (cell_of_block hv9 0).1
          have y1 := (cell_of_block hv9 1).1
          have y2 := (cell_of_block hv9 2).1
          go_wp2
          exact ⟨rfl, rfl, ⟨fun h9 => absurd h9 (Nat.ne_of_beq_eq_false rfl), fun _ => Below.refl _ _⟩, hI⟩
        · intro vals xw f hf1 hf2 hf3 hI hF
          clear hf2 hf3
          dsimp only [owes4, bare]
          simp only [putsD, Act.put, List.setIfInBounds_toArray, List.set_cons_zero, List.set_cons_succ]
          go_wp2
          exact ⟨rfl, rfl, ⟨fun h9 => absurd h9 (Nat.ne_of_beq_eq_false rfl), fun _ => Below.refl _ _⟩, hI⟩
        · intro vals xw f hf1 hf2 hf3 hI hF
          clear hf2 hf3
          dsimp only [owes4, bare]
          simp only [putsD, Act.put, List.setIfInBounds_toArray, List.set_cons_zero, List.set_cons_succ]
          go_wp2
          exact ⟨rfl, rfl, ⟨fun h9 => absurd h9 (Nat.ne_of_beq_eq_false rfl), fun _ => Below.refl _ _⟩, hI⟩
        · intro vals xw f hf1 hf2 hf3 hI hF
          clear hf2 hf3
          simp only [saysD, List.getD_cons_zero, List.getD_cons_succ, and_true] at hF
          obtain ⟨e45, e46⟩ := hF
          dsimp only [owes4, bare]
          simp only [putsD, Act.put, List.setIfInBounds_toArray, List.set_cons_zero, List.set_cons_succ]
          simp only [e45, e46]
          go_wp2
          exact ⟨rfl, rfl, ⟨fun h9 => absurd h9 (Nat.ne_of_beq_eq_false rfl), fun _ => Below.refl _ _⟩, hI⟩
        · intro vals xw f hf1 hf2 hf3 hI hF
          clear hf2 hf3
          simp only [saysD, List.getD_cons_zero, List.getD_cons_succ, and_true] at hF
          have e47 := hF
          dsimp only [owes4, bare]
          simp only [putsD, Act.put, List.setIfInBounds_toArray, List.set_cons_zero, List.set_cons_succ]
          simp only [e47]
          have c9 := HRX.out _ hI.2.2
          go_wp2
          exact ⟨rfl, rfl, ⟨fun h9 => absurd h9 (Nat.ne_of_beq_eq_false rfl), fun _ => Below.refl _ _⟩, hI⟩
        · intro vals xw f hf1 hf2 hf3 hI hF
          clear hf2 hf3
          dsimp only [owes4, bare]
          simp only [putsD, Act.put, List.setIfInBounds_toArray, List.set_cons_zero, List.set_cons_succ]
          go_wp2
          exact ⟨rfl, rfl, ⟨fun h9 => absurd h9 (Nat.ne_of_beq_eq_false rfl), fun _ => Below.refl _ _⟩, hI⟩
        · intro vals xw f hf1 hf2 hf3 hI hF
          clear hf2 hf3
          dsimp only [owes4, bare]
          simp only [putsD, Act.put, List.setIfInBounds_toArray, List.set_cons_zero, List.set_cons_succ]
          go_wp2
          exact ⟨rfl, rfl, ⟨fun h9 => absurd h9 (Nat.ne_of_beq_eq_false rfl), fun _ => Below.refl _ _⟩, hI⟩
        · intro vals xw f hf1 hf2 hf3 hI hF
          clear hf2 hf3
          simp only [saysD, List.getD_cons_zero, List.getD_cons_succ, and_true] at hF
          obtain ⟨e49, e50⟩ := hF
          dsimp only [owes4, bare]
          simp only [putsD, Act.put, List.setIfInBounds_toArray, List.set_cons_zero, List.set_cons_succ]
          simp only [e49, e50]
          go_wp2
          exact ⟨rfl, rfl, ⟨fun h9 => absurd h9 (Nat.ne_of_beq_eq_false rfl), fun _ => Below.refl _ _⟩, hI⟩
        · intro vals xw f hf1 hf2 hf3 hI hF
          clear hf2 hf3
          simp only [saysD, List.getD_cons_zero, List.getD_cons_succ, and_true] at hF
          have e51 := hF
          dsimp only [owes4, bare]
          simp only [putsD, Act.put, List.setIfInBounds_toArray, List.set_cons_zero, List.set_cons_succ]
          simp only [e51]
          have c9 := HRY.out _ hI.2.2
          go_wp2
          exact ⟨rfl, rfl, ⟨fun h9 => absurd h9 (Nat.ne_of_beq_eq_false rfl), fun _ => Below.refl _ _⟩, hI⟩
        · intro vals xw f hf1 hf2 hf3 hI hF
          have k13 : f 13 = false := hf3 13 (by kernel_rfl)
          clear hf2 hf3
          simp only [saysD, List.getD_cons_zero, List.getD_cons_succ, and_true] at hF
          obtain ⟨e44, e48, e52⟩ := hF
          dsimp only [owes4, bare]
          simp only [putsD, Act.put, List.setIfInBounds_toArray, List.set_cons_zero, List.set_cons_succ]
          simp only [e44, e48, e52]
          have HI := Lib.hid hI
          have HK := Lib.hid (hI.1 k13)
          have hsz9 := hI.2.2.size
          clear hI
          have HC := Lib.hid (l7And_any (G2 F w xw (fun b => (Value.slice B l.length d).ownBlock = some b)) A3 c3 u.1 x y xw HK.out.ks.row (KS2.lt HK.out.ks.bel HF.out) HK.out.ks.nil HUB.out.1 HXYM.out.1 HXYM.out.2)
          rw [← HP.out] at HC
          go_wp2_with fail
          refine HC.out.mono ?_
          rintro e wx ⟨A9, c9, rfl, h2, h3, h4⟩
          have H3 := Lib.hid h3
          have H4 := Lib.hid h4
          clear h3 h4 HC
          go_wp2
          refine ⟨rfl, ⟨A9, c9, rfl, h2, H3.out.mono ?_, Nat.le_trans hsz9 H4.out.size⟩, ⟨fun h9 => absurd h9 (Nat.ne_of_beq_eq_false rfl), fun _ => H4.out⟩, (fun h => (HI.out.1 h).up HF.out H4.out), (fun h => absurd (k13.symm.trans h) (by simp)), bthen HI.out.2.2 H4.out⟩
          intro b hb
          rcases hb with (h9 | h9) | h9
          · exact .inl h9
          · exact .inr ⟨h9.1, Nat.lt_of_lt_of_le h9.2.1 H4.out.size, h9.2.2⟩
          · exact .inr ⟨by have := lt_of_block HK.out.ks.res; omega, h9.2, fun e => by have := (HK.out.own.lt b e).2; omega⟩
        · intro vals xw f hf1 hf2 hf3 hI hF
          clear hf2 hf3
          simp only [saysD, List.getD_cons_zero, List.getD_cons_succ, and_true] at hF
          obtain ⟨A9, c9, e53, h2, h3, h4⟩ := hF
          dsimp only [owes4, bare]
          simp only [putsD, Act.put, List.setIfInBounds_toArray, List.set_cons_zero, List.set_cons_succ]
          simp only [e53]
          go_wp2
          exact ⟨rfl, ⟨A9, c9, rfl, h2, h3, h4⟩, ⟨fun h9 => absurd h9 (Nat.ne_of_beq_eq_false rfl), fun _ => Below.refl _ _⟩, hI⟩
        · intro vals xw f hf1 hf2 hf3 hI hF
          clear hf2 hf3
          simp only [saysD, List.getD_cons_zero, List.getD_cons_succ, and_true] at hF
          obtain ⟨A9, c9, e43, h2, h3, h4⟩ := hF
          dsimp only [owes4, bare]
          simp only [putsD, Act.put, List.setIfInBounds_toArray, List.set_cons_zero, List.set_cons_succ]
          simp only [e43]
          go_wp2
          exact ⟨rfl, ⟨A9, c9, rfl, h2, h3, h4⟩, ⟨fun h9 => absurd h9 (Nat.ne_of_beq_eq_false rfl), fun _ => Below.refl _ _⟩, hI⟩
        · intro vals xw f hf1 hf2 hf3 hI hF
          clear hf2 hf3
          simp only [saysD, List.getD_cons_zero, List.getD_cons_succ, and_true] at hF
          obtain ⟨A9, c9, e43, h2, h3, h4⟩ := hF
          dsimp only [owes4, bare]
          simp only [putsD, Act.put, List.setIfInBounds_toArray, List.set_cons_zero, List.set_cons_succ]
          simp only [e43]
          go_wp2
          exact ⟨rfl, rfl, ⟨fun h9 => absurd h9 (Nat.ne_of_beq_eq_false rfl), fun _ => Below.refl _ _⟩, hI⟩
        · intro vals xw f hf1 hf2 hf3 hI hF
          clear hf2 hf3
          simp only [saysD, List.getD_cons_zero, List.getD_cons_succ, and_true] at hF
          obtain ⟨A9, c9, e54, h2, h3, h4⟩ := hF
          dsimp only [owes4, bare]
          simp only [putsD, Act.put, List.setIfInBounds_toArray, List.set_cons_zero, List.set_cons_succ]
          simp only [e54]
          have HI := Lib.hid hI
          have HK := Lib.hid (hI.1 hf1)
          have hv9 := HK.out.ks.var
          have y0 := (cell_of_block hv9 0).1
          have y1 := (cell_of_block hv9 1).1
          have y2 := (cell_of_block hv9 2).1
          have g0 := (cell_of_block hv9 0).2
          have g1 := (cell_of_block hv9 1).2
          have g2 := (cell_of_block hv9 2).2
          have H3 := Lib.hid h3
          clear hI hv9 h3 h4
          go_wp2
          have hset := HK.out.set (c' := c9) HF.out H3.out h2
          have hgr : xw.grownBy (st3 xw w.heap.size (.int .i64 p.1.1.ins) (.slice A9 p.1.1.gs.length c9) (.bool p.1.2)) (some w.heap.size) := only_setCell (only_setCell (only_setCell (World.grownBy.refl _ _) _ _) _ _) _ _
          exact ⟨rfl, trivial, ⟨fun _ => hgr, fun h9 => absurd rfl h9⟩, fun h => absurd ((did_same f 13).symm.trans h) (by simp), fun _ => ⟨A9, c9, hset⟩, st3_below HI.out.2.2 (Nat.le_refl _) _ _ _⟩
        · intro vals xw f hf1 hf2 hf3 hI hF
          clear hf2 hf3
          simp only [saysD, List.getD_cons_zero, List.getD_cons_succ, and_true] at hF
          have e55 := hF
          dsimp only [owes4, bare]
          simp only [putsD, Act.put, List.setIfInBounds_toArray, List.set_cons_zero, List.set_cons_succ]
          simp only [e55]
          go_wp2
          exact ⟨rfl, rfl, ⟨fun h9 => absurd h9 (Nat.ne_of_beq_eq_false rfl), fun _ => Below.refl _ _⟩, hI⟩
        · intro vals xw f hall hI hF
          rw [show List.range _ = [0, 1, 2, 3, 4, 5, 6, 7, 8, 9, 10, 11, 12, 13, 14] from rfl] at hF
          simp only [says, List.getD_cons_zero, List.getD_cons_succ, and_true] at hF
          obtain ⟨A4, c4, hk2⟩ := hI.2.1 (hall 13 (by decide))
          have e9 : vals 14 = .int .i64 p.2 := by obtain ⟨_, _, _, _, _, _, _, _, _, _, _, _, _, _, e9⟩ := hF; exact e9
          have K4 := Lib.hid hk2
          clear hF hk2 hI
          simp only [putsD, Act.put, List.setIfInBounds_toArray, List.set_cons_zero, List.set_cons_succ]
          simp only [e9]
          clear e9
          have hv9 := K4.out.ks.var
          have y0 := (cell_of_block hv9 0).1
          have y1 := (cell_of_block hv9 1).1
          have y2 := (cell_of_block hv9 2).1
          clear hv9
          have HC := Lib.hid (l7And_any _ A4 c4 p.1 m.2 cc _ K4.out.ks.row (KS2.lt K4.out.ks.bel HF.out) K4.out.ks.nil HPB.out.1 HMB.out.2 HCC.out)
          rw [← HQ.out] at HC
          go_wp2_with fail
          refine HC.out.mono ?_
          rintro e z5 ⟨A5, c5, rfl, hn9, hs9, hb9⟩
          have hv9 := (hb9.block _ (lt_of_block K4.out.ks.var)).trans K4.out.ks.var
          clear y0 y1 y2 HC
          have y0 := (cell_of_block hv9 0).1
          have y1 := (cell_of_block hv9 1).1
          have y2 := (cell_of_block hv9 2).1
          have g0 := (cell_of_block hv9 0).2
          have g1 := (cell_of_block hv9 1).2
          have g2 := (cell_of_block hv9 2).2
          have K9 := K4.out.call (c' := c5) HF.out hs9 hb9 hn9
          dsimp only [st3] at K9
          have K5 := Lib.hid K9
          clear K9 hs9 hb9 hn9 hv9 K4
          have hv9 := K5.out.ks.var
          have y0 := (cell_of_block hv9 0).1
          have y1 := (cell_of_block hv9 1).1
          have y2 := (cell_of_block hv9 2).1
          clear hv9
          have HC := Lib.hid (l7Or_any _ A5 c5 q.1 p.2 q.2 _ K5.out.ks.row (KS2.lt K5.out.ks.bel HF.out) K5.out.ks.nil HQB.out.1 HPB.out.2 HQB.out.2)
          rw [← HG.out] at HC
          go_wp2_with fail
          refine HC.out.mono ?_
          generalize hX5 : ((z5.setCell ⟨w.heap.size, 0, none⟩ (.int .i64 q.1.1.ins)).setCell ⟨w.heap.size, 1, none⟩ (.slice A5 q.1.1.gs.length c5)).setCell ⟨w.heap.size, 2, none⟩ (.bool q.1.2) = X5 at *
          clear hX5
          rintro e z6 ⟨A6, c6, rfl, hn9, hs9, hb9⟩
          have hv9 := (hb9.block _ (lt_of_block K5.out.ks.var)).trans K5.out.ks.var
          clear y0 y1 y2 HC g0 g1 g2
          have y0 := (cell_of_block hv9 0).1
          have y1 := (cell_of_block hv9 1).1
          have y2 := (cell_of_block hv9 2).1
          have g0 := (cell_of_block hv9 0).2
          have g1 := (cell_of_block hv9 1).2
          have g2 := (cell_of_block hv9 2).2
          have K9 := K5.out.call (c' := c6) HF.out hs9 hb9 hn9
          dsimp only [st3] at K9
          have K6 := Lib.hid K9
          clear K9 hs9 hb9 hn9 hv9 K5
          have hown9 := K6.out.own
          have hsz9 : w.heap.size + 2 ≤ (((z6.setCell ⟨w.heap.size, 0, none⟩ (.int .i64 g.1.1.ins)).setCell ⟨w.heap.size, 1, none⟩ (.slice A6 g.1.1.gs.length c6)).setCell ⟨w.heap.size, 2, none⟩ (.bool g.1.2)).heap.size := by have := lt_of_block K6.out.ks.res; omega
          have K6 := Lib.hid K6.out
          go_wp2_with (at_builtin; refine wpList_append_int7 (ys := l2) (by rfl) (.tmp 70) (.tmp 72) (by rfl) (by rfl) (by rfl) (by simp [World.setCell]) hown9 (by omega) hsz9 HL2.out ?_; intro B2 d2 w2 hown2 hg2 hbk2)
          have hk3 := K6.out.ks.grown (v' := .slice B2 l2.length d2) HF.out hg2 (fun g hg => (K6.out.own.lt g hg).1) hbk2
          go_roundw
          case rel => exact ⟨j + 1, g.1, l2, A6, B2, c6, d2, g.2, by omega, by go_num, rfl, rfl, HGB.out.2, by rw [HL2.out, List.length_append, HLJ.out]; rfl, fun z hz => by
              rw [HL2.out] at hz
              rcases List.mem_append.1 hz with hz | hz
              · exact HLM.out z hz
              · rw [List.mem_singleton.1 hz]; exact HUB.out.2, ⟨hk3, hown2⟩, HGB.out.1, Lib.hid (by rw [HL2.out]; exact HST.out)⟩
          case measure => simp [intOf]; omega
    · have hje : j = xs.length := by omega
      subst hje
      have hlt2 : ¬ ((xs.length : Nat) : Int) < xs.length := by omega
      have hv9 := HKS.out.ks.var
      have y0 := (cell_of_block hv9 0).1
      have y1 := (cell_of_block hv9 1).1
      have y2 := (cell_of_block hv9 2).1
      have hr9 := HKS.out.ks.res
      have r0 := (cell_of_block hr9 0).1
      have r1 := (cell_of_block hr9 1).1
      have r2 := (cell_of_block hr9 2).1
      have rf0 := (cell_of_block hr9 0).2
      have rf1 := (cell_of_block hr9 1).2
      have rf2 := (cell_of_block hr9 2).2
      clear hv9 hr9
      go_wp2
      have hs := st3_same HKS.out.ks.res (.int .i64 k1.1.ins) (.slice A1 k1.1.gs.length c1) (.bool k1.2)
      have k5 := (cell_of_block hs 0).1
      have k6 := (cell_of_block hs 1).1
      have k7 := (cell_of_block hs 2).1
      have kf5 := (cell_of_block hs 0).2
      have kf6 := (cell_of_block hs 1).2
      have kf7 := (cell_of_block hs 2).2
      refine bodyPost_ret (v := .tuple #[.agg #[.int .i64 k1.1.ins, .slice A1 k1.1.gs.length c1, .bool k1.2], .slice B l.length d]) (by simp [results, Tryz.results104, go_sem, k5, k6, k7, kf5, kf6, kf7]) rfl ?_
      have hd1 : xs.drop xs.length = [] := List.drop_length
      have hd2 : ys.drop xs.length = [] := by rw [HL.out]; exact List.drop_length
      have hst2 := hst.out
      rw [hd1, hd2] at hst2
      have hT2 : T = (k1, l) := by rw [← hst2]; show (k1, l ++ []) = _; rw [List.append_nil]
      rw [hT2]
      obtain ⟨B', d', e9, hcap, hsl⟩ := HKS.out.own.form
      injection e9 with e1 e2 e3
      subst e1 e3
      refine ⟨A1, c1, B, d, rfl, HKS.out.ks.nil, (st3_sl (h := w.heap.size + 1) HKS.out.ks.row (fun b hb => ?_) _ _ _).mono (fun b hb => ?_), hcap, (st3_sl (h := w.heap.size + 1) hsl (fun b hb => by omega) _ _ _).mono (fun b hb => by rw [st3_size]; omega), HLM.out, st3_below HKS.out.ks.bel (by omega) _ _ _⟩
      · rcases hb with hb | hb
        · have := HF.out b hb; omega
        · omega
      · rw [st3_size]
        exact hb.imp id fun h9 => ⟨by omega, h9.2.1⟩
end Go.Proofs.YtjghcaghigebjaaGreatDoor
