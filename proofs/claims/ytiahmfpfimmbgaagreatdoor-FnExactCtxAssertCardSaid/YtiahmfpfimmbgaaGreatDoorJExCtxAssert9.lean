/- The last mark of a stack. Contracts of the laws' comparisons: eqDeclS, eqTermS, eqLayerS. Contracts of the reference's TermSame and CtxSame. Contracts of the program's TermSame and CtxSame. Contexts as arguments: what comes in, one form for the program's and the reference's. The laws' texts for marks: markText. What a mark does to memory: cells of plain values turn into others of their kind, in some blocks. Copies of the call's own, made between two sizes of the heap; what stays over calls and over marks. Marks on integers. Rows of integers: what comes in, copies, comparisons, marks; one form for all. Marks on rows of bools. Declarations as arguments: sizes, copies, comparisons, marks (no bools). -/
import Derived.Test.YtiahmfpfimmbgaaGreatDoorRows
import Derived.Laws.IdiomStrings
import Derived.Test.YtiahmfpfimmbgaaGreatDoorChecked
import Derived.Test.YtiahmfpfimmbgaaGreatDoorJExCtxAssert0
import Derived.Test.YtiahmfpfimmbgaaGreatDoorJExCtxAssert1
import Derived.Test.YtiahmfpfimmbgaaGreatDoorJExCtxAssert2
import Derived.Test.YtiahmfpfimmbgaaGreatDoorJExCtxAssert4
import Derived.Test.YtiahmfpfimmbgaaGreatDoorJExCtxAssert5
import Derived.Test.YtiahmfpfimmbgaaGreatDoorJExCtxAssert7
import Derived.Test.YtiahmfpfimmbgaaGreatDoorJExCtxAssert8
/-! The last mark of a stack. -/
namespace Go.Proofs.YtiahmfpfimmbgaaGreatDoor
open Go Go.RowKit

/-- A row cut short. -/
theorem own_take {w : World} {base size n c m : Nat} {e : TypeId} {A : Option Addr} {cs : List Value} (h : w.ownsRow base e size (.slice A n c) n cs) (hm : m ≤ n) : w.ownsRow base e size (.slice A m c) m (cs.take (m * size)) := by
  obtain ⟨h1, h2⟩ := h
  have hms : m * size ≤ n * size := Nat.mul_le_mul_right _ hm
  refine ⟨by rw [List.length_take]; omega, ?_⟩
  rcases h2 with ⟨e1, e2⟩ | ⟨g, cap, cur, hv, hg, hh, hn, hcap, hsz, htake⟩
  · injection e1 with e1 e3 e4
    subst e1 e3 e4
    have : m = 0 := by omega
    subst this
    exact .inl ⟨rfl, rfl⟩
  · injection hv with e1 e3 e4
    subst e1 e4
    refine .inr ⟨g, c, cur, rfl, hg, hh, by omega, hcap, hsz, ?_⟩
    rw [← htake, List.take_take, Nat.min_eq_left hms]
theorem own_short {A : Option Addr} {n m c b : Nat} (h : (Value.slice A n c).ownBlock = some b) : (Value.slice A m c).ownBlock = some b := by
  rcases A with _ | ad
  · cases h
  · exact h
theorem OwnR.take {α : Type} {L : Lay α} {e : TypeId} {w : World} {lo c : Nat} {A : Option Addr} {xs : List α} (h : OwnR L e w lo (.slice A xs.length c) xs) (m : Nat) (hm : m ≤ xs.length) : OwnR L e w lo (.slice A (xs.take m).length c) (xs.take m) := by
  obtain ⟨cs, h1, h2⟩ := h
  have hl : (xs.take m).length = m := by rw [List.length_take]; omega
  rw [hl]
  refine ⟨cs.take (m * L.size), by rw [hl]; exact own_take h1 hm, fun i x hx => ?_⟩
  have hi : i < m := by have := (List.getElem?_eq_some_iff.1 hx).1; omega
  rw [List.getElem?_take_of_lt hi] at hx
  obtain ⟨vs, hr, hu⟩ := h2 i x hx
  refine ⟨vs, L.mono (fun b hb => ⟨hb.1, fun e9 => hb.2.1 (own_short e9), hb.2.2⟩) hr, fun j u hj => ?_⟩
  · have hjl : j < L.size := by have := (List.getElem?_eq_some_iff.1 hj).1; rwa [L.len hr] at this
    have : i * L.size + j < m * L.size := by
      have h9 : (i + 1) * L.size ≤ m * L.size := Nat.mul_le_mul_right _ hi
      rw [Nat.add_mul, Nat.one_mul] at h9
      omega
    rw [List.getElem?_take_of_lt this]
    exact hu j u hj
theorem OwnL.first {α : Type} {L : Lay α} {Q : World → Nat → Prop} {e : TypeId} {w : World} {lo c : Nat} {A : Option Addr} {xs : List α} (h : OwnL L Q e w lo (.slice A xs.length c) xs) (hx : 0 < xs.length) : ∃ g, A = some ⟨g, 0, none⟩ := by
  obtain ⟨cs, h1, _⟩ := h
  rcases h1.2 with ⟨_, h2⟩ | ⟨g, cap, cur, h1, _⟩
  · omega
  · injection h1 with h1; exact ⟨g, h1⟩
theorem add_zero9 (g m : Nat) : (⟨g, 0, none⟩ : Addr).add m = ⟨g, m, none⟩ := by
  unfold Addr.add
  split
  · rename_i e; rw [e]
  · simp
set_option maxRecDepth 100000 in
set_option maxHeartbeats 4000000 in
theorem last_any (lo p g k : Nat) (ds : List D) (ts : List T) (ms : List (Int × Int)) (A1 A2 : Option Addr) (c1 c2 c3 : Nat) (w : World) (h : Stk lo w p ds ts ms A1 A2 (some ⟨g, 0, none⟩) c1 c2 c3) (hk : ms.length = k + 1) (hkb : k ≤ 1048576) :
    Calls Tryz.prog 65 #[.pointer (some ⟨p, 0, none⟩)] w fun e w' => e = .returned (.pointer (some ⟨g, k * 2, none⟩)) ∧ Below w.heap.size w w' := by
  have v2 : w.cell? ⟨p, 2, none⟩ = some (.slice (some ⟨g, 0, none⟩) (k + 1) c3) := by rw [← hk]; exact (cell_of_block h.box 2).1
  have ha := add_zero9 g (k * 2)
  clear hk h
  go_enter Tryz.func65, Tryz.ntmps65
  go_wp2
  go_quiet (fail)
  have hb : Below w.heap.size w (w.drewN nq) := below_drewN (Below.refl _ _) nq
  go_wp2
  go_ret
  exact ⟨rfl, hb⟩
/-- The mark k is put. -/
theorem OwnR.putMark {lo w c g k j : Nat} {W : World} {ms : List (Int × Int)} {m : Int × Int} {v : Int} (h : OwnR Lay.mark 90 W lo (.slice (some ⟨g, 0, none⟩) ms.length c) ms) (hk : k < ms.length) (hj : j < 2)
    (hm : [Value.int .i64 m.1, .int .i64 m.2] = [Value.int .i64 ms[k].1, .int .i64 ms[k].2].set j (.int .i64 v)) :
    OwnR Lay.mark 90 (W.setCell ⟨g, k * 2 + j, none⟩ (.int .i64 v)) lo (.slice (some ⟨g, 0, none⟩) (ms.set k m).length c) (ms.set k m) := by
  obtain ⟨cs, h1, h2⟩ := h
  have h3 := (World.ownsRow.stored h1 (k * 2 + j) (.int .i64 v)).1
  have hcl : cs.length = ms.length * 2 := h1.1
  refine ⟨cs.set (k * 2 + j) (.int .i64 v), by rw [List.length_set]; exact h3, fun i x hx => ?_⟩
  by_cases hik : k = i
  · subst hik
    rw [List.getElem?_set_self hk] at hx
    injection hx with hx
    subst hx
    refine ⟨[.int .i64 m.1, .int .i64 m.2], rfl, fun q u hu => ?_⟩
    rw [hm] at hu
    obtain ⟨vs, hr, hc⟩ := h2 k ms[k] (List.getElem?_eq_getElem hk)
    have hr : vs = [.int .i64 ms[k].1, .int .i64 ms[k].2] := hr
    show (cs.set (k * 2 + j) _)[k * 2 + q]? = some u
    by_cases hqj : j = q
    · subst hqj
      rw [List.getElem?_set_self (by simpa using hj)] at hu
      rw [List.getElem?_set_self (by omega)]
      exact hu
    · rw [List.getElem?_set_ne hqj] at hu
      rw [List.getElem?_set_ne (by omega)]
      rw [← hr] at hu
      exact hc q u hu
  · rw [List.getElem?_set_ne hik] at hx
    obtain ⟨vs, hr, hc⟩ := h2 i x hx
    refine ⟨vs, hr, fun q u hu => ?_⟩
    have hq : q < 2 := by have := (List.getElem?_eq_some_iff.1 hu).1; have hr : vs = [.int .i64 x.1, .int .i64 x.2] := hr; rw [hr] at this; simpa using this
    show (cs.set (k * 2 + j) _)[i * 2 + q]? = some u
    rw [List.getElem?_set_ne (by omega)]
    exact hc q u hu
theorem OwnR.atMark {lo c g k : Nat} {W : World} {ms : List (Int × Int)} (h : OwnR Lay.mark 90 W lo (.slice (some ⟨g, 0, none⟩) ms.length c) ms) (hk : k < ms.length) :
    W.cell? ⟨g, k * 2, none⟩ = some (.int .i64 ms[k].1) ∧ W.cell? ⟨g, k * 2 + 1, none⟩ = some (.int .i64 ms[k].2) ∧ ∀ o, W.frozen? ⟨g, o, none⟩ = false := by
  obtain ⟨ad, e, hf, c1, c2⟩ := Lay.Sl.at_mark (OwnL.rd h) hk
  injection e with e
  subst e
  rw [add_zero9] at c1 c2
  obtain ⟨cs, h1, _⟩ := h
  exact ⟨c1, c2, fun o => World.ownsRow.frozenAt h1 o⟩
/-- A mark is stored: the stack as it is then. -/
theorem Stk.putM {lo p g k j : Nat} {w : World} {ds : List D} {ts : List T} {ms : List (Int × Int)} {A1 A2 : Option Addr} {c1 c2 c3 : Nat} {m : Int × Int} {v : Int} (h : Stk lo w p ds ts ms A1 A2 (some ⟨g, 0, none⟩) c1 c2 c3) (hk : k < ms.length) (hj : j < 2)
    (hm : [Value.int .i64 m.1, .int .i64 m.2] = [Value.int .i64 ms[k].1, .int .i64 ms[k].2].set j (.int .i64 v)) : Stk lo (w.setCell ⟨g, k * 2 + j, none⟩ (.int .i64 v)) p ds ts (ms.set k m) A1 A2 (some ⟨g, 0, none⟩) c1 c2 c3 := by
  obtain ⟨cs9, hgb⟩ := h.ms.blk (b := g) rfl
  have hbp : (w.setCell ⟨g, k * 2 + j, none⟩ (.int .i64 v)).heap[p]? = w.heap[p]? := Below.heap_setCell w ⟨g, k * 2 + j, none⟩ _ p (fun e => h.ms.ne2 h.box neSM (by show some g = some p; rw [show p = g from e]))
  have hlg := h.ms.lt g rfl
  refine ⟨h.lop, by rw [hbp, h.box, List.length_set], h.ds.set hlg.1 hgb neDM.symm, h.ts.set hlg.1 hgb neTM.symm, h.ms.putMark (w := 0) hk hj hm⟩
end Go.Proofs.YtiahmfpfimmbgaaGreatDoor

/-! Contracts of the laws' comparisons: eqDeclS, eqTermS, eqLayerS. -/
namespace Go.Proofs.YtiahmfpfimmbgaaGreatDoor
open Go Go.RowKit

theorem eqDecl_any (x y : D) (w : World) :
    Calls Tryz.prog 117 #[.agg #[.string x.name, .int .i64 x.wide], .agg #[.string y.name, .int .i64 y.wide]] w fun e w' => e = .returned (.bool (D.same x y)) ∧ Below w.heap.size w w' := by
  go_enter Tryz.func117, Tryz.ntmps117
  go_wp2
  all_goals
    go_ret
    refine ⟨ret_bool ?_, ((Below.refl _ _).alloc (Nat.le_refl _) _).alloc (by simp) _⟩
    simp_all [D.same]

set_option maxHeartbeats 1000000 in
theorem eqDeclS_any (A B : Option Addr) (c d : Nat) (xs ys : List D) (F G' : Nat → Prop) (w : World) (h : Lay.decl.Sl w F A xs) (h' : Lay.decl.Sl w G' B ys) (hF : ∀ b, F b → b < w.heap.size) (hG : ∀ b, G' b → b < w.heap.size) (hn : xs.length ≤ 1048576) (hn' : ys.length ≤ 1048576) :
    Calls Tryz.prog 95 #[.slice A xs.length c, .slice B ys.length d] w fun e w' => e = .returned (.bool (allSame D.same xs ys)) ∧ Below w.heap.size w w' := by
  by_cases hl : xs.length = ys.length
  · have hne := ne_len hl
    have HL := Lib.hid hl
    clear hl
    go_enter Tryz.func95, Tryz.ntmps95
    go_wp2
    clear hne
    go_loopw [5] (fun i wr => ∃ k : Nat, k ≤ xs.length ∧ i = .int .i64 k ∧ Below w.heap.size w wr ∧ allSame D.same xs ys = allSame D.same (xs.drop k) (ys.drop k)) (fun i _ => xs.length - (intOf i).toNat)
    case atStart => exact ⟨0, Nat.zero_le _, rfl, Below.refl _ _, by simp⟩
    case round =>
      obtain ⟨k, hk, rfl, hb, ht⟩ := hrel
      have HT := Lib.hid ht
      clear ht
      by_cases hlt : k < xs.length
      · have hlt' : k < ys.length := by have := HL.out; omega
        have hFr : ∀ b, F b → b < wr.heap.size := fun b hb' => Nat.lt_of_lt_of_le (hF b hb') hb.size
        have hGr : ∀ b, G' b → b < wr.heap.size := fun b hb' => Nat.lt_of_lt_of_le (hG b hb') hb.size
        obtain ⟨ad, rfl, hf, c1, c2⟩ := (h.below hb hF).at_decl hlt
        obtain ⟨ad', rfl, hf', c1', c2'⟩ := (h'.below hb hG).at_decl hlt'
        have d1 := Later.cell c1
        have d2 := Later.cell c2
        have d1' := Later.cell c1'
        have d2' := Later.cell c2'
        have hk0 : (0 : Int) ≤ k := by omega
        have hk1 : (k : Int) < xs.length := by omega
        have hk2 : (k : Int) < ys.length := by omega
        have HX := Lib.hid (allSame_yes (b := D.same xs[k] ys[k]) HT.out hlt hlt' rfl)
        generalize hxy : D.same xs[k] ys[k] = q at *
        have HQ := Lib.hid hxy
        clear hxy h h'
        go_wp2
        refine wp_region_later (by kernel_rfl) (by kernel_rfl) ?_
        repeat (go_big_quiet_step ((go_at_call 117; exact later_of_below (eqDecl_any xs[k] ys[k] _))))
        refine wpQuiet_nil ?_
        rintro _ ⟨x, rfl⟩
        rw [HQ.out]
        cases q
        · go_wp2
          go_ret
          exact ⟨ret_bool (by rw [HX.out]; rfl), bthen hb x.le⟩
        · go_wp2
          go_roundw
          case rel => exact ⟨k + 1, by omega, by go_num, bthen hb x.le, by rw [HX.out]; simp⟩
          case measure => simp [intOf]; omega
      · have hke : k = xs.length := by omega
        subst hke
        have HE := Lib.hid (allSame_end HT.out HL.out)
        go_wp2
        go_ret
        exact ⟨ret_bool (by rw [HE.out]), hb⟩
  · have hne : (((xs.length : Int) != (ys.length : Int))) = true := by simp; omega
    have HE := Lib.hid (allSame_len (f := D.same) hl)
    go_enter Tryz.func95, Tryz.ntmps95
    go_wp2
    go_ret
    exact ⟨ret_bool (by rw [HE.out]), Below.refl _ _⟩

/-- What the comparison of two terms gives. -/
def EqT (f : FuncId) (x : T) : Prop := ∀ (y : T) (A B : Option Addr) (c d : Nat) (F G' : Nat → Prop) (w : World), Lay.term.Sl w F A x.kids → Lay.term.Sl w G' B y.kids → (∀ b, F b → b < w.heap.size) → (∀ b, G' b → b < w.heap.size) → T.All okT2 y →
  Calls Tryz.prog f #[.agg #[.int .i64 x.op, .int .i64 x.a, .int .i64 x.b, .string x.name, .slice A x.kids.length c], .agg #[.int .i64 y.op, .int .i64 y.a, .int .i64 y.b, .string y.name, .slice B y.kids.length d]] w fun e w' => e = .returned (.bool (T.same x y)) ∧ Below w.heap.size w w'
theorem T.same_eq (x y : T) : T.same x y = (x.op == y.op && x.a == y.a && x.b == y.b && x.name.toList == y.name.toList && allSame T.same x.kids y.kids) := by
  cases x; cases y; simp [T.same, T.sameL_all, T.op, T.a, T.b, T.name, T.kids]

set_option maxHeartbeats 1000000 in
theorem eqTermS_any (A B : Option Addr) (c d : Nat) (xs ys : List T) (F G' : Nat → Prop) (w : World) (h : Lay.term.Sl w F A xs) (h' : Lay.term.Sl w G' B ys) (hF : ∀ b, F b → b < w.heap.size) (hG : ∀ b, G' b → b < w.heap.size) (hn : xs.length ≤ 1048576) (hn' : ys.length ≤ 1048576) (ho : ∀ t ∈ xs, EqT 34 t) (ho' : ∀ t ∈ ys, T.All okT2 t) :
    Calls Tryz.prog 16 #[.slice A xs.length c, .slice B ys.length d] w fun e w' => e = .returned (.bool (allSame T.same xs ys)) ∧ Below w.heap.size w w' := by
  by_cases hl : xs.length = ys.length
  · have hne := ne_len hl
    have HL := Lib.hid hl
    clear hl
    go_enter Tryz.func16, Tryz.ntmps16
    go_wp2
    clear hne
    go_loopw [5] (fun i wr => ∃ k : Nat, k ≤ xs.length ∧ i = .int .i64 k ∧ Below w.heap.size w wr ∧ allSame T.same xs ys = allSame T.same (xs.drop k) (ys.drop k)) (fun i _ => xs.length - (intOf i).toNat)
    case atStart => exact ⟨0, Nat.zero_le _, rfl, Below.refl _ _, by simp⟩
    case round =>
      obtain ⟨k, hk, rfl, hb, ht⟩ := hrel
      have HT := Lib.hid ht
      clear ht
      by_cases hlt : k < xs.length
      · have hlt' : k < ys.length := by have := HL.out; omega
        have hFr : ∀ b, F b → b < wr.heap.size := fun b hb' => Nat.lt_of_lt_of_le (hF b hb') hb.size
        have hGr : ∀ b, G' b → b < wr.heap.size := fun b hb' => Nat.lt_of_lt_of_le (hG b hb') hb.size
        obtain ⟨ad, A1, c9, rfl, hf, c1, c2, c3, c4, c5, hcc, hkk⟩ := (h.below hb hF).at_term hlt
        obtain ⟨ad', A1', c9', rfl, hf', c1', c2', c3', c4', c5', hcc', hkk'⟩ := (h'.below hb hG).at_term hlt'
        have d1 := Later.cell c1
        have d2 := Later.cell c2
        have d3 := Later.cell c3
        have d4 := Later.cell c4
        have d5 := Later.cell c5
        have d1' := Later.cell c1'
        have d2' := Later.cell c2'
        have d3' := Later.cell c3'
        have d4' := Later.cell c4'
        have d5' := Later.cell c5'
        have hk0 : (0 : Int) ≤ k := by omega
        have hk1 : (k : Int) < xs.length := by omega
        have hk2 : (k : Int) < ys.length := by omega
        have HX := Lib.hid (allSame_yes (b := T.same xs[k] ys[k]) HT.out hlt hlt' rfl)
        generalize hxy : T.same xs[k] ys[k] = q at *
        have HQ := Lib.hid hxy
        clear hxy h h'
        go_wp2
        refine wp_region_later (by kernel_rfl) (by kernel_rfl) ?_
        repeat (go_big_quiet_step ((go_at_call 34; exact later_of_below (ho xs[k] (List.getElem_mem _) ys[k] A1 A1' c9 c9' F G' _ (hkk.below (Later.le _) hFr) (hkk'.below (Later.le _) hGr) (fun b hb' => Nat.lt_of_lt_of_le (hFr b hb') (Later.le _).size) (fun b hb' => Nat.lt_of_lt_of_le (hGr b hb') (Later.le _).size) (ho' _ (List.getElem_mem _))))))
        refine wpQuiet_nil ?_
        rintro _ ⟨x, rfl⟩
        rw [HQ.out]
        cases q
        · go_wp2
          go_ret
          exact ⟨ret_bool (by rw [HX.out]; rfl), bthen hb x.le⟩
        · go_wp2
          go_roundw
          case rel => exact ⟨k + 1, by omega, by go_num, bthen hb x.le, by rw [HX.out]; simp⟩
          case measure => simp [intOf]; omega
      · have hke : k = xs.length := by omega
        subst hke
        have HE := Lib.hid (allSame_end HT.out HL.out)
        go_wp2
        go_ret
        exact ⟨ret_bool (by rw [HE.out]), hb⟩
  · have hne : (((xs.length : Int) != (ys.length : Int))) = true := by simp; omega
    have HE := Lib.hid (allSame_len (f := T.same) hl)
    go_enter Tryz.func16, Tryz.ntmps16
    go_wp2
    go_ret
    exact ⟨ret_bool (by rw [HE.out]), Below.refl _ _⟩

set_option maxHeartbeats 1000000 in
theorem eqTerm_any (x : T) (ho : T.All okT2 x) : EqT 34 x := by
  revert ho
  refine T.ind (p := fun x => T.All okT2 x → EqT _ x) (fun x ih ho => ?_) x
  obtain ⟨hkl, _⟩ := ho.here
  have ihk : ∀ k ∈ x.kids, EqT 34 k := fun k hk => ih k hk (ho.kid k hk)
  clear ih ho
  intro y A B c d F G' w h h' hF hG hoy
  obtain ⟨hkl', _⟩ := hoy.here
  have hw2 : Below w.heap.size w ((w.alloc (.cells #[.int .i64 x.op, .int .i64 x.a, .int .i64 x.b, .string x.name, .slice A x.kids.length c] 48)).alloc (.cells #[.int .i64 y.op, .int .i64 y.a, .int .i64 y.b, .string y.name, .slice B y.kids.length d] 48)) :=
    ((Below.refl _ _).alloc (Nat.le_refl _) _).alloc (by simp) _
  have H := h.below hw2 hF
  have H' := h'.below hw2 hG
  have HS := Lib.hid (T.same_eq x y)
  go_enter Tryz.func34, Tryz.ntmps34
  go_wp2_with (go_at_call 16; refine (eqTermS_any A B c d x.kids y.kids F G' _ H H' (fun b hb => by have := hF b hb; simp; omega) (fun b hb => by have := hG b hb; simp; omega) hkl hkl' ihk hoy.kid).mono ?_; rintro e w' ⟨rfl, hb⟩)
  all_goals
    go_ret
    refine ⟨ret_bool (by rw [HS.out]; simp_all), ?_⟩
    first
      | exact hw2
      | exact bthen hw2 hb

/-- What the comparison of two layers gives. -/
def EqL (f : FuncId) : Prop := ∀ (x y : Ly) (A1 B1 A2 B2 : Option Addr) (c1 d1 c2 d2 : Nat) (F G' : Nat → Prop) (w : World), Lay.decl.Sl w F A1 x.ds → Lay.term.Sl w F B1 x.ts → Lay.decl.Sl w G' A2 y.ds → Lay.term.Sl w G' B2 y.ts →
  (∀ b, F b → b < w.heap.size) → (∀ b, G' b → b < w.heap.size) → okL2 x → okL2 y →
  Calls Tryz.prog f #[.agg #[.slice A1 x.ds.length c1, .slice B1 x.ts.length d1], .agg #[.slice A2 y.ds.length c2, .slice B2 y.ts.length d2]] w fun e w' => e = .returned (.bool (Ly.same x y)) ∧ Below w.heap.size w w'
set_option maxHeartbeats 1000000 in
theorem eqLayer_any : EqL 57 := by
  intro x y A1 B1 A2 B2 c1 d1 c2 d2 F G' w hA1 hB1 hA2 hB2 hF hG ⟨x1, x2, x3⟩ ⟨y1, y2, y3⟩
  have hot : ∀ t ∈ x.ts, EqT 34 t := fun t ht => eqTerm_any t (x3 t ht)
  have hw2 : Below w.heap.size w ((w.alloc (.cells #[.slice A1 x.ds.length c1, .slice B1 x.ts.length d1] 58)).alloc (.cells #[.slice A2 y.ds.length c2, .slice B2 y.ts.length d2] 58)) :=
    ((Below.refl _ _).alloc (Nat.le_refl _) _).alloc (by simp) _
  have HS := Lib.hid (show Ly.same x y = (allSame D.same x.ds y.ds && allSame T.same x.ts y.ts) from rfl)
  have hF2 : ∀ b, F b → b < ((w.alloc (.cells #[.slice A1 x.ds.length c1, .slice B1 x.ts.length d1] 58)).alloc (.cells #[.slice A2 y.ds.length c2, .slice B2 y.ts.length d2] 58)).heap.size := fun b hb => Nat.lt_of_lt_of_le (hF b hb) hw2.size
  have hG2 : ∀ b, G' b → b < ((w.alloc (.cells #[.slice A1 x.ds.length c1, .slice B1 x.ts.length d1] 58)).alloc (.cells #[.slice A2 y.ds.length c2, .slice B2 y.ts.length d2] 58)).heap.size := fun b hb => Nat.lt_of_lt_of_le (hG b hb) hw2.size
  generalize hq : allSame D.same x.ds y.ds = q at *
  have HQ := Lib.hid hq
  clear x3 hq
  go_enter Tryz.func57, Tryz.ntmps57
  go_wp2_with fail
  refine (eqDeclS_any A1 A2 c1 c2 x.ds y.ds F G' _ (hA1.below hw2 hF) (hA2.below hw2 hG) hF2 hG2 x1 y1).mono ?_
  rw [HQ.out]
  rintro e w3 ⟨rfl, hb⟩
  have hbb := bthen hw2 hb
  obtain ⟨hcc, hff⟩ := bcell hb
  have k1 : w3.cell? ⟨w.heap.size, 1, none⟩ = some (.slice B1 x.ts.length d1) := (hcc _ _ (by simp <;> omega)).trans (by simp [go_sem])
  have k2 : w3.cell? ⟨w.heap.size + 1, 1, none⟩ = some (.slice B2 y.ts.length d2) := (hcc _ _ (by simp <;> omega)).trans (by simp [go_sem])
  clear hcc hff
  cases q
  · go_wp2
    go_ret
    exact ⟨ret_bool (by rw [HS.out]; rfl), hbb⟩
  · go_wp2_with fail
    refine (eqTermS_any B1 B2 d1 d2 x.ts y.ts F G' _ (hB1.below hbb hF) (hB2.below hbb hG) (fun b hb => Nat.lt_of_lt_of_le (hF b hb) hbb.size) (fun b hb => Nat.lt_of_lt_of_le (hG b hb) hbb.size) x2 y2 hot y3).mono ?_
    generalize hq2 : allSame T.same x.ts y.ts = q2 at *
    have HQ2 := Lib.hid hq2
    clear hq2
    rintro e w4 ⟨rfl, hb4⟩
    have hbc := bthen hbb hb4
    cases q2
    all_goals
      go_wp2
      go_ret
      exact ⟨ret_bool (by rw [HS.out]; rfl), hbc⟩

set_option maxHeartbeats 1000000 in
theorem eqLayerS_any (A B : Option Addr) (c d : Nat) (xs ys : List Ly) (F G' : Nat → Prop) (w : World) (h : Lay.layer.Sl w F A xs) (h' : Lay.layer.Sl w G' B ys) (hF : ∀ b, F b → b < w.heap.size) (hG : ∀ b, G' b → b < w.heap.size) (hn : xs.length ≤ 1048576) (hn' : ys.length ≤ 1048576) (ho : ∀ t ∈ xs, okL2 t) (ho' : ∀ t ∈ ys, okL2 t) :
    Calls Tryz.prog 17 #[.slice A xs.length c, .slice B ys.length d] w fun e w' => e = .returned (.bool (allSame Ly.same xs ys)) ∧ Below w.heap.size w w' := by
  by_cases hl : xs.length = ys.length
  · have hne := ne_len hl
    have HL := Lib.hid hl
    clear hl
    go_enter Tryz.func17, Tryz.ntmps17
    go_wp2
    clear hne
    go_loopw [5] (fun i wr => ∃ k : Nat, k ≤ xs.length ∧ i = .int .i64 k ∧ Below w.heap.size w wr ∧ allSame Ly.same xs ys = allSame Ly.same (xs.drop k) (ys.drop k)) (fun i _ => xs.length - (intOf i).toNat)
    case atStart => exact ⟨0, Nat.zero_le _, rfl, Below.refl _ _, by simp⟩
    case round =>
      obtain ⟨k, hk, rfl, hb, ht⟩ := hrel
      have HT := Lib.hid ht
      clear ht
      by_cases hlt : k < xs.length
      · have hlt' : k < ys.length := by have := HL.out; omega
        have hFr : ∀ b, F b → b < wr.heap.size := fun b hb' => Nat.lt_of_lt_of_le (hF b hb') hb.size
        have hGr : ∀ b, G' b → b < wr.heap.size := fun b hb' => Nat.lt_of_lt_of_le (hG b hb') hb.size
        obtain ⟨ad, A1, p1, A2, p2, rfl, hf, c1, c2, hl1, hl2, s1, s2⟩ := (h.below hb hF).at_layer hlt
        obtain ⟨ad', A1', p1', A2', p2', rfl, hf', c1', c2', hl1', hl2', s1', s2'⟩ := (h'.below hb hG).at_layer hlt'
        have d1 := Later.cell c1
        have d2 := Later.cell c2
        have d1' := Later.cell c1'
        have d2' := Later.cell c2'
        have hk0 : (0 : Int) ≤ k := by omega
        have hk1 : (k : Int) < xs.length := by omega
        have hk2 : (k : Int) < ys.length := by omega
        have HX := Lib.hid (allSame_yes (b := Ly.same xs[k] ys[k]) HT.out hlt hlt' rfl)
        generalize hxy : Ly.same xs[k] ys[k] = q at *
        have HQ := Lib.hid hxy
        clear hxy h h'
        go_wp2
        refine wp_region_later (by kernel_rfl) (by kernel_rfl) ?_
        repeat (go_big_quiet_step ((go_at_call 57; exact later_of_below (eqLayer_any xs[k] ys[k] A1 A2 A1' A2' p1 p2 p1' p2' F G' _ (s1.below (Later.le _) hFr) (s2.below (Later.le _) hFr) (s1'.below (Later.le _) hGr) (s2'.below (Later.le _) hGr) (fun b hb' => Nat.lt_of_lt_of_le (hFr b hb') (Later.le _).size) (fun b hb' => Nat.lt_of_lt_of_le (hGr b hb') (Later.le _).size) (ho _ (List.getElem_mem _)) (ho' _ (List.getElem_mem _))))))
        refine wpQuiet_nil ?_
        rintro _ ⟨x, rfl⟩
        rw [HQ.out]
        cases q
        · go_wp2
          go_ret
          exact ⟨ret_bool (by rw [HX.out]; rfl), bthen hb x.le⟩
        · go_wp2
          go_roundw
          case rel => exact ⟨k + 1, by omega, by go_num, bthen hb x.le, by rw [HX.out]; simp⟩
          case measure => simp [intOf]; omega
      · have hke : k = xs.length := by omega
        subst hke
        have HE := Lib.hid (allSame_end HT.out HL.out)
        go_wp2
        go_ret
        exact ⟨ret_bool (by rw [HE.out]), hb⟩
  · have hne : (((xs.length : Int) != (ys.length : Int))) = true := by simp; omega
    have HE := Lib.hid (allSame_len (f := Ly.same) hl)
    go_enter Tryz.func17, Tryz.ntmps17
    go_wp2
    go_ret
    exact ⟨ret_bool (by rw [HE.out]), Below.refl _ _⟩

end Go.Proofs.YtiahmfpfimmbgaaGreatDoor

/-! Contracts of the reference's TermSame and CtxSame. -/
namespace Go.Proofs.YtiahmfpfimmbgaaGreatDoor
open Go Go.RowKit

end Go.Proofs.YtiahmfpfimmbgaaGreatDoor

/-! Contracts of the program's TermSame and CtxSame. -/
namespace Go.Proofs.YtiahmfpfimmbgaaGreatDoor
open Go Go.RowKit

end Go.Proofs.YtiahmfpfimmbgaaGreatDoor

/-! Contexts as arguments: what comes in, one form for the program's and the reference's. -/
namespace Go.Proofs.YtiahmfpfimmbgaaGreatDoor
open Go Go.RowKit Go.ChangeShapes Go.WideShapes Go.ChangeAt

theorem opens_layers : Opens Tryz.prog 22 Lay.layer.slice (fun xs => xs.length ≤ maxLen ∧ ∀ x ∈ xs, okLayer x) :=
  Opens.slice Tryz.underlying22 (by kernel_rfl) (by decide)
    (Opens.layer Tryz.underlying73 (by kernel_rfl) (by kernel_rfl) (by kernel_rfl) rfl
      (Opens.slice Tryz.underlying71 (by kernel_rfl) (by decide) (Opens.decl Tryz.underlying36 (by kernel_rfl) Tryz.underlying3 (by kernel_rfl) Tryz.underlying9 (by kernel_rfl) rfl))
      (Opens.slice Tryz.underlying42 (by kernel_rfl) (by decide) (Opens.term Tryz.underlying44 (by kernel_rfl) Tryz.underlying42 (by kernel_rfl) Tryz.underlying3 (by kernel_rfl) Tryz.underlying9 (by kernel_rfl) rfl)))
theorem Ly.small (l : Ly) (h : l.w ≤ 1048576) : okL2 l := by
  unfold Ly.w at h
  obtain ⟨h1, h2⟩ := T.smallS (xs := l.ts) (by omega)
  exact ⟨by omega, h1, h2⟩
theorem Ly.smallS {xs : List Ly} (h : xs.length + wsum Ly.w xs ≤ 1048576) : xs.length ≤ 1048576 ∧ ∀ x ∈ xs, okL2 x :=
  ⟨by omega, fun x hx => Ly.small x (by have := wsum_mem Ly.w hx; omega)⟩
def okLs (c : List Ly) : Prop := c.length ≤ maxLen ∧ ∀ x ∈ c, okLayer x
theorem dsAll_w : ∀ c : List Ly, (dsAll c).length ≤ wsum Ly.w c
  | [] => by simp [dsAll, wsum]
  | l :: c => by
    have := dsAll_w c
    have e : dsAll (l :: c) = l.ds ++ dsAll c := rfl
    rw [e, List.length_append]
    simp only [wsum, Ly.w]
    omega
theorem tsAll_w : ∀ c : List Ly, (tsAll c).length ≤ wsum Ly.w c
  | [] => by simp [tsAll, wsum]
  | l :: c => by
    have := tsAll_w c
    have e : tsAll (l :: c) = l.ts ++ tsAll c := rfl
    rw [e, List.length_append]
    simp only [wsum, Ly.w]
    omega
theorem T.All.and {p q : T → Prop} {t : T} (h : T.All p t) (h' : T.All q t) : T.All (fun t => p t ∧ q t) t := by
  revert h h'
  refine T.ind (p := fun t => T.All p t → T.All q t → T.All (fun t => p t ∧ q t) t) (fun t ih h h' => ?_) t
  exact .mk t ⟨h.here, h'.here⟩ fun k hk => ih k hk (h.kid k hk) (h'.kid k hk)
/-- What the law's size gives. -/
theorem okC_of {c : List Ly} (h : okLs c) (hw : c.length + wsum Ly.w c ≤ 1048576) : okC c where
  len := by omega
  ds := by have := dsAll_w c; omega
  ts := by have := tsAll_w c; omega
  names := fun d hd => by
    obtain ⟨l, hl, hd⟩ := List.mem_flatMap.1 hd
    have := ((h.2 l hl).1.2 d hd)
    unfold okDecl at this
    unfold maxLen at this
    omega
  terms := fun t ht => by
    obtain ⟨l, hl, ht⟩ := List.mem_flatMap.1 ht
    have h1 := (h.2 l hl).2.2 t ht
    have h2 := ((Ly.smallS hw).2 l hl).2.2 t ht
    exact (T.All.and h2 h1).imp fun t h => ⟨h.1, by have := h.2.1; unfold okInt at this; omega⟩
end Go.Proofs.YtiahmfpfimmbgaaGreatDoor

/-! The laws' texts for marks: markText. -/
namespace Go.Proofs.YtiahmfpfimmbgaaGreatDoor
open Go Go.RowKit

theorem ret_str {a b : ByteArray} (h : a = b) : Ending.returned (.string a) = .returned (.string b) := by rw [h]
def dch (n : Nat) : UInt8 := UInt8.ofNat (48 + n % 10)
theorem dch_nat (n : Nat) : ((dch n).toNat : Int) = 48 + (n : Int) % 10 := by
  unfold dch
  rw [UInt8.toNat_ofNat']
  omega
def mtGo : Nat → Nat → ByteArray → ByteArray
  | 0, _, s => s
  | f + 1, n, s => if n = 0 then s else mtGo f (n / 10) (⟨[dch n].toArray⟩ ++ s)
theorem mtGo_zero (f : Nat) (s : ByteArray) : mtGo f 0 s = s := by cases f <;> simp [mtGo]
/-- The text of a mark. -/
def markT (k : Int) : ByteArray := ⟨#[109]⟩ ++ mtGo 20 k.toNat ⟨#[]⟩
def MarkR (k : Int) (w : World) (e : Ending) (w' : World) : Prop := e = .returned (.string (markT k)) ∧ Below w.heap.size w w'
set_option maxRecDepth 100000 in
set_option maxHeartbeats 2000000 in
theorem markText_any (k : Int) (w : World) (h0 : 1 ≤ k) (h1 : k ≤ 2000000000) : Calls Tryz.prog 59 #[.int .i64 k] w (MarkR k w) := by
  have hk0 : decide (k ≤ 0) = false := decide_eq_false (by omega)
  have HT : Hid (markT k = ⟨#[109]⟩ ++ mtGo 20 k.toNat ⟨#[]⟩) := Lib.hid rfl
  go_enter Tryz.func59, Tryz.ntmps59
  go_wp2
  go_loopw [0, 3] (fun k9 s9 wr => ∃ (f n : Nat) (s : ByteArray), k9 = .int .i64 (n : Int) ∧ s9 = .string s ∧ n ≤ 2000000000 ∧ Hid (n < 10 ^ f ∧ mtGo 20 k.toNat ⟨#[]⟩ = mtGo f n s ∧ s.size + f ≤ 20) ∧ Below w.heap.size w wr) (fun k9 _ _ => (intOf k9).toNat)
  case atStart => exact ⟨20, k.toNat, _, by rw [Int.toNat_of_nonneg (by omega)], rfl, by omega, Lib.hid ⟨by omega, rfl, (show (0 : Nat) + 20 ≤ 20 by omega)⟩, Below.refl _ _⟩
  case round =>
    obtain ⟨f, n, s, rfl, rfl, hn, HR, hb⟩ := hrel
    by_cases hlt : 0 < n
    · have hlt2 : (0 : Int) < n := by omega
      obtain ⟨g, rfl⟩ : ∃ g, f = g + 1 := ⟨f - 1, by
        have := HR.out.1
        rcases f with _ | f
        · simp at this; omega
        · rfl⟩
      have HN : Hid (n / 10 < 10 ^ g ∧ mtGo 20 k.toNat ⟨#[]⟩ = mtGo g (n / 10) (⟨[dch n].toArray⟩ ++ s)) := Lib.hid ⟨by
        have := HR.out.1
        rw [Nat.pow_succ] at this
        omega, by rw [HR.out.2.1]; show (if n = 0 then s else _) = _; rw [if_neg (by omega)]⟩
      obtain ⟨t, ht⟩ : ∃ t, t = (⟨[dch n].toArray⟩ : ByteArray) ++ s := ⟨_, rfl⟩
      have hts : t.size = s.size + 1 := by rw [ht, ByteArray.size_append]; show 1 + s.size = _; omega
      have HN2 : Hid (n / 10 < 10 ^ g ∧ mtGo 20 k.toNat ⟨#[]⟩ = mtGo g (n / 10) t ∧ t.size + g ≤ 20) := Lib.hid ⟨HN.out.1, by rw [ht]; exact HN.out.2, by have := HR.out.2.2; omega⟩
      have hsz : s.size ≤ 20 := by have := HR.out.2.2; omega
      have e1 : IntKind.u8.wrap (48 + (n : Int) % 10) = 48 + (n : Int) % 10 := by rw [IntKind.wrap_u8]; omega
      have hcv : (convert 53 9 (.slice (some ⟨wr.heap.size, 0, none⟩) 1 1)).run Tryz.prog (wr.alloc (.cells #[.int .u8 (48 + (n : Int) % 10)] 5)) = .ok (.string ⟨[dch n].toArray⟩) (wr.alloc (.cells #[.int .u8 (48 + (n : Int) % 10)] 5)) := by
        refine run_convert_bytes_back (P := Tryz.prog) _ 53 9 5 ⟨wr.heap.size, 0, none⟩ 1 [dch n] Tryz.underlying53 Tryz.underlying5 Tryz.underlying9 fun j hj => ?_
        obtain rfl : j = 0 := by simp at hj; omega
        show _ = some (Value.int .u8 ((dch n).toNat : Int))
        rw [dch_nat]
        simp [go_sem]
      have hal : Below w.heap.size w (wr.alloc (.cells #[.int .u8 (48 + (n : Int) % 10)] 5)) := hb.alloc hb.size _
      have HAL := Lib.hid hal
      have HTT := Lib.hid ht
      have hsz2 : 1 + s.size ≤ 9223372036854775807 := by omega
      clear ht hts HN hal
      go_wp2
      clear hcv
      go_roundw
      case rel => exact ⟨g, n / 10, t, by go_num, by rw [HTT.out], by omega, HN2, HAL.out⟩
      case measure => simp [intOf]; omega
    · obtain rfl : n = 0 := by omega
      have hsz : s.size ≤ 20 := by have := HR.out.2.2; omega
      have hsz2 : 1 + s.size ≤ 9223372036854775807 := by omega
      have HE : Hid (markT k = ⟨#[109]⟩ ++ s) := Lib.hid (by rw [HT.out, HR.out.2.1, mtGo_zero])
      go_wp2
      go_ret
      exact ⟨ret_str HE.out.symm, hb⟩
end Go.Proofs.YtiahmfpfimmbgaaGreatDoor

/-! What a mark does to memory: cells of plain values turn into others of their kind, in some blocks. -/
namespace Go.Proofs.YtiahmfpfimmbgaaGreatDoor
open Go Go.RowKit

/-- One value for another of its kind; a slice or a pointer for itself alone. -/
inductive Kin : Value → Value → Prop
  | same (v : Value) : Kin v v
  | int (a b : Int) : Kin (.int .i64 a) (.int .i64 b)
  | bool (a b : Bool) : Kin (.bool a) (.bool b)
  | str (a b : ByteArray) : Kin (.string a) (.string b)
theorem Kin.trans {a b c : Value} (h : Kin a b) (h' : Kin b c) : Kin a c := by
  cases h <;> cases h' <;> constructor
theorem Kin.ofInt {a : Int} {v : Value} (h : Kin (.int .i64 a) v) : ∃ b, v = .int .i64 b := by
  cases h
  · exact ⟨a, rfl⟩
  · exact ⟨_, rfl⟩
theorem Kin.ofBool {a : Bool} {v : Value} (h : Kin (.bool a) v) : ∃ b, v = .bool b := by
  cases h
  · exact ⟨a, rfl⟩
  · exact ⟨_, rfl⟩
theorem Kin.ofStr {a : ByteArray} {v : Value} (h : Kin (.string a) v) : ∃ b, v = .string b := by
  cases h
  · exact ⟨a, rfl⟩
  · exact ⟨_, rfl⟩
theorem Kin.ofSlice {A : Option Addr} {n c : Nat} {v : Value} (h : Kin (.slice A n c) v) : v = .slice A n c := by cases h; rfl
/-- Nothing turned but plain values in the blocks F. -/
structure Dab (F : Nat → Prop) (w w' : World) : Prop where
  os : w'.os = w.os
  tape : w'.tape = w.tape
  output : w'.output = w.output
  size : w.heap.size ≤ w'.heap.size
  block : ∀ b, b < w.heap.size → ¬ F b → w'.heap[b]? = w.heap[b]?
  kin : ∀ a v, w.cell? a = some v → ∃ v', w'.cell? a = some v' ∧ Kin v v'
  frz : ∀ a : Addr, a.block < w.heap.size → w'.frozen? a = w.frozen? a
theorem Dab.refl (F : Nat → Prop) (w : World) : Dab F w w := ⟨rfl, rfl, rfl, Nat.le_refl _, fun _ _ _ => rfl, fun _ v h => ⟨v, h, .same v⟩, fun _ _ => rfl⟩
theorem Dab.trans {F : Nat → Prop} {a b c : World} (h : Dab F a b) (k : Dab F b c) : Dab F a c := by
  refine ⟨k.os.trans h.os, k.tape.trans h.tape, k.output.trans h.output, Nat.le_trans h.size k.size, fun i hi hn => (k.block i (Nat.lt_of_lt_of_le hi h.size) hn).trans (h.block i hi hn), fun p v hv => ?_, fun p hp => (k.frz p (Nat.lt_of_lt_of_le hp h.size)).trans (h.frz p hp)⟩
  obtain ⟨v1, h1, k1⟩ := h.kin p v hv
  obtain ⟨v2, h2, k2⟩ := k.kin p v1 h1
  exact ⟨v2, h2, k1.trans k2⟩
theorem Dab.mono {F G : Nat → Prop} {w w' : World} (h : Dab F w w') (hFG : ∀ b, F b → G b) : Dab G w w' := ⟨h.os, h.tape, h.output, h.size, fun b hb hn => h.block b hb (fun hf => hn (hFG b hf)), h.kin, h.frz⟩
theorem Dab.of {F : Nat → Prop} {w w' : World} (h : Below w.heap.size w w') : Dab F w w' := by
  have hlt : ∀ p v, w.cell? p = some v → p.block < w.heap.size := fun p v hv => World.block_lt_of_cell? w p hv
  exact ⟨h.os, h.tape, h.output, h.size, fun b hb _ => h.block b hb, fun p v hv => ⟨v, (World.cell?_of_block (h.block _ (hlt p v hv))).trans hv, .same v⟩, fun p hp => World.frozen?_of_block (h.block _ hp)⟩
theorem Dab.set {F : Nat → Prop} {w : World} {p : Addr} {u z : Value} (hF : F p.block) (hz : w.cell? p = some z) (hk : Kin z u) : Dab F w (w.setCell p u) := by
  refine ⟨rfl, rfl, rfl, by simp [World.setCell], fun b _ hn => Below.heap_setCell w p _ b (fun e => hn (e ▸ hF)), fun a v hv => ?_, fun a _ => World.frozen?_setCell _ _ _ _⟩
  by_cases e : p = a
  · subst e
    rw [hz] at hv
    injection hv with hv
    subst hv
    exact ⟨u, World.cell?_setCell_same _ _ _ hz, hk⟩
  · exact ⟨v, (World.cell?_setCell_other _ _ _ _ e).trans hv, .same v⟩
theorem Dab.then {F : Nat → Prop} {a b c : World} (h : Below a.heap.size a b) (k : Dab F b c) : Dab F a c := (Dab.of h).trans k
theorem Dab.below {F : Nat → Prop} {w w' : World} {B : Nat} (h : Dab F w w') (hB : B ≤ w.heap.size) (hF : ∀ b, F b → B ≤ b) : Below B w w' :=
  ⟨h.os, h.tape, h.output, h.size, fun b hb => h.block b (Nat.lt_of_lt_of_le hb hB) (fun hf => absurd (hF b hf) (by omega))⟩
theorem below_dab {F : Nat → Prop} {B : Nat} {a w w' : World} (h : Below B a w) (k : Dab F w w') (hB : B ≤ w.heap.size) (hF : ∀ b, F b → B ≤ b) : Below B a w' := h.trans (k.below hB hF)
theorem Lay.Sl.dab {α : Type} {L : Lay α} {F G : Nat → Prop} {w w' : World} {A : Option Addr} {xs : List α} (h : L.Sl w G A xs) (hd : Dab F w w') (hG : ∀ b, G b → b < w.heap.size ∧ ¬ F b) : L.Sl w' G A xs :=
  h.keep fun b hb => hd.block b (hG b hb).1 (hG b hb).2

/-- n integers lie there, and may be written. -/
def IntsAt (w : World) (F : Nat → Prop) (A : Option Addr) (n : Nat) : Prop :=
  0 < n → ∃ ad, A = some ad ∧ F ad.block ∧ ∀ k, k < n → (∃ z, w.cell? (ad.add k) = some (.int .i64 z)) ∧ w.frozen? (ad.add k) = false
theorem IntsAt.dab {w w' : World} {F G : Nat → Prop} {A : Option Addr} {n : Nat} (h : IntsAt w F A n) (hd : Dab G w w') : IntsAt w' F A n := fun hn => by
  obtain ⟨ad, e, hf, hc⟩ := h hn
  refine ⟨ad, e, hf, fun k hk => ?_⟩
  obtain ⟨⟨z, hz⟩, hfz⟩ := hc k hk
  obtain ⟨v', h1, h2⟩ := hd.kin _ _ hz
  obtain ⟨b, rfl⟩ := h2.ofInt
  exact ⟨⟨b, h1⟩, (hd.frz _ (World.block_lt_of_cell? w _ hz)).trans hfz⟩
theorem IntsAt.mono {w : World} {F G : Nat → Prop} {A : Option Addr} {n : Nat} (h : IntsAt w F A n) (hFG : ∀ b, F b → G b) : IntsAt w G A n := fun hn => by
  obtain ⟨ad, e, hf, hc⟩ := h hn
  exact ⟨ad, e, hFG _ hf, hc⟩
theorem IntsAt.of {w : World} {F G : Nat → Prop} {A : Option Addr} {xs : List Int} (h : Lay.int.Sl w F A xs) (hF : ∀ b, F b → G b ∧ ∀ o, w.frozen? ⟨b, o, none⟩ = false) : IntsAt w G A xs.length := fun hn => by
  obtain ⟨ad, e, hf, hc⟩ := h hn
  refine ⟨ad, e, (hF _ hf).1, fun k hk => ?_⟩
  obtain ⟨vs, rfl, hcell⟩ := hc k xs[k] (List.getElem?_eq_getElem hk)
  refine ⟨⟨xs[k], by simpa [Lay.int, Lay.flat] using hcell 0 _ rfl⟩, ?_⟩
  have := (hF _ hf).2 (ad.add k).off
  rw [← this]
  unfold World.frozen?
  rw [block_of_add]
/-- Rows of integers lie there. -/
def RowsAt (w : World) (F : Nat → Prop) (A : Option Addr) (ns : List Nat) : Prop :=
  0 < ns.length → ∃ ad, A = some ad ∧ ∀ k (h : k < ns.length), ∃ A' c', w.cell? (ad.add k) = some (.slice A' ns[k] c') ∧ IntsAt w F A' ns[k]
theorem RowsAt.dab {w w' : World} {F G : Nat → Prop} {A : Option Addr} {ns : List Nat} (h : RowsAt w F A ns) (hd : Dab G w w') : RowsAt w' F A ns := fun hn => by
  obtain ⟨ad, e, hc⟩ := h hn
  refine ⟨ad, e, fun k hk => ?_⟩
  obtain ⟨A', c', h1, h2⟩ := hc k hk
  obtain ⟨v', h3, h4⟩ := hd.kin _ _ h1
  obtain rfl := h4.ofSlice
  exact ⟨A', c', h3, h2.dab hd⟩
theorem RowsAt.of {w : World} {F G : Nat → Prop} {A : Option Addr} {xs : List (List Int)} (h : Lay.int.slice.Sl w F A xs) (hF : ∀ b, F b → G b ∧ ∀ o, w.frozen? ⟨b, o, none⟩ = false) : RowsAt w G A (xs.map List.length) := fun hn => by
  obtain ⟨ad, e, _, _⟩ := h (by simpa using hn)
  refine ⟨ad, e, fun k hk => ?_⟩
  obtain ⟨ad2, A', c', e2, _, hc, _, hs⟩ := h.at_slice (k := k) (by simpa using hk)
  rw [e] at e2
  injection e2 with e2
  subst e2
  rw [List.getElem_map]
  exact ⟨A', c', hc, IntsAt.of hs hF⟩
end Go.Proofs.YtiahmfpfimmbgaaGreatDoor

/-! Copies of the call's own, made between two sizes of the heap; what stays over calls and over marks. -/
namespace Go.Proofs.YtiahmfpfimmbgaaGreatDoor
open Go Go.RowKit

/-- Between two sizes. -/
def Rng (lo hi b : Nat) : Prop := lo ≤ b ∧ b < hi
/-- A block of a copy: made between two sizes of the heap, may be written. -/
def Cp (lo hi : Nat) (w : World) (b : Nat) : Prop := lo ≤ b ∧ b < hi ∧ hi ≤ w.heap.size ∧ ∀ o, w.frozen? ⟨b, o, none⟩ = false
theorem Cp.up {lo hi : Nat} {w w' : World} {b : Nat} (h : Cp lo hi w b) (hb : Below w.heap.size w w') : Cp lo hi w' b :=
  ⟨h.1, h.2.1, Nat.le_trans h.2.2.1 hb.size, fun o => (World.frozen?_of_block (a := ⟨b, o, none⟩) (hb.block b (by have := h.2.1; have := h.2.2.1; omega))).trans (h.2.2.2 o)⟩
theorem Cp.lt {lo hi : Nat} {w : World} {b : Nat} (h : Cp lo hi w b) : b < w.heap.size := Nat.lt_of_lt_of_le h.2.1 h.2.2.1
section
variable {α : Type} {L : Lay α} {w w' : World} {lo hi : Nat} {A : Option Addr} {xs : List α}
theorem Lay.Sl.cp_of (h : L.Sl w (Own lo w) A xs) : L.Sl w (Cp lo w.heap.size w) A xs := h.mono fun _ h => ⟨h.1, h.2.1, Nat.le_refl _, h.2.2⟩
theorem Lay.Sl.own_rd (h : L.Sl w (Own lo w) A xs) : L.Rd w A xs := h.mono fun _ h => h.2.1
theorem Lay.Sl.cp_up (h : L.Sl w (Cp lo hi w) A xs) (hb : Below w.heap.size w w') : L.Sl w' (Cp lo hi w') A xs :=
  (h.below hb (fun _ h => h.lt)).mono fun _ h => h.up hb
theorem Lay.Sl.cp_rd (h : L.Sl w (Cp lo hi w) A xs) : L.Rd w A xs := h.mono fun _ h => h.lt
theorem Cp.dab {G : Nat → Prop} {b : Nat} (h : Cp lo hi w b) (hd : Dab G w w') : Cp lo hi w' b :=
  ⟨h.1, h.2.1, Nat.le_trans h.2.2.1 hd.size, fun o => (hd.frz ⟨b, o, none⟩ h.lt).trans (h.2.2.2 o)⟩
theorem Lay.Sl.cp_dab {G : Nat → Prop} (h : L.Sl w (Cp lo hi w) A xs) (hd : Dab G w w') (hG : ∀ b, lo ≤ b → b < hi → ¬ G b) : L.Sl w' (Cp lo hi w') A xs :=
  (h.dab hd (fun b h => ⟨h.lt, hG b h.1 h.2.1⟩)).mono fun _ h => h.dab hd
theorem Dab.rng (hd : Dab (Cp lo hi w) w w') : Dab (Rng lo hi) w w' := hd.mono fun _ h => ⟨h.1, h.2.1⟩
end
theorem box_dab {G : Nat → Prop} {w w' : World} {i : Nat} {cs : Array Value} {t : TypeId} (h : w.heap[i]? = some (.cells cs t (0, 0))) (hd : Dab G w w') (hG : ¬ G i) : w'.heap[i]? = some (.cells cs t (0, 0)) :=
  (hd.block i (by have := Array.getElem?_eq_some_iff.1 h; exact this.1) hG).trans h
theorem below_rng {B lo hi : Nat} {a w w' : World} (h : Below B a w) (k : Dab (Rng lo hi) w w') (hB : B ≤ w.heap.size) (hl : B ≤ lo) : Below B a w' :=
  below_dab h k hB fun _ hb => Nat.le_trans hl hb.1
end Go.Proofs.YtiahmfpfimmbgaaGreatDoor

/-! Marks on integers. -/
namespace Go.Proofs.YtiahmfpfimmbgaaGreatDoor
open Go Go.RowKit

theorem off_of_add (a : Addr) (i : Nat) : (a.add i).off = a.off + i := by unfold Addr.add; split <;> simp_all
theorem add_ne {a : Addr} {i j : Nat} (h : i ≠ j) : a.add j ≠ a.add i := fun e => by
  have := congrArg Addr.off e
  rw [off_of_add, off_of_add] at this
  omega
end Go.Proofs.YtiahmfpfimmbgaaGreatDoor

/-! Rows of integers: what comes in, copies, comparisons, marks; one form for all. -/
namespace Go.Proofs.YtiahmfpfimmbgaaGreatDoor
open Go Go.RowKit Go.ChangeShapes Go.WideShapes Go.ChangeAt Go.Deep

def RetZ (r : Int) (w : World) (e : Ending) (w' : World) : Prop := e = .returned (.int .i64 r) ∧ Below w.heap.size w w'
/-- A row of the call's own is a copy that may be written. -/
theorem OwnI.own {w : World} {base c : Nat} {A : Option Addr} {xs : List Int} (h : OwnI w base (.slice A xs.length c) xs) : Lay.int.Sl w (Own base w) A xs := fun hn => by
  obtain ⟨A', c', e, _, hs⟩ := h.form
  injection e with e1 e2 e3
  subst e1
  obtain ⟨ad, e, hf, hc⟩ := hs hn
  refine ⟨ad, e, ⟨hf.1, hf.2, fun o => ?_⟩, hc⟩
  subst e
  rcases h.2 with ⟨e, _⟩ | ⟨g, cap, cur, e, _, hg, _⟩
  · cases e
  · injection e with e1 e2 e3
    injection e1 with e1
    subst e1
    unfold World.frozen?
    rw [hg]
    simp
theorem OwnI.cap {w : World} {base c : Nat} {A : Option Addr} {xs : List Int} (h : OwnI w base (.slice A xs.length c) xs) : xs.length ≤ c := by
  obtain ⟨A', c', e, hl, hs⟩ := h.form
  injection e with e1 e2 e3
  omega
def Fact.boolC (W : World) (b : Bool) : Fact := .of (fun v xw => v = .bool b ∧ Below W.heap.size W xw) fun _ _ _ ⟨h1, h2⟩ hb => ⟨h1, bthen h2 hb⟩
end Go.Proofs.YtiahmfpfimmbgaaGreatDoor

/-! Marks on rows of bools. -/
namespace Go.Proofs.YtiahmfpfimmbgaaGreatDoor
open Go Go.RowKit Go.ChangeShapes Go.WideShapes Go.ChangeAt Go.Deep

def BoolsAt (w : World) (F : Nat → Prop) (A : Option Addr) (n : Nat) : Prop :=
  0 < n → ∃ ad, A = some ad ∧ F ad.block ∧ ∀ k, k < n → (∃ z, w.cell? (ad.add k) = some (.bool z)) ∧ w.frozen? (ad.add k) = false
theorem BoolsAt.dab {w w' : World} {F G : Nat → Prop} {A : Option Addr} {n : Nat} (h : BoolsAt w F A n) (hd : Dab G w w') : BoolsAt w' F A n := fun hn => by
  obtain ⟨ad, e, hf, hc⟩ := h hn
  refine ⟨ad, e, hf, fun k hk => ?_⟩
  obtain ⟨⟨z, hz⟩, hfz⟩ := hc k hk
  obtain ⟨v, hv, hk'⟩ := hd.kin _ _ hz
  obtain ⟨b, rfl⟩ := hk'.ofBool
  exact ⟨⟨b, hv⟩, (hd.frz _ (World.block_lt_of_cell? w _ hz)).trans hfz⟩
theorem BoolsAt.of {w : World} {F G : Nat → Prop} {A : Option Addr} {xs : List Bool} (h : Lay.bool.Sl w F A xs) (hF : ∀ b, F b → G b ∧ ∀ o, w.frozen? ⟨b, o, none⟩ = false) : BoolsAt w G A xs.length := fun hn => by
  obtain ⟨ad, e, hf, hc⟩ := h hn
  refine ⟨ad, e, (hF _ hf).1, fun k hk => ?_⟩
  obtain ⟨vs, rfl, hcell⟩ := hc k xs[k] (List.getElem?_eq_getElem hk)
  refine ⟨⟨xs[k], by simpa [Lay.bool, Lay.flat] using hcell 0 _ rfl⟩, ?_⟩
  have := (hF _ hf).2 (ad.add k).off
  rw [← this]
  unfold World.frozen?
  rw [block_of_add]
end Go.Proofs.YtiahmfpfimmbgaaGreatDoor

/-! Declarations as arguments: sizes, copies, comparisons, marks (no bools). -/
namespace Go.Proofs.YtiahmfpfimmbgaaGreatDoor
open Go Go.RowKit Go.ChangeShapes Go.WideShapes Go.ChangeAt Go.Deep

/-- n declarations lie there, and may be written. -/
def DeclsAt (w : World) (F : Nat → Prop) (A : Option Addr) (n : Nat) : Prop :=
  0 < n → ∃ ad, A = some ad ∧ F ad.block ∧ ∀ k, k < n → (∃ s, w.cell? (ad.add (k * 2)) = some (.string s)) ∧ (∃ z, w.cell? (ad.add (k * 2 + 1)) = some (.int .i64 z)) ∧ w.frozen? (ad.add (k * 2)) = false ∧ w.frozen? (ad.add (k * 2 + 1)) = false
theorem DeclsAt.dab {w w' : World} {F G : Nat → Prop} {A : Option Addr} {n : Nat} (h : DeclsAt w F A n) (hd : Dab G w w') : DeclsAt w' F A n := fun hn => by
  obtain ⟨ad, e, hf, hc⟩ := h hn
  refine ⟨ad, e, hf, fun k hk => ?_⟩
  obtain ⟨⟨s, hs⟩, ⟨z, hz⟩, f0, f1⟩ := hc k hk
  obtain ⟨v, hv, hk'⟩ := hd.kin _ _ hs
  obtain ⟨b, rfl⟩ := hk'.ofStr
  obtain ⟨v, hv2, hk'⟩ := hd.kin _ _ hz
  obtain ⟨b2, rfl⟩ := hk'.ofInt
  exact ⟨⟨b, hv⟩, ⟨b2, hv2⟩, (hd.frz _ (World.block_lt_of_cell? w _ hs)).trans f0, (hd.frz _ (World.block_lt_of_cell? w _ hz)).trans f1⟩
theorem DeclsAt.of {w : World} {F G : Nat → Prop} {A : Option Addr} {xs : List D} (h : Lay.decl.Sl w F A xs) (hF : ∀ b, F b → G b ∧ ∀ o, w.frozen? ⟨b, o, none⟩ = false) : DeclsAt w G A xs.length := fun hn => by
  obtain ⟨ad, e, hf, hc⟩ := h hn
  have hfz : ∀ j, w.frozen? (ad.add j) = false := fun j => by
    have := (hF _ hf).2 (ad.add j).off
    rw [← this]
    unfold World.frozen?
    rw [block_of_add]
  refine ⟨ad, e, (hF _ hf).1, fun k hk => ?_⟩
  obtain ⟨vs, rfl, hcell⟩ := hc k xs[k] (List.getElem?_eq_getElem hk)
  exact ⟨⟨xs[k].name, by simpa [Lay.decl, Lay.flat] using hcell 0 _ rfl⟩, ⟨xs[k].wide, by simpa [Lay.decl, Lay.flat] using hcell 1 _ rfl⟩, hfz _, hfz _⟩
/-- Marked declarations. -/
def upD (n : Nat) (k0 : Int) : List D := (List.range n).map fun i : Nat => ⟨markT (k0 + 2 * (i : Int)), k0 + 2 * (i : Int) + 1⟩
theorem upD_len (n : Nat) (k0 : Int) : (upD n k0).length = n := by simp [upD]
theorem upD_get (n : Nat) (k0 : Int) (i : Nat) (h : i < (upD n k0).length) : (upD n k0)[i] = ⟨markT (k0 + 2 * (i : Int)), k0 + 2 * (i : Int) + 1⟩ := by simp [upD]
theorem ad_two (ad : Addr) (k : Nat) : (⟨(ad.add (k * 2)).block, (ad.add (k * 2)).off + 1, none⟩ : Addr) = ad.add (k * 2 + 1) := by
  rw [← add_of_add]
  show _ = (if (1 : Nat) = 0 then _ else _)
  rw [if_neg (by omega)]
def RetMkD (F : Nat → Prop) (A : Option Addr) (n : Nat) (k0 : Int) (w : World) (e : Ending) (w' : World) : Prop := e = .returned (.int .i64 (k0 + 2 * n)) ∧ Dab F w w' ∧ Lay.decl.Sl w' F A (upD n k0)
set_option maxRecDepth 100000 in
set_option maxHeartbeats 2000000 in
theorem markDeclS_at (A : Option Addr) (c n : Nat) (k0 : Int) (F : Nat → Prop) (w : World) (h : DeclsAt w F A n) (hn : n ≤ 1048576) (h0 : 1 ≤ k0) (h1 : k0 ≤ 1000000000) :
    Calls Tryz.prog 58 #[.slice A n c, .int .i64 k0] w (RetMkD F A n k0 w) := by
  have H := Lib.hid h
  clear h
  go_enter Tryz.func58, Tryz.ntmps58
  go_wp2
  go_loopw [1, 5] (fun kk i wr => ∃ (j : Nat) (T : Int), j ≤ n ∧ i = .int .i64 j ∧ kk = .int .i64 T ∧ Hid (T = k0 + 2 * (j : Int)) ∧ 1 ≤ T ∧ T ≤ 1000000000 + 2 * j ∧ Dab F w wr ∧ Hid (∀ ad, A = some ad → ∀ i, i < j → wr.cell? (ad.add (i * 2)) = some (.string (markT (k0 + 2 * (i : Int)))) ∧ wr.cell? (ad.add (i * 2 + 1)) = some (.int .i64 (k0 + 2 * (i : Int) + 1)))) (fun _ i _ => n - (intOf i).toNat)
  case atStart => exact ⟨0, k0, Nat.zero_le _, rfl, rfl, Lib.hid (by simp), h0, by omega, Dab.refl _ _, Lib.hid fun _ _ i hi => absurd hi (by omega)⟩
  case round =>
    obtain ⟨j, T, hj, rfl, rfl, HTT, T0, T1, hd, HS⟩ := hrel
    have HD := Lib.hid hd
    clear hd
    by_cases hlt : j < n
    · obtain ⟨ad, hA, hf, hc⟩ := H.out.dab HD.out (by omega)
      have HSA := Lib.hid (HS.out ad hA)
      subst hA
      obtain ⟨⟨s9, hs9⟩, ⟨z9, hz9⟩, f0, f1⟩ := hc j hlt
      have hj2 : (j : Int) < n := by omega
      have HF := Lib.hid hf
      have HC0 := Lib.hid hs9
      have HC1 := Lib.hid hz9
      clear hc hf
      go_wp2_with fail
      refine (markText_any T wr T0 (by omega)).mono ?_
      rintro e w2 ⟨rfl, hb2⟩
      have e0 := (hb2.cell (World.block_lt_of_cell? wr _ HC0.out)).trans HC0.out
      have e1 := (hb2.cell (World.block_lt_of_cell? wr _ HC1.out)).trans HC1.out
      have g0 := (hb2.frozen (World.block_lt_of_cell? wr _ HC0.out)).trans f0
      have g1 := (hb2.frozen (World.block_lt_of_cell? wr _ HC1.out)).trans f1
      obtain ⟨t9, ht9⟩ : ∃ t9, t9 = markT T := ⟨_, rfl⟩
      have HT9 := Lib.hid ht9
      rw [← ht9]
      have hne : ad.add (j * 2) ≠ ad.add (j * 2 + 1) := add_ne (by omega)
      have d1 : (w2.setCell (ad.add (j * 2)) (.string t9)).cell? (ad.add (j * 2 + 1)) = some (.int .i64 z9) := (World.cell?_setCell_other _ _ _ _ hne).trans e1
      have k1 : (w2.setCell (ad.add (j * 2)) (.string t9)).frozen? (ad.add (j * 2 + 1)) = false := (World.frozen?_setCell _ _ _ _).trans g1
      have HDD : Hid (Dab F w ((w2.setCell (ad.add (j * 2)) (.string t9)).setCell (ad.add (j * 2 + 1)) (.int .i64 (T + 1)))) := Lib.hid
        (((HD.out.trans (Dab.of hb2)).trans (Dab.set (by rw [block_of_add]; exact HF.out) e0 (.str _ _))).trans (Dab.set (by rw [block_of_add]; exact HF.out) d1 (.int _ _)))
      have HST : Hid (∀ i, i < j + 1 → ((w2.setCell (ad.add (j * 2)) (.string t9)).setCell (ad.add (j * 2 + 1)) (.int .i64 (T + 1))).cell? (ad.add (i * 2)) = some (.string (markT (k0 + 2 * (i : Int)))) ∧
          ((w2.setCell (ad.add (j * 2)) (.string t9)).setCell (ad.add (j * 2 + 1)) (.int .i64 (T + 1))).cell? (ad.add (i * 2 + 1)) = some (.int .i64 (k0 + 2 * (i : Int) + 1))) := Lib.hid fun i hi => by
        by_cases e : i = j
        · subst e
          exact ⟨(World.cell?_setCell_other _ _ _ _ hne.symm).trans ((World.cell?_setCell_same _ _ _ e0).trans (by rw [HT9.out, HTT.out])), (World.cell?_setCell_same _ _ _ d1).trans (by rw [HTT.out])⟩
        · obtain ⟨q0, q1⟩ := HSA.out i (by omega)
          have q0 := (hb2.cell (World.block_lt_of_cell? wr _ q0)).trans q0
          have q1 := (hb2.cell (World.block_lt_of_cell? wr _ q1)).trans q1
          exact ⟨(World.cell?_setCell_other _ _ _ _ (add_ne (by omega))).trans ((World.cell?_setCell_other _ _ _ _ (add_ne (by omega))).trans q0), (World.cell?_setCell_other _ _ _ _ (add_ne (by omega))).trans ((World.cell?_setCell_other _ _ _ _ (add_ne (by omega))).trans q1)⟩
      rw [← ad_two] at d1 k1 HDD HST
      clear ht9 hne e1 g1 hb2 hs9 hz9 f0 f1
      go_wp2
      go_roundw
      case rel => exact ⟨j + 1, T + 1 + 1, by omega, by go_num, by go_num, Lib.hid (by have := HTT.out; push_cast; omega), by omega, by omega, HDD.out, Lib.hid fun ad' e i hi => by injection e with e; subst e; exact HST.out i hi⟩
      case measure => simp [intOf]; omega
    · have : j = n := by omega
      subst this
      go_wp2
      go_ret
      refine ⟨ret_int HTT.out, HD.out, fun hpos => ?_⟩
      rw [upD_len] at hpos
      obtain ⟨ad, hA, hf, _⟩ := H.out.dab HD.out hpos
      refine ⟨ad, hA, hf, fun k x hx => ?_⟩
      have hk : k < (upD j k0).length := (List.getElem?_eq_some_iff.1 hx).1
      rw [List.getElem?_eq_getElem hk, upD_get] at hx
      injection hx with hx
      subst hx
      rw [upD_len] at hk
      obtain ⟨q0, q1⟩ := HS.out ad hA k hk
      refine ⟨[.string (markT (k0 + 2 * (k : Int))), .int .i64 (k0 + 2 * (k : Int) + 1)], rfl, fun i u hu => ?_⟩
      rcases i with _ | _ | i
      · injection hu with hu
        subst hu
        exact q0
      · injection hu with hu
        subst hu
        exact q1
      · simp at hu
theorem markDeclS_sl (A : Option Addr) (c : Nat) (xs : List D) (k0 : Int) (F : Nat → Prop) (w : World) (h : Lay.decl.Sl w F A xs) (hfz : ∀ b, F b → ∀ o, w.frozen? ⟨b, o, none⟩ = false) (hn : xs.length ≤ 1048576) (h0 : 1 ≤ k0) (h1 : k0 ≤ 1000000000) :
    Calls Tryz.prog 58 #[.slice A xs.length c, .int .i64 k0] w (RetMkD F A xs.length k0 w) :=
  markDeclS_at A c xs.length k0 F w (DeclsAt.of (G := F) h fun b hb => ⟨hb, hfz b hb⟩) hn h0 h1
end Go.Proofs.YtiahmfpfimmbgaaGreatDoor
