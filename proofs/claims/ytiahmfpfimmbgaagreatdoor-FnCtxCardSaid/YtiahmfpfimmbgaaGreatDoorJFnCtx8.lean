/- The last mark of a stack. Contracts of the laws' comparisons: eqDeclS, eqTermS, eqLayerS. Contracts of the reference's TermSame and CtxSame. Contracts of the program's TermSame and CtxSame. Contexts as arguments: what comes in, one form for the program's and the reference's. The laws' texts for marks: markText. What a mark does to memory: cells of plain values turn into others of their kind, in some blocks. Copies of the call's own, made between two sizes of the heap; what stays over calls and over marks. Marks on integers. Rows of integers: what comes in, copies, comparisons, marks; one form for all. Marks on rows of bools. Declarations as arguments: sizes, copies, comparisons, marks (no bools). Marks of terms and layers. Marked declarations are held. Contexts as arguments of the exact laws; CtxDecls. Terms whose rows lie apart from each other: trees. No program is named here. -/
import Derived.Test.YtiahmfpfimmbgaaGreatDoorRows
import Derived.Laws.IdiomStrings
import Derived.Test.YtiahmfpfimmbgaaGreatDoorChecked
import Derived.Test.YtiahmfpfimmbgaaGreatDoorJFnCtx0
import Derived.Test.YtiahmfpfimmbgaaGreatDoorJFnCtx1
import Derived.Test.YtiahmfpfimmbgaaGreatDoorJFnCtx3
import Derived.Test.YtiahmfpfimmbgaaGreatDoorJFnCtx5
import Derived.Test.YtiahmfpfimmbgaaGreatDoorJFnCtx6
import Derived.Test.YtiahmfpfimmbgaaGreatDoorJFnCtx7
/-! The last mark of a stack. -/
namespace Go.Proofs.YtiahmfpfimmbgaaGreatDoor
open Go Go.RowKit

/-- A row cut short. -/
theorem own_take {w : World} {base size n c m : Nat} {e : TypeId} {A : Option Addr} {cs : List Value} (h : w.ownsRow base e size (.slice A n c) n cs) (hm : m ≤ n) : w.ownsRow base e size (.slice A m c) m (cs.take (m * size)) := by
  obtain ⟨h1, h2⟩ := h
  have hms : m * size ≤ n * size := Nat.mul_le_mul_right _ hm
  refine ⟨by rw [List.length_take]; omega, ?_⟩
  rcases h2 with ⟨e1, e2⟩ | ⟨g, cap, cur, hv, hg, hh, hn, hcap, hsz, htake⟩
  · injection e1 with e1 e3 e4
    subst e1 e3 e4
    have : m = 0 := by omega
    subst this
    exact .inl ⟨rfl, rfl⟩
  · injection hv with e1 e3 e4
    subst e1 e4
    refine .inr ⟨g, c, cur, rfl, hg, hh, by omega, hcap, hsz, ?_⟩
    rw [← htake, List.take_take, Nat.min_eq_left hms]
theorem own_short {A : Option Addr} {n m c b : Nat} (h : (Value.slice A n c).ownBlock = some b) : (Value.slice A m c).ownBlock = some b := by
  rcases A with _ | ad
  · cases h
  · exact h
theorem OwnR.take {α : Type} {L : Lay α} {e : TypeId} {w : World} {lo c : Nat} {A : Option Addr} {xs : List α} (h : OwnR L e w lo (.slice A xs.length c) xs) (m : Nat) (hm : m ≤ xs.length) : OwnR L e w lo (.slice A (xs.take m).length c) (xs.take m) := by
  obtain ⟨cs, h1, h2⟩ := h
  have hl : (xs.take m).length = m := by rw [List.length_take]; omega
  rw [hl]
  refine ⟨cs.take (m * L.size), by rw [hl]; exact own_take h1 hm, fun i x hx => ?_⟩
  have hi : i < m := by have := (List.getElem?_eq_some_iff.1 hx).1; omega
  rw [List.getElem?_take_of_lt hi] at hx
  obtain ⟨vs, hr, hu⟩ := h2 i x hx
  refine ⟨vs, L.mono (fun b hb => ⟨hb.1, fun e9 => hb.2.1 (own_short e9), hb.2.2⟩) hr, fun j u hj => ?_⟩
  · have hjl : j < L.size := by have := (List.getElem?_eq_some_iff.1 hj).1; rwa [L.len hr] at this
    have : i * L.size + j < m * L.size := by
      have h9 : (i + 1) * L.size ≤ m * L.size := Nat.mul_le_mul_right _ hi
      rw [Nat.add_mul, Nat.one_mul] at h9
      omega
    rw [List.getElem?_take_of_lt this]
    exact hu j u hj
theorem OwnL.first {α : Type} {L : Lay α} {Q : World → Nat → Prop} {e : TypeId} {w : World} {lo c : Nat} {A : Option Addr} {xs : List α} (h : OwnL L Q e w lo (.slice A xs.length c) xs) (hx : 0 < xs.length) : ∃ g, A = some ⟨g, 0, none⟩ := by
  obtain ⟨cs, h1, _⟩ := h
  rcases h1.2 with ⟨_, h2⟩ | ⟨g, cap, cur, h1, _⟩
  · omega
  · injection h1 with h1; exact ⟨g, h1⟩
theorem add_zero9 (g m : Nat) : (⟨g, 0, none⟩ : Addr).add m = ⟨g, m, none⟩ := by
  unfold Addr.add
  split
  · rename_i e; rw [e]
  · simp
set_option maxRecDepth 100000 in
set_option maxHeartbeats 4000000 in
theorem last_any (lo p g k : Nat) (ds : List D) (ts : List T) (ms : List (Int × Int)) (A1 A2 : Option Addr) (c1 c2 c3 : Nat) (w : World) (h : Stk lo w p ds ts ms A1 A2 (some ⟨g, 0, none⟩) c1 c2 c3) (hk : ms.length = k + 1) (hkb : k ≤ 1048576) :
    Calls Tryz.prog 65 #[.pointer (some ⟨p, 0, none⟩)] w fun e w' => e = .returned (.pointer (some ⟨g, k * 2, none⟩)) ∧ Below w.heap.size w w' := by
  have v2 : w.cell? ⟨p, 2, none⟩ = some (.slice (some ⟨g, 0, none⟩) (k + 1) c3) := by rw [← hk]; exact (cell_of_block h.box 2).1
  have ha := add_zero9 g (k * 2)
  clear hk h
  go_enter Tryz.func65, Tryz.ntmps65
  go_wp2
  go_quiet (fail)
  have hb : Below w.heap.size w (w.drewN nq) := below_drewN (Below.refl _ _) nq
  go_wp2
  go_ret
  exact ⟨rfl, hb⟩
/-- The mark k is put. -/
theorem OwnR.putMark {lo w c g k j : Nat} {W : World} {ms : List (Int × Int)} {m : Int × Int} {v : Int} (h : OwnR Lay.mark 90 W lo (.slice (some ⟨g, 0, none⟩) ms.length c) ms) (hk : k < ms.length) (hj : j < 2)
    (hm : [Value.int .i64 m.1, .int .i64 m.2] = [Value.int .i64 ms[k].1, .int .i64 ms[k].2].set j (.int .i64 v)) :
    OwnR Lay.mark 90 (W.setCell ⟨g, k * 2 + j, none⟩ (.int .i64 v)) lo (.slice (some ⟨g, 0, none⟩) (ms.set k m).length c) (ms.set k m) := by
  obtain ⟨cs, h1, h2⟩ := h
  have h3 := (World.ownsRow.stored h1 (k * 2 + j) (.int .i64 v)).1
  have hcl : cs.length = ms.length * 2 := h1.1
  refine ⟨cs.set (k * 2 + j) (.int .i64 v), by rw [List.length_set]; exact h3, fun i x hx => ?_⟩
  by_cases hik : k = i
  · subst hik
    rw [List.getElem?_set_self hk] at hx
    injection hx with hx
    subst hx
    refine ⟨[.int .i64 m.1, .int .i64 m.2], rfl, fun q u hu => ?_⟩
    rw [hm] at hu
    obtain ⟨vs, hr, hc⟩ := h2 k ms[k] (List.getElem?_eq_getElem hk)
    have hr : vs = [.int .i64 ms[k].1, .int .i64 ms[k].2] := hr
    show (cs.set (k * 2 + j) _)[k * 2 + q]? = some u
    by_cases hqj : j = q
    · subst hqj
      rw [List.getElem?_set_self (by simpa using hj)] at hu
      rw [List.getElem?_set_self (by omega)]
      exact hu
    · rw [List.getElem?_set_ne hqj] at hu
      rw [List.getElem?_set_ne (by omega)]
      rw [← hr] at hu
      exact hc q u hu
  · rw [List.getElem?_set_ne hik] at hx
    obtain ⟨vs, hr, hc⟩ := h2 i x hx
    refine ⟨vs, hr, fun q u hu => ?_⟩
    have hq : q < 2 := by have := (List.getElem?_eq_some_iff.1 hu).1; have hr : vs = [.int .i64 x.1, .int .i64 x.2] := hr; rw [hr] at this; simpa using this
    show (cs.set (k * 2 + j) _)[i * 2 + q]? = some u
    rw [List.getElem?_set_ne (by omega)]
    exact hc q u hu
theorem OwnR.atMark {lo c g k : Nat} {W : World} {ms : List (Int × Int)} (h : OwnR Lay.mark 90 W lo (.slice (some ⟨g, 0, none⟩) ms.length c) ms) (hk : k < ms.length) :
    W.cell? ⟨g, k * 2, none⟩ = some (.int .i64 ms[k].1) ∧ W.cell? ⟨g, k * 2 + 1, none⟩ = some (.int .i64 ms[k].2) ∧ ∀ o, W.frozen? ⟨g, o, none⟩ = false := by
  obtain ⟨ad, e, hf, c1, c2⟩ := Lay.Sl.at_mark (OwnL.rd h) hk
  injection e with e
  subst e
  rw [add_zero9] at c1 c2
  obtain ⟨cs, h1, _⟩ := h
  exact ⟨c1, c2, fun o => World.ownsRow.frozenAt h1 o⟩
/-- A mark is stored: the stack as it is then. -/
theorem Stk.putM {lo p g k j : Nat} {w : World} {ds : List D} {ts : List T} {ms : List (Int × Int)} {A1 A2 : Option Addr} {c1 c2 c3 : Nat} {m : Int × Int} {v : Int} (h : Stk lo w p ds ts ms A1 A2 (some ⟨g, 0, none⟩) c1 c2 c3) (hk : k < ms.length) (hj : j < 2)
    (hm : [Value.int .i64 m.1, .int .i64 m.2] = [Value.int .i64 ms[k].1, .int .i64 ms[k].2].set j (.int .i64 v)) : Stk lo (w.setCell ⟨g, k * 2 + j, none⟩ (.int .i64 v)) p ds ts (ms.set k m) A1 A2 (some ⟨g, 0, none⟩) c1 c2 c3 := by
  obtain ⟨cs9, hgb⟩ := h.ms.blk (b := g) rfl
  have hbp : (w.setCell ⟨g, k * 2 + j, none⟩ (.int .i64 v)).heap[p]? = w.heap[p]? := Below.heap_setCell w ⟨g, k * 2 + j, none⟩ _ p (fun e => h.ms.ne2 h.box neSM (by show some g = some p; rw [show p = g from e]))
  have hlg := h.ms.lt g rfl
  refine ⟨h.lop, by rw [hbp, h.box, List.length_set], h.ds.set hlg.1 hgb neDM.symm, h.ts.set hlg.1 hgb neTM.symm, h.ms.putMark (w := 0) hk hj hm⟩
end Go.Proofs.YtiahmfpfimmbgaaGreatDoor

/-! Contracts of the laws' comparisons: eqDeclS, eqTermS, eqLayerS. -/
namespace Go.Proofs.YtiahmfpfimmbgaaGreatDoor
open Go Go.RowKit

/-- What the comparison of two terms gives. -/
def EqT (f : FuncId) (x : T) : Prop := ∀ (y : T) (A B : Option Addr) (c d : Nat) (F G' : Nat → Prop) (w : World), Lay.term.Sl w F A x.kids → Lay.term.Sl w G' B y.kids → (∀ b, F b → b < w.heap.size) → (∀ b, G' b → b < w.heap.size) → T.All okT2 y →
  Calls Tryz.prog f #[.agg #[.int .i64 x.op, .int .i64 x.a, .int .i64 x.b, .string x.name, .slice A x.kids.length c], .agg #[.int .i64 y.op, .int .i64 y.a, .int .i64 y.b, .string y.name, .slice B y.kids.length d]] w fun e w' => e = .returned (.bool (T.same x y)) ∧ Below w.heap.size w w'
theorem T.same_eq (x y : T) : T.same x y = (x.op == y.op && x.a == y.a && x.b == y.b && x.name.toList == y.name.toList && allSame T.same x.kids y.kids) := by
  cases x; cases y; simp [T.same, T.sameL_all, T.op, T.a, T.b, T.name, T.kids]

/-- What the comparison of two layers gives. -/
def EqL (f : FuncId) : Prop := ∀ (x y : Ly) (A1 B1 A2 B2 : Option Addr) (c1 d1 c2 d2 : Nat) (F G' : Nat → Prop) (w : World), Lay.decl.Sl w F A1 x.ds → Lay.term.Sl w F B1 x.ts → Lay.decl.Sl w G' A2 y.ds → Lay.term.Sl w G' B2 y.ts →
  (∀ b, F b → b < w.heap.size) → (∀ b, G' b → b < w.heap.size) → okL2 x → okL2 y →
  Calls Tryz.prog f #[.agg #[.slice A1 x.ds.length c1, .slice B1 x.ts.length d1], .agg #[.slice A2 y.ds.length c2, .slice B2 y.ts.length d2]] w fun e w' => e = .returned (.bool (Ly.same x y)) ∧ Below w.heap.size w w'
end Go.Proofs.YtiahmfpfimmbgaaGreatDoor

/-! Contracts of the reference's TermSame and CtxSame. -/
namespace Go.Proofs.YtiahmfpfimmbgaaGreatDoor
open Go Go.RowKit

theorem neqD (w : World) (x y : D) : (binOp .neq 39 (.agg #[.string x.name, .int .i64 x.wide]) (.agg #[.string y.name, .int .i64 y.wide])).run Tryz.prog w = .ok (.bool (!D.same x y)) w := by
  have hh : Tryz.prog.stoodInHeld 39 = false := by kernel_rfl
  simp [go_sem, hh, D.same]
  (repeat' split) <;> simp_all

end Go.Proofs.YtiahmfpfimmbgaaGreatDoor

/-! Contracts of the program's TermSame and CtxSame. -/
namespace Go.Proofs.YtiahmfpfimmbgaaGreatDoor
open Go Go.RowKit

set_option maxRecDepth 100000 in
set_option maxHeartbeats 2000000 in
theorem equalTerms_any (A B : Option Addr) (c d : Nat) (xs ys : List T) (F G' : Nat → Prop) (w : World) (h : Lay.term.Sl w F A xs) (h' : Lay.term.Sl w G' B ys) (hF : ∀ b, F b → b < w.heap.size) (hG : ∀ b, G' b → b < w.heap.size) (hn : xs.length ≤ 1048576) (hn' : ys.length ≤ 1048576) (ho : ∀ t ∈ xs, EqT 41 t) (ho' : ∀ t ∈ ys, T.All okT2 t) :
    Calls Tryz.prog 78 #[.slice A xs.length c, .slice B ys.length d, .func (.func 41) #[] #[]] w fun e w' => e = .returned (.bool (allSame T.same xs ys)) ∧ Below w.heap.size w w' := by
  by_cases hl : xs.length = ys.length
  · have hne := ne_len hl
    have HL := Lib.hid hl
    clear hl
    go_enter Tryz.func78, Tryz.ntmps78
    go_wp2
    clear hne
    go_loopw [17] (fun i wr => ∃ k : Nat, k ≤ xs.length ∧ i = .int .i64 k ∧ Below w.heap.size w wr ∧ allSame T.same xs ys = allSame T.same (xs.drop k) (ys.drop k)) (fun i _ => xs.length - (intOf i).toNat)
    case atStart => exact ⟨0, Nat.zero_le _, rfl, Below.refl _ _, by simp⟩
    case round =>
      obtain ⟨k, hk, rfl, hb, ht⟩ := hrel
      have HT := Lib.hid ht
      clear ht
      by_cases hlt : k < xs.length
      · have hlt' : k < ys.length := by have := HL.out; omega
        have hFr : ∀ b, F b → b < wr.heap.size := fun b hb' => Nat.lt_of_lt_of_le (hF b hb') hb.size
        have hGr : ∀ b, G' b → b < wr.heap.size := fun b hb' => Nat.lt_of_lt_of_le (hG b hb') hb.size
        obtain ⟨ad, A1, c9, rfl, hf, c1, c2, c3, c4, c5, hcc, hkk⟩ := (h.below hb hF).at_term hlt
        obtain ⟨ad', A1', c9', rfl, hf', c1', c2', c3', c4', c5', hcc', hkk'⟩ := (h'.below hb hG).at_term hlt'
        have hblk : (ad.add (k * 5)).block < wr.heap.size := by rw [block_of_add]; exact hFr _ hf
        have hblk' : (ad'.add (k * 5)).block < wr.heap.size := by rw [block_of_add]; exact hGr _ hf'
        have hk0 : (0 : Int) ≤ k := by omega
        have hk1 : (k : Int) < xs.length := by omega
        have hk2 : (k : Int) < ys.length := by omega
        have HX := Lib.hid (allSame_yes (b := T.same xs[k] ys[k]) HT.out hlt hlt' rfl)
        generalize hxy : T.same xs[k] ys[k] = q at *
        have HQ := Lib.hid hxy
        clear hxy h h'
        go_wp2_with fail
        have hw2 : Below wr.heap.size wr ((wr.alloc (.cells #[.int .i64 xs[k].op, .int .i64 xs[k].a, .int .i64 xs[k].b, .string xs[k].name, .slice A1 xs[k].kids.length c9] 48)).alloc (.cells #[.int .i64 ys[k].op, .int .i64 ys[k].a, .int .i64 ys[k].b, .string ys[k].name, .slice A1' ys[k].kids.length c9'] 48)) := ((Below.refl _ _).alloc (Nat.le_refl _) _).alloc (by simp) _
        refine (ho xs[k] (List.getElem_mem _) ys[k] A1 A1' c9 c9' F G' _ (hkk.below hw2 hFr) (hkk'.below hw2 hGr) (fun b hb' => Nat.lt_of_lt_of_le (hFr b hb') hw2.size) (fun b hb' => Nat.lt_of_lt_of_le (hGr b hb') hw2.size) (ho' _ (List.getElem_mem _))).mono ?_
        rw [HQ.out]
        rintro e w9 ⟨rfl, hb9⟩
        have hbb := bthen hb (bthen hw2 hb9)
        cases q
        · go_wp2
          go_ret
          exact ⟨ret_bool (by rw [HX.out]; rfl), hbb⟩
        · go_wp2
          go_roundw
          case rel => exact ⟨k + 1, by omega, by go_num, hbb, by rw [HX.out]; simp⟩
          case measure => simp [intOf]; omega
      · have hke : k = xs.length := by omega
        subst hke
        have HE := Lib.hid (allSame_end HT.out HL.out)
        go_wp2
        go_ret
        exact ⟨ret_bool (by rw [HE.out]), hb⟩
  · have hne : (((xs.length : Int) != (ys.length : Int))) = true := by simp; omega
    have HE := Lib.hid (allSame_len (f := T.same) hl)
    go_enter Tryz.func78, Tryz.ntmps78
    go_wp2
    go_ret
    exact ⟨ret_bool (by rw [HE.out]), Below.refl _ _⟩

set_option maxHeartbeats 2000000 in
theorem implTermSame_any (x : T) (ho : T.All okT2 x) : EqT 41 x := by
  revert ho
  refine T.ind (p := fun x => T.All okT2 x → EqT _ x) (fun x ih ho => ?_) x
  obtain ⟨hkl, _⟩ := ho.here
  have ihk : ∀ k ∈ x.kids, EqT 41 k := fun k hk => ih k hk (ho.kid k hk)
  clear ih ho
  intro y A B c d F G' w h h' hF hG hoy
  obtain ⟨hkl', _⟩ := hoy.here
  have hw2 : Below w.heap.size w ((w.alloc (.cells #[.int .i64 x.op, .int .i64 x.a, .int .i64 x.b, .string x.name, .slice A x.kids.length c] 48)).alloc (.cells #[.int .i64 y.op, .int .i64 y.a, .int .i64 y.b, .string y.name, .slice B y.kids.length d] 48)) :=
    ((Below.refl _ _).alloc (Nat.le_refl _) _).alloc (by simp) _
  have H := h.below hw2 hF
  have H' := h'.below hw2 hG
  have HS := Lib.hid (T.same_eq x y)

  cases hq0 : (x.op == y.op)
  · have HQ0 := Lib.hid hq0
    go_enter Tryz.func41, Tryz.ntmps41
    go_wp2
    go_ret
    exact ⟨ret_bool (by rw [HS.out, HQ0.out]; simp), hw2⟩
  have HQ0 := Lib.hid hq0
  cases hq1 : (x.a == y.a)
  · have HQ1 := Lib.hid hq1
    go_enter Tryz.func41, Tryz.ntmps41
    go_wp2
    go_ret
    exact ⟨ret_bool (by rw [HS.out, HQ1.out]; simp), hw2⟩
  have HQ1 := Lib.hid hq1
  cases hq2 : (x.b == y.b)
  · have HQ2 := Lib.hid hq2
    go_enter Tryz.func41, Tryz.ntmps41
    go_wp2
    go_ret
    exact ⟨ret_bool (by rw [HS.out, HQ2.out]; simp), hw2⟩
  have HQ2 := Lib.hid hq2
  cases hq3 : (x.name.toList == y.name.toList)
  · have HQ3 := Lib.hid hq3
    go_enter Tryz.func41, Tryz.ntmps41
    go_wp2
    go_ret
    exact ⟨ret_bool (by rw [HS.out, HQ3.out]; simp), hw2⟩
  have HQ3 := Lib.hid hq3
  go_enter Tryz.func41, Tryz.ntmps41
  go_wp2_with fail
  refine (equalTerms_any A B c d x.kids y.kids F G' _ H H' (fun b hb => by have := hF b hb; simp; omega) (fun b hb => by have := hG b hb; simp; omega) hkl hkl' ihk hoy.kid).mono ?_
  rintro e w' ⟨rfl, hb⟩
  go_wp2
  go_ret
  exact ⟨ret_bool (by rw [HS.out, HQ0.out, HQ1.out, HQ2.out, HQ3.out]; simp), bthen hw2 hb⟩

set_option maxHeartbeats 1000000 in
theorem equalDecls_any (A B : Option Addr) (c d : Nat) (xs ys : List D) (F G' : Nat → Prop) (w : World) (h : Lay.decl.Sl w F A xs) (h' : Lay.decl.Sl w G' B ys) (hF : ∀ b, F b → b < w.heap.size) (hG : ∀ b, G' b → b < w.heap.size) (hn : xs.length ≤ 1048576) (hn' : ys.length ≤ 1048576) :
    Calls Tryz.prog 99 #[.slice A xs.length c, .slice B ys.length d] w fun e w' => e = .returned (.bool (allSame D.same xs ys)) ∧ Below w.heap.size w w' := by
  by_cases hl : xs.length = ys.length
  · have hne := ne_len hl
    have HL := Lib.hid hl
    clear hl
    go_enter Tryz.func99, Tryz.ntmps99
    go_wp2
    clear hne
    go_loopw [13] (fun i wr => ∃ k : Nat, k ≤ xs.length ∧ i = .int .i64 k ∧ Below w.heap.size w wr ∧ allSame D.same xs ys = allSame D.same (xs.drop k) (ys.drop k)) (fun i _ => xs.length - (intOf i).toNat)
    case atStart => exact ⟨0, Nat.zero_le _, rfl, Below.refl _ _, by simp⟩
    case round =>
      obtain ⟨k, hk, rfl, hb, ht⟩ := hrel
      have HT := Lib.hid ht
      clear ht
      by_cases hlt : k < xs.length
      · have hlt' : k < ys.length := by have := HL.out; omega
        obtain ⟨ad, rfl, hf, c1, c2⟩ := (h.below hb hF).at_decl hlt
        obtain ⟨ad', rfl, hf', c1', c2'⟩ := (h'.below hb hG).at_decl hlt'
        have d1 := Later.cell c1
        have d2 := Later.cell c2
        have d1' := Later.cell c1'
        have d2' := Later.cell c2'
        have hk0 : (0 : Int) ≤ k := by omega
        have hk1 : (k : Int) < xs.length := by omega
        have hk2 : (k : Int) < ys.length := by omega
        have HX := Lib.hid (allSame_yes (b := D.same xs[k] ys[k]) HT.out hlt hlt' rfl)
        generalize hxy : D.same xs[k] ys[k] = q at *
        have he : ∀ W' : World, (binOp .neq 39 (.agg #[.string xs[k].name, .int .i64 xs[k].wide]) (.agg #[.string ys[k].name, .int .i64 ys[k].wide])).run Tryz.prog W' = .ok (.bool (!q)) W' := fun W' => by rw [neqD W' _ _, hxy]
        clear hxy h h'
        go_wp2
        refine wp_region_later (by kernel_rfl) (by kernel_rfl) ?_
        repeat (go_big_quiet_step (fail))
        refine wpQuiet_nil ?_
        rintro _ ⟨x9, rfl⟩
        clear he
        cases q
        · go_wp2
          go_ret
          exact ⟨ret_bool (by rw [HX.out]; rfl), bthen hb x9.le⟩
        · go_wp2
          go_roundw
          case rel => exact ⟨k + 1, by omega, by go_num, bthen hb x9.le, by rw [HX.out]; simp⟩
          case measure => simp [intOf]; omega
      · have hke : k = xs.length := by omega
        subst hke
        have HE := Lib.hid (allSame_end HT.out HL.out)
        go_wp2
        go_ret
        exact ⟨ret_bool (by rw [HE.out]), hb⟩
  · have hne : (((xs.length : Int) != (ys.length : Int))) = true := by simp; omega
    have HE := Lib.hid (allSame_len (f := D.same) hl)
    go_enter Tryz.func99, Tryz.ntmps99
    go_wp2
    go_ret
    exact ⟨ret_bool (by rw [HE.out]), Below.refl _ _⟩

set_option maxHeartbeats 1000000 in
theorem sameLayer_any : EqL 76 := by
  intro x y A1 B1 A2 B2 c1 d1 c2 d2 F G' w hA1 hB1 hA2 hB2 hF hG ⟨x1, x2, x3⟩ ⟨y1, y2, y3⟩
  have hot : ∀ t ∈ x.ts, EqT 41 t := fun t ht => implTermSame_any t (x3 t ht)
  have hw2 : Below w.heap.size w ((w.alloc (.cells #[.slice A1 x.ds.length c1, .slice B1 x.ts.length d1] 58)).alloc (.cells #[.slice A2 y.ds.length c2, .slice B2 y.ts.length d2] 58)) :=
    ((Below.refl _ _).alloc (Nat.le_refl _) _).alloc (by simp) _
  have HS := Lib.hid (show Ly.same x y = (allSame D.same x.ds y.ds && allSame T.same x.ts y.ts) from rfl)
  have hF2 : ∀ b, F b → b < ((w.alloc (.cells #[.slice A1 x.ds.length c1, .slice B1 x.ts.length d1] 58)).alloc (.cells #[.slice A2 y.ds.length c2, .slice B2 y.ts.length d2] 58)).heap.size := fun b hb => Nat.lt_of_lt_of_le (hF b hb) hw2.size
  have hG2 : ∀ b, G' b → b < ((w.alloc (.cells #[.slice A1 x.ds.length c1, .slice B1 x.ts.length d1] 58)).alloc (.cells #[.slice A2 y.ds.length c2, .slice B2 y.ts.length d2] 58)).heap.size := fun b hb => Nat.lt_of_lt_of_le (hG b hb) hw2.size
  generalize hq : allSame D.same x.ds y.ds = q at *
  have HQ := Lib.hid hq
  clear x3 hq
  go_enter Tryz.func76, Tryz.ntmps76
  go_wp2_with fail
  refine (equalDecls_any A1 A2 c1 c2 x.ds y.ds F G' _ (hA1.below hw2 hF) (hA2.below hw2 hG) hF2 hG2 x1 y1).mono ?_
  rw [HQ.out]
  rintro e w3 ⟨rfl, hb⟩
  have hbb := bthen hw2 hb
  obtain ⟨hcc, hff⟩ := bcell hb
  have k1 : w3.cell? ⟨w.heap.size, 1, none⟩ = some (.slice B1 x.ts.length d1) := (hcc _ _ (by simp <;> omega)).trans (by simp [go_sem])
  have k2 : w3.cell? ⟨w.heap.size + 1, 1, none⟩ = some (.slice B2 y.ts.length d2) := (hcc _ _ (by simp <;> omega)).trans (by simp [go_sem])
  clear hcc hff
  cases q
  · go_wp2
    go_ret
    exact ⟨ret_bool (by rw [HS.out]; rfl), hbb⟩
  · go_wp2_with fail
    refine (equalTerms_any B1 B2 d1 d2 x.ts y.ts F G' _ (hB1.below hbb hF) (hB2.below hbb hG) (fun b hb => Nat.lt_of_lt_of_le (hF b hb) hbb.size) (fun b hb => Nat.lt_of_lt_of_le (hG b hb) hbb.size) x2 y2 hot y3).mono ?_
    rintro e w4 ⟨rfl, hb4⟩
    have hbc := bthen hbb hb4
    go_wp2
    go_ret
    exact ⟨ret_bool (by rw [HS.out]; simp), hbc⟩

set_option maxRecDepth 100000 in
set_option maxHeartbeats 2000000 in
theorem equalLayers_any (A B : Option Addr) (c d : Nat) (xs ys : List Ly) (F G' : Nat → Prop) (w : World) (h : Lay.layer.Sl w F A xs) (h' : Lay.layer.Sl w G' B ys) (hF : ∀ b, F b → b < w.heap.size) (hG : ∀ b, G' b → b < w.heap.size) (hn : xs.length ≤ 1048576) (hn' : ys.length ≤ 1048576) (hf9 : EqL 76) (ho : ∀ t ∈ xs, okL2 t) (ho' : ∀ t ∈ ys, okL2 t) :
    Calls Tryz.prog 75 #[.slice A xs.length c, .slice B ys.length d, .func (.func 76) #[] #[]] w fun e w' => e = .returned (.bool (allSame Ly.same xs ys)) ∧ Below w.heap.size w w' := by
  by_cases hl : xs.length = ys.length
  · have hne := ne_len hl
    have HL := Lib.hid hl
    clear hl
    go_enter Tryz.func75, Tryz.ntmps75
    go_wp2
    clear hne
    go_loopw [17] (fun i wr => ∃ k : Nat, k ≤ xs.length ∧ i = .int .i64 k ∧ Below w.heap.size w wr ∧ allSame Ly.same xs ys = allSame Ly.same (xs.drop k) (ys.drop k)) (fun i _ => xs.length - (intOf i).toNat)
    case atStart => exact ⟨0, Nat.zero_le _, rfl, Below.refl _ _, by simp⟩
    case round =>
      obtain ⟨k, hk, rfl, hb, ht⟩ := hrel
      have HT := Lib.hid ht
      clear ht
      by_cases hlt : k < xs.length
      · have hlt' : k < ys.length := by have := HL.out; omega
        have hFr : ∀ b, F b → b < wr.heap.size := fun b hb' => Nat.lt_of_lt_of_le (hF b hb') hb.size
        have hGr : ∀ b, G' b → b < wr.heap.size := fun b hb' => Nat.lt_of_lt_of_le (hG b hb') hb.size
        obtain ⟨ad, A1, p1, A2, p2, rfl, hf, c1, c2, hl1, hl2, s1, s2⟩ := (h.below hb hF).at_layer hlt
        obtain ⟨ad', A1', p1', A2', p2', rfl, hf', c1', c2', hl1', hl2', s1', s2'⟩ := (h'.below hb hG).at_layer hlt'
        have hblk : (ad.add (k * 2)).block < wr.heap.size := by rw [block_of_add]; exact hFr _ hf
        have hblk' : (ad'.add (k * 2)).block < wr.heap.size := by rw [block_of_add]; exact hGr _ hf'
        have hk0 : (0 : Int) ≤ k := by omega
        have hk1 : (k : Int) < xs.length := by omega
        have hk2 : (k : Int) < ys.length := by omega
        have HX := Lib.hid (allSame_yes (b := Ly.same xs[k] ys[k]) HT.out hlt hlt' rfl)
        generalize hxy : Ly.same xs[k] ys[k] = q at *
        have HQ := Lib.hid hxy
        clear hxy h h'
        go_wp2_with fail
        have hw2 : Below wr.heap.size wr ((wr.alloc (.cells #[.slice A1 xs[k].ds.length p1, .slice A2 xs[k].ts.length p2] 58)).alloc (.cells #[.slice A1' ys[k].ds.length p1', .slice A2' ys[k].ts.length p2'] 58)) := ((Below.refl _ _).alloc (Nat.le_refl _) _).alloc (by simp) _
        refine (hf9 xs[k] ys[k] A1 A2 A1' A2' p1 p2 p1' p2' F G' _ (s1.below hw2 hFr) (s2.below hw2 hFr) (s1'.below hw2 hGr) (s2'.below hw2 hGr) (fun b hb' => Nat.lt_of_lt_of_le (hFr b hb') hw2.size) (fun b hb' => Nat.lt_of_lt_of_le (hGr b hb') hw2.size) (ho _ (List.getElem_mem _)) (ho' _ (List.getElem_mem _))).mono ?_
        rw [HQ.out]
        rintro e w9 ⟨rfl, hb9⟩
        have hbb := bthen hb (bthen hw2 hb9)
        cases q
        · go_wp2
          go_ret
          exact ⟨ret_bool (by rw [HX.out]; rfl), hbb⟩
        · go_wp2
          go_roundw
          case rel => exact ⟨k + 1, by omega, by go_num, hbb, by rw [HX.out]; simp⟩
          case measure => simp [intOf]; omega
      · have hke : k = xs.length := by omega
        subst hke
        have HE := Lib.hid (allSame_end HT.out HL.out)
        go_wp2
        go_ret
        exact ⟨ret_bool (by rw [HE.out]), hb⟩
  · have hne : (((xs.length : Int) != (ys.length : Int))) = true := by simp; omega
    have HE := Lib.hid (allSame_len (f := Ly.same) hl)
    go_enter Tryz.func75, Tryz.ntmps75
    go_wp2
    go_ret
    exact ⟨ret_bool (by rw [HE.out]), Below.refl _ _⟩


theorem implCtxSame_any (A B : Option Addr) (c d : Nat) (xs ys : List Ly) (F G' : Nat → Prop) (w : World) (h : Lay.layer.Sl w F A xs) (h' : Lay.layer.Sl w G' B ys) (hF : ∀ b, F b → b < w.heap.size) (hG : ∀ b, G' b → b < w.heap.size) (hn : xs.length ≤ 1048576) (hn' : ys.length ≤ 1048576)
    (ho : ∀ t ∈ xs, okL2 t) (ho' : ∀ t ∈ ys, okL2 t) :
    Calls Tryz.prog 38 #[.slice A xs.length c, .slice B ys.length d] w fun e w' => e = .returned (.bool (allSame Ly.same xs ys)) ∧ Below w.heap.size w w' := by
  go_enter Tryz.func38, Tryz.ntmps38
  go_wp2_with fail
  refine (equalLayers_any A B c d xs ys F G' _ h h' hF hG hn hn' sameLayer_any ho ho').mono ?_
  rintro e w' ⟨rfl, hb⟩
  go_wp2
  go_ret
  exact ⟨rfl, hb⟩
end Go.Proofs.YtiahmfpfimmbgaaGreatDoor

/-! Contexts as arguments: what comes in, one form for the program's and the reference's. -/
namespace Go.Proofs.YtiahmfpfimmbgaaGreatDoor
open Go Go.RowKit Go.ChangeShapes Go.WideShapes Go.ChangeAt

theorem Ly.small (l : Ly) (h : l.w ≤ 1048576) : okL2 l := by
  unfold Ly.w at h
  obtain ⟨h1, h2⟩ := T.smallS (xs := l.ts) (by omega)
  exact ⟨by omega, h1, h2⟩
theorem Ly.smallS {xs : List Ly} (h : xs.length + wsum Ly.w xs ≤ 1048576) : xs.length ≤ 1048576 ∧ ∀ x ∈ xs, okL2 x :=
  ⟨by omega, fun x hx => Ly.small x (by have := wsum_mem Ly.w hx; omega)⟩
theorem T.All.and {p q : T → Prop} {t : T} (h : T.All p t) (h' : T.All q t) : T.All (fun t => p t ∧ q t) t := by
  revert h h'
  refine T.ind (p := fun t => T.All p t → T.All q t → T.All (fun t => p t ∧ q t) t) (fun t ih h h' => ?_) t
  exact .mk t ⟨h.here, h'.here⟩ fun k hk => ih k hk (h.kid k hk) (h'.kid k hk)
set_option maxRecDepth 100000 in
set_option maxHeartbeats 2000000 in
theorem implCtxOk_u (c : List Ly) (A : Option Addr) (q : Nat) (w : World) (h : Lay.layer.Rd w A c) (_ : c.length ≤ q) (hc : okC c) :
    Calls Tryz.prog 45 #[.slice A c.length q] w (RetB w (ctxOk c)) := by
  have HF := Lib.hid (flat_any A q c w h hc.len hc.ds hc.ts)
  have HC := Lib.hid hc
  obtain ⟨r, hr⟩ : ∃ r, r = ctxOk c := ⟨_, rfl⟩
  rw [← hr]
  have HR := Lib.hid hr
  clear hc hr
  go_enter Tryz.func45, Tryz.ntmps45
  go_wp2_with fail
  refine HF.out.mono ?_
  rintro e w1 ⟨rfl, hs, hb⟩
  have HO := Lib.hid (stackOk_any w.heap.size w.heap.size c w1 hs HC.out)
  rw [← HR.out] at HO
  clear hs
  go_wp2_with fail
  refine HO.out.mono ?_
  rintro e w2 ⟨rfl, hb2⟩
  have hb9 := bthen hb hb2
  go_wp2
  go_ret
  exact ⟨rfl, hb9⟩
end Go.Proofs.YtiahmfpfimmbgaaGreatDoor

/-! The laws' texts for marks: markText. -/
namespace Go.Proofs.YtiahmfpfimmbgaaGreatDoor
open Go Go.RowKit

def dch (n : Nat) : UInt8 := UInt8.ofNat (48 + n % 10)
def mtGo : Nat → Nat → ByteArray → ByteArray
  | 0, _, s => s
  | f + 1, n, s => if n = 0 then s else mtGo f (n / 10) (⟨[dch n].toArray⟩ ++ s)
/-- The text of a mark. -/
def markT (k : Int) : ByteArray := ⟨#[109]⟩ ++ mtGo 20 k.toNat ⟨#[]⟩
end Go.Proofs.YtiahmfpfimmbgaaGreatDoor

/-! What a mark does to memory: cells of plain values turn into others of their kind, in some blocks. -/
namespace Go.Proofs.YtiahmfpfimmbgaaGreatDoor
open Go Go.RowKit

/-- One value for another of its kind; a slice or a pointer for itself alone. -/
inductive Kin : Value → Value → Prop
  | same (v : Value) : Kin v v
  | int (a b : Int) : Kin (.int .i64 a) (.int .i64 b)
  | bool (a b : Bool) : Kin (.bool a) (.bool b)
  | str (a b : ByteArray) : Kin (.string a) (.string b)
theorem Kin.trans {a b c : Value} (h : Kin a b) (h' : Kin b c) : Kin a c := by
  cases h <;> cases h' <;> constructor
theorem Kin.ofInt {a : Int} {v : Value} (h : Kin (.int .i64 a) v) : ∃ b, v = .int .i64 b := by
  cases h
  · exact ⟨a, rfl⟩
  · exact ⟨_, rfl⟩
theorem Kin.ofBool {a : Bool} {v : Value} (h : Kin (.bool a) v) : ∃ b, v = .bool b := by
  cases h
  · exact ⟨a, rfl⟩
  · exact ⟨_, rfl⟩
theorem Kin.ofStr {a : ByteArray} {v : Value} (h : Kin (.string a) v) : ∃ b, v = .string b := by
  cases h
  · exact ⟨a, rfl⟩
  · exact ⟨_, rfl⟩
theorem Kin.ofSlice {A : Option Addr} {n c : Nat} {v : Value} (h : Kin (.slice A n c) v) : v = .slice A n c := by cases h; rfl
/-- Nothing turned but plain values in the blocks F. -/
structure Dab (F : Nat → Prop) (w w' : World) : Prop where
  os : w'.os = w.os
  tape : w'.tape = w.tape
  output : w'.output = w.output
  size : w.heap.size ≤ w'.heap.size
  block : ∀ b, b < w.heap.size → ¬ F b → w'.heap[b]? = w.heap[b]?
  kin : ∀ a v, w.cell? a = some v → ∃ v', w'.cell? a = some v' ∧ Kin v v'
  frz : ∀ a : Addr, a.block < w.heap.size → w'.frozen? a = w.frozen? a
theorem Dab.refl (F : Nat → Prop) (w : World) : Dab F w w := ⟨rfl, rfl, rfl, Nat.le_refl _, fun _ _ _ => rfl, fun _ v h => ⟨v, h, .same v⟩, fun _ _ => rfl⟩
theorem Dab.trans {F : Nat → Prop} {a b c : World} (h : Dab F a b) (k : Dab F b c) : Dab F a c := by
  refine ⟨k.os.trans h.os, k.tape.trans h.tape, k.output.trans h.output, Nat.le_trans h.size k.size, fun i hi hn => (k.block i (Nat.lt_of_lt_of_le hi h.size) hn).trans (h.block i hi hn), fun p v hv => ?_, fun p hp => (k.frz p (Nat.lt_of_lt_of_le hp h.size)).trans (h.frz p hp)⟩
  obtain ⟨v1, h1, k1⟩ := h.kin p v hv
  obtain ⟨v2, h2, k2⟩ := k.kin p v1 h1
  exact ⟨v2, h2, k1.trans k2⟩
theorem Dab.mono {F G : Nat → Prop} {w w' : World} (h : Dab F w w') (hFG : ∀ b, F b → G b) : Dab G w w' := ⟨h.os, h.tape, h.output, h.size, fun b hb hn => h.block b hb (fun hf => hn (hFG b hf)), h.kin, h.frz⟩
theorem Dab.of {F : Nat → Prop} {w w' : World} (h : Below w.heap.size w w') : Dab F w w' := by
  have hlt : ∀ p v, w.cell? p = some v → p.block < w.heap.size := fun p v hv => World.block_lt_of_cell? w p hv
  exact ⟨h.os, h.tape, h.output, h.size, fun b hb _ => h.block b hb, fun p v hv => ⟨v, (World.cell?_of_block (h.block _ (hlt p v hv))).trans hv, .same v⟩, fun p hp => World.frozen?_of_block (h.block _ hp)⟩
theorem Dab.set {F : Nat → Prop} {w : World} {p : Addr} {u z : Value} (hF : F p.block) (hz : w.cell? p = some z) (hk : Kin z u) : Dab F w (w.setCell p u) := by
  refine ⟨rfl, rfl, rfl, by simp [World.setCell], fun b _ hn => Below.heap_setCell w p _ b (fun e => hn (e ▸ hF)), fun a v hv => ?_, fun a _ => World.frozen?_setCell _ _ _ _⟩
  by_cases e : p = a
  · subst e
    rw [hz] at hv
    injection hv with hv
    subst hv
    exact ⟨u, World.cell?_setCell_same _ _ _ hz, hk⟩
  · exact ⟨v, (World.cell?_setCell_other _ _ _ _ e).trans hv, .same v⟩
theorem Dab.then {F : Nat → Prop} {a b c : World} (h : Below a.heap.size a b) (k : Dab F b c) : Dab F a c := (Dab.of h).trans k
theorem Dab.below {F : Nat → Prop} {w w' : World} {B : Nat} (h : Dab F w w') (hB : B ≤ w.heap.size) (hF : ∀ b, F b → B ≤ b) : Below B w w' :=
  ⟨h.os, h.tape, h.output, h.size, fun b hb => h.block b (Nat.lt_of_lt_of_le hb hB) (fun hf => absurd (hF b hf) (by omega))⟩
theorem Lay.Sl.dab {α : Type} {L : Lay α} {F G : Nat → Prop} {w w' : World} {A : Option Addr} {xs : List α} (h : L.Sl w G A xs) (hd : Dab F w w') (hG : ∀ b, G b → b < w.heap.size ∧ ¬ F b) : L.Sl w' G A xs :=
  h.keep fun b hb => hd.block b (hG b hb).1 (hG b hb).2

/-- n integers lie there, and may be written. -/
def IntsAt (w : World) (F : Nat → Prop) (A : Option Addr) (n : Nat) : Prop :=
  0 < n → ∃ ad, A = some ad ∧ F ad.block ∧ ∀ k, k < n → (∃ z, w.cell? (ad.add k) = some (.int .i64 z)) ∧ w.frozen? (ad.add k) = false
theorem IntsAt.dab {w w' : World} {F G : Nat → Prop} {A : Option Addr} {n : Nat} (h : IntsAt w F A n) (hd : Dab G w w') : IntsAt w' F A n := fun hn => by
  obtain ⟨ad, e, hf, hc⟩ := h hn
  refine ⟨ad, e, hf, fun k hk => ?_⟩
  obtain ⟨⟨z, hz⟩, hfz⟩ := hc k hk
  obtain ⟨v', h1, h2⟩ := hd.kin _ _ hz
  obtain ⟨b, rfl⟩ := h2.ofInt
  exact ⟨⟨b, h1⟩, (hd.frz _ (World.block_lt_of_cell? w _ hz)).trans hfz⟩
theorem IntsAt.mono {w : World} {F G : Nat → Prop} {A : Option Addr} {n : Nat} (h : IntsAt w F A n) (hFG : ∀ b, F b → G b) : IntsAt w G A n := fun hn => by
  obtain ⟨ad, e, hf, hc⟩ := h hn
  exact ⟨ad, e, hFG _ hf, hc⟩
theorem IntsAt.of {w : World} {F G : Nat → Prop} {A : Option Addr} {xs : List Int} (h : Lay.int.Sl w F A xs) (hF : ∀ b, F b → G b ∧ ∀ o, w.frozen? ⟨b, o, none⟩ = false) : IntsAt w G A xs.length := fun hn => by
  obtain ⟨ad, e, hf, hc⟩ := h hn
  refine ⟨ad, e, (hF _ hf).1, fun k hk => ?_⟩
  obtain ⟨vs, rfl, hcell⟩ := hc k xs[k] (List.getElem?_eq_getElem hk)
  refine ⟨⟨xs[k], by simpa [Lay.int, Lay.flat] using hcell 0 _ rfl⟩, ?_⟩
  have := (hF _ hf).2 (ad.add k).off
  rw [← this]
  unfold World.frozen?
  rw [block_of_add]
/-- Rows of integers lie there. -/
def RowsAt (w : World) (F : Nat → Prop) (A : Option Addr) (ns : List Nat) : Prop :=
  0 < ns.length → ∃ ad, A = some ad ∧ ∀ k (h : k < ns.length), ∃ A' c', w.cell? (ad.add k) = some (.slice A' ns[k] c') ∧ IntsAt w F A' ns[k]
theorem RowsAt.dab {w w' : World} {F G : Nat → Prop} {A : Option Addr} {ns : List Nat} (h : RowsAt w F A ns) (hd : Dab G w w') : RowsAt w' F A ns := fun hn => by
  obtain ⟨ad, e, hc⟩ := h hn
  refine ⟨ad, e, fun k hk => ?_⟩
  obtain ⟨A', c', h1, h2⟩ := hc k hk
  obtain ⟨v', h3, h4⟩ := hd.kin _ _ h1
  obtain rfl := h4.ofSlice
  exact ⟨A', c', h3, h2.dab hd⟩
theorem RowsAt.of {w : World} {F G : Nat → Prop} {A : Option Addr} {xs : List (List Int)} (h : Lay.int.slice.Sl w F A xs) (hF : ∀ b, F b → G b ∧ ∀ o, w.frozen? ⟨b, o, none⟩ = false) : RowsAt w G A (xs.map List.length) := fun hn => by
  obtain ⟨ad, e, _, _⟩ := h (by simpa using hn)
  refine ⟨ad, e, fun k hk => ?_⟩
  obtain ⟨ad2, A', c', e2, _, hc, _, hs⟩ := h.at_slice (k := k) (by simpa using hk)
  rw [e] at e2
  injection e2 with e2
  subst e2
  rw [List.getElem_map]
  exact ⟨A', c', hc, IntsAt.of hs hF⟩
end Go.Proofs.YtiahmfpfimmbgaaGreatDoor

/-! Copies of the call's own, made between two sizes of the heap; what stays over calls and over marks. -/
namespace Go.Proofs.YtiahmfpfimmbgaaGreatDoor
open Go Go.RowKit

/-- Between two sizes. -/
def Rng (lo hi b : Nat) : Prop := lo ≤ b ∧ b < hi
/-- A block of a copy: made between two sizes of the heap, may be written. -/
def Cp (lo hi : Nat) (w : World) (b : Nat) : Prop := lo ≤ b ∧ b < hi ∧ hi ≤ w.heap.size ∧ ∀ o, w.frozen? ⟨b, o, none⟩ = false
theorem Cp.up {lo hi : Nat} {w w' : World} {b : Nat} (h : Cp lo hi w b) (hb : Below w.heap.size w w') : Cp lo hi w' b :=
  ⟨h.1, h.2.1, Nat.le_trans h.2.2.1 hb.size, fun o => (World.frozen?_of_block (a := ⟨b, o, none⟩) (hb.block b (by have := h.2.1; have := h.2.2.1; omega))).trans (h.2.2.2 o)⟩
theorem Cp.lt {lo hi : Nat} {w : World} {b : Nat} (h : Cp lo hi w b) : b < w.heap.size := Nat.lt_of_lt_of_le h.2.1 h.2.2.1
section
variable {α : Type} {L : Lay α} {w w' : World} {lo hi : Nat} {A : Option Addr} {xs : List α}
theorem Lay.Sl.cp_of (h : L.Sl w (Own lo w) A xs) : L.Sl w (Cp lo w.heap.size w) A xs := h.mono fun _ h => ⟨h.1, h.2.1, Nat.le_refl _, h.2.2⟩
theorem Lay.Sl.cp_rd (h : L.Sl w (Cp lo hi w) A xs) : L.Rd w A xs := h.mono fun _ h => h.lt
theorem Cp.dab {G : Nat → Prop} {b : Nat} (h : Cp lo hi w b) (hd : Dab G w w') : Cp lo hi w' b :=
  ⟨h.1, h.2.1, Nat.le_trans h.2.2.1 hd.size, fun o => (hd.frz ⟨b, o, none⟩ h.lt).trans (h.2.2.2 o)⟩
theorem Dab.rng (hd : Dab (Cp lo hi w) w w') : Dab (Rng lo hi) w w' := hd.mono fun _ h => ⟨h.1, h.2.1⟩
end
end Go.Proofs.YtiahmfpfimmbgaaGreatDoor

/-! Marks on integers. -/
namespace Go.Proofs.YtiahmfpfimmbgaaGreatDoor
open Go Go.RowKit

end Go.Proofs.YtiahmfpfimmbgaaGreatDoor

/-! Rows of integers: what comes in, copies, comparisons, marks; one form for all. -/
namespace Go.Proofs.YtiahmfpfimmbgaaGreatDoor
open Go Go.RowKit Go.ChangeShapes Go.WideShapes Go.ChangeAt Go.Deep

/-- A row of the call's own is a copy that may be written. -/
theorem OwnI.own {w : World} {base c : Nat} {A : Option Addr} {xs : List Int} (h : OwnI w base (.slice A xs.length c) xs) : Lay.int.Sl w (Own base w) A xs := fun hn => by
  obtain ⟨A', c', e, _, hs⟩ := h.form
  injection e with e1 e2 e3
  subst e1
  obtain ⟨ad, e, hf, hc⟩ := hs hn
  refine ⟨ad, e, ⟨hf.1, hf.2, fun o => ?_⟩, hc⟩
  subst e
  rcases h.2 with ⟨e, _⟩ | ⟨g, cap, cur, e, _, hg, _⟩
  · cases e
  · injection e with e1 e2 e3
    injection e1 with e1
    subst e1
    unfold World.frozen?
    rw [hg]
    simp
theorem OwnI.cap {w : World} {base c : Nat} {A : Option Addr} {xs : List Int} (h : OwnI w base (.slice A xs.length c) xs) : xs.length ≤ c := by
  obtain ⟨A', c', e, hl, hs⟩ := h.form
  injection e with e1 e2 e3
  omega
end Go.Proofs.YtiahmfpfimmbgaaGreatDoor

/-! Marks on rows of bools. -/
namespace Go.Proofs.YtiahmfpfimmbgaaGreatDoor
open Go Go.RowKit Go.ChangeShapes Go.WideShapes Go.ChangeAt Go.Deep

def BoolsAt (w : World) (F : Nat → Prop) (A : Option Addr) (n : Nat) : Prop :=
  0 < n → ∃ ad, A = some ad ∧ F ad.block ∧ ∀ k, k < n → (∃ z, w.cell? (ad.add k) = some (.bool z)) ∧ w.frozen? (ad.add k) = false
theorem BoolsAt.dab {w w' : World} {F G : Nat → Prop} {A : Option Addr} {n : Nat} (h : BoolsAt w F A n) (hd : Dab G w w') : BoolsAt w' F A n := fun hn => by
  obtain ⟨ad, e, hf, hc⟩ := h hn
  refine ⟨ad, e, hf, fun k hk => ?_⟩
  obtain ⟨⟨z, hz⟩, hfz⟩ := hc k hk
  obtain ⟨v, hv, hk'⟩ := hd.kin _ _ hz
  obtain ⟨b, rfl⟩ := hk'.ofBool
  exact ⟨⟨b, hv⟩, (hd.frz _ (World.block_lt_of_cell? w _ hz)).trans hfz⟩
theorem BoolsAt.of {w : World} {F G : Nat → Prop} {A : Option Addr} {xs : List Bool} (h : Lay.bool.Sl w F A xs) (hF : ∀ b, F b → G b ∧ ∀ o, w.frozen? ⟨b, o, none⟩ = false) : BoolsAt w G A xs.length := fun hn => by
  obtain ⟨ad, e, hf, hc⟩ := h hn
  refine ⟨ad, e, (hF _ hf).1, fun k hk => ?_⟩
  obtain ⟨vs, rfl, hcell⟩ := hc k xs[k] (List.getElem?_eq_getElem hk)
  refine ⟨⟨xs[k], by simpa [Lay.bool, Lay.flat] using hcell 0 _ rfl⟩, ?_⟩
  have := (hF _ hf).2 (ad.add k).off
  rw [← this]
  unfold World.frozen?
  rw [block_of_add]
end Go.Proofs.YtiahmfpfimmbgaaGreatDoor

/-! Declarations as arguments: sizes, copies, comparisons, marks (no bools). -/
namespace Go.Proofs.YtiahmfpfimmbgaaGreatDoor
open Go Go.RowKit Go.ChangeShapes Go.WideShapes Go.ChangeAt Go.Deep

/-- n declarations lie there, and may be written. -/
def DeclsAt (w : World) (F : Nat → Prop) (A : Option Addr) (n : Nat) : Prop :=
  0 < n → ∃ ad, A = some ad ∧ F ad.block ∧ ∀ k, k < n → (∃ s, w.cell? (ad.add (k * 2)) = some (.string s)) ∧ (∃ z, w.cell? (ad.add (k * 2 + 1)) = some (.int .i64 z)) ∧ w.frozen? (ad.add (k * 2)) = false ∧ w.frozen? (ad.add (k * 2 + 1)) = false
theorem DeclsAt.dab {w w' : World} {F G : Nat → Prop} {A : Option Addr} {n : Nat} (h : DeclsAt w F A n) (hd : Dab G w w') : DeclsAt w' F A n := fun hn => by
  obtain ⟨ad, e, hf, hc⟩ := h hn
  refine ⟨ad, e, hf, fun k hk => ?_⟩
  obtain ⟨⟨s, hs⟩, ⟨z, hz⟩, f0, f1⟩ := hc k hk
  obtain ⟨v, hv, hk'⟩ := hd.kin _ _ hs
  obtain ⟨b, rfl⟩ := hk'.ofStr
  obtain ⟨v, hv2, hk'⟩ := hd.kin _ _ hz
  obtain ⟨b2, rfl⟩ := hk'.ofInt
  exact ⟨⟨b, hv⟩, ⟨b2, hv2⟩, (hd.frz _ (World.block_lt_of_cell? w _ hs)).trans f0, (hd.frz _ (World.block_lt_of_cell? w _ hz)).trans f1⟩
theorem DeclsAt.of {w : World} {F G : Nat → Prop} {A : Option Addr} {xs : List D} (h : Lay.decl.Sl w F A xs) (hF : ∀ b, F b → G b ∧ ∀ o, w.frozen? ⟨b, o, none⟩ = false) : DeclsAt w G A xs.length := fun hn => by
  obtain ⟨ad, e, hf, hc⟩ := h hn
  have hfz : ∀ j, w.frozen? (ad.add j) = false := fun j => by
    have := (hF _ hf).2 (ad.add j).off
    rw [← this]
    unfold World.frozen?
    rw [block_of_add]
  refine ⟨ad, e, (hF _ hf).1, fun k hk => ?_⟩
  obtain ⟨vs, rfl, hcell⟩ := hc k xs[k] (List.getElem?_eq_getElem hk)
  exact ⟨⟨xs[k].name, by simpa [Lay.decl, Lay.flat] using hcell 0 _ rfl⟩, ⟨xs[k].wide, by simpa [Lay.decl, Lay.flat] using hcell 1 _ rfl⟩, hfz _, hfz _⟩
/-- Marked declarations. -/
def upD (n : Nat) (k0 : Int) : List D := (List.range n).map fun i : Nat => ⟨markT (k0 + 2 * (i : Int)), k0 + 2 * (i : Int) + 1⟩
theorem upD_len (n : Nat) (k0 : Int) : (upD n k0).length = n := by simp [upD]
end Go.Proofs.YtiahmfpfimmbgaaGreatDoor

/-! Marks of terms and layers. -/
namespace Go.Proofs.YtiahmfpfimmbgaaGreatDoor
open Go Go.RowKit Go.ChangeShapes Go.WideShapes Go.ChangeAt Go.Deep

/-- The kids of the term t lie at A, and theirs below them; all may be written. -/
inductive ShT (w : World) (F : Nat → Prop) : T → Option Addr → Prop
  | mk (t : T) (A : Option Addr) (Ak : Nat → Option Addr) (ck : Nat → Nat)
      (h : 0 < t.kids.length → ∃ ad, A = some ad ∧ F ad.block ∧ ∀ k, k < t.kids.length → (∃ o, w.cell? (ad.add (k * 5)) = some (.int .i64 o)) ∧ (∃ o, w.cell? (ad.add (k * 5 + 1)) = some (.int .i64 o)) ∧ (∃ o, w.cell? (ad.add (k * 5 + 2)) = some (.int .i64 o)) ∧ (∃ s, w.cell? (ad.add (k * 5 + 3)) = some (.string s)) ∧
        (∀ x, t.kids[k]? = some x → w.cell? (ad.add (k * 5 + 4)) = some (.slice (Ak k) x.kids.length (ck k))) ∧ ∀ j, w.frozen? (ad.add j) = false)
      (hk : ∀ k x, t.kids[k]? = some x → ShT w F x (Ak k)) : ShT w F t A
theorem ShT.dab {w w' : World} {F G : Nat → Prop} {t : T} {A : Option Addr} (h : ShT w F t A) (hd : Dab G w w') : ShT w' F t A := by
  induction h with
  | mk t A Ak ck h hk ih =>
    refine .mk t A Ak ck (fun h0 => ?_) ih
    obtain ⟨ad, e, hf, hc⟩ := h h0
    refine ⟨ad, e, hf, fun k hlt => ?_⟩
    obtain ⟨⟨o0, h0⟩, ⟨o1, h1⟩, ⟨o2, h2⟩, ⟨s3, h3⟩, h4, hfz⟩ := hc k hlt
    have hlb : ad.block < w.heap.size := by have := World.block_lt_of_cell? w _ h0; rwa [block_of_add] at this
    obtain ⟨v0, g0, q0⟩ := hd.kin _ _ h0
    obtain ⟨b0, rfl⟩ := q0.ofInt
    obtain ⟨v1, g1, q1⟩ := hd.kin _ _ h1
    obtain ⟨b1, rfl⟩ := q1.ofInt
    obtain ⟨v2, g2, q2⟩ := hd.kin _ _ h2
    obtain ⟨b2, rfl⟩ := q2.ofInt
    obtain ⟨v3, g3, q3⟩ := hd.kin _ _ h3
    obtain ⟨b3, rfl⟩ := q3.ofStr
    refine ⟨⟨_, g0⟩, ⟨_, g1⟩, ⟨_, g2⟩, ⟨_, g3⟩, fun x hx => ?_, fun j => (hd.frz _ (by rw [block_of_add]; exact hlb)).trans (hfz j)⟩
    obtain ⟨v4, g4, q4⟩ := hd.kin _ _ (h4 x hx)
    rw [q4.ofSlice] at g4
    exact g4
theorem ShT.of {w : World} {F : Nat → Prop} (hF : ∀ b, F b → ∀ o, w.frozen? ⟨b, o, none⟩ = false) (t : T) : ∀ (A : Option Addr), Lay.term.Sl w F A t.kids → ShT w F t A := by
  refine T.ind (p := fun t => ∀ (A : Option Addr), Lay.term.Sl w F A t.kids → ShT w F t A) (fun t ih A h => ?_) t
  have hch : ∀ k, ∃ p : Option Addr × Nat, ∀ x, t.kids[k]? = some x → (∀ ad, A = some ad → w.cell? (ad.add (k * 5 + 4)) = some (.slice p.1 x.kids.length p.2)) ∧ Lay.term.Sl w F p.1 x.kids := fun k => by
    by_cases hk : k < t.kids.length
    · obtain ⟨ad, e, hf, hc⟩ := h (by omega)
      obtain ⟨vs, hr, hcell⟩ := hc k t.kids[k] (List.getElem?_eq_getElem hk)
      obtain ⟨A', c', rfl, _, hs⟩ := TermR.form hr
      refine ⟨(A', c'), fun x hx => ?_⟩
      rw [List.getElem?_eq_getElem hk] at hx
      injection hx with hx
      subst hx
      refine ⟨fun ad' e' => ?_, hs⟩
      rw [e] at e'; injection e' with e'; subst e'
      exact hcell 4 _ rfl
    · exact ⟨(none, 0), fun x hx => by rw [List.getElem?_eq_none (by omega)] at hx; cases hx⟩
  obtain ⟨f, hf⟩ := Classical.axiomOfChoice hch
  refine .mk t A (fun k => (f k).1) (fun k => (f k).2) (fun h0 => ?_) (fun k x hx => ih x (List.mem_of_getElem? hx) _ (hf k x hx).2)
  obtain ⟨ad, e, hfb, hc⟩ := h h0
  refine ⟨ad, e, hfb, fun k hlt => ?_⟩
  obtain ⟨vs, hr, hcell⟩ := hc k t.kids[k] (List.getElem?_eq_getElem hlt)
  obtain ⟨A', c', rfl, _, _⟩ := TermR.form hr
  refine ⟨⟨_, hcell 0 _ rfl⟩, ⟨_, hcell 1 _ rfl⟩, ⟨_, hcell 2 _ rfl⟩, ⟨_, hcell 3 _ rfl⟩, fun x hx => (hf k x hx).1 ad e, fun j => ?_⟩
  have := hF _ hfb (ad.add j).off
  rw [← this]
  unfold World.frozen?
  rw [block_of_add]
/-- The layers lie at A, and all that they lead to may be written. -/
def LyAt (w : World) (F : Nat → Prop) (A : Option Addr) (c : List Ly) : Prop :=
  0 < c.length → ∃ ad, A = some ad ∧ ∀ k (hk : k < c.length), ∃ A1 c1 A2 c2, w.cell? (ad.add (k * 2)) = some (.slice A1 c[k].ds.length c1) ∧ w.cell? ⟨(ad.add (k * 2)).block, (ad.add (k * 2)).off + 1, none⟩ = some (.slice A2 c[k].ts.length c2) ∧
    DeclsAt w F A1 c[k].ds.length ∧ ShT w F (.mk 0 0 0 ⟨#[]⟩ c[k].ts) A2
theorem LyAt.dab {w w' : World} {F G : Nat → Prop} {A : Option Addr} {c : List Ly} (h : LyAt w F A c) (hd : Dab G w w') : LyAt w' F A c := fun h0 => by
  obtain ⟨ad, e, hc⟩ := h h0
  refine ⟨ad, e, fun k hk => ?_⟩
  obtain ⟨A1, c1, A2, c2, e1, e2, h1, h2⟩ := hc k hk
  obtain ⟨v1, g1, k1⟩ := hd.kin _ _ e1
  obtain ⟨v2, g2, k2⟩ := hd.kin _ _ e2
  rw [k1.ofSlice] at g1
  rw [k2.ofSlice] at g2
  exact ⟨A1, c1, A2, c2, g1, g2, h1.dab hd, h2.dab hd⟩
theorem LyAt.of {w : World} {F : Nat → Prop} {A : Option Addr} {c : List Ly} (h : Lay.layer.Sl w F A c) (hF : ∀ b, F b → ∀ o, w.frozen? ⟨b, o, none⟩ = false) : LyAt w F A c := fun h0 => by
  obtain ⟨ad, _, _, _, _, e, _⟩ := h.at_layer h0
  refine ⟨ad, e, fun k hk => ?_⟩
  obtain ⟨ad', A1, c1, A2, c2, e', _, e1, e2, _, _, h1, h2⟩ := h.at_layer hk
  rw [e] at e'; injection e' with e'; subst e'
  exact ⟨A1, c1, A2, c2, e1, e2, DeclsAt.of (G := F) h1 fun b hb => ⟨hb, hF b hb⟩, ShT.of hF _ _ h2⟩
/-- How many marks the layers take. -/
def mwL : List Ly → Nat
  | [] => 0
  | l :: ls => 2 * l.ds.length + 4 * T.sizeL l.ts + mwL ls
end Go.Proofs.YtiahmfpfimmbgaaGreatDoor

/-! Marked declarations are held. -/
namespace Go.Proofs.YtiahmfpfimmbgaaGreatDoor
open Go Go.RowKit Go.ChangeShapes Go.WideShapes Go.ChangeAt Go.Deep

end Go.Proofs.YtiahmfpfimmbgaaGreatDoor

/-! Contexts as arguments of the exact laws; CtxDecls. -/
namespace Go.Proofs.YtiahmfpfimmbgaaGreatDoor
open Go Go.RowKit Go.ChangeShapes Go.WideShapes Go.ChangeAt Go.Deep

theorem okC_l2 {c : List Ly} (h : okC c) : ∀ l ∈ c, okL2 l := fun l hl => by
  obtain ⟨k, hk, rfl⟩ := List.getElem_of_mem hl
  exact ⟨Nat.le_trans (dsAll_at c k hk) h.ds, Nat.le_trans (tsAll_at c k hk) h.ts, fun t ht => (h.terms t (List.mem_flatMap.2 ⟨c[k], hl, ht⟩)).imp fun _ h9 => h9.1⟩
theorem Lay.Sl.decl_own {lo c : Nat} {w : World} {A : Option Addr} {xs : List D} (h : w.ownsRow lo 39 2 (.slice A xs.length c) xs.length (xs.flatMap dcells)) : Lay.decl.Sl w (Own lo w) A xs :=
  OwnL.own (L := Lay.decl) (e := 39) ⟨xs.flatMap dcells, h, fun i x hx => ⟨dcells x, rfl, fun j u hu => by
    have hk : i < xs.length := (List.getElem?_eq_some_iff.1 hx).1
    have hj : j < 2 := by have := (List.getElem?_eq_some_iff.1 hu).1; simpa [dcells] using this
    show (xs.flatMap dcells)[i * 2 + j]? = _
    rw [dcells_get xs i j hk hj, (List.getElem?_eq_some_iff.1 hx).2]; exact hu⟩⟩
theorem OwnR.decl_own {lo c : Nat} {w : World} {A : Option Addr} {xs : List D} (h : OwnR Lay.decl 39 w lo (.slice A xs.length c) xs) : Lay.decl.Sl w (Own lo w) A xs := by
  obtain ⟨cs, h1, h2⟩ := h
  refine OwnL.own (L := Lay.decl) (e := 39) ⟨cs, h1, fun i x hx => ?_⟩
  obtain ⟨vs, hr, hu⟩ := h2 i x hx
  exact ⟨vs, hr, hu⟩
end Go.Proofs.YtiahmfpfimmbgaaGreatDoor

/-! Terms whose rows lie apart from each other: trees. No program is named here. -/
namespace Go.Proofs.YtiahmfpfimmbgaaGreatDoor
open Go Go.RowKit

/-- The cells of a term whose kids lie at A. -/
def tcells (x : T) (A : Option Addr) (c : Nat) : List Value := [.int .i64 x.op, .int .i64 x.a, .int .i64 x.b, .string x.name, .slice A x.kids.length c]
/-- The kids of t lie at A; theirs lie in blocks of their own, each kid's apart from the others' and from A's. -/
inductive TrT (w : World) : (Nat → Prop) → T → Option Addr → Prop
  | mk (F : Nat → Prop) (t : T) (A : Option Addr) (Ak : Nat → Option Addr) (ck : Nat → Nat) (Fk : Nat → Nat → Prop)
      (h : 0 < t.kids.length → ∃ ad, A = some ad ∧ F ad.block ∧ ∀ k x, t.kids[k]? = some x → ¬ Fk k ad.block ∧ x.kids.length ≤ ck k ∧ ∀ j u, (tcells x (Ak k) (ck k))[j]? = some u → w.cell? (ad.add (k * 5 + j)) = some u)
      (hs : ∀ k x, t.kids[k]? = some x → ∀ b, Fk k b → F b)
      (hd : ∀ i j, i ≠ j → i < t.kids.length → j < t.kids.length → ∀ b, Fk i b → ¬ Fk j b)
      (hk : ∀ k x, t.kids[k]? = some x → TrT w (Fk k) x (Ak k)) : TrT w F t A
theorem TrT.mono {w : World} {F G : Nat → Prop} {t : T} {A : Option Addr} (h : TrT w F t A) (hFG : ∀ b, F b → G b) : TrT w G t A := by
  cases h with
  | mk _ _ _ Ak ck Fk h hs hd hk =>
    refine .mk G t A Ak ck Fk (fun h0 => ?_) (fun k x hx b hb => hFG b (hs k x hx b hb)) hd hk
    obtain ⟨ad, e, hf, hc⟩ := h h0
    exact ⟨ad, e, hFG _ hf, hc⟩
theorem TrT.keep {w w' : World} {F : Nat → Prop} {t : T} {A : Option Addr} (h : TrT w F t A) (hk : ∀ b, F b → w'.heap[b]? = w.heap[b]?) : TrT w' F t A := by
  revert hk
  induction h with
  | mk F t A Ak ck Fk h hs hd hk ih =>
    intro hkp
    refine .mk F t A Ak ck Fk (fun h0 => ?_) hs hd (fun k x hx => ih k x hx fun b hb => hkp b (hs k x hx b hb))
    obtain ⟨ad, e, hf, hc⟩ := h h0
    refine ⟨ad, e, hf, fun k x hx => ?_⟩
    obtain ⟨h1, h2, h3⟩ := hc k x hx
    exact ⟨h1, h2, fun j u hu => (World.cell?_of_block (w := w) (by rw [block_of_add]; exact hkp _ hf)).trans (h3 j u hu)⟩
theorem TrT.sl {w : World} {F : Nat → Prop} {t : T} {A : Option Addr} (h : TrT w F t A) : Lay.term.Sl w F A t.kids := by
  induction h with
  | mk F t A Ak ck Fk h hs hd hk ih =>
    intro h0
    obtain ⟨ad, e, hf, hc⟩ := h h0
    refine ⟨ad, e, hf, fun k x hx => ?_⟩
    obtain ⟨h1, h2, h3⟩ := hc k x hx
    exact ⟨tcells x (Ak k) (ck k), TermR.of h2 ((ih k x hx).mono (hs k x hx)), h3⟩
theorem TrT.root {w : World} {F : Nat → Prop} {t t' : T} {A : Option Addr} (h : TrT w F t A) (e : t'.kids = t.kids) : TrT w F t' A := by
  cases h with
  | mk _ _ _ Ak ck Fk h hs hd hk =>
    refine .mk F t' A Ak ck Fk ?_ ?_ ?_ ?_
    · rw [e]; exact h
    · rw [e]; exact hs
    · rw [e]; exact hd
    · rw [e]; exact hk
/-- A row of terms, a tree each. -/
def TrS (w : World) (F : Nat → Prop) (A : Option Addr) (ts : List T) : Prop := TrT w F (.mk 0 0 0 ⟨#[]⟩ ts) A
mutual
/-- Marked terms: the marks from k on. -/
def upT : T → Int → T
  | .mk _ _ _ _ ks, k => .mk k (k + 1) (k + 2) (markT (k + 3)) (upTL ks (k + 4))
def upTL : List T → Int → List T
  | [], _ => []
  | t :: ts, k => upT t k :: upTL ts (k + 4 * (T.size t : Int))
end
theorem upTL_len : ∀ (ts : List T) (k : Int), (upTL ts k).length = ts.length
  | [], _ => rfl
  | t :: ts, k => by simp [upTL, upTL_len ts]
end Go.Proofs.YtiahmfpfimmbgaaGreatDoor
