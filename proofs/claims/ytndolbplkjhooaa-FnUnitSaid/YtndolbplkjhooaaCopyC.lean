/- Words for regions that copy a formula's outer row into a new formula. -/
import Derived.Test.YtndolbplkjhooaaDrU
import Derived.Test.YtndolbplkjhooaaRowAt
namespace Go.Proofs.Ytndolbplkjhooaa
open Go Go.RowKit

/-- Nothing turned but cells of fresh formulas. -/
def RC (W0 : Nat) (x x' : World) : Prop := x.heap.size ≤ x'.heap.size ∧ ∀ i, i < x.heap.size → x'.heap[i]? = x.heap[i]? ∨ (W0 ≤ i ∧ (∃ cs, x.heap[i]? = some (.cells cs 28 (0, 0)) ∧ ∃ cs', x'.heap[i]? = some (.cells cs' 28 (0, 0)) ∧ cs'.size = cs.size))
theorem RC.refl (W0 : Nat) (x : World) : RC W0 x x := ⟨Nat.le_refl _, fun _ _ => .inl rfl⟩
theorem RC.of {W0 : Nat} {x x' : World} (h : Below x.heap.size x x') : RC W0 x x' := ⟨h.size, fun i hi => .inl (h.block i hi)⟩
theorem RC.same {W0 : Nat} {x x' : World} (h : RC W0 x x') {b : Nat} {o : Obj} (hb : x.heap[b]? = some o) (ho : ∀ cs, o ≠ .cells cs 28 (0, 0)) : x'.heap[b]? = some o := by
  rcases h.2 b (Array.getElem?_eq_some_iff.1 hb).1 with e | ⟨_, ⟨cs, e, _⟩⟩
  · rw [e]; exact hb
  · rw [hb] at e; injection e with e; exact absurd e (ho cs)
theorem RC.low {W0 : Nat} {x x' : World} (h : RC W0 x x') {b : Nat} (hb : b < W0) (hx : b < x.heap.size) : x'.heap[b]? = x.heap[b]? := by
  rcases h.2 b hx with e | ⟨h1, _⟩
  · exact e
  · omega
theorem RC.two {W0 : Nat} {x x' : World} (h : RC W0 x x') {b : Nat} (hb : ∃ z0 z1, x.heap[b]? = some (.cells #[z0, z1] 28 (0, 0))) : ∃ z0 z1, x'.heap[b]? = some (.cells #[z0, z1] 28 (0, 0)) := by
  obtain ⟨z0, z1, hb⟩ := hb
  rcases h.2 b (Array.getElem?_eq_some_iff.1 hb).1 with e | ⟨_, ⟨cs, e, cs', e', hs⟩⟩
  · exact ⟨z0, z1, by rw [e]; exact hb⟩
  · rw [hb] at e; injection e with e; injection e with e1 e2 e3
    rw [← e1] at hs
    match cs', hs with
    | ⟨[y0, y1]⟩, _ => exact ⟨y0, y1, e'⟩
abbrev OwnC (W0 : Nat) (w : World) (v : Value) (xs : List (List Int)) : Prop := OwnL Lay.int.slice (NotIn (fun b => W0 ≤ b)) 25 w W0 v xs
theorem tneC : ∀ cs : Array Value, ∀ cur : Array Value, Obj.cells cur 25 (0, 0) ≠ .cells cs 28 (0, 0) := fun _ _ e => by injection e with _ e _; exact absurd e (by decide)
theorem OwnC.rc {W0 : Nat} {x x' : World} {v : Value} {xs : List (List Int)} (h : OwnC W0 x v xs) (hr : RC W0 x x') : OwnC W0 x' v xs := by
  obtain ⟨cs, h1, h2⟩ := h
  refine ⟨cs, ?_, fun i y hy => ?_⟩
  · refine ⟨h1.1, ?_⟩
    rcases h1.2 with hn | ⟨g, cap, cur, e, hb, hgg, rest⟩
    · exact .inl hn
    · exact .inr ⟨g, cap, cur, e, hb, hr.same hgg (fun cs => tneC cs cur), rest⟩
  · obtain ⟨vs, hR, hu⟩ := h2 i y hy
    exact ⟨vs, Lay.int.slice.mono (fun b hb => ⟨Nat.lt_of_lt_of_le hb.1 hr.1, hb.2⟩) (Lay.int.slice.keep (fun b hb => hr.low (by have : ¬ W0 ≤ b := hb.2.2; omega) hb.1) hR), hu⟩
theorem rc_set {W0 : Nat} {x : World} {b : Nat} {z0 z1 y0 y1 : Value} (hb : x.heap[b]? = some (.cells #[z0, z1] 28 (0, 0))) (hW : W0 ≤ b) : RC W0 x ((x.setCell ⟨b, 0, none⟩ y0).setCell ⟨b, 1, none⟩ y1) := by
  have h1 := heap_set_same _ b 1 y1 _ _ (heap_set_same x b 0 y0 _ _ hb)
  refine ⟨by rw [size_setCell, size_setCell]; exact Nat.le_refl _, fun i hi => ?_⟩
  by_cases e : i = b
  · subst e
    exact .inr ⟨hW, _, hb, _, h1, by simp⟩
  · exact .inl ((Below.heap_setCell _ _ _ i (fun e' => e e')).trans (Below.heap_setCell _ _ _ i (fun e' => e e')))
theorem tne2 {cur : Array Value} : ∀ cs : Array Value, Obj.cells cur 25 (0, 0) ≠ .cells cs 28 (0, 0) := fun cs => tneC cs cur
theorem OwnL.monoQ {α : Type} {L : Lay α} {Q Q' : World → Nat → Prop} {e : TypeId} {w : World} {lo : Nat} {v : Value} {xs : List α} (h : OwnL L Q e w lo v xs) (hQ : ∀ b, Q w b → Q' w b) : OwnL L Q' e w lo v xs := by
  obtain ⟨cs, h1, h2⟩ := h
  refine ⟨cs, h1, fun i x hx => ?_⟩
  obtain ⟨vs, hr, hu⟩ := h2 i x hx
  exact ⟨vs, L.mono (fun b hb => ⟨hb.1, hb.2.1, hQ b hb.2.2⟩) hr, hu⟩
theorem OwnL.ne {α : Type} {L : Lay α} {Q : World → Nat → Prop} {e t : TypeId} {w : World} {lo b : Nat} {v : Value} {xs : List α} {cs : Array Value} (h : OwnL L Q e w lo v xs) (hb : w.heap[b]? = some (.cells cs t (0, 0))) (ht : t ≠ e) : v.ownBlock ≠ some b := by
  obtain ⟨_, h1, _⟩ := h
  rcases h1.2 with ⟨e1, _⟩ | ⟨g, cap, cur, e1, _, hg, _⟩
  · rw [e1]; intro h; cases h
  · rw [e1]
    intro h
    have : g = b := by simpa [Value.ownBlock] using h
    subst this
    rw [hb] at hg
    injection hg with hg; injection hg with _ hg _
    exact ht hg
theorem OwnL.grNe {α : Type} {L : Lay α} {e : TypeId} {w w' : World} {lo : Nat} {S : Nat → Prop} {v : Value} {xs : List α} (h : OwnL L (NotIn S) e w lo v xs) (hg : Gr S w w') (hne : ∀ g, v.ownBlock = some g → ¬ S g) : OwnL L (NotIn S) e w' lo v xs := by
  obtain ⟨cs, h1, h2⟩ := h
  refine ⟨cs, own_of_heap h1 fun g hg' => hg.block g (h1.lt g hg').2 (hne g hg'), fun i x hx => ?_⟩
  obtain ⟨vs, hr, hu⟩ := h2 i x hx
  exact ⟨vs, L.mono (fun b hb => ⟨Nat.lt_of_lt_of_le hb.1 hg.size, hb.2.1, hb.2.2⟩) (L.keep (fun b hb => hg.block b hb.1 hb.2.2) hr), hu⟩
/-- The row of the formula in block i. -/
abbrev OwnD (i W0 : Nat) (w : World) (v : Value) (xs : List (List Int)) : Prop := OwnL Lay.int.slice (NotIn (fun b => b = i)) 25 w W0 v xs
theorem lit_slR (w : World) (xs : List Int) (cs : Array Value) (t : TypeId) (hc : cs = (xs.map (Value.int .i64)).toArray) : Lay.int.Rd (w.alloc (.cells cs t)) (some ⟨w.heap.size, 0, none⟩) xs :=
  (lit_sl (S := fun _ => False) w xs cs t hc id).mono fun _ h => h.1
/-- A row that was written down: block b. -/
def LitAt (B : Nat) (xs : List Int) (b : Nat) (x : World) : Prop := B ≤ b ∧ Lay.int.Sl x (fun y => y = b ∧ b < x.heap.size) (some ⟨b, 0, none⟩) xs
theorem LitAt.up {B : Nat} {xs : List Int} {b : Nat} {x x' : World} (h : LitAt B xs b x) (hb : Below x.heap.size x x') : LitAt B xs b x' := ⟨h.1, (h.2.keep fun y hy => hb.block y (by rw [hy.1]; exact hy.2)).mono fun y hy => ⟨hy.1, Nat.lt_of_lt_of_le hy.2 hb.size⟩⟩
theorem litAt_new (w : World) (xs : List Int) (cs : Array Value) (t : TypeId) (hc : cs = (xs.map (Value.int .i64)).toArray) {B : Nat} (hB : B ≤ w.heap.size) : LitAt B xs w.heap.size (w.alloc (.cells cs t)) := ⟨hB, fun hn => by
  obtain ⟨ad, e, _, hc⟩ := lit_slR w xs cs t hc hn
  injection e with e; subst e
  exact ⟨_, rfl, ⟨rfl, by simp⟩, hc⟩⟩
def Fact.lit1 (B : Nat) (xs : List Int) : Fact := .of (fun v x => ∃ b, v = .slice (some ⟨b, 0, none⟩) xs.length xs.length ∧ LitAt B xs b x) fun _ _ _ ⟨b, h1, h2⟩ hb => ⟨b, h1, h2.up hb⟩
def Fact.lit2 (B : Nat) (xs : List Int) : Fact := .of (fun v x => ∃ b b', v = .slice (some ⟨b', 0, none⟩) 1 1 ∧ LitAt B xs b x ∧ x.heap[b']? = some (.cells #[.slice (some ⟨b, 0, none⟩) xs.length xs.length] 25 (0, 0))) fun _ _ _ ⟨b, b', h1, h2, h3⟩ hb => ⟨b, b', h1, h2.up hb, (hb.block _ (lt_of_block h3)).trans h3⟩
def Fact.rowD (i W0 : Nat) (u0 : World) (m : Int) (A9 : Option Addr) (n9 c9 : Nat) (ps : List (List Int)) : Fact :=
  .of (fun v x => ∃ A c, v = .slice A ps.length c ∧ OwnD i W0 x (.slice A ps.length c) ps ∧ x.heap[i]? = some (.cells #[.int .i64 m, .slice A9 n9 c9] 28 (0, 0)) ∧ Below W0 u0 x ∧ W0 ≤ x.heap.size)
  fun _ _ _ ⟨A, c, h1, h2, h3, h4, h5⟩ hb => ⟨A, c, h1, h2.up (Stay.notIn _) hb, (hb.block _ (lt_of_block h3)).trans h3, h4.trans (hb.mono h5), Nat.le_trans h5 hb.size⟩
def Fact.doneD (i W0 : Nat) (u0 : World) (m : Int) (ps : List (List Int)) : Fact :=
  .of (fun _ x => ∃ A c, x.heap[i]? = some (.cells #[.int .i64 m, .slice A ps.length c] 28 (0, 0)) ∧ OwnD i W0 x (.slice A ps.length c) ps ∧ Below W0 u0 x ∧ W0 ≤ x.heap.size)
  fun _ _ _ ⟨A, c, h1, h2, h3, h4⟩ hb => ⟨A, c, (hb.block _ (lt_of_block h1)).trans h1, h2.up (Stay.notIn _) hb, h3.trans (hb.mono h4), Nat.le_trans h4 hb.size⟩
/-- append onto an empty row without room: nothing that was there turns. -/
theorem run_append_empty {P : Program} (w : World) (base : Nat) (t ty e : TypeId) (i : TypeInfo) (z : Value) (size bytes : Nat) (ht : P.underlying t = some (.slice e)) (hi : P.info? e = some i) (hz : i.zero = some z)
    (hsize : i.size = size) (hby : i.bytes = bytes) (hzs : z.cells.size = size) (hsz : 0 < size) (g : Nat) (hg : w.heap[g]? = some (.cells #[] e (0, 0))) (hbg : base ≤ g)
    (A : Option Addr) (m c : Nat) (news : List Value) (hr : Src w size A m news) (h1 : ∀ u ∈ news, u.oneCell' = true) (h63 : m ≤ maxLen) (hbytes : m * bytes ≤ 140737488355328) (hbase : base ≤ w.heap.size) (hA : A = none → m = 0) :
    ∃ A' c' w', (Builtin.append_ #[t, t] ty #[.slice (some ⟨g, 0, none⟩) 0 0, .slice A m c]).run P w = .ok (.slice A' m c') w' ∧ w'.ownsRow base e size (.slice A' m c') m news ∧ Below w.heap.size w w' := by
  have hown : w.ownsRow base e size (.slice (some ⟨g, 0, none⟩) 0 0) 0 [] := ⟨by simp, .inr ⟨g, 0, #[], rfl, hbg, hg, Nat.le_refl _, by unfold maxLen; omega, by simp, by simp⟩⟩
  rcases Nat.eq_zero_or_pos m with h0 | h0
  · subst h0
    have hn : news = [] := List.eq_nil_of_length_eq_zero (by simpa using hr.1)
    subst hn
    cases A with
    | none => exact ⟨some ⟨g, 0, none⟩, 0, w, run_append_of_nil w base t ty e i size ht hi _ 0 [] hown c, hown, Below.refl _ _⟩
    | some ad =>
      have hroom := run_append_room (P := P) w t ty e i ht hi g 0 0 #[] hg ad 0 c [] (by simp) (fun j u h => by simp at h) (by simp) (Nat.le_refl _) (by simp)
      have hh : (w.setRow g #[]).heap[g]? = some (.cells #[] e (0, 0)) := setRow_heap w g #[] #[] e _ hg
      refine ⟨some ⟨g, 0, none⟩, 0, w.setRow g #[], by simpa using hroom, ⟨by simp, .inr ⟨g, 0, #[], rfl, hbg, hh, Nat.le_refl _, by unfold maxLen; omega, by simp, by simp⟩⟩, ⟨rfl, rfl, rfl, by simp [World.setRow], fun k hk => ?_⟩⟩
      by_cases e9 : k = g
      · subst e9; rw [hh, hg]
      · exact setRow_other w g k _ e9
  · obtain ⟨ad, rfl, hcells⟩ := hr.2 h0
    subst hsize
    subst hby
    have hgr := run_append_grow (P := P) w t ty e i z ht hi hz ⟨g, 0, none⟩ 0 0 [] (by simp) (fun j v h => by simp at h) ad m c news hr.1 hcells (by omega) (by simp only [maxLen] at h63; omega) (growslice_fits (by omega) (by simpa using hbytes))
    have hge := grownCap_ge w (0 + m) 0 e
    have hcm : grownCap w (0 + m) 0 e ≤ maxLen := grownCap_le_maxLen w (0 + m) 0 e (by simpa using h63)
    simp only [Nat.zero_add] at hge hcm hgr
    refine ⟨some ⟨w.heap.size, 0, none⟩, _, _, hgr, ?_, ⟨rfl, rfl, rfl, by simp, fun k hk => Below.heap_alloc w.drew _ k hk⟩⟩
    refine ⟨hr.1, .inr ⟨w.heap.size, _, _, rfl, hbase, heap_alloc_new w.drew _, hge, hcm, ?_, ?_⟩⟩
    · have := hr.1
      simp only [Array.size_append, List.size_toArray, size_zeroCells, hzs, this, List.length_nil, Nat.zero_add]
      rw [← Nat.add_mul]
      congr 1
      omega
    · have := hr.1
      simp only [List.nil_append, Array.toList_append]
      rw [← this]
      exact List.take_left
theorem wpList_append_empty {P : Program} {Q' : Exit → Act → World → Prop} {ops : Array Oper} {rest : List Oper} {o : Oper} {a : Act} {w : World} (hgd : o.guard = none) (s y : Operand) (t : TypeId)
    (ho : o.op = .call { callee := .builtin .append, args := #[s, y], argTypes := #[t, t] }) (base : Nat) (e : TypeId) (i : TypeInfo) (z : Value) (size bytes : Nat) (ht : P.underlying t = some (.slice e)) (hi : P.info? e = some i) (hz : i.zero = some z)
    (hsize : i.size = size) (hby : i.bytes = bytes) (hzs : z.cells.size = size) (hsz : 0 < size) (g : Nat) (hs : a.eval s = .slice (some ⟨g, 0, none⟩) 0 0) (hg : w.heap[g]? = some (.cells #[] e (0, 0))) (hbg : base ≤ g)
    (A : Option Addr) (m c : Nat) (news : List Value) (hy : a.eval y = .slice A m c) (hr : Src w size A m news) (h1 : ∀ u ∈ news, u.oneCell' = true) (h63 : m ≤ maxLen) (hbytes : m * bytes ≤ 140737488355328) (hbase : base ≤ w.heap.size) (hA : A = none → m = 0)
    (h : ∀ A' c' w', w'.ownsRow base e size (.slice A' m c') m news → Below w.heap.size w w' → wpList P ops Q' rest (a.put o.dst (.slice A' m c')) w') : wpList P ops Q' (o :: rest) a w := by
  refine wpList_plain hgd fun _ hK => ?_
  obtain ⟨A', c', w', hrun, h2, h3⟩ := run_append_empty (P := P) w base t o.type e i z size bytes ht hi hz hsize hby hzs hsz g hg hbg A m c news hr h1 h63 hbytes hbase hA
  unfold Oper.wp execOp
  simp only [ho, resolve, invoke, builtin, Sem.run_bind, Sem.run_pure, Result.andThen_ok, List.map_toArray, List.map_cons, List.map_nil, hs, hy, hrun]
  exact hK _ _ (h A' c' w' h2 h3)
end Go.Proofs.Ytndolbplkjhooaa
