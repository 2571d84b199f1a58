/- A row of trees of the call's own that grows. The program's copyTerm. The program's copyTerms. CtxTerms, the program's. Marks on trees. Marked terms are held. Trees of terms as the answer of a law: copies, comparisons, marks. The reference's l3Copy. -/
import Derived.Test.YtiahmfpfimmbgaaGreatDoorJFnCtx3
import Derived.Test.YtiahmfpfimmbgaaGreatDoorJFnCtx7
import Derived.Test.YtiahmfpfimmbgaaGreatDoorJFnCtx8
/-! A row of trees of the call's own that grows. -/
namespace Go.Proofs.YtiahmfpfimmbgaaGreatDoor
open Go Go.RowKit

/-- A block of the call's own that may be written. -/
def OwnB9 (lo : Nat) (w : World) (b : Nat) : Prop := lo ≤ b ∧ b < w.heap.size ∧ (∀ o, w.frozen? ⟨b, o, none⟩ = false) ∧ ∃ cs, w.heap[b]? = some (.cells cs 48 (0, 0))
/-- The row v holds the terms ts, each a tree in blocks of its own. -/
def RowTr (lo : Nat) (w : World) (v : Value) (ts : List T) : Prop :=
  ∃ cs, w.ownsRow lo 48 5 v ts.length cs ∧ ∃ (Ak : Nat → Option Addr) (ck : Nat → Nat) (Fk : Nat → Nat → Prop),
    (∀ k x, ts[k]? = some x → (∀ j u, (tcells x (Ak k) (ck k))[j]? = some u → cs[k * 5 + j]? = some u) ∧ x.kids.length ≤ ck k ∧ TrT w (Fk k) x (Ak k)) ∧
    (∀ k b, k < ts.length → Fk k b → OwnB9 lo w b ∧ v.ownBlock ≠ some b) ∧ (∀ i j, i ≠ j → i < ts.length → j < ts.length → ∀ b, Fk i b → ¬ Fk j b)
theorem RowTr.nil (w : World) (lo : Nat) : RowTr lo w (.slice none ([] : List T).length 0) [] :=
  ⟨[], World.ownsRow_nil _ _ _ _, fun _ => none, fun _ => 0, fun _ _ => False, fun k x h => by simp at h, fun k b h => by simp at h, fun i j _ h => by simp at h⟩
theorem OwnB9.up {lo : Nat} {w w' : World} {b : Nat} (h : OwnB9 lo w b) (hs : w.heap.size ≤ w'.heap.size) (hb : w'.heap[b]? = w.heap[b]?) : OwnB9 lo w' b :=
  ⟨h.1, Nat.lt_of_lt_of_le h.2.1 hs, fun o => (World.frozen?_of_block (a := ⟨b, o, none⟩) hb).trans (h.2.2.1 o), by obtain ⟨cs, hc⟩ := h.2.2.2; exact ⟨cs, hb.trans hc⟩⟩
theorem RowTr.keep {lo : Nat} {w w' : World} {v : Value} {ts : List T} (h : RowTr lo w v ts) (hs : w.heap.size ≤ w'.heap.size) (hb : ∀ b, lo ≤ b → b < w.heap.size → w'.heap[b]? = w.heap[b]?) : RowTr lo w' v ts := by
  obtain ⟨cs, h1, Ak, ck, Fk, h2, h3, h4⟩ := h
  refine ⟨cs, own_of_heap h1 fun g hg => hb g (h1.lt g hg).1 (h1.lt g hg).2, Ak, ck, Fk, fun k x hx => ?_, fun k b hk hf => ?_, h4⟩
  · obtain ⟨g1, g2, g3⟩ := h2 k x hx
    exact ⟨g1, g2, g3.keep fun b hf => by
      have h9 := (h3 k b (List.getElem?_eq_some_iff.1 hx).1 hf).1
      exact hb b h9.1 h9.2.1⟩
  · obtain ⟨g1, g2⟩ := h3 k b hk hf
    exact ⟨g1.up hs (hb b g1.1 g1.2.1), g2⟩
theorem RowTr.up {lo : Nat} {w w' : World} {v : Value} {ts : List T} (h : RowTr lo w v ts) (hb : Below w.heap.size w w') : RowTr lo w' v ts := h.keep hb.size fun b _ h9 => hb.block b h9
/-- A cell of a block below lo or of no row's is written. -/
theorem RowTr.far {lo : Nat} {w : World} {v : Value} {ts : List T} (h : RowTr lo w v ts) (p : Addr) (u : Value) (hp : p.block < lo) : RowTr lo (w.setCell p u) v ts :=
  h.keep (by rw [size_setCell]; exact Nat.le_refl _) fun b hb _ => Below.heap_setCell w p u b (fun e => by omega)
theorem RowTr.form {lo : Nat} {w : World} {v : Value} {ts : List T} (h : RowTr lo w v ts) : ∃ A c, v = .slice A ts.length c ∧ ts.length ≤ c := by
  obtain ⟨cs, h1, _⟩ := h
  rcases h1.2 with ⟨e1, e2⟩ | ⟨g, cap, cur, e1, _, _, h3, _⟩
  · exact ⟨none, 0, by rw [e1, e2], by rw [e2]; exact Nat.le_refl _⟩
  · exact ⟨_, cap, e1, h3⟩
/-- The row is a tree. -/
theorem RowTr.tree {lo : Nat} {w : World} {A : Option Addr} {c : Nat} {ts : List T} (h : RowTr lo w (.slice A ts.length c) ts) : TrS w (OwnB9 lo w) A ts := by
  obtain ⟨cs, h1, Ak, ck, Fk, h2, h3, h4⟩ := h
  refine .mk _ _ A Ak ck Fk (fun h0 => ?_) (fun k x hx b hf => (h3 k b (List.getElem?_eq_some_iff.1 hx).1 hf).1) h4 (fun k x hx => (h2 k x hx).2.2)
  have h0 : 0 < ts.length := h0
  have hcs : cs.length = ts.length * 5 := h1.1
  rcases h1.2 with ⟨e1, e2⟩ | ⟨g, cap, cur, e1, hlo, hg, hn, hm, hsz, htk⟩
  · omega
  · injection e1 with e1 e2 e3
    subst e1
    refine ⟨_, rfl, ⟨hlo, (Array.getElem?_eq_some_iff.1 hg).1, fun o => ?_, _, hg⟩, fun k x hx => ?_⟩
    · exact World.ownsRow.frozenAt (g := g) (cap := c) ⟨h1.1, h1.2⟩ o
    · obtain ⟨g1, g2, g3⟩ := h2 k x hx
      have hkl : k < ts.length := (List.getElem?_eq_some_iff.1 hx).1
      refine ⟨fun hf => (h3 k g hkl hf).2 rfl, g2, fun j u hu => ?_⟩
      have h9 := g1 j u hu
      have hj : k * 5 + j < cs.length := (List.getElem?_eq_some_iff.1 h9).1
      have ea : (⟨g, 0, none⟩ : Addr).add (k * 5 + j) = ⟨g, k * 5 + j, none⟩ := by
        unfold Addr.add
        split
        · rename_i e; rw [e]
        · simp
      rw [ea, World.ownsRow.cellAt (g := g) (cap := c) ⟨h1.1, h1.2⟩ _ (by omega)]
      exact h9
theorem tcells_one (x : T) (A : Option Addr) (c : Nat) : ∀ u ∈ tcells x A c, u.oneCell' = true := by
  intro u hu
  simp [tcells] at hu
  rcases hu with rfl | rfl | rfl | rfl | rfl <;> rfl
/-- append of one term, a tree in blocks that are new, laid in a block of its own. -/
theorem run_append_tree {w : World} {lo mid b : Nat} {A A9 : Option Addr} {c c9 d : Nat} {ts ys : List T} {x : T} {ty e' : TypeId} (h : RowTr lo w (.slice A ts.length c) ts) (hmid : ∀ k, k < ts.length → True) (hlo : lo ≤ w.heap.size) (hn : ts.length ≤ 2000000)
    (hx : TrS w (fun g => mid ≤ g ∧ OwnB9 lo w g) A9 x.kids) (hc9 : x.kids.length ≤ c9) (hb : w.heap[b]? = some (.cells (tcells x A9 c9).toArray e' (0, 0)))
    (hnew : ∀ g, mid ≤ g → (Value.slice A ts.length c).ownBlock ≠ some g) (hold : ∃ w0 : World, w0.heap.size ≤ mid ∧ Below w0.heap.size w0 w ∧ RowTr lo w0 (.slice A ts.length c) ts) (hy : ys = ts ++ [x]) :
    ∃ A' c' w', (Builtin.append_ #[24, 24] ty #[.slice A ts.length c, .slice (some ⟨b, 0, none⟩) 1 d]).run Tryz.prog w = .ok (.slice A' ys.length c') w' ∧ RowTr lo w' (.slice A' ys.length c') ys ∧ w.grownBy w' (Value.slice A ts.length c).ownBlock ∧
      ((Value.slice A' ys.length c').ownBlock = (Value.slice A ts.length c).ownBlock ∨ ∃ g, (Value.slice A' ys.length c').ownBlock = some g ∧ w.heap.size ≤ g) := by
  obtain ⟨i0, hi0, hz0, hz1, hz2⟩ := info_parts term_info
  obtain ⟨w0, hw0, hbw, cs, h1, Ak, ck, Fk, h2, h3, h4⟩ := hold
  have h1w : w.ownsRow lo 48 5 (.slice A ts.length c) ts.length cs := own_below h1 hbw (Nat.le_refl _)
  have hl : ts.length + 1 = ys.length := by rw [hy]; simp
  have hsrc : Src w 5 (some ⟨b, 0, none⟩) 1 (tcells x A9 c9) := by
    have := src_block (m := 1) (size := 5) hb rfl
    simpa using this
  have hbb : ys.length * 64 ≤ 140737488355328 := by omega
  obtain ⟨A', c', w', hrun, ho', hg', hbk⟩ := run_append_src_at (P := Tryz.prog) w lo 24 ty 48 i0 _ 5 64 Tryz.underlying24 hi0 hz0 hz1 hz2 rfl (by omega) _ ts.length cs h1w (some ⟨b, 0, none⟩) 1 d (tcells x A9 c9) hsrc (tcells_one x A9 c9) ys.length hl (by unfold maxLen; omega) hbb hlo (fun e => by cases e)
  refine ⟨A', c', w', hrun, ⟨cs ++ tcells x A9 c9, ho', fun k => if k = ts.length then A9 else Ak k, fun k => if k = ts.length then c9 else ck k, fun k => if k = ts.length then (fun g => mid ≤ g ∧ OwnB9 lo w g) else Fk k, fun k y hky => ?_, fun k g hk hf => ?_, fun i j hij hi hj g hf => ?_⟩, hg', hbk⟩
  · have hcl : cs.length = ts.length * 5 := h1.1
    rw [hy] at hky
    by_cases hk : k = ts.length
    · subst hk
      rw [List.getElem?_append_right (Nat.le_refl _), Nat.sub_self] at hky
      simp at hky
      subst hky
      simp only [if_true]
      refine ⟨fun j u hu => ?_, hc9, TrT.root (TrT.keep hx fun g hg => hg'.block g hg.2.2.1 (fun e9 => hnew g hg.1 e9.symm)) rfl⟩
      rw [List.getElem?_append_right (by omega), show ts.length * 5 + j - cs.length = j by omega]
      exact hu
    · have hkl : k < ts.length := by
        have := (List.getElem?_eq_some_iff.1 hky).1
        simp at this
        omega
      rw [List.getElem?_append_left hkl] at hky
      obtain ⟨g1, g2, g3⟩ := h2 k y hky
      simp only [if_neg hk]
      refine ⟨fun j u hu => ?_, g2, g3.keep fun g hf => ?_⟩
      · have h9 := g1 j u hu
        rw [List.getElem?_append_left (List.getElem?_eq_some_iff.1 h9).1]
        exact h9
      · obtain ⟨o1, o2⟩ := h3 k g hkl hf
        exact (hg'.block g (Nat.lt_of_lt_of_le o1.2.1 hbw.size) (fun e9 => o2 e9.symm)).trans (hbw.block g o1.2.1)
  · have hne : ∀ g, g < w.heap.size → (Value.slice A ts.length c).ownBlock ≠ some g → (Value.slice A' ys.length c').ownBlock ≠ some g := fun g h5 h6 h7 => by
      rcases hbk with e | ⟨g2, e, hg2⟩
      · exact h6 (e ▸ h7)
      · rw [e] at h7; injection h7 with h7; omega
    by_cases hkt : k = ts.length
    · simp only [if_pos hkt] at hf
      exact ⟨hf.2.up hg'.size (hg'.block g hf.2.2.1 (fun e9 => hnew g hf.1 e9.symm)), hne g hf.2.2.1 (hnew g hf.1)⟩
    · simp only [if_neg hkt] at hf
      obtain ⟨o1, o2⟩ := h3 k g (by omega) hf
      have o3 := o1.up hbw.size (hbw.block g o1.2.1)
      exact ⟨o3.up hg'.size (hg'.block g o3.2.1 (fun e9 => o2 e9.symm)), hne g o3.2.1 o2⟩
  · by_cases hit : i = ts.length
    · have hjt : j ≠ ts.length := fun e => hij (hit.trans e.symm)
      simp only [if_pos hit] at hf
      simp only [if_neg hjt]
      intro hf2
      have := (h3 j g (by omega) hf2).1.2.1
      have := hf.1
      omega
    · simp only [if_neg hit] at hf
      by_cases hjt : j = ts.length
      · simp only [if_pos hjt]
        intro hf2
        have := (h3 i g (by omega) hf).1.2.1
        have := hf2.1
        omega
      · simp only [if_neg hjt]
        exact h4 i j hij (by omega) (by omega) g hf
end Go.Proofs.YtiahmfpfimmbgaaGreatDoor

/-! The program's copyTerm. -/
namespace Go.Proofs.YtiahmfpfimmbgaaGreatDoor
open Go Go.RowKit

theorem OwnB9.le {lo lo' : Nat} {w : World} {b : Nat} (h : OwnB9 lo w b) (hl : lo' ≤ lo) : OwnB9 lo' w b := ⟨Nat.le_trans hl h.1, h.2⟩
theorem TrS.up {w w' : World} {F : Nat → Prop} {A : Option Addr} {ts : List T} {mid lo : Nat} (h : TrS w (fun g => mid ≤ g ∧ OwnB9 lo w g) A ts) (hb : Below w.heap.size w w') : TrS w' (fun g => mid ≤ g ∧ OwnB9 lo w' g) A ts :=
  (TrT.keep h fun b hf => hb.block b hf.2.2.1).mono fun b hf => ⟨hf.1, hf.2.up hb.size (hb.block b hf.2.2.1)⟩
/-- A term by value, its kids a tree in new blocks. -/
def Fact.treeV (lo mid : Nat) (x : T) : Fact :=
  .of (fun v z => ∃ A c, v = .agg (tcells x A c).toArray ∧ x.kids.length ≤ c ∧ TrS z (fun g => mid ≤ g ∧ OwnB9 lo z g) A x.kids) fun _ z z' ⟨A, c, h1, h2, h3⟩ hb => ⟨A, c, h1, h2, TrS.up (F := fun _ => True) h3 hb⟩
/-- .. in a block of its own. -/
def Fact.treeL (lo mid : Nat) (x : T) : Fact :=
  .of (fun v z => ∃ b A c, v = .slice (some ⟨b, 0, none⟩) 1 1 ∧ z.heap[b]? = some (.cells (tcells x A c).toArray 48 (0, 0)) ∧ x.kids.length ≤ c ∧ TrS z (fun g => mid ≤ g ∧ OwnB9 lo z g) A x.kids) fun _ z z' ⟨b, A, c, h1, h2, h3, h4⟩ hb => ⟨b, A, c, h1, (hb.block b (lt_of_block h2)).trans h2, h3, TrS.up (F := fun _ => True) h4 hb⟩
def Fact.rowT (lo : Nat) (W : World) (v0 : Value) (ys : List T) : Fact :=
  .of (fun v z => ∃ A c, v = .slice A ys.length c ∧ RowTr lo z (.slice A ys.length c) ys ∧ W.grownBy z v0.ownBlock) fun _ z z' ⟨A, c, h1, h2, h3⟩ hb => ⟨A, c, h1, h2.up hb, grown_below h3 hb⟩
/-- The box of a term that is being copied: its row has grown. -/
def BoxT (lo p : Nat) (x : T) (z : World) (ts : List T) : Prop :=
  ∃ A c, z.heap[p]? = some (.cells #[.int .i64 x.op, .int .i64 x.a, .int .i64 x.b, .string x.name, .slice A ts.length c] 48 (0, 0)) ∧ RowTr lo z (.slice A ts.length c) ts
def Fact.boxT (lo base p : Nat) (W : World) (x : T) (ts : List T) (r : Nat) : Fact :=
  .of (fun _ z => BoxT lo p x z ts ∧ Below base W z ∧ base ≤ z.heap.size ∧ z.heap[r]? = W.heap[r]? ∧ r < z.heap.size) fun _ z z' ⟨⟨A, c, h1, h2⟩, h3, h4, h5, h6⟩ hb => ⟨⟨A, c, (hb.block p (lt_of_block h1)).trans h1, h2.up hb⟩, h3.trans (hb.mono h4), Nat.le_trans h4 hb.size, (hb.block r h6).trans h5, Nat.lt_of_lt_of_le h6 hb.size⟩
theorem RowTr.lt {lo : Nat} {w : World} {v : Value} {ts : List T} (h : RowTr lo w v ts) : ∀ g, v.ownBlock = some g → lo ≤ g ∧ g < w.heap.size := by
  obtain ⟨cs, h1, _⟩ := h
  exact fun g hg => h1.lt g hg
theorem wpList_append_tree {Q' : Exit → Act → World → Prop} {ops : Array Oper} {rest : List Oper} {o : Oper} {a : Act} {w : World} {lo mid b : Nat} {A A9 : Option Addr} {c c9 : Nat} {ts ys : List T} {x : T} {e' : TypeId} (hgd : o.guard = none) (s y : Operand)
    (ho : o.op = .call { callee := .builtin .append, args := #[s, y], argTypes := #[24, 24] }) (hs : a.eval s = .slice A ts.length c) (hyv : a.eval y = .slice (some ⟨b, 0, none⟩) 1 1)
    (h : RowTr lo w (.slice A ts.length c) ts) (hlo : lo ≤ w.heap.size) (hn : ts.length ≤ 2000000)
    (hx : TrS w (fun g => mid ≤ g ∧ OwnB9 lo w g) A9 x.kids) (hc9 : x.kids.length ≤ c9) (hb : w.heap[b]? = some (.cells (tcells x A9 c9).toArray e' (0, 0)))
    (hnew : ∀ g, mid ≤ g → (Value.slice A ts.length c).ownBlock ≠ some g) (hold : ∃ w0 : World, w0.heap.size ≤ mid ∧ Below w0.heap.size w0 w ∧ RowTr lo w0 (.slice A ts.length c) ts) (hy : ys = ts ++ [x])
    (hk : ∀ A' c' w', RowTr lo w' (.slice A' ys.length c') ys → w.grownBy w' (Value.slice A ts.length c).ownBlock → wpList Tryz.prog ops Q' rest (a.put o.dst (.slice A' ys.length c')) w') :
    wpList Tryz.prog ops Q' (o :: rest) a w := by
  obtain ⟨A', c', w', hrun, h2, h3, _⟩ := run_append_tree (d := 1) (ty := o.type) h (fun _ _ => trivial) hlo hn hx hc9 hb hnew hold hy
  refine wpList_plain hgd fun _ hK => ?_
  unfold Oper.wp execOp
  simp only [ho, resolve, invoke, builtin, Sem.run_bind, Sem.run_pure, Result.andThen_ok, List.map_toArray, List.map_cons, List.map_nil, hs, hyv, hrun]
  exact hK _ _ (hk A' c' w' h2 h3)
/-- What the program's copyTerm is asked. -/
def RetTree (x : T) (w : World) (e : Ending) (w' : World) : Prop := ∃ A c, e = .returned (.agg (tcells x A c).toArray) ∧ x.kids.length ≤ c ∧ TrS w' (OwnB9 w.heap.size w') A x.kids ∧ Below w.heap.size w w'
def CopyT (x : T) : Prop := ∀ (A : Option Addr) (c : Nat) (F : Nat → Prop) (w : World), Lay.term.Sl w F A x.kids → (∀ b, F b → b < w.heap.size) →
  Calls Tryz.prog 94 #[.agg #[.int .i64 x.op, .int .i64 x.a, .int .i64 x.b, .string x.name, .slice A x.kids.length c]] w (RetTree x w)
set_option maxRecDepth 100000 in
set_option maxHeartbeats 8000000 in
theorem copyTerm_any (t : T) (ho : T.All okT2 t) : CopyT t := by
  revert ho
  refine T.ind (p := fun x => T.All okT2 x → CopyT x) (fun x ih ho => ?_) t
  obtain ⟨hkl, _⟩ := ho.here
  have ihk : ∀ k ∈ x.kids, CopyT k := fun k hk => ih k hk (ho.kid k hk)
  clear ih ho
  intro A c F w h hF
  have HIK := Lib.hid ihk
  clear ihk
  have hal : Below w.heap.size w ((w.alloc (.cells #[.int .i64 x.op, .int .i64 x.a, .int .i64 x.b, .string x.name, .slice none 0 0] 48)).alloc (.cells #[.int .i64 0, .int .i64 0, .int .i64 0, .string ⟨#[]⟩, .slice none 0 0] 48)) := ((Below.refl w.heap.size w).alloc (Nat.le_refl _) (.cells #[.int .i64 x.op, .int .i64 x.a, .int .i64 x.b, .string x.name, .slice none 0 0] 48)).alloc (by simp) (.cells #[.int .i64 0, .int .i64 0, .int .i64 0, .string ⟨#[]⟩, .slice none 0 0] 48)
  have hsz1 : (w.alloc (.cells #[.int .i64 x.op, .int .i64 x.a, .int .i64 x.b, .string x.name, .slice none 0 0] 48)).heap.size = w.heap.size + 1 := by simp
  have hsz2 : ((w.alloc (.cells #[.int .i64 x.op, .int .i64 x.a, .int .i64 x.b, .string x.name, .slice none 0 0] 48)).alloc (.cells #[.int .i64 0, .int .i64 0, .int .i64 0, .string ⟨#[]⟩, .slice none 0 0] 48)).heap.size = w.heap.size + 2 := by simp
  have hres := heap_alloc_new (w.alloc (.cells #[.int .i64 x.op, .int .i64 x.a, .int .i64 x.b, .string x.name, .slice none 0 0] 48)) (.cells #[.int .i64 0, .int .i64 0, .int .i64 0, .string ⟨#[]⟩, .slice none 0 0] 48)
  rw [hsz1] at hres
  have hbox : ((w.alloc (.cells #[.int .i64 x.op, .int .i64 x.a, .int .i64 x.b, .string x.name, .slice none 0 0] 48)).alloc (.cells #[.int .i64 0, .int .i64 0, .int .i64 0, .string ⟨#[]⟩, .slice none 0 0] 48)).heap[w.heap.size]? = some (.cells #[.int .i64 x.op, .int .i64 x.a, .int .i64 x.b, .string x.name, .slice none 0 0] 48 (0, 0)) := (((Below.refl (w.alloc (.cells #[.int .i64 x.op, .int .i64 x.a, .int .i64 x.b, .string x.name, .slice none 0 0] 48)).heap.size (w.alloc (.cells #[.int .i64 x.op, .int .i64 x.a, .int .i64 x.b, .string x.name, .slice none 0 0] 48))).alloc (Nat.le_refl _) (.cells #[.int .i64 0, .int .i64 0, .int .i64 0, .string ⟨#[]⟩, .slice none 0 0] 48)).block _ (by rw [hsz1]; omega)).trans (heap_alloc_new w (.cells #[.int .i64 x.op, .int .i64 x.a, .int .i64 x.b, .string x.name, .slice none 0 0] 48))
  have H := Lib.hid h
  have HF := Lib.hid hF
  clear h hF hsz1
  go_enter Tryz.func94, Tryz.ntmps94
  go_wp2
  generalize (w.alloc (.cells #[.int .i64 x.op, .int .i64 x.a, .int .i64 x.b, .string x.name, .slice none 0 0] 48)).alloc (.cells #[.int .i64 0, .int .i64 0, .int .i64 0, .string ⟨#[]⟩, .slice none 0 0] 48) = W at *
  obtain ⟨p, hp⟩ : ∃ p, p = w.heap.size := ⟨_, rfl⟩
  rw [← hp] at hbox hres hsz2 hal ⊢
  have HP := Lib.hid hp
  clear hp
  go_loopw [11] (fun i wr => ∃ k : Nat, k ≤ x.kids.length ∧ i = .int .i64 k ∧ BoxT (p + 2) p x wr (x.kids.take k) ∧ wr.heap[p + 1]? = some (.cells #[.int .i64 0, .int .i64 0, .int .i64 0, .string ⟨#[]⟩, .slice none 0 0] 48 (0, 0)) ∧ Below p w wr ∧ p + 2 ≤ wr.heap.size) (fun i _ => x.kids.length - (intOf i).toNat)
  case atStart => exact ⟨0, Nat.zero_le _, rfl, ⟨none, 0, hbox, RowTr.nil _ _⟩, hres, hal, by omega⟩
  case round =>
    obtain ⟨k, hk, rfl, hbt, hrs, hb, hlo⟩ := hrel
    by_cases hlt : k < x.kids.length
    · have hk1 : (k : Int) < x.kids.length := by omega
      obtain ⟨B, b, hbx, hrow⟩ := hbt
      have hbw : Below w.heap.size w wr := by rw [← HP.out]; exact hb
      obtain ⟨ad, A1, c1, rfl, hf, e1, e2, e3, e4, e5, hcc, hkk⟩ := (H.out.below hbw HF.out).at_term hlt
      have hal2 : Below wr.heap.size wr (wr.alloc (.cells #[.int .i64 x.kids[k].op, .int .i64 x.kids[k].a, .int .i64 x.kids[k].b, .string x.kids[k].name, .slice A1 x.kids[k].kids.length c1] 48)) := (Below.refl _ _).alloc (Nat.le_refl _) _
      have hk5 := heap_alloc_new wr (.cells #[.int .i64 x.kids[k].op, .int .i64 x.kids[k].a, .int .i64 x.kids[k].b, .string x.kids[k].name, .slice A1 x.kids[k].kids.length c1] 48)
      obtain ⟨ys, hys⟩ : ∃ ys, ys = x.kids.take k ++ [x.kids[k]] := ⟨_, rfl⟩
      have HYE : Hid (ys = x.kids.take (k + 1)) := Lib.hid (by rw [hys, List.take_succ_eq_append_getElem hlt])
      have HYS := Lib.hid hys
      have hxl : (x.kids.take k).length ≤ 2000000 := by rw [List.length_take]; omega
      generalize x.kids.take k = ts at *
      have hKK := hkk.below hal2 (fun g hg => Nat.lt_of_lt_of_le (HF.out g hg) hbw.size)
      have HCP := Lib.hid (HIK.out _ (List.getElem_mem hlt) A1 c1 F)
      have HRW := Lib.hid (hrow.up hal2)
      have HBX := Lib.hid ((hal2.block _ (lt_of_block hbx)).trans hbx)
      have HRS := Lib.hid ((hal2.block _ (lt_of_block hrs)).trans hrs)
      have HB := Lib.hid (hb.trans (hal2.mono (by omega)))
      have HLO : Hid (p + 2 ≤ (wr.alloc (.cells #[.int .i64 x.kids[k].op, .int .i64 x.kids[k].a, .int .i64 x.kids[k].b, .string x.kids[k].name, .slice A1 x.kids[k].kids.length c1] 48)).heap.size) := Lib.hid (Nat.le_trans hlo hal2.size)
      have HKK := Lib.hid hKK
      have HFL : Hid (∀ g, F g → g < (wr.alloc (.cells #[.int .i64 x.kids[k].op, .int .i64 x.kids[k].a, .int .i64 x.kids[k].b, .string x.kids[k].name, .slice A1 x.kids[k].kids.length c1] 48)).heap.size) := Lib.hid (fun g hg => Nat.lt_of_lt_of_le (HF.out g hg) (Nat.le_trans hbw.size hal2.size))
      have z0 := Later.cell (cell_of_block HBX.out 4).1
      have y0 := Later.cell (cell_of_block hk5 0).1
      have y1 := Later.cell (cell_of_block hk5 1).1
      have y2 := Later.cell (cell_of_block hk5 2).1
      have y3 := Later.cell (cell_of_block hk5 3).1
      have y4 := Later.cell (cell_of_block hk5 4).1
      clear hys hkk hKK hal2 hk5 hrow hbx hrs hb hbw
      go_wp2
      generalize wr.alloc (.cells #[.int .i64 x.kids[k].op, .int .i64 x.kids[k].a, .int .i64 x.kids[k].b, .string x.kids[k].name, .slice A1 x.kids[k].kids.length c1] 48) = W1 at *
      generalize wr.heap.size = bx at *
      refine wp_region_shares [[], [(0, 15)], [], [(2, 17)], [(3, 18)], [(1, 16), (4, 19)], [], [(6, 21), (5, 20)]]
        [.eq (.pointer (some ⟨p, 4, none⟩)), .eq (.slice B ts.length b), .eq (.agg #[.int .i64 x.kids[k].op, .int .i64 x.kids[k].a, .int .i64 x.kids[k].b, .string x.kids[k].name, .slice A1 x.kids[k].kids.length c1]), Fact.treeV (p + 2) W1.heap.size x.kids[k], Fact.treeL (p + 2) W1.heap.size x.kids[k], Fact.rowT (p + 2) W1 (.slice B ts.length b) ys, .eq (.pointer (some ⟨p, 4, none⟩)), Fact.boxT (p + 2) p p W1 x ys (p + 1)]
        [5, 7] [5, 7] [6, 7] [7] [(0, 15), (1, 16), (2, 17), (3, 18), (4, 19), (5, 20), (6, 21)] (by kernel_rfl) (by kernel_rfl) (by kernel_rfl) (by kernel_rfl)
        ⟨?_, ?_, ?_, ?_, ?_, ?_, ?_, ?_, trivial⟩ ?_
      · intro vals z hC hF
        simp only [putsD, Act.put, List.setIfInBounds_toArray, List.set_cons_zero, List.set_cons_succ]
        go_wp2
        exact ⟨rfl, rfl, .inr (Below.refl _ _), .inr (.inl (by simp))⟩
      · intro vals z hC hF
        have hC := hC.resolve_left (by simp)
        have hsz := hC.size
        have e1 : z.cell? _ = _ := z0 ⟨z, hC⟩
        simp only [factsD, List.getD_cons_zero, List.getD_cons_succ, Fact.eq, Fact.row, Fact.lit, Fact.lit0, Fact.of, and_true, Fact.treeV, Fact.treeL, Fact.rowT, Fact.boxT] at hF
        simp only [putsD, Act.put, List.setIfInBounds_toArray, List.set_cons_zero, List.set_cons_succ]
        simp only [hF]
        go_wp2
        exact ⟨rfl, rfl, .inr (Below.refl _ _), .inr (.inl (by simp))⟩
      · intro vals z hC hF
        have hC := hC.resolve_left (by simp)
        have hsz := hC.size
        have e1 : z.cell? _ = _ := y0 ⟨z, hC⟩
        have e2 : z.cell? _ = _ := y1 ⟨z, hC⟩
        have e3 : z.cell? _ = _ := y2 ⟨z, hC⟩
        have e4 : z.cell? _ = _ := y3 ⟨z, hC⟩
        have e5 : z.cell? _ = _ := y4 ⟨z, hC⟩
        simp only [putsD, Act.put, List.setIfInBounds_toArray, List.set_cons_zero, List.set_cons_succ]
        go_wp2
        exact ⟨rfl, rfl, .inr (Below.refl _ _), .inr (.inl (by simp))⟩
      · intro vals z hC hF
        have hC := hC.resolve_left (by simp)
        have hsz := hC.size
        simp only [factsD, List.getD_cons_zero, List.getD_cons_succ, Fact.eq, Fact.row, Fact.lit, Fact.lit0, Fact.of, and_true, Fact.treeV, Fact.treeL, Fact.rowT, Fact.boxT] at hF
        have e1 := hF
        simp only [putsD, Act.put, List.setIfInBounds_toArray, List.set_cons_zero, List.set_cons_succ]
        simp only [e1]
        have HC9 := Lib.hid (HCP.out z (HKK.out.below hC HFL.out) (fun g hg => Nat.lt_of_lt_of_le (HFL.out g hg) hsz))
        go_wp2_with fail
        refine HC9.out.mono ?_
        rintro e w9 ⟨A9, c9, rfl, hc9, ht9, hb9⟩
        have HT9 : Hid (TrS w9 (fun g => W1.heap.size ≤ g ∧ OwnB9 (p + 2) w9 g) A9 x.kids[k].kids) := Lib.hid (TrT.mono ht9 fun g hg => ⟨Nat.le_trans hsz hg.1, hg.le (Nat.le_trans HLO.out hsz)⟩)
        clear ht9
        go_wp2
        exact ⟨rfl, ⟨A9, c9, rfl, hc9, HT9.out⟩, .inr hb9, .inr (.inl (by simp))⟩
      · intro vals z hC hF
        have hC := hC.resolve_left (by simp)
        have hsz := hC.size
        simp only [factsD, List.getD_cons_zero, List.getD_cons_succ, Fact.eq, Fact.row, Fact.lit, Fact.lit0, Fact.of, and_true, Fact.treeV, Fact.treeL, Fact.rowT, Fact.boxT] at hF
        obtain ⟨A9, c9, e1, hc9, ht9⟩ := hF
        have e1 : vals 3 = .agg #[.int .i64 x.kids[k].op, .int .i64 x.kids[k].a, .int .i64 x.kids[k].b, .string x.kids[k].name, .slice A9 x.kids[k].kids.length c9] := e1
        simp only [putsD, Act.put, List.setIfInBounds_toArray, List.set_cons_zero, List.set_cons_succ]
        simp only [e1]
        have hal9 : Below z.heap.size z (z.alloc (.cells (tcells x.kids[k] A9 c9).toArray 48)) := (Below.refl _ _).alloc (Nat.le_refl _) _
        go_wp2
        exact ⟨rfl, ⟨_, A9, c9, rfl, heap_alloc_new _ _, hc9, TrS.up (F := fun _ => True) ht9 hal9⟩, .inr hal9, .inr (.inl (by simp))⟩
      · intro vals z hC hF
        have hC := hC.resolve_left (by simp)
        have hsz := hC.size
        simp only [factsD, List.getD_cons_zero, List.getD_cons_succ, Fact.eq, Fact.row, Fact.lit, Fact.lit0, Fact.of, and_true, Fact.treeV, Fact.treeL, Fact.rowT, Fact.boxT] at hF
        obtain ⟨e5, b5, A9, c9, e7, hb5, hc9, ht9⟩ := hF
        have hrz := HRW.out.up hC
        simp only [putsD, Act.put, List.setIfInBounds_toArray, List.set_cons_zero, List.set_cons_succ]
        simp only [e5, e7]
        refine wpList_append_tree (ys := ys) (by rfl) (.tmp 16) (.tmp 19) (by rfl) (by rfl) (by rfl) hrz (Nat.le_trans HLO.out hsz) hxl ht9 hc9 hb5 (fun g hg e9 => by have := (HRW.out.lt g e9).2; omega) ⟨W1, Nat.le_refl _, hC, HRW.out⟩ HYS.out ?_
        intro A8 c8 w8 hown8 hg8
        exact ⟨rfl, ⟨A8, c8, rfl, hown8, below_grown hC hg8⟩, .inl (by simp), .inl (by simp)⟩
      · intro vals z hC hF
        simp only [putsD, Act.put, List.setIfInBounds_toArray, List.set_cons_zero, List.set_cons_succ]
        go_wp2
        exact ⟨rfl, rfl, .inr (Below.refl _ _), .inr (.inl (by simp))⟩
      · intro vals z hC hF
        simp only [factsD, List.getD_cons_zero, List.getD_cons_succ, Fact.eq, Fact.row, Fact.lit, Fact.lit0, Fact.of, and_true, Fact.treeV, Fact.treeL, Fact.rowT, Fact.boxT] at hF
        obtain ⟨e11, A8, c8, e8, hown8, hg8⟩ := hF
        have hpx := (hg8.block p (lt_of_block HBX.out) (fun e => by have := (HRW.out.lt p e.symm).1; omega)).trans HBX.out
        have x1 := (cell_of_block hpx 4).1
        have x2 := (cell_of_block hpx 4).2
        have HRF := Lib.hid (hown8.far ⟨p, 4, none⟩ (.slice A8 ys.length c8) (by show p < p + 2; omega))
        have HPX := Lib.hid (heap_set_same z p 4 (.slice A8 ys.length c8) _ _ hpx)
        have HBL : Hid (Below p W1 (z.setCell ⟨p, 4, none⟩ (.slice A8 ys.length c8))) := Lib.hid (below_set9 ((Below.refl p W1).grown hg8 (by have := HLO.out; omega) (fun g hg => by have := (HRW.out.lt g hg).1; omega)) (Nat.le_refl p) _)
        have HRR := Lib.hid ((Below.heap_setCell z ⟨p, 4, none⟩ (.slice A8 ys.length c8) (p + 1) (by show p + 1 ≠ p; omega)).trans (hg8.block (p + 1) (lt_of_block HRS.out) (fun e => by have := (HRW.out.lt (p + 1) e.symm).1; omega)))
        have HSZ := Lib.hid hg8.size
        clear hpx
        simp only [putsD, Act.put, List.setIfInBounds_toArray, List.set_cons_zero, List.set_cons_succ]
        simp only [e11, e8]
        go_wp2
        exact ⟨rfl, ⟨⟨A8, c8, HPX.out, HRF.out⟩, HBL.out, by rw [size_setCell]; have := HLO.out; have := HSZ.out; omega, HRR.out, by rw [size_setCell]; have := HLO.out; have := HSZ.out; omega⟩, .inl (by simp), .inl (by simp)⟩
      · intro vals z hF
        simp only [facts, List.getD_cons_zero, List.getD_cons_succ, Fact.eq, Fact.row, Fact.lit, Fact.lit0, Fact.of, and_true, Fact.treeV, Fact.treeL, Fact.rowT, Fact.boxT] at hF
        obtain ⟨hbt, hB9, hsz9, hr9, hlr9⟩ := hF
        simp only [putsD, Act.put, List.setIfInBounds_toArray, List.set_cons_zero, List.set_cons_succ]
        have hb9 := HB.out.trans hB9
        have hrs9 := hr9.trans HRS.out
        clear hB9 hr9 z0 y0 y1 y2 y3 y4
        go_wp2
        go_roundw
        case rel => exact ⟨k + 1, by omega, by go_num, by rw [← HYE.out]; exact hbt, hrs9, hb9, by omega⟩
        case measure => simp [intOf]; omega
    · have hke : k = x.kids.length := by omega
      subst hke
      rw [List.take_length] at hbt
      obtain ⟨B, b, hbx, hrow⟩ := hbt
      have v0 := (cell_of_block hbx 0).1
      have v1 := (cell_of_block hbx 1).1
      have v2 := (cell_of_block hbx 2).1
      have v3 := (cell_of_block hbx 3).1
      have v4 := (cell_of_block hbx 4).1
      have r0 := (cell_of_block hrs 0).1
      have r1 := (cell_of_block hrs 1).1
      have r2 := (cell_of_block hrs 2).1
      have r3 := (cell_of_block hrs 3).1
      have r4 := (cell_of_block hrs 4).1
      have f0 := (cell_of_block hrs 0).2
      have f1 := (cell_of_block hrs 1).2
      have f2 := (cell_of_block hrs 2).2
      have f3 := (cell_of_block hrs 3).2
      have f4 := (cell_of_block hrs 4).2
      have s0 := heap_set_same wr (p + 1) 0 (.int .i64 x.op) _ _ hrs
      have s1 := heap_set_same _ (p + 1) 1 (.int .i64 x.a) _ _ s0
      have s2 := heap_set_same _ (p + 1) 2 (.int .i64 x.b) _ _ s1
      have s3 := heap_set_same _ (p + 1) 3 (.string x.name) _ _ s2
      have s4 := heap_set_same _ (p + 1) 4 (.slice B x.kids.length b) _ _ s3
      have hp1 : p + 1 < p + 2 := by omega
      have HRW := Lib.hid (((((hrow.far ⟨p + 1, 0, none⟩ (.int .i64 x.op) hp1).far ⟨p + 1, 1, none⟩ (.int .i64 x.a) hp1).far ⟨p + 1, 2, none⟩ (.int .i64 x.b) hp1).far ⟨p + 1, 3, none⟩ (.string x.name) hp1).far ⟨p + 1, 4, none⟩ (.slice B x.kids.length b) hp1)
      have hp2 : p ≤ p + 1 := by omega
      have HBL := Lib.hid (below_set9 (below_set9 (below_set9 (below_set9 (below_set9 hb (p := ⟨p + 1, 0, none⟩) hp2 (.int .i64 x.op)) (p := ⟨p + 1, 1, none⟩) hp2 (.int .i64 x.a)) (p := ⟨p + 1, 2, none⟩) hp2 (.int .i64 x.b)) (p := ⟨p + 1, 3, none⟩) hp2 (.string x.name)) (p := ⟨p + 1, 4, none⟩) hp2 (.slice B x.kids.length b))
      have HS4 := Lib.hid s4
      have hcap : x.kids.length ≤ b := by
        obtain ⟨A8, c8, e8, h8⟩ := hrow.form
        injection e8 with _ _ e8
        omega
      clear s0 s1 s2 s3 s4 hp1 hp2 hrow hbx hb
      go_wp2
      generalize (((((wr.setCell ⟨p + 1, 0, none⟩ (.int .i64 x.op)).setCell ⟨p + 1, 1, none⟩ (.int .i64 x.a)).setCell ⟨p + 1, 2, none⟩ (.int .i64 x.b)).setCell ⟨p + 1, 3, none⟩ (.string x.name)).setCell ⟨p + 1, 4, none⟩ (.slice B x.kids.length b)) = W5 at *
      have k0 := (cell_of_block HS4.out 0).1
      have k1 := (cell_of_block HS4.out 1).1
      have k2 := (cell_of_block HS4.out 2).1
      have k3 := (cell_of_block HS4.out 3).1
      have k4 := (cell_of_block HS4.out 4).1
      simp at k0 k1 k2 k3 k4
      refine bodyPost_ret (v := .agg #[.int .i64 x.op, .int .i64 x.a, .int .i64 x.b, .string x.name, .slice B x.kids.length b]) (by simp [results, Tryz.results94, go_sem, k0, k1, k2, k3, k4]) rfl ?_
      refine ⟨B, b, rfl, hcap, TrT.mono (RowTr.tree HRW.out) (fun g hg => hg.le (by rw [← HP.out]; omega)), by rw [← HP.out]; exact HBL.out⟩
end Go.Proofs.YtiahmfpfimmbgaaGreatDoor

/-! The program's copyTerms. -/
namespace Go.Proofs.YtiahmfpfimmbgaaGreatDoor
open Go Go.RowKit

/-- A row of trees of the call's own is handed back. -/
def RetTrS (ts : List T) (w : World) (e : Ending) (w' : World) : Prop := ∃ A c, e = .returned (.slice A ts.length c) ∧ ts.length ≤ c ∧ TrS w' (OwnB9 w.heap.size w') A ts ∧ Below w.heap.size w w'
set_option maxRecDepth 100000 in
set_option maxHeartbeats 8000000 in
theorem copyTerms_any (ts : List T) (ho : ∀ t ∈ ts, T.All okT2 t) (A : Option Addr) (c : Nat) (F : Nat → Prop) (w : World) (h : Lay.term.Sl w F A ts) (hF : ∀ b, F b → b < w.heap.size) (hn : ts.length ≤ 1048576) :
    Calls Tryz.prog 56 #[.slice A ts.length c] w (RetTrS ts w) := by
  have H := Lib.hid h
  have HF := Lib.hid hF
  have HO := Lib.hid ho
  clear h hF ho
  go_enter Tryz.func56, Tryz.ntmps56
  go_wp2
  go_loopw [3, 8] (fun a i wr => ∃ (k : Nat) (xs : List T) (B : Option Addr) (b : Nat), k ≤ ts.length ∧ a = .slice B xs.length b ∧ i = .int .i64 k ∧ RowTr w.heap.size wr (.slice B xs.length b) xs ∧ Below w.heap.size w wr ∧ Hid (xs = ts.take k)) (fun _ i _ => ts.length - (intOf i).toNat)
  case atStart => exact ⟨0, [], none, 0, Nat.zero_le _, rfl, rfl, RowTr.nil _ _, Below.refl _ _, Lib.hid (by simp)⟩
  case round =>
    obtain ⟨k, xs, B, b, hk, rfl, rfl, hrow, hb, HX⟩ := hrel
    by_cases hlt : k < ts.length
    · have hk1 : (k : Int) < ts.length := by omega
      have hFr : ∀ g, F g → g < wr.heap.size := fun g hg => Nat.lt_of_lt_of_le (HF.out g hg) hb.size
      obtain ⟨ad, A1, c1, rfl, hf, e1, e2, e3, e4, e5, hcc, hkk⟩ := (H.out.below hb HF.out).at_term hlt
      have hal : Below wr.heap.size wr (wr.alloc (.cells #[.int .i64 ts[k].op, .int .i64 ts[k].a, .int .i64 ts[k].b, .string ts[k].name, .slice A1 ts[k].kids.length c1] 48)) := (Below.refl _ _).alloc (Nat.le_refl _) _
      have HB1 := Lib.hid (bthen hb hal)
      have HRW := Lib.hid (hrow.up hal)
      have HSZ1 := Lib.hid hal.size
      have HCP := Lib.hid (copyTerm_any ts[k] (HO.out _ (List.getElem_mem hlt)) A1 c1 F (wr.alloc (.cells #[.int .i64 ts[k].op, .int .i64 ts[k].a, .int .i64 ts[k].b, .string ts[k].name, .slice A1 ts[k].kids.length c1] 48)) (hkk.below hal hFr) (fun g hg => Nat.lt_of_lt_of_le (hFr g hg) hal.size))
      obtain ⟨ys, hys⟩ : ∃ ys, ys = xs ++ [ts[k]] := ⟨_, rfl⟩
      have HYE : Hid (ys = ts.take (k + 1)) := Lib.hid (by rw [hys, HX.out, List.take_succ_eq_append_getElem hlt])
      have HYS := Lib.hid hys
      have hxl : xs.length ≤ 2000000 := by rw [HX.out, List.length_take]; omega
      clear hys hkk hal hrow hFr
      go_wp2_with fail
      generalize wr.alloc (.cells #[.int .i64 ts[k].op, .int .i64 ts[k].a, .int .i64 ts[k].b, .string ts[k].name, .slice A1 ts[k].kids.length c1] 48) = W1 at *
      refine HCP.out.mono ?_
      rintro e w2 ⟨A9, c9, rfl, hc9, ht9, hb2⟩
      simp only [tcells]
      have hal3 : Below w2.heap.size w2 (w2.alloc (.cells #[.int .i64 ts[k].op, .int .i64 ts[k].a, .int .i64 ts[k].b, .string ts[k].name, .slice A9 ts[k].kids.length c9] 48)) := (Below.refl _ _).alloc (Nat.le_refl _) _
      have hnb := heap_alloc_new w2 (.cells #[.int .i64 ts[k].op, .int .i64 ts[k].a, .int .i64 ts[k].b, .string ts[k].name, .slice A9 ts[k].kids.length c9] 48)
      have hrz := (HRW.out.up hb2).up hal3
      have hlo : w.heap.size ≤ (w2.alloc (.cells #[.int .i64 ts[k].op, .int .i64 ts[k].a, .int .i64 ts[k].b, .string ts[k].name, .slice A9 ts[k].kids.length c9] 48)).heap.size := Nat.le_trans HB1.out.size (Nat.le_trans hb2.size hal3.size)
      have htz : TrS (w2.alloc (.cells #[.int .i64 ts[k].op, .int .i64 ts[k].a, .int .i64 ts[k].b, .string ts[k].name, .slice A9 ts[k].kids.length c9] 48)) (fun g => W1.heap.size ≤ g ∧ OwnB9 w.heap.size (w2.alloc (.cells #[.int .i64 ts[k].op, .int .i64 ts[k].a, .int .i64 ts[k].b, .string ts[k].name, .slice A9 ts[k].kids.length c9] 48)) g) A9 ts[k].kids := TrS.up (F := fun _ => True) (TrT.mono ht9 fun g hg => ⟨hg.1, hg.le HB1.out.size⟩) hal3
      have hbz := Lib.hid (bthen HB1.out (bthen hb2 hal3))
      have hW1 : Below W1.heap.size W1 (w2.alloc (.cells #[.int .i64 ts[k].op, .int .i64 ts[k].a, .int .i64 ts[k].b, .string ts[k].name, .slice A9 ts[k].kids.length c9] 48)) := bthen hb2 hal3
      have hro : ∀ g, W1.heap.size ≤ g → (Value.slice B xs.length b).ownBlock = some g → False := fun g hg e9 => by have := (HRW.out.lt g e9).2; omega
      clear ht9 hb2 hal3
      go_wp2_with (at_builtin; refine wpList_append_tree (ys := ys) (mid := W1.heap.size) (x := ts[k]) (A9 := A9) (c9 := c9) (e' := 48) (by rfl) (.tmp 12) (.tmp 15) (by rfl) (by rfl) (by rfl) hrz hlo hxl htz hc9 hnb (fun g hg e9 => hro g hg e9) ⟨W1, Nat.le_refl _, hW1, HRW.out⟩ HYS.out ?_; intro A3 c3 w3 hown3 hg3; have HB3 := Lib.hid (hbz.out.grown hg3 hlo (fun g e => (hrz.lt g e).1)))
      go_roundw
      case rel => exact ⟨k + 1, ys, A3, c3, by omega, rfl, by go_num, hown3, HB3.out, HYE⟩
      case measure => simp [intOf]; omega
    · have hke : k = ts.length := by omega
      have HE : Hid (xs = ts) := Lib.hid (by rw [HX.out, hke, List.take_length])
      have hcap : xs.length ≤ b := by
        obtain ⟨A8, c8, e8, h8⟩ := hrow.form
        injection e8 with _ _ e8
        omega
      subst hke
      go_wp2
      go_ret
      rw [← HE.out]
      exact ⟨B, b, rfl, hcap, hrow.tree, hb⟩
end Go.Proofs.YtiahmfpfimmbgaaGreatDoor

/-! CtxTerms, the program's. -/
namespace Go.Proofs.YtiahmfpfimmbgaaGreatDoor
open Go Go.RowKit Go.ChangeShapes Go.WideShapes Go.ChangeAt Go.Deep

end Go.Proofs.YtiahmfpfimmbgaaGreatDoor

/-! Marks on trees. -/
namespace Go.Proofs.YtiahmfpfimmbgaaGreatDoor
open Go Go.RowKit Go.ChangeShapes Go.WideShapes Go.ChangeAt Go.Deep

end Go.Proofs.YtiahmfpfimmbgaaGreatDoor

/-! Marked terms are held. -/
namespace Go.Proofs.YtiahmfpfimmbgaaGreatDoor
open Go Go.RowKit Go.ChangeShapes Go.WideShapes Go.ChangeAt Go.Deep

end Go.Proofs.YtiahmfpfimmbgaaGreatDoor

/-! Trees of terms as the answer of a law: copies, comparisons, marks. -/
namespace Go.Proofs.YtiahmfpfimmbgaaGreatDoor
open Go Go.RowKit Go.ChangeShapes Go.WideShapes Go.ChangeAt Go.Deep

section
variable {w w' : World} {lo hi : Nat} {A : Option Addr} {ts : List T}
theorem TrS.cp_of (h : TrS w (OwnB9 lo w) A ts) : TrS w (Cp lo w.heap.size w) A ts := TrT.mono h fun _ h => ⟨h.1, h.2.1, Nat.le_refl _, h.2.2.1⟩
theorem TrS.cp_rd (h : TrS w (Cp lo hi w) A ts) : Lay.term.Rd w A ts := (TrT.sl h).mono fun _ h => h.lt
end
end Go.Proofs.YtiahmfpfimmbgaaGreatDoor

/-! The reference's l3Copy. -/
namespace Go.Proofs.YtiahmfpfimmbgaaGreatDoor
open Go Go.RowKit

def Fact.boxL (p : Nat) (W : World) (x : T) (ts : List T) : Fact :=
  .of (fun _ z => BoxT (p + 3) (p + 2) x z ts ∧ Below p W z ∧ p + 3 ≤ z.heap.size ∧ z.heap[p + 1]? = W.heap[p + 1]? ∧ z.heap[p]? = W.heap[p]?) fun _ z z' ⟨⟨A, c, h1, h2⟩, h3, h4, h5, h6⟩ hb =>
    ⟨⟨A, c, (hb.block (p + 2) (lt_of_block h1)).trans h1, h2.up hb⟩, h3.trans (hb.mono (by omega)), Nat.le_trans h4 hb.size, (hb.block (p + 1) (by omega)).trans h5, (hb.block p (by omega)).trans h6⟩
def CopyL (x : T) : Prop := ∀ (A : Option Addr) (c : Nat) (F : Nat → Prop) (w : World), Lay.term.Sl w F A x.kids → (∀ b, F b → b < w.heap.size) →
  Calls Tryz.prog 70 #[.agg #[.int .i64 x.op, .int .i64 x.a, .int .i64 x.b, .string x.name, .slice A x.kids.length c]] w (RetTree x w)
set_option maxRecDepth 100000 in
set_option maxHeartbeats 8000000 in
theorem l3Copy_any (t : T) (ho : T.All okT2 t) : CopyL t := by
  revert ho
  refine T.ind (p := fun x => T.All okT2 x → CopyL x) (fun x ih ho => ?_) t
  obtain ⟨hkl, _⟩ := ho.here
  have ihk : ∀ k ∈ x.kids, CopyL k := fun k hk => ih k hk (ho.kid k hk)
  clear ih ho
  intro A c F w h hF
  have HIK := Lib.hid ihk
  clear ihk
  have hal : Below w.heap.size w (((w.alloc (.cells #[.int .i64 x.op, .int .i64 x.a, .int .i64 x.b, .string x.name, .slice A x.kids.length c] 48)).alloc (.cells #[.int .i64 0, .int .i64 0, .int .i64 0, .string ⟨#[]⟩, .slice none 0 0] 48)).alloc (.cells #[.int .i64 x.op, .int .i64 x.a, .int .i64 x.b, .string x.name, .slice none 0 0] 48)) := (((Below.refl w.heap.size w).alloc (Nat.le_refl _) (.cells #[.int .i64 x.op, .int .i64 x.a, .int .i64 x.b, .string x.name, .slice A x.kids.length c] 48)).alloc (by simp) (.cells #[.int .i64 0, .int .i64 0, .int .i64 0, .string ⟨#[]⟩, .slice none 0 0] 48)).alloc (by simp; omega) (.cells #[.int .i64 x.op, .int .i64 x.a, .int .i64 x.b, .string x.name, .slice none 0 0] 48)
  have hsz1 : (w.alloc (.cells #[.int .i64 x.op, .int .i64 x.a, .int .i64 x.b, .string x.name, .slice A x.kids.length c] 48)).heap.size = w.heap.size + 1 := by simp
  have hsz1' : ((w.alloc (.cells #[.int .i64 x.op, .int .i64 x.a, .int .i64 x.b, .string x.name, .slice A x.kids.length c] 48)).alloc (.cells #[.int .i64 0, .int .i64 0, .int .i64 0, .string ⟨#[]⟩, .slice none 0 0] 48)).heap.size = w.heap.size + 2 := by simp
  have hsz2 : (((w.alloc (.cells #[.int .i64 x.op, .int .i64 x.a, .int .i64 x.b, .string x.name, .slice A x.kids.length c] 48)).alloc (.cells #[.int .i64 0, .int .i64 0, .int .i64 0, .string ⟨#[]⟩, .slice none 0 0] 48)).alloc (.cells #[.int .i64 x.op, .int .i64 x.a, .int .i64 x.b, .string x.name, .slice none 0 0] 48)).heap.size = w.heap.size + 3 := by simp
  have hbox := heap_alloc_new ((w.alloc (.cells #[.int .i64 x.op, .int .i64 x.a, .int .i64 x.b, .string x.name, .slice A x.kids.length c] 48)).alloc (.cells #[.int .i64 0, .int .i64 0, .int .i64 0, .string ⟨#[]⟩, .slice none 0 0] 48)) (.cells #[.int .i64 x.op, .int .i64 x.a, .int .i64 x.b, .string x.name, .slice none 0 0] 48)
  rw [hsz1'] at hbox
  have hres : (((w.alloc (.cells #[.int .i64 x.op, .int .i64 x.a, .int .i64 x.b, .string x.name, .slice A x.kids.length c] 48)).alloc (.cells #[.int .i64 0, .int .i64 0, .int .i64 0, .string ⟨#[]⟩, .slice none 0 0] 48)).alloc (.cells #[.int .i64 x.op, .int .i64 x.a, .int .i64 x.b, .string x.name, .slice none 0 0] 48)).heap[w.heap.size + 1]? = some (.cells #[.int .i64 0, .int .i64 0, .int .i64 0, .string ⟨#[]⟩, .slice none 0 0] 48 (0, 0)) := by
    have h9 := heap_alloc_new (w.alloc (.cells #[.int .i64 x.op, .int .i64 x.a, .int .i64 x.b, .string x.name, .slice A x.kids.length c] 48)) (.cells #[.int .i64 0, .int .i64 0, .int .i64 0, .string ⟨#[]⟩, .slice none 0 0] 48)
    rw [hsz1] at h9
    exact (((Below.refl ((w.alloc (.cells #[.int .i64 x.op, .int .i64 x.a, .int .i64 x.b, .string x.name, .slice A x.kids.length c] 48)).alloc (.cells #[.int .i64 0, .int .i64 0, .int .i64 0, .string ⟨#[]⟩, .slice none 0 0] 48)).heap.size ((w.alloc (.cells #[.int .i64 x.op, .int .i64 x.a, .int .i64 x.b, .string x.name, .slice A x.kids.length c] 48)).alloc (.cells #[.int .i64 0, .int .i64 0, .int .i64 0, .string ⟨#[]⟩, .slice none 0 0] 48))).alloc (Nat.le_refl _) (.cells #[.int .i64 x.op, .int .i64 x.a, .int .i64 x.b, .string x.name, .slice none 0 0] 48)).block _ (by rw [hsz1']; omega)).trans h9
  have harg : (((w.alloc (.cells #[.int .i64 x.op, .int .i64 x.a, .int .i64 x.b, .string x.name, .slice A x.kids.length c] 48)).alloc (.cells #[.int .i64 0, .int .i64 0, .int .i64 0, .string ⟨#[]⟩, .slice none 0 0] 48)).alloc (.cells #[.int .i64 x.op, .int .i64 x.a, .int .i64 x.b, .string x.name, .slice none 0 0] 48)).heap[w.heap.size]? = some (.cells #[.int .i64 x.op, .int .i64 x.a, .int .i64 x.b, .string x.name, .slice A x.kids.length c] 48 (0, 0)) :=
    (((Below.refl (w.alloc (.cells #[.int .i64 x.op, .int .i64 x.a, .int .i64 x.b, .string x.name, .slice A x.kids.length c] 48)).heap.size (w.alloc (.cells #[.int .i64 x.op, .int .i64 x.a, .int .i64 x.b, .string x.name, .slice A x.kids.length c] 48))).alloc (Nat.le_refl _) (.cells #[.int .i64 0, .int .i64 0, .int .i64 0, .string ⟨#[]⟩, .slice none 0 0] 48)).alloc (by simp) (.cells #[.int .i64 x.op, .int .i64 x.a, .int .i64 x.b, .string x.name, .slice none 0 0] 48) |>.block _ (by rw [hsz1]; omega)).trans (heap_alloc_new w (.cells #[.int .i64 x.op, .int .i64 x.a, .int .i64 x.b, .string x.name, .slice A x.kids.length c] 48))
  have H := Lib.hid h
  have HF := Lib.hid hF
  clear h hF hsz1
  go_enter Tryz.func70, Tryz.ntmps70
  go_wp2
  generalize ((w.alloc (.cells #[.int .i64 x.op, .int .i64 x.a, .int .i64 x.b, .string x.name, .slice A x.kids.length c] 48)).alloc (.cells #[.int .i64 0, .int .i64 0, .int .i64 0, .string ⟨#[]⟩, .slice none 0 0] 48)).alloc (.cells #[.int .i64 x.op, .int .i64 x.a, .int .i64 x.b, .string x.name, .slice none 0 0] 48) = W at *
  obtain ⟨p, hp⟩ : ∃ p, p = w.heap.size := ⟨_, rfl⟩
  rw [← hp] at hbox hres harg hsz2 hal ⊢
  have HP := Lib.hid hp
  clear hp
  go_loopw [4] (fun i wr => ∃ k : Nat, k ≤ x.kids.length ∧ i = .int .i64 k ∧ BoxT (p + 3) (p + 2) x wr (x.kids.take k) ∧ wr.heap[p + 1]? = some (.cells #[.int .i64 0, .int .i64 0, .int .i64 0, .string ⟨#[]⟩, .slice none 0 0] 48 (0, 0)) ∧ wr.heap[p]? = some (.cells #[.int .i64 x.op, .int .i64 x.a, .int .i64 x.b, .string x.name, .slice A x.kids.length c] 48 (0, 0)) ∧ Below p w wr ∧ p + 3 ≤ wr.heap.size) (fun i _ => x.kids.length - (intOf i).toNat)
  case atStart => exact ⟨0, Nat.zero_le _, rfl, ⟨none, 0, hbox, RowTr.nil _ _⟩, hres, harg, hal, by omega⟩
  case round =>
    obtain ⟨k, hk, rfl, hbt, hrs, hag, hb, hlo⟩ := hrel
    have w4 := (cell_of_block hag 4).1
    by_cases hlt : k < x.kids.length
    · have hk1 : (k : Int) < x.kids.length := by omega
      obtain ⟨B, b, hbx, hrow⟩ := hbt
      have hbw : Below w.heap.size w wr := by rw [← HP.out]; exact hb
      obtain ⟨ad, A1, c1, rfl, hf, e1, e2, e3, e4, e5, hcc, hkk⟩ := (H.out.below hbw HF.out).at_term hlt
      obtain ⟨ys, hys⟩ : ∃ ys, ys = x.kids.take k ++ [x.kids[k]] := ⟨_, rfl⟩
      have HYE : Hid (ys = x.kids.take (k + 1)) := Lib.hid (by rw [hys, List.take_succ_eq_append_getElem hlt])
      have HYS := Lib.hid hys
      have hxl : (x.kids.take k).length ≤ 2000000 := by rw [List.length_take]; omega
      generalize x.kids.take k = ts at *
      have HCP := Lib.hid (HIK.out _ (List.getElem_mem hlt) A1 c1 F)
      have HRW := Lib.hid hrow
      have HBX := Lib.hid hbx
      have HRS := Lib.hid hrs
      have HAG := Lib.hid hag
      have HB := Lib.hid hb
      have HLO := Lib.hid hlo
      have HKK := Lib.hid hkk
      have HFL : Hid (∀ g, F g → g < wr.heap.size) := Lib.hid (fun g hg => Nat.lt_of_lt_of_le (HF.out g hg) hbw.size)
      have z0 := Later.cell (cell_of_block HBX.out 4).1
      have z1 := Later.cell (cell_of_block HAG.out 4).1
      have y0 := Later.cell e1
      have y1 := Later.cell e2
      have y2 := Later.cell e3
      have y3 := Later.cell e4
      have y4 := Later.cell e5
      clear hys hkk hrow hbx hrs hag hb hbw e1 e2 e3 e4 e5
      go_wp2
      generalize wr = W1 at *
      refine wp_region_shares [[], [(0, 21)], [], [(2, 23)], [], [(3, 24), (4, 25)], [(5, 26)], [(6, 27)], [(7, 28)], [(1, 22), (8, 29)], [], [(10, 31), (9, 30)]]
        [.eq (.pointer (some ⟨p + 2, 4, none⟩)), .eq (.slice B ts.length b), .eq (.pointer (some ⟨p, 4, none⟩)), .eq (.slice (some ad) x.kids.length c), .eq (.int .i64 (k : Int)), .eq (.pointer (some (ad.add (k * 5)))), .eq (.agg #[.int .i64 x.kids[k].op, .int .i64 x.kids[k].a, .int .i64 x.kids[k].b, .string x.kids[k].name, .slice A1 x.kids[k].kids.length c1]), Fact.treeV (p + 3) W1.heap.size x.kids[k], Fact.treeL (p + 3) W1.heap.size x.kids[k], Fact.rowT (p + 3) W1 (.slice B ts.length b) ys, .eq (.pointer (some ⟨p + 2, 4, none⟩)), Fact.boxL p W1 x ys]
        [9, 11] [9, 11] [10, 11] [11] [(0, 21), (1, 22), (2, 23), (3, 24), (4, 25), (5, 26), (6, 27), (7, 28), (8, 29), (9, 30), (10, 31)] (by kernel_rfl) (by kernel_rfl) (by kernel_rfl) (by kernel_rfl)
        ⟨?_, ?_, ?_, ?_, ?_, ?_, ?_, ?_, ?_, ?_, ?_, ?_, trivial⟩ ?_
      · intro vals z hC hF
        simp only [putsD, Act.put, List.setIfInBounds_toArray, List.set_cons_zero, List.set_cons_succ]
        go_wp2
        exact ⟨rfl, rfl, .inr (Below.refl _ _), .inr (.inl (by simp))⟩
      · intro vals z hC hF
        have hC := hC.resolve_left (by simp)
        have hsz := hC.size
        have e1 : z.cell? _ = _ := z0 ⟨z, hC⟩
        simp only [factsD, List.getD_cons_zero, List.getD_cons_succ, Fact.eq, Fact.row, Fact.lit, Fact.lit0, Fact.of, and_true, Fact.treeV, Fact.treeL, Fact.rowT, Fact.boxL] at hF
        simp only [putsD, Act.put, List.setIfInBounds_toArray, List.set_cons_zero, List.set_cons_succ]
        simp only [hF]
        go_wp2
        exact ⟨rfl, rfl, .inr (Below.refl _ _), .inr (.inl (by simp))⟩
      · intro vals z hC hF
        simp only [putsD, Act.put, List.setIfInBounds_toArray, List.set_cons_zero, List.set_cons_succ]
        go_wp2
        exact ⟨rfl, rfl, .inr (Below.refl _ _), .inr (.inl (by simp))⟩
      · intro vals z hC hF
        have hC := hC.resolve_left (by simp)
        have hsz := hC.size
        have e1 : z.cell? _ = _ := z1 ⟨z, hC⟩
        simp only [factsD, List.getD_cons_zero, List.getD_cons_succ, Fact.eq, Fact.row, Fact.lit, Fact.lit0, Fact.of, and_true, Fact.treeV, Fact.treeL, Fact.rowT, Fact.boxL] at hF
        simp only [putsD, Act.put, List.setIfInBounds_toArray, List.set_cons_zero, List.set_cons_succ]
        simp only [hF]
        go_wp2
        exact ⟨rfl, rfl, .inr (Below.refl _ _), .inr (.inl (by simp))⟩
      · intro vals z hC hF
        simp only [putsD, Act.put, List.setIfInBounds_toArray, List.set_cons_zero, List.set_cons_succ]
        go_wp2
        exact ⟨rfl, rfl, .inr (Below.refl _ _), .inr (.inl (by simp))⟩
      · intro vals z hC hF
        simp only [factsD, List.getD_cons_zero, List.getD_cons_succ, Fact.eq, Fact.row, Fact.lit, Fact.lit0, Fact.of, and_true, Fact.treeV, Fact.treeL, Fact.rowT, Fact.boxL] at hF
        obtain ⟨e1, e2⟩ := hF
        simp only [putsD, Act.put, List.setIfInBounds_toArray, List.set_cons_zero, List.set_cons_succ]
        simp only [e1, e2]
        go_wp2
        exact ⟨rfl, rfl, .inr (Below.refl _ _), .inr (.inl (by simp))⟩
      · intro vals z hC hF
        have hC := hC.resolve_left (by simp)
        have hsz := hC.size
        have e1 : z.cell? _ = _ := y0 ⟨z, hC⟩
        have e2 : z.cell? _ = _ := y1 ⟨z, hC⟩
        have e3 : z.cell? _ = _ := y2 ⟨z, hC⟩
        have e4 : z.cell? _ = _ := y3 ⟨z, hC⟩
        have e5 : z.cell? _ = _ := y4 ⟨z, hC⟩
        simp only [factsD, List.getD_cons_zero, List.getD_cons_succ, Fact.eq, Fact.row, Fact.lit, Fact.lit0, Fact.of, and_true, Fact.treeV, Fact.treeL, Fact.rowT, Fact.boxL] at hF
        have e9 := hF
        simp only [putsD, Act.put, List.setIfInBounds_toArray, List.set_cons_zero, List.set_cons_succ]
        simp only [e9]
        go_wp2
        exact ⟨rfl, rfl, .inr (Below.refl _ _), .inr (.inl (by simp))⟩
      · intro vals z hC hF
        have hC := hC.resolve_left (by simp)
        have hsz := hC.size
        simp only [factsD, List.getD_cons_zero, List.getD_cons_succ, Fact.eq, Fact.row, Fact.lit, Fact.lit0, Fact.of, and_true, Fact.treeV, Fact.treeL, Fact.rowT, Fact.boxL] at hF
        have e1 := hF
        simp only [putsD, Act.put, List.setIfInBounds_toArray, List.set_cons_zero, List.set_cons_succ]
        simp only [e1]
        have HC9 := Lib.hid (HCP.out z (HKK.out.below hC HFL.out) (fun g hg => Nat.lt_of_lt_of_le (HFL.out g hg) hsz))
        go_wp2_with fail
        refine HC9.out.mono ?_
        rintro e w9 ⟨A9, c9, rfl, hc9, ht9, hb9⟩
        have HT9 : Hid (TrS w9 (fun g => W1.heap.size ≤ g ∧ OwnB9 (p + 3) w9 g) A9 x.kids[k].kids) := Lib.hid (TrT.mono ht9 fun g hg => ⟨Nat.le_trans hsz hg.1, hg.le (Nat.le_trans HLO.out hsz)⟩)
        clear ht9
        go_wp2
        exact ⟨rfl, ⟨A9, c9, rfl, hc9, HT9.out⟩, .inr hb9, .inr (.inl (by simp))⟩
      · intro vals z hC hF
        have hC := hC.resolve_left (by simp)
        have hsz := hC.size
        simp only [factsD, List.getD_cons_zero, List.getD_cons_succ, Fact.eq, Fact.row, Fact.lit, Fact.lit0, Fact.of, and_true, Fact.treeV, Fact.treeL, Fact.rowT, Fact.boxL] at hF
        obtain ⟨A9, c9, e1, hc9, ht9⟩ := hF
        have e1 : vals 7 = .agg #[.int .i64 x.kids[k].op, .int .i64 x.kids[k].a, .int .i64 x.kids[k].b, .string x.kids[k].name, .slice A9 x.kids[k].kids.length c9] := e1
        simp only [putsD, Act.put, List.setIfInBounds_toArray, List.set_cons_zero, List.set_cons_succ]
        simp only [e1]
        have hal9 : Below z.heap.size z (z.alloc (.cells (tcells x.kids[k] A9 c9).toArray 48)) := (Below.refl _ _).alloc (Nat.le_refl _) _
        go_wp2
        exact ⟨rfl, ⟨_, A9, c9, rfl, heap_alloc_new _ _, hc9, TrS.up (F := fun _ => True) ht9 hal9⟩, .inr hal9, .inr (.inl (by simp))⟩
      · intro vals z hC hF
        have hC := hC.resolve_left (by simp)
        have hsz := hC.size
        simp only [factsD, List.getD_cons_zero, List.getD_cons_succ, Fact.eq, Fact.row, Fact.lit, Fact.lit0, Fact.of, and_true, Fact.treeV, Fact.treeL, Fact.rowT, Fact.boxL] at hF
        obtain ⟨e5, b5, A9, c9, e7, hb5, hc9, ht9⟩ := hF
        have hrz := HRW.out.up hC
        simp only [putsD, Act.put, List.setIfInBounds_toArray, List.set_cons_zero, List.set_cons_succ]
        simp only [e5, e7]
        refine wpList_append_tree (ys := ys) (by rfl) (.tmp 22) (.tmp 29) (by rfl) (by rfl) (by rfl) hrz (Nat.le_trans HLO.out hsz) hxl ht9 hc9 hb5 (fun g hg e9 => by have := (HRW.out.lt g e9).2; omega) ⟨W1, Nat.le_refl _, hC, HRW.out⟩ HYS.out ?_
        intro A8 c8 w8 hown8 hg8
        exact ⟨rfl, ⟨A8, c8, rfl, hown8, below_grown hC hg8⟩, .inl (by simp), .inl (by simp)⟩
      · intro vals z hC hF
        simp only [putsD, Act.put, List.setIfInBounds_toArray, List.set_cons_zero, List.set_cons_succ]
        go_wp2
        exact ⟨rfl, rfl, .inr (Below.refl _ _), .inr (.inl (by simp))⟩
      · intro vals z hC hF
        simp only [factsD, List.getD_cons_zero, List.getD_cons_succ, Fact.eq, Fact.row, Fact.lit, Fact.lit0, Fact.of, and_true, Fact.treeV, Fact.treeL, Fact.rowT, Fact.boxL] at hF
        obtain ⟨e11, A8, c8, e8, hown8, hg8⟩ := hF
        have hpx := (hg8.block (p + 2) (lt_of_block HBX.out) (fun e => by have := (HRW.out.lt (p + 2) e.symm).1; omega)).trans HBX.out
        have x1 := (cell_of_block hpx 4).1
        have x2 := (cell_of_block hpx 4).2
        have HRF := Lib.hid (hown8.far ⟨p + 2, 4, none⟩ (.slice A8 ys.length c8) (by show p + 2 < p + 3; omega))
        have HPX := Lib.hid (heap_set_same z (p + 2) 4 (.slice A8 ys.length c8) _ _ hpx)
        have HBL : Hid (Below p W1 (z.setCell ⟨p + 2, 4, none⟩ (.slice A8 ys.length c8))) := Lib.hid (below_set9 ((Below.refl p W1).grown hg8 (by have := HLO.out; omega) (fun g hg => by have := (HRW.out.lt g hg).1; omega)) (by show p ≤ p + 2; omega) _)
        have HRR := Lib.hid ((Below.heap_setCell z ⟨p + 2, 4, none⟩ (.slice A8 ys.length c8) (p + 1) (by show p + 1 ≠ p + 2; omega)).trans (hg8.block (p + 1) (lt_of_block HRS.out) (fun e => by have := (HRW.out.lt (p + 1) e.symm).1; omega)))
        have HRA := Lib.hid ((Below.heap_setCell z ⟨p + 2, 4, none⟩ (.slice A8 ys.length c8) p (by show p ≠ p + 2; omega)).trans (hg8.block p (lt_of_block HAG.out) (fun e => by have := (HRW.out.lt p e.symm).1; omega)))
        have HSZ := Lib.hid hg8.size
        clear hpx
        simp only [putsD, Act.put, List.setIfInBounds_toArray, List.set_cons_zero, List.set_cons_succ]
        simp only [e11, e8]
        go_wp2
        exact ⟨rfl, ⟨⟨A8, c8, HPX.out, HRF.out⟩, HBL.out, by rw [size_setCell]; have := HLO.out; have := HSZ.out; omega, HRR.out, HRA.out⟩, .inl (by simp), .inl (by simp)⟩
      · intro vals z hF
        simp only [facts, List.getD_cons_zero, List.getD_cons_succ, Fact.eq, Fact.row, Fact.lit, Fact.lit0, Fact.of, and_true, Fact.treeV, Fact.treeL, Fact.rowT, Fact.boxL] at hF
        obtain ⟨hbt, hB9, hsz9, hr9, hr8⟩ := hF
        simp only [putsD, Act.put, List.setIfInBounds_toArray, List.set_cons_zero, List.set_cons_succ]
        have hb9 := HB.out.trans hB9
        have hrs9 := hr9.trans HRS.out
        have hag9 := hr8.trans HAG.out
        clear hB9 hr9 hr8 z0 z1 y0 y1 y2 y3 y4
        go_wp2
        go_roundw
        case rel => exact ⟨k + 1, by omega, by go_num, by rw [← HYE.out]; exact hbt, hrs9, hag9, hb9, by omega⟩
        case measure => simp [intOf]; omega
    · have hke : k = x.kids.length := by omega
      subst hke
      rw [List.take_length] at hbt
      obtain ⟨B, b, hbx, hrow⟩ := hbt
      have v0 := (cell_of_block hbx 0).1
      have v1 := (cell_of_block hbx 1).1
      have v2 := (cell_of_block hbx 2).1
      have v3 := (cell_of_block hbx 3).1
      have v4 := (cell_of_block hbx 4).1
      have r0 := (cell_of_block hrs 0).1
      have r1 := (cell_of_block hrs 1).1
      have r2 := (cell_of_block hrs 2).1
      have r3 := (cell_of_block hrs 3).1
      have r4 := (cell_of_block hrs 4).1
      have f0 := (cell_of_block hrs 0).2
      have f1 := (cell_of_block hrs 1).2
      have f2 := (cell_of_block hrs 2).2
      have f3 := (cell_of_block hrs 3).2
      have f4 := (cell_of_block hrs 4).2
      have s0 := heap_set_same wr (p + 1) 0 (.int .i64 x.op) _ _ hrs
      have s1 := heap_set_same _ (p + 1) 1 (.int .i64 x.a) _ _ s0
      have s2 := heap_set_same _ (p + 1) 2 (.int .i64 x.b) _ _ s1
      have s3 := heap_set_same _ (p + 1) 3 (.string x.name) _ _ s2
      have s4 := heap_set_same _ (p + 1) 4 (.slice B x.kids.length b) _ _ s3
      have hp1 : p + 1 < p + 3 := by omega
      have HRW := Lib.hid (((((hrow.far ⟨p + 1, 0, none⟩ (.int .i64 x.op) hp1).far ⟨p + 1, 1, none⟩ (.int .i64 x.a) hp1).far ⟨p + 1, 2, none⟩ (.int .i64 x.b) hp1).far ⟨p + 1, 3, none⟩ (.string x.name) hp1).far ⟨p + 1, 4, none⟩ (.slice B x.kids.length b) hp1)
      have hp2 : p ≤ p + 1 := by omega
      have HBL := Lib.hid (below_set9 (below_set9 (below_set9 (below_set9 (below_set9 hb (p := ⟨p + 1, 0, none⟩) hp2 (.int .i64 x.op)) (p := ⟨p + 1, 1, none⟩) hp2 (.int .i64 x.a)) (p := ⟨p + 1, 2, none⟩) hp2 (.int .i64 x.b)) (p := ⟨p + 1, 3, none⟩) hp2 (.string x.name)) (p := ⟨p + 1, 4, none⟩) hp2 (.slice B x.kids.length b))
      have HS4 := Lib.hid s4
      have hcap : x.kids.length ≤ b := by
        obtain ⟨A8, c8, e8, h8⟩ := hrow.form
        injection e8 with _ _ e8
        omega
      clear s0 s1 s2 s3 s4 hp1 hp2 hrow hbx hb
      go_wp2
      generalize (((((wr.setCell ⟨p + 1, 0, none⟩ (.int .i64 x.op)).setCell ⟨p + 1, 1, none⟩ (.int .i64 x.a)).setCell ⟨p + 1, 2, none⟩ (.int .i64 x.b)).setCell ⟨p + 1, 3, none⟩ (.string x.name)).setCell ⟨p + 1, 4, none⟩ (.slice B x.kids.length b)) = W5 at *
      have k0 := (cell_of_block HS4.out 0).1
      have k1 := (cell_of_block HS4.out 1).1
      have k2 := (cell_of_block HS4.out 2).1
      have k3 := (cell_of_block HS4.out 3).1
      have k4 := (cell_of_block HS4.out 4).1
      simp at k0 k1 k2 k3 k4
      refine bodyPost_ret (v := .agg #[.int .i64 x.op, .int .i64 x.a, .int .i64 x.b, .string x.name, .slice B x.kids.length b]) (by simp [results, Tryz.results70, go_sem, k0, k1, k2, k3, k4]) rfl ?_
      refine ⟨B, b, rfl, hcap, TrT.mono (RowTr.tree HRW.out) (fun g hg => hg.le (by rw [← HP.out]; omega)), by rw [← HP.out]; exact HBL.out⟩
end Go.Proofs.YtiahmfpfimmbgaaGreatDoor
