/- Terms whose rows lie apart from each other: trees. No program is named here. A row of trees of the call's own that grows. The program's copyTerm. The program's copyTerms. CtxTerms, the program's. Marks on trees. Marked terms are held. Trees of terms as the answer of a law: copies, comparisons, marks. The reference's l3Copy. A row of layers of the call's own that grows; what each layer leads to lies in a range of its own. Contexts that change. No program is named here. A drawn region by shares; an operation may look at a slot that a later one writes. No program is named here. -/
import Derived.Test.YtiahmfpfimmbgaaGreatDoorJFnCtxBent3
import Derived.Test.YtiahmfpfimmbgaaGreatDoorJFnCtxBent6
import Derived.Test.YtiahmfpfimmbgaaGreatDoorJFnCtxBent7
import Derived.Test.YtiahmfpfimmbgaaGreatDoorJFnCtxBent8
/-! Terms whose rows lie apart from each other: trees. No program is named here. -/
namespace Go.Proofs.YtiahmfpfimmbgaaGreatDoor
open Go Go.RowKit

/-- The cells of a term whose kids lie at A. -/
def tcells (x : T) (A : Option Addr) (c : Nat) : List Value := [.int .i64 x.op, .int .i64 x.a, .int .i64 x.b, .string x.name, .slice A x.kids.length c]
/-- The kids of t lie at A; theirs lie in blocks of their own, each kid's apart from the others' and from A's. -/
inductive TrT (w : World) : (Nat → Prop) → T → Option Addr → Prop
  | mk (F : Nat → Prop) (t : T) (A : Option Addr) (Ak : Nat → Option Addr) (ck : Nat → Nat) (Fk : Nat → Nat → Prop)
      (h : 0 < t.kids.length → ∃ ad, A = some ad ∧ F ad.block ∧ ∀ k x, t.kids[k]? = some x → ¬ Fk k ad.block ∧ x.kids.length ≤ ck k ∧ ∀ j u, (tcells x (Ak k) (ck k))[j]? = some u → w.cell? (ad.add (k * 5 + j)) = some u)
      (hs : ∀ k x, t.kids[k]? = some x → ∀ b, Fk k b → F b)
      (hd : ∀ i j, i ≠ j → i < t.kids.length → j < t.kids.length → ∀ b, Fk i b → ¬ Fk j b)
      (hk : ∀ k x, t.kids[k]? = some x → TrT w (Fk k) x (Ak k)) : TrT w F t A
theorem TrT.mono {w : World} {F G : Nat → Prop} {t : T} {A : Option Addr} (h : TrT w F t A) (hFG : ∀ b, F b → G b) : TrT w G t A := by
  cases h with
  | mk _ _ _ Ak ck Fk h hs hd hk =>
    refine .mk G t A Ak ck Fk (fun h0 => ?_) (fun k x hx b hb => hFG b (hs k x hx b hb)) hd hk
    obtain ⟨ad, e, hf, hc⟩ := h h0
    exact ⟨ad, e, hFG _ hf, hc⟩
theorem TrT.keep {w w' : World} {F : Nat → Prop} {t : T} {A : Option Addr} (h : TrT w F t A) (hk : ∀ b, F b → w'.heap[b]? = w.heap[b]?) : TrT w' F t A := by
  revert hk
  induction h with
  | mk F t A Ak ck Fk h hs hd hk ih =>
    intro hkp
    refine .mk F t A Ak ck Fk (fun h0 => ?_) hs hd (fun k x hx => ih k x hx fun b hb => hkp b (hs k x hx b hb))
    obtain ⟨ad, e, hf, hc⟩ := h h0
    refine ⟨ad, e, hf, fun k x hx => ?_⟩
    obtain ⟨h1, h2, h3⟩ := hc k x hx
    exact ⟨h1, h2, fun j u hu => (World.cell?_of_block (w := w) (by rw [block_of_add]; exact hkp _ hf)).trans (h3 j u hu)⟩
theorem TrT.sl {w : World} {F : Nat → Prop} {t : T} {A : Option Addr} (h : TrT w F t A) : Lay.term.Sl w F A t.kids := by
  induction h with
  | mk F t A Ak ck Fk h hs hd hk ih =>
    intro h0
    obtain ⟨ad, e, hf, hc⟩ := h h0
    refine ⟨ad, e, hf, fun k x hx => ?_⟩
    obtain ⟨h1, h2, h3⟩ := hc k x hx
    exact ⟨tcells x (Ak k) (ck k), TermR.of h2 ((ih k x hx).mono (hs k x hx)), h3⟩
theorem TrT.root {w : World} {F : Nat → Prop} {t t' : T} {A : Option Addr} (h : TrT w F t A) (e : t'.kids = t.kids) : TrT w F t' A := by
  cases h with
  | mk _ _ _ Ak ck Fk h hs hd hk =>
    refine .mk F t' A Ak ck Fk ?_ ?_ ?_ ?_
    · rw [e]; exact h
    · rw [e]; exact hs
    · rw [e]; exact hd
    · rw [e]; exact hk
/-- A row of terms, a tree each. -/
def TrS (w : World) (F : Nat → Prop) (A : Option Addr) (ts : List T) : Prop := TrT w F (.mk 0 0 0 ⟨#[]⟩ ts) A
mutual
/-- Marked terms: the marks from k on. -/
def upT : T → Int → T
  | .mk _ _ _ _ ks, k => .mk k (k + 1) (k + 2) (markT (k + 3)) (upTL ks (k + 4))
def upTL : List T → Int → List T
  | [], _ => []
  | t :: ts, k => upT t k :: upTL ts (k + 4 * (T.size t : Int))
end
theorem upTL_len : ∀ (ts : List T) (k : Int), (upTL ts k).length = ts.length
  | [], _ => rfl
  | t :: ts, k => by simp [upTL, upTL_len ts]
end Go.Proofs.YtiahmfpfimmbgaaGreatDoor

/-! A row of trees of the call's own that grows. -/
namespace Go.Proofs.YtiahmfpfimmbgaaGreatDoor
open Go Go.RowKit

/-- A block of the call's own that may be written. -/
def OwnB9 (lo : Nat) (w : World) (b : Nat) : Prop := lo ≤ b ∧ b < w.heap.size ∧ (∀ o, w.frozen? ⟨b, o, none⟩ = false) ∧ ∃ cs, w.heap[b]? = some (.cells cs 48 (0, 0))
/-- The row v holds the terms ts, each a tree in blocks of its own. -/
def RowTr (lo : Nat) (w : World) (v : Value) (ts : List T) : Prop :=
  ∃ cs, w.ownsRow lo 48 5 v ts.length cs ∧ ∃ (Ak : Nat → Option Addr) (ck : Nat → Nat) (Fk : Nat → Nat → Prop),
    (∀ k x, ts[k]? = some x → (∀ j u, (tcells x (Ak k) (ck k))[j]? = some u → cs[k * 5 + j]? = some u) ∧ x.kids.length ≤ ck k ∧ TrT w (Fk k) x (Ak k)) ∧
    (∀ k b, k < ts.length → Fk k b → OwnB9 lo w b ∧ v.ownBlock ≠ some b) ∧ (∀ i j, i ≠ j → i < ts.length → j < ts.length → ∀ b, Fk i b → ¬ Fk j b)
theorem RowTr.nil (w : World) (lo : Nat) : RowTr lo w (.slice none ([] : List T).length 0) [] :=
  ⟨[], World.ownsRow_nil _ _ _ _, fun _ => none, fun _ => 0, fun _ _ => False, fun k x h => by simp at h, fun k b h => by simp at h, fun i j _ h => by simp at h⟩
theorem OwnB9.up {lo : Nat} {w w' : World} {b : Nat} (h : OwnB9 lo w b) (hs : w.heap.size ≤ w'.heap.size) (hb : w'.heap[b]? = w.heap[b]?) : OwnB9 lo w' b :=
  ⟨h.1, Nat.lt_of_lt_of_le h.2.1 hs, fun o => (World.frozen?_of_block (a := ⟨b, o, none⟩) hb).trans (h.2.2.1 o), by obtain ⟨cs, hc⟩ := h.2.2.2; exact ⟨cs, hb.trans hc⟩⟩
theorem RowTr.keep {lo : Nat} {w w' : World} {v : Value} {ts : List T} (h : RowTr lo w v ts) (hs : w.heap.size ≤ w'.heap.size) (hb : ∀ b, lo ≤ b → b < w.heap.size → w'.heap[b]? = w.heap[b]?) : RowTr lo w' v ts := by
  obtain ⟨cs, h1, Ak, ck, Fk, h2, h3, h4⟩ := h
  refine ⟨cs, own_of_heap h1 fun g hg => hb g (h1.lt g hg).1 (h1.lt g hg).2, Ak, ck, Fk, fun k x hx => ?_, fun k b hk hf => ?_, h4⟩
  · obtain ⟨g1, g2, g3⟩ := h2 k x hx
    exact ⟨g1, g2, g3.keep fun b hf => by
      have h9 := (h3 k b (List.getElem?_eq_some_iff.1 hx).1 hf).1
      exact hb b h9.1 h9.2.1⟩
  · obtain ⟨g1, g2⟩ := h3 k b hk hf
    exact ⟨g1.up hs (hb b g1.1 g1.2.1), g2⟩
theorem RowTr.up {lo : Nat} {w w' : World} {v : Value} {ts : List T} (h : RowTr lo w v ts) (hb : Below w.heap.size w w') : RowTr lo w' v ts := h.keep hb.size fun b _ h9 => hb.block b h9
/-- A cell of a block below lo or of no row's is written. -/
theorem RowTr.far {lo : Nat} {w : World} {v : Value} {ts : List T} (h : RowTr lo w v ts) (p : Addr) (u : Value) (hp : p.block < lo) : RowTr lo (w.setCell p u) v ts :=
  h.keep (by rw [size_setCell]; exact Nat.le_refl _) fun b hb _ => Below.heap_setCell w p u b (fun e => by omega)
theorem RowTr.form {lo : Nat} {w : World} {v : Value} {ts : List T} (h : RowTr lo w v ts) : ∃ A c, v = .slice A ts.length c ∧ ts.length ≤ c := by
  obtain ⟨cs, h1, _⟩ := h
  rcases h1.2 with ⟨e1, e2⟩ | ⟨g, cap, cur, e1, _, _, h3, _⟩
  · exact ⟨none, 0, by rw [e1, e2], by rw [e2]; exact Nat.le_refl _⟩
  · exact ⟨_, cap, e1, h3⟩
/-- The row is a tree. -/
theorem RowTr.tree {lo : Nat} {w : World} {A : Option Addr} {c : Nat} {ts : List T} (h : RowTr lo w (.slice A ts.length c) ts) : TrS w (OwnB9 lo w) A ts := by
  obtain ⟨cs, h1, Ak, ck, Fk, h2, h3, h4⟩ := h
  refine .mk _ _ A Ak ck Fk (fun h0 => ?_) (fun k x hx b hf => (h3 k b (List.getElem?_eq_some_iff.1 hx).1 hf).1) h4 (fun k x hx => (h2 k x hx).2.2)
  have h0 : 0 < ts.length := h0
  have hcs : cs.length = ts.length * 5 := h1.1
  rcases h1.2 with ⟨e1, e2⟩ | ⟨g, cap, cur, e1, hlo, hg, hn, hm, hsz, htk⟩
  · omega
  · injection e1 with e1 e2 e3
    subst e1
    refine ⟨_, rfl, ⟨hlo, (Array.getElem?_eq_some_iff.1 hg).1, fun o => ?_, _, hg⟩, fun k x hx => ?_⟩
    · exact World.ownsRow.frozenAt (g := g) (cap := c) ⟨h1.1, h1.2⟩ o
    · obtain ⟨g1, g2, g3⟩ := h2 k x hx
      have hkl : k < ts.length := (List.getElem?_eq_some_iff.1 hx).1
      refine ⟨fun hf => (h3 k g hkl hf).2 rfl, g2, fun j u hu => ?_⟩
      have h9 := g1 j u hu
      have hj : k * 5 + j < cs.length := (List.getElem?_eq_some_iff.1 h9).1
      have ea : (⟨g, 0, none⟩ : Addr).add (k * 5 + j) = ⟨g, k * 5 + j, none⟩ := by
        unfold Addr.add
        split
        · rename_i e; rw [e]
        · simp
      rw [ea, World.ownsRow.cellAt (g := g) (cap := c) ⟨h1.1, h1.2⟩ _ (by omega)]
      exact h9
theorem tcells_one (x : T) (A : Option Addr) (c : Nat) : ∀ u ∈ tcells x A c, u.oneCell' = true := by
  intro u hu
  simp [tcells] at hu
  rcases hu with rfl | rfl | rfl | rfl | rfl <;> rfl
/-- append of one term, a tree in blocks that are new, laid in a block of its own. -/
theorem run_append_tree {w : World} {lo mid b : Nat} {A A9 : Option Addr} {c c9 d : Nat} {ts ys : List T} {x : T} {ty e' : TypeId} (h : RowTr lo w (.slice A ts.length c) ts) (hmid : ∀ k, k < ts.length → True) (hlo : lo ≤ w.heap.size) (hn : ts.length ≤ 2000000)
    (hx : TrS w (fun g => mid ≤ g ∧ OwnB9 lo w g) A9 x.kids) (hc9 : x.kids.length ≤ c9) (hb : w.heap[b]? = some (.cells (tcells x A9 c9).toArray e' (0, 0)))
    (hnew : ∀ g, mid ≤ g → (Value.slice A ts.length c).ownBlock ≠ some g) (hold : ∃ w0 : World, w0.heap.size ≤ mid ∧ Below w0.heap.size w0 w ∧ RowTr lo w0 (.slice A ts.length c) ts) (hy : ys = ts ++ [x]) :
    ∃ A' c' w', (Builtin.append_ #[24, 24] ty #[.slice A ts.length c, .slice (some ⟨b, 0, none⟩) 1 d]).run Tryz.prog w = .ok (.slice A' ys.length c') w' ∧ RowTr lo w' (.slice A' ys.length c') ys ∧ w.grownBy w' (Value.slice A ts.length c).ownBlock ∧
      ((Value.slice A' ys.length c').ownBlock = (Value.slice A ts.length c).ownBlock ∨ ∃ g, (Value.slice A' ys.length c').ownBlock = some g ∧ w.heap.size ≤ g) := by
  obtain ⟨i0, hi0, hz0, hz1, hz2⟩ := info_parts term_info
  obtain ⟨w0, hw0, hbw, cs, h1, Ak, ck, Fk, h2, h3, h4⟩ := hold
  have h1w : w.ownsRow lo 48 5 (.slice A ts.length c) ts.length cs := own_below h1 hbw (Nat.le_refl _)
  have hl : ts.length + 1 = ys.length := by rw [hy]; simp
  have hsrc : Src w 5 (some ⟨b, 0, none⟩) 1 (tcells x A9 c9) := by
    have := src_block (m := 1) (size := 5) hb rfl
    simpa using this
  have hbb : ys.length * 64 ≤ 140737488355328 := by omega
  obtain ⟨A', c', w', hrun, ho', hg', hbk⟩ := run_append_src_at (P := Tryz.prog) w lo 24 ty 48 i0 _ 5 64 Tryz.underlying24 hi0 hz0 hz1 hz2 rfl (by omega) _ ts.length cs h1w (some ⟨b, 0, none⟩) 1 d (tcells x A9 c9) hsrc (tcells_one x A9 c9) ys.length hl (by unfold maxLen; omega) hbb hlo (fun e => by cases e)
  refine ⟨A', c', w', hrun, ⟨cs ++ tcells x A9 c9, ho', fun k => if k = ts.length then A9 else Ak k, fun k => if k = ts.length then c9 else ck k, fun k => if k = ts.length then (fun g => mid ≤ g ∧ OwnB9 lo w g) else Fk k, fun k y hky => ?_, fun k g hk hf => ?_, fun i j hij hi hj g hf => ?_⟩, hg', hbk⟩
  · have hcl : cs.length = ts.length * 5 := h1.1
    rw [hy] at hky
    by_cases hk : k = ts.length
    · subst hk
      rw [List.getElem?_append_right (Nat.le_refl _), Nat.sub_self] at hky
      simp at hky
      subst hky
      simp only [if_true]
      refine ⟨fun j u hu => ?_, hc9, TrT.root (TrT.keep hx fun g hg => hg'.block g hg.2.2.1 (fun e9 => hnew g hg.1 e9.symm)) rfl⟩
      rw [List.getElem?_append_right (by omega), show ts.length * 5 + j - cs.length = j by omega]
      exact hu
    · have hkl : k < ts.length := by
        have := (List.getElem?_eq_some_iff.1 hky).1
        simp at this
        omega
      rw [List.getElem?_append_left hkl] at hky
      obtain ⟨g1, g2, g3⟩ := h2 k y hky
      simp only [if_neg hk]
      refine ⟨fun j u hu => ?_, g2, g3.keep fun g hf => ?_⟩
      · have h9 := g1 j u hu
        rw [List.getElem?_append_left (List.getElem?_eq_some_iff.1 h9).1]
        exact h9
      · obtain ⟨o1, o2⟩ := h3 k g hkl hf
        exact (hg'.block g (Nat.lt_of_lt_of_le o1.2.1 hbw.size) (fun e9 => o2 e9.symm)).trans (hbw.block g o1.2.1)
  · have hne : ∀ g, g < w.heap.size → (Value.slice A ts.length c).ownBlock ≠ some g → (Value.slice A' ys.length c').ownBlock ≠ some g := fun g h5 h6 h7 => by
      rcases hbk with e | ⟨g2, e, hg2⟩
      · exact h6 (e ▸ h7)
      · rw [e] at h7; injection h7 with h7; omega
    by_cases hkt : k = ts.length
    · simp only [if_pos hkt] at hf
      exact ⟨hf.2.up hg'.size (hg'.block g hf.2.2.1 (fun e9 => hnew g hf.1 e9.symm)), hne g hf.2.2.1 (hnew g hf.1)⟩
    · simp only [if_neg hkt] at hf
      obtain ⟨o1, o2⟩ := h3 k g (by omega) hf
      have o3 := o1.up hbw.size (hbw.block g o1.2.1)
      exact ⟨o3.up hg'.size (hg'.block g o3.2.1 (fun e9 => o2 e9.symm)), hne g o3.2.1 o2⟩
  · by_cases hit : i = ts.length
    · have hjt : j ≠ ts.length := fun e => hij (hit.trans e.symm)
      simp only [if_pos hit] at hf
      simp only [if_neg hjt]
      intro hf2
      have := (h3 j g (by omega) hf2).1.2.1
      have := hf.1
      omega
    · simp only [if_neg hit] at hf
      by_cases hjt : j = ts.length
      · simp only [if_pos hjt]
        intro hf2
        have := (h3 i g (by omega) hf).1.2.1
        have := hf2.1
        omega
      · simp only [if_neg hjt]
        exact h4 i j hij (by omega) (by omega) g hf
end Go.Proofs.YtiahmfpfimmbgaaGreatDoor

/-! The program's copyTerm. -/
namespace Go.Proofs.YtiahmfpfimmbgaaGreatDoor
open Go Go.RowKit

theorem OwnB9.le {lo lo' : Nat} {w : World} {b : Nat} (h : OwnB9 lo w b) (hl : lo' ≤ lo) : OwnB9 lo' w b := ⟨Nat.le_trans hl h.1, h.2⟩
theorem TrS.up {w w' : World} {F : Nat → Prop} {A : Option Addr} {ts : List T} {mid lo : Nat} (h : TrS w (fun g => mid ≤ g ∧ OwnB9 lo w g) A ts) (hb : Below w.heap.size w w') : TrS w' (fun g => mid ≤ g ∧ OwnB9 lo w' g) A ts :=
  (TrT.keep h fun b hf => hb.block b hf.2.2.1).mono fun b hf => ⟨hf.1, hf.2.up hb.size (hb.block b hf.2.2.1)⟩
/-- A term by value, its kids a tree in new blocks. -/
def Fact.treeV (lo mid : Nat) (x : T) : Fact :=
  .of (fun v z => ∃ A c, v = .agg (tcells x A c).toArray ∧ x.kids.length ≤ c ∧ TrS z (fun g => mid ≤ g ∧ OwnB9 lo z g) A x.kids) fun _ z z' ⟨A, c, h1, h2, h3⟩ hb => ⟨A, c, h1, h2, TrS.up (F := fun _ => True) h3 hb⟩
/-- .. in a block of its own. -/
def Fact.treeL (lo mid : Nat) (x : T) : Fact :=
  .of (fun v z => ∃ b A c, v = .slice (some ⟨b, 0, none⟩) 1 1 ∧ z.heap[b]? = some (.cells (tcells x A c).toArray 48 (0, 0)) ∧ x.kids.length ≤ c ∧ TrS z (fun g => mid ≤ g ∧ OwnB9 lo z g) A x.kids) fun _ z z' ⟨b, A, c, h1, h2, h3, h4⟩ hb => ⟨b, A, c, h1, (hb.block b (lt_of_block h2)).trans h2, h3, TrS.up (F := fun _ => True) h4 hb⟩
def Fact.rowT (lo : Nat) (W : World) (v0 : Value) (ys : List T) : Fact :=
  .of (fun v z => ∃ A c, v = .slice A ys.length c ∧ RowTr lo z (.slice A ys.length c) ys ∧ W.grownBy z v0.ownBlock) fun _ z z' ⟨A, c, h1, h2, h3⟩ hb => ⟨A, c, h1, h2.up hb, grown_below h3 hb⟩
/-- The box of a term that is being copied: its row has grown. -/
def BoxT (lo p : Nat) (x : T) (z : World) (ts : List T) : Prop :=
  ∃ A c, z.heap[p]? = some (.cells #[.int .i64 x.op, .int .i64 x.a, .int .i64 x.b, .string x.name, .slice A ts.length c] 48 (0, 0)) ∧ RowTr lo z (.slice A ts.length c) ts
theorem RowTr.lt {lo : Nat} {w : World} {v : Value} {ts : List T} (h : RowTr lo w v ts) : ∀ g, v.ownBlock = some g → lo ≤ g ∧ g < w.heap.size := by
  obtain ⟨cs, h1, _⟩ := h
  exact fun g hg => h1.lt g hg
theorem wpList_append_tree {Q' : Exit → Act → World → Prop} {ops : Array Oper} {rest : List Oper} {o : Oper} {a : Act} {w : World} {lo mid b : Nat} {A A9 : Option Addr} {c c9 : Nat} {ts ys : List T} {x : T} {e' : TypeId} (hgd : o.guard = none) (s y : Operand)
    (ho : o.op = .call { callee := .builtin .append, args := #[s, y], argTypes := #[24, 24] }) (hs : a.eval s = .slice A ts.length c) (hyv : a.eval y = .slice (some ⟨b, 0, none⟩) 1 1)
    (h : RowTr lo w (.slice A ts.length c) ts) (hlo : lo ≤ w.heap.size) (hn : ts.length ≤ 2000000)
    (hx : TrS w (fun g => mid ≤ g ∧ OwnB9 lo w g) A9 x.kids) (hc9 : x.kids.length ≤ c9) (hb : w.heap[b]? = some (.cells (tcells x A9 c9).toArray e' (0, 0)))
    (hnew : ∀ g, mid ≤ g → (Value.slice A ts.length c).ownBlock ≠ some g) (hold : ∃ w0 : World, w0.heap.size ≤ mid ∧ Below w0.heap.size w0 w ∧ RowTr lo w0 (.slice A ts.length c) ts) (hy : ys = ts ++ [x])
    (hk : ∀ A' c' w', RowTr lo w' (.slice A' ys.length c') ys → w.grownBy w' (Value.slice A ts.length c).ownBlock → wpList Tryz.prog ops Q' rest (a.put o.dst (.slice A' ys.length c')) w') :
    wpList Tryz.prog ops Q' (o :: rest) a w := by
  obtain ⟨A', c', w', hrun, h2, h3, _⟩ := run_append_tree (d := 1) (ty := o.type) h (fun _ _ => trivial) hlo hn hx hc9 hb hnew hold hy
  refine wpList_plain hgd fun _ hK => ?_
  unfold Oper.wp execOp
  simp only [ho, resolve, invoke, builtin, Sem.run_bind, Sem.run_pure, Result.andThen_ok, List.map_toArray, List.map_cons, List.map_nil, hs, hyv, hrun]
  exact hK _ _ (hk A' c' w' h2 h3)
/-- What the program's copyTerm is asked. -/
def RetTree (x : T) (w : World) (e : Ending) (w' : World) : Prop := ∃ A c, e = .returned (.agg (tcells x A c).toArray) ∧ x.kids.length ≤ c ∧ TrS w' (OwnB9 w.heap.size w') A x.kids ∧ Below w.heap.size w w'
end Go.Proofs.YtiahmfpfimmbgaaGreatDoor

/-! The program's copyTerms. -/
namespace Go.Proofs.YtiahmfpfimmbgaaGreatDoor
open Go Go.RowKit

end Go.Proofs.YtiahmfpfimmbgaaGreatDoor

/-! CtxTerms, the program's. -/
namespace Go.Proofs.YtiahmfpfimmbgaaGreatDoor
open Go Go.RowKit Go.ChangeShapes Go.WideShapes Go.ChangeAt Go.Deep

end Go.Proofs.YtiahmfpfimmbgaaGreatDoor

/-! Marks on trees. -/
namespace Go.Proofs.YtiahmfpfimmbgaaGreatDoor
open Go Go.RowKit Go.ChangeShapes Go.WideShapes Go.ChangeAt Go.Deep

end Go.Proofs.YtiahmfpfimmbgaaGreatDoor

/-! Marked terms are held. -/
namespace Go.Proofs.YtiahmfpfimmbgaaGreatDoor
open Go Go.RowKit Go.ChangeShapes Go.WideShapes Go.ChangeAt Go.Deep

end Go.Proofs.YtiahmfpfimmbgaaGreatDoor

/-! Trees of terms as the answer of a law: copies, comparisons, marks. -/
namespace Go.Proofs.YtiahmfpfimmbgaaGreatDoor
open Go Go.RowKit Go.ChangeShapes Go.WideShapes Go.ChangeAt Go.Deep

section
variable {w w' : World} {lo hi : Nat} {A : Option Addr} {ts : List T}
theorem TrS.cp_of (h : TrS w (OwnB9 lo w) A ts) : TrS w (Cp lo w.heap.size w) A ts := TrT.mono h fun _ h => ⟨h.1, h.2.1, Nat.le_refl _, h.2.2.1⟩
theorem TrS.cp_rd (h : TrS w (Cp lo hi w) A ts) : Lay.term.Rd w A ts := (TrT.sl h).mono fun _ h => h.lt
end
end Go.Proofs.YtiahmfpfimmbgaaGreatDoor

/-! The reference's l3Copy. -/
namespace Go.Proofs.YtiahmfpfimmbgaaGreatDoor
open Go Go.RowKit

def Fact.boxL (p : Nat) (W : World) (x : T) (ts : List T) : Fact :=
  .of (fun _ z => BoxT (p + 3) (p + 2) x z ts ∧ Below p W z ∧ p + 3 ≤ z.heap.size ∧ z.heap[p + 1]? = W.heap[p + 1]? ∧ z.heap[p]? = W.heap[p]?) fun _ z z' ⟨⟨A, c, h1, h2⟩, h3, h4, h5, h6⟩ hb =>
    ⟨⟨A, c, (hb.block (p + 2) (lt_of_block h1)).trans h1, h2.up hb⟩, h3.trans (hb.mono (by omega)), Nat.le_trans h4 hb.size, (hb.block (p + 1) (by omega)).trans h5, (hb.block p (by omega)).trans h6⟩
def CopyL (x : T) : Prop := ∀ (A : Option Addr) (c : Nat) (F : Nat → Prop) (w : World), Lay.term.Sl w F A x.kids → (∀ b, F b → b < w.heap.size) →
  Calls Tryz.prog 70 #[.agg #[.int .i64 x.op, .int .i64 x.a, .int .i64 x.b, .string x.name, .slice A x.kids.length c]] w (RetTree x w)
set_option maxRecDepth 100000 in
set_option maxHeartbeats 8000000 in
theorem l3Copy_any (t : T) (ho : T.All okT2 t) : CopyL t := by
  revert ho
  refine T.ind (p := fun x => T.All okT2 x → CopyL x) (fun x ih ho => ?_) t
  obtain ⟨hkl, _⟩ := ho.here
  have ihk : ∀ k ∈ x.kids, CopyL k := fun k hk => ih k hk (ho.kid k hk)
  clear ih ho
  intro A c F w h hF
  have HIK := Lib.hid ihk
  clear ihk
  have hal : Below w.heap.size w (((w.alloc (.cells #[.int .i64 x.op, .int .i64 x.a, .int .i64 x.b, .string x.name, .slice A x.kids.length c] 48)).alloc (.cells #[.int .i64 0, .int .i64 0, .int .i64 0, .string ⟨#[]⟩, .slice none 0 0] 48)).alloc (.cells #[.int .i64 x.op, .int .i64 x.a, .int .i64 x.b, .string x.name, .slice none 0 0] 48)) := (((Below.refl w.heap.size w).alloc (Nat.le_refl _) (.cells #[.int .i64 x.op, .int .i64 x.a, .int .i64 x.b, .string x.name, .slice A x.kids.length c] 48)).alloc (by simp) (.cells #[.int .i64 0, .int .i64 0, .int .i64 0, .string ⟨#[]⟩, .slice none 0 0] 48)).alloc (by simp; omega) (.cells #[.int .i64 x.op, .int .i64 x.a, .int .i64 x.b, .string x.name, .slice none 0 0] 48)
  have hsz1 : (w.alloc (.cells #[.int .i64 x.op, .int .i64 x.a, .int .i64 x.b, .string x.name, .slice A x.kids.length c] 48)).heap.size = w.heap.size + 1 := by simp
  have hsz1' : ((w.alloc (.cells #[.int .i64 x.op, .int .i64 x.a, .int .i64 x.b, .string x.name, .slice A x.kids.length c] 48)).alloc (.cells #[.int .i64 0, .int .i64 0, .int .i64 0, .string ⟨#[]⟩, .slice none 0 0] 48)).heap.size = w.heap.size + 2 := by simp
  have hsz2 : (((w.alloc (.cells #[.int .i64 x.op, .int .i64 x.a, .int .i64 x.b, .string x.name, .slice A x.kids.length c] 48)).alloc (.cells #[.int .i64 0, .int .i64 0, .int .i64 0, .string ⟨#[]⟩, .slice none 0 0] 48)).alloc (.cells #[.int .i64 x.op, .int .i64 x.a, .int .i64 x.b, .string x.name, .slice none 0 0] 48)).heap.size = w.heap.size + 3 := by simp
  have hbox := heap_alloc_new ((w.alloc (.cells #[.int .i64 x.op, .int .i64 x.a, .int .i64 x.b, .string x.name, .slice A x.kids.length c] 48)).alloc (.cells #[.int .i64 0, .int .i64 0, .int .i64 0, .string ⟨#[]⟩, .slice none 0 0] 48)) (.cells #[.int .i64 x.op, .int .i64 x.a, .int .i64 x.b, .string x.name, .slice none 0 0] 48)
  rw [hsz1'] at hbox
  have hres : (((w.alloc (.cells #[.int .i64 x.op, .int .i64 x.a, .int .i64 x.b, .string x.name, .slice A x.kids.length c] 48)).alloc (.cells #[.int .i64 0, .int .i64 0, .int .i64 0, .string ⟨#[]⟩, .slice none 0 0] 48)).alloc (.cells #[.int .i64 x.op, .int .i64 x.a, .int .i64 x.b, .string x.name, .slice none 0 0] 48)).heap[w.heap.size + 1]? = some (.cells #[.int .i64 0, .int .i64 0, .int .i64 0, .string ⟨#[]⟩, .slice none 0 0] 48 (0, 0)) := by
    have h9 := heap_alloc_new (w.alloc (.cells #[.int .i64 x.op, .int .i64 x.a, .int .i64 x.b, .string x.name, .slice A x.kids.length c] 48)) (.cells #[.int .i64 0, .int .i64 0, .int .i64 0, .string ⟨#[]⟩, .slice none 0 0] 48)
    rw [hsz1] at h9
    exact (((Below.refl ((w.alloc (.cells #[.int .i64 x.op, .int .i64 x.a, .int .i64 x.b, .string x.name, .slice A x.kids.length c] 48)).alloc (.cells #[.int .i64 0, .int .i64 0, .int .i64 0, .string ⟨#[]⟩, .slice none 0 0] 48)).heap.size ((w.alloc (.cells #[.int .i64 x.op, .int .i64 x.a, .int .i64 x.b, .string x.name, .slice A x.kids.length c] 48)).alloc (.cells #[.int .i64 0, .int .i64 0, .int .i64 0, .string ⟨#[]⟩, .slice none 0 0] 48))).alloc (Nat.le_refl _) (.cells #[.int .i64 x.op, .int .i64 x.a, .int .i64 x.b, .string x.name, .slice none 0 0] 48)).block _ (by rw [hsz1']; omega)).trans h9
  have harg : (((w.alloc (.cells #[.int .i64 x.op, .int .i64 x.a, .int .i64 x.b, .string x.name, .slice A x.kids.length c] 48)).alloc (.cells #[.int .i64 0, .int .i64 0, .int .i64 0, .string ⟨#[]⟩, .slice none 0 0] 48)).alloc (.cells #[.int .i64 x.op, .int .i64 x.a, .int .i64 x.b, .string x.name, .slice none 0 0] 48)).heap[w.heap.size]? = some (.cells #[.int .i64 x.op, .int .i64 x.a, .int .i64 x.b, .string x.name, .slice A x.kids.length c] 48 (0, 0)) :=
    (((Below.refl (w.alloc (.cells #[.int .i64 x.op, .int .i64 x.a, .int .i64 x.b, .string x.name, .slice A x.kids.length c] 48)).heap.size (w.alloc (.cells #[.int .i64 x.op, .int .i64 x.a, .int .i64 x.b, .string x.name, .slice A x.kids.length c] 48))).alloc (Nat.le_refl _) (.cells #[.int .i64 0, .int .i64 0, .int .i64 0, .string ⟨#[]⟩, .slice none 0 0] 48)).alloc (by simp) (.cells #[.int .i64 x.op, .int .i64 x.a, .int .i64 x.b, .string x.name, .slice none 0 0] 48) |>.block _ (by rw [hsz1]; omega)).trans (heap_alloc_new w (.cells #[.int .i64 x.op, .int .i64 x.a, .int .i64 x.b, .string x.name, .slice A x.kids.length c] 48))
  have H := Lib.hid h
  have HF := Lib.hid hF
  clear h hF hsz1
  go_enter Tryz.func70, Tryz.ntmps70
  go_wp2
  generalize ((w.alloc (.cells #[.int .i64 x.op, .int .i64 x.a, .int .i64 x.b, .string x.name, .slice A x.kids.length c] 48)).alloc (.cells #[.int .i64 0, .int .i64 0, .int .i64 0, .string ⟨#[]⟩, .slice none 0 0] 48)).alloc (.cells #[.int .i64 x.op, .int .i64 x.a, .int .i64 x.b, .string x.name, .slice none 0 0] 48) = W at *
  obtain ⟨p, hp⟩ : ∃ p, p = w.heap.size := ⟨_, rfl⟩
  rw [← hp] at hbox hres harg hsz2 hal ⊢
  have HP := Lib.hid hp
  clear hp
  go_loopw [4] (fun i wr => ∃ k : Nat, k ≤ x.kids.length ∧ i = .int .i64 k ∧ BoxT (p + 3) (p + 2) x wr (x.kids.take k) ∧ wr.heap[p + 1]? = some (.cells #[.int .i64 0, .int .i64 0, .int .i64 0, .string ⟨#[]⟩, .slice none 0 0] 48 (0, 0)) ∧ wr.heap[p]? = some (.cells #[.int .i64 x.op, .int .i64 x.a, .int .i64 x.b, .string x.name, .slice A x.kids.length c] 48 (0, 0)) ∧ Below p w wr ∧ p + 3 ≤ wr.heap.size) (fun i _ => x.kids.length - (intOf i).toNat)
  case atStart => exact ⟨0, Nat.zero_le _, rfl, ⟨none, 0, hbox, RowTr.nil _ _⟩, hres, harg, hal, by omega⟩
  case round =>
    obtain ⟨k, hk, rfl, hbt, hrs, hag, hb, hlo⟩ := hrel
    have w4 := (cell_of_block hag 4).1
    by_cases hlt : k < x.kids.length
    · have hk1 : (k : Int) < x.kids.length := by omega
      obtain ⟨B, b, hbx, hrow⟩ := hbt
      have hbw : Below w.heap.size w wr := by rw [← HP.out]; exact hb
      obtain ⟨ad, A1, c1, rfl, hf, e1, e2, e3, e4, e5, hcc, hkk⟩ := (H.out.below hbw HF.out).at_term hlt
      obtain ⟨ys, hys⟩ : ∃ ys, ys = x.kids.take k ++ [x.kids[k]] := ⟨_, rfl⟩
      have HYE : Hid (ys = x.kids.take (k + 1)) := Lib.hid (by rw [hys, List.take_succ_eq_append_getElem hlt])
      have HYS := Lib.hid hys
      have hxl : (x.kids.take k).length ≤ 2000000 := by rw [List.length_take]; omega
      generalize x.kids.take k = ts at *
      have HCP := Lib.hid (HIK.out _ (List.getElem_mem hlt) A1 c1 F)
      have HRW := Lib.hid hrow
      have HBX := Lib.hid hbx
      have HRS := Lib.hid hrs
      have HAG := Lib.hid hag
      have HB := Lib.hid hb
      have HLO := Lib.hid hlo
      have HKK := Lib.hid hkk
      have HFL : Hid (∀ g, F g → g < wr.heap.size) := Lib.hid (fun g hg => Nat.lt_of_lt_of_le (HF.out g hg) hbw.size)
      have z0 := Later.cell (cell_of_block HBX.out 4).1
      have z1 := Later.cell (cell_of_block HAG.out 4).1
      have y0 := Later.cell e1
      have y1 := Later.cell e2
      have y2 := Later.cell e3
      have y3 := Later.cell e4
      have y4 := Later.cell e5
      clear hys hkk hrow hbx hrs hag hb hbw e1 e2 e3 e4 e5
      go_wp2
      generalize wr = W1 at *
      refine wp_region_shares [[], [(0, 21)], [], [(2, 23)], [], [(3, 24), (4, 25)], [(5, 26)], [(6, 27)], [(7, 28)], [(1, 22), (8, 29)], [], [(10, 31), (9, 30)]]
        [.eq (.pointer (some ⟨p + 2, 4, none⟩)), .eq (.slice B ts.length b), .eq (.pointer (some ⟨p, 4, none⟩)), .eq (.slice (some ad) x.kids.length c), .eq (.int .i64 (k : Int)), .eq (.pointer (some (ad.add (k * 5)))), .eq (.agg #[.int .i64 x.kids[k].op, .int .i64 x.kids[k].a, .int .i64 x.kids[k].b, .string x.kids[k].name, .slice A1 x.kids[k].kids.length c1]), Fact.treeV (p + 3) W1.heap.size x.kids[k], Fact.treeL (p + 3) W1.heap.size x.kids[k], Fact.rowT (p + 3) W1 (.slice B ts.length b) ys, .eq (.pointer (some ⟨p + 2, 4, none⟩)), Fact.boxL p W1 x ys]
        [9, 11] [9, 11] [10, 11] [11] [(0, 21), (1, 22), (2, 23), (3, 24), (4, 25), (5, 26), (6, 27), (7, 28), (8, 29), (9, 30), (10, 31)] (by kernel_rfl) (by kernel_rfl) (by kernel_rfl) (by kernel_rfl)
        ⟨?_, ?_, ?_, ?_, ?_, ?_, ?_, ?_, ?_, ?_, ?_, ?_, trivial⟩ ?_
      · intro vals z hC hF
        simp only [putsD, Act.put, List.setIfInBounds_toArray, List.set_cons_zero, List.set_cons_succ]
        go_wp2
        exact ⟨rfl, rfl, .inr (Below.refl _ _), .inr (.inl (by simp))⟩
      · intro vals z hC hF
        have hC := hC.resolve_left (by simp)
        have hsz := hC.size
        have e1 : z.cell? _ = _ := z0 ⟨z, hC⟩
        simp only [factsD, List.getD_cons_zero, List.getD_cons_succ, Fact.eq, Fact.row, Fact.lit, Fact.lit0, Fact.of, and_true, Fact.treeV, Fact.treeL, Fact.rowT, Fact.boxL] at hF
        simp only [putsD, Act.put, List.setIfInBounds_toArray, List.set_cons_zero, List.set_cons_succ]
        simp only [hF]
        go_wp2
        exact ⟨rfl, rfl, .inr (Below.refl _ _), .inr (.inl (by simp))⟩
      · intro vals z hC hF
        simp only [putsD, Act.put, List.setIfInBounds_toArray, List.set_cons_zero, List.set_cons_succ]
        go_wp2
        exact ⟨rfl, rfl, .inr (Below.refl _ _), .inr (.inl (by simp))⟩
      · intro vals z hC hF
        have hC := hC.resolve_left (by simp)
        have hsz := hC.size
        have e1 : z.cell? _ = _ := z1 ⟨z, hC⟩
        simp only [factsD, List.getD_cons_zero, List.getD_cons_succ, Fact.eq, Fact.row, Fact.lit, Fact.lit0, Fact.of, and_true, Fact.treeV, Fact.treeL, Fact.rowT, Fact.boxL] at hF
        simp only [putsD, Act.put, List.setIfInBounds_toArray, List.set_cons_zero, List.set_cons_succ]
        simp only [hF]
        go_wp2
        exact ⟨rfl, rfl, .inr (Below.refl _ _), .inr (.inl (by simp))⟩
      · intro vals z hC hF
        simp only [putsD, Act.put, List.setIfInBounds_toArray, List.set_cons_zero, List.set_cons_succ]
        go_wp2
        exact ⟨rfl, rfl, .inr (Below.refl _ _), .inr (.inl (by simp))⟩
      · intro vals z hC hF
        simp only [factsD, List.getD_cons_zero, List.getD_cons_succ, Fact.eq, Fact.row, Fact.lit, Fact.lit0, Fact.of, and_true, Fact.treeV, Fact.treeL, Fact.rowT, Fact.boxL] at hF
        obtain ⟨e1, e2⟩ := hF
        simp only [putsD, Act.put, List.setIfInBounds_toArray, List.set_cons_zero, List.set_cons_succ]
        simp only [e1, e2]
        go_wp2
        exact ⟨rfl, rfl, .inr (Below.refl _ _), .inr (.inl (by simp))⟩
      · intro vals z hC hF
        have hC := hC.resolve_left (by simp)
        have hsz := hC.size
        have e1 : z.cell? _ = _ := y0 ⟨z, hC⟩
        have e2 : z.cell? _ = _ := y1 ⟨z, hC⟩
        have e3 : z.cell? _ = _ := y2 ⟨z, hC⟩
        have e4 : z.cell? _ = _ := y3 ⟨z, hC⟩
        have e5 : z.cell? _ = _ := y4 ⟨z, hC⟩
        simp only [factsD, List.getD_cons_zero, List.getD_cons_succ, Fact.eq, Fact.row, Fact.lit, Fact.lit0, Fact.of, and_true, Fact.treeV, Fact.treeL, Fact.rowT, Fact.boxL] at hF
        have e9 := hF
        simp only [putsD, Act.put, List.setIfInBounds_toArray, List.set_cons_zero, List.set_cons_succ]
        simp only [e9]
        go_wp2
        exact ⟨rfl, rfl, .inr (Below.refl _ _), .inr (.inl (by simp))⟩
      · intro vals z hC hF
        have hC := hC.resolve_left (by simp)
        have hsz := hC.size
        simp only [factsD, List.getD_cons_zero, List.getD_cons_succ, Fact.eq, Fact.row, Fact.lit, Fact.lit0, Fact.of, and_true, Fact.treeV, Fact.treeL, Fact.rowT, Fact.boxL] at hF
        have e1 := hF
        simp only [putsD, Act.put, List.setIfInBounds_toArray, List.set_cons_zero, List.set_cons_succ]
        simp only [e1]
        have HC9 := Lib.hid (HCP.out z (HKK.out.below hC HFL.out) (fun g hg => Nat.lt_of_lt_of_le (HFL.out g hg) hsz))
        go_wp2_with fail
        refine HC9.out.mono ?_
        rintro e w9 ⟨A9, c9, rfl, hc9, ht9, hb9⟩
        have HT9 : Hid (TrS w9 (fun g => W1.heap.size ≤ g ∧ OwnB9 (p + 3) w9 g) A9 x.kids[k].kids) := Lib.hid (TrT.mono ht9 fun g hg => ⟨Nat.le_trans hsz hg.1, hg.le (Nat.le_trans HLO.out hsz)⟩)
        clear ht9
        go_wp2
        exact ⟨rfl, ⟨A9, c9, rfl, hc9, HT9.out⟩, .inr hb9, .inr (.inl (by simp))⟩
      · intro vals z hC hF
        have hC := hC.resolve_left (by simp)
        have hsz := hC.size
        simp only [factsD, List.getD_cons_zero, List.getD_cons_succ, Fact.eq, Fact.row, Fact.lit, Fact.lit0, Fact.of, and_true, Fact.treeV, Fact.treeL, Fact.rowT, Fact.boxL] at hF
        obtain ⟨A9, c9, e1, hc9, ht9⟩ := hF
        have e1 : vals 7 = .agg #[.int .i64 x.kids[k].op, .int .i64 x.kids[k].a, .int .i64 x.kids[k].b, .string x.kids[k].name, .slice A9 x.kids[k].kids.length c9] := e1
        simp only [putsD, Act.put, List.setIfInBounds_toArray, List.set_cons_zero, List.set_cons_succ]
        simp only [e1]
        have hal9 : Below z.heap.size z (z.alloc (.cells (tcells x.kids[k] A9 c9).toArray 48)) := (Below.refl _ _).alloc (Nat.le_refl _) _
        go_wp2
        exact ⟨rfl, ⟨_, A9, c9, rfl, heap_alloc_new _ _, hc9, TrS.up (F := fun _ => True) ht9 hal9⟩, .inr hal9, .inr (.inl (by simp))⟩
      · intro vals z hC hF
        have hC := hC.resolve_left (by simp)
        have hsz := hC.size
        simp only [factsD, List.getD_cons_zero, List.getD_cons_succ, Fact.eq, Fact.row, Fact.lit, Fact.lit0, Fact.of, and_true, Fact.treeV, Fact.treeL, Fact.rowT, Fact.boxL] at hF
        obtain ⟨e5, b5, A9, c9, e7, hb5, hc9, ht9⟩ := hF
        have hrz := HRW.out.up hC
        simp only [putsD, Act.put, List.setIfInBounds_toArray, List.set_cons_zero, List.set_cons_succ]
        simp only [e5, e7]
        refine wpList_append_tree (ys := ys) (by rfl) (.tmp 22) (.tmp 29) (by rfl) (by rfl) (by rfl) hrz (Nat.le_trans HLO.out hsz) hxl ht9 hc9 hb5 (fun g hg e9 => by have := (HRW.out.lt g e9).2; omega) ⟨W1, Nat.le_refl _, hC, HRW.out⟩ HYS.out ?_
        intro A8 c8 w8 hown8 hg8
        exact ⟨rfl, ⟨A8, c8, rfl, hown8, below_grown hC hg8⟩, .inl (by simp), .inl (by simp)⟩
      · intro vals z hC hF
        simp only [putsD, Act.put, List.setIfInBounds_toArray, List.set_cons_zero, List.set_cons_succ]
        go_wp2
        exact ⟨rfl, rfl, .inr (Below.refl _ _), .inr (.inl (by simp))⟩
      · intro vals z hC hF
        simp only [factsD, List.getD_cons_zero, List.getD_cons_succ, Fact.eq, Fact.row, Fact.lit, Fact.lit0, Fact.of, and_true, Fact.treeV, Fact.treeL, Fact.rowT, Fact.boxL] at hF
        obtain ⟨e11, A8, c8, e8, hown8, hg8⟩ := hF
        have hpx := (hg8.block (p + 2) (lt_of_block HBX.out) (fun e => by have := (HRW.out.lt (p + 2) e.symm).1; omega)).trans HBX.out
        have x1 := (cell_of_block hpx 4).1
        have x2 := (cell_of_block hpx 4).2
        have HRF := Lib.hid (hown8.far ⟨p + 2, 4, none⟩ (.slice A8 ys.length c8) (by show p + 2 < p + 3; omega))
        have HPX := Lib.hid (heap_set_same z (p + 2) 4 (.slice A8 ys.length c8) _ _ hpx)
        have HBL : Hid (Below p W1 (z.setCell ⟨p + 2, 4, none⟩ (.slice A8 ys.length c8))) := Lib.hid (below_set9 ((Below.refl p W1).grown hg8 (by have := HLO.out; omega) (fun g hg => by have := (HRW.out.lt g hg).1; omega)) (by show p ≤ p + 2; omega) _)
        have HRR := Lib.hid ((Below.heap_setCell z ⟨p + 2, 4, none⟩ (.slice A8 ys.length c8) (p + 1) (by show p + 1 ≠ p + 2; omega)).trans (hg8.block (p + 1) (lt_of_block HRS.out) (fun e => by have := (HRW.out.lt (p + 1) e.symm).1; omega)))
        have HRA := Lib.hid ((Below.heap_setCell z ⟨p + 2, 4, none⟩ (.slice A8 ys.length c8) p (by show p ≠ p + 2; omega)).trans (hg8.block p (lt_of_block HAG.out) (fun e => by have := (HRW.out.lt p e.symm).1; omega)))
        have HSZ := Lib.hid hg8.size
        clear hpx
        simp only [putsD, Act.put, List.setIfInBounds_toArray, List.set_cons_zero, List.set_cons_succ]
        simp only [e11, e8]
        go_wp2
        exact ⟨rfl, ⟨⟨A8, c8, HPX.out, HRF.out⟩, HBL.out, by rw [size_setCell]; have := HLO.out; have := HSZ.out; omega, HRR.out, HRA.out⟩, .inl (by simp), .inl (by simp)⟩
      · intro vals z hF
        simp only [facts, List.getD_cons_zero, List.getD_cons_succ, Fact.eq, Fact.row, Fact.lit, Fact.lit0, Fact.of, and_true, Fact.treeV, Fact.treeL, Fact.rowT, Fact.boxL] at hF
        obtain ⟨hbt, hB9, hsz9, hr9, hr8⟩ := hF
        simp only [putsD, Act.put, List.setIfInBounds_toArray, List.set_cons_zero, List.set_cons_succ]
        have hb9 := HB.out.trans hB9
        have hrs9 := hr9.trans HRS.out
        have hag9 := hr8.trans HAG.out
        clear hB9 hr9 hr8 z0 z1 y0 y1 y2 y3 y4
        go_wp2
        go_roundw
        case rel => exact ⟨k + 1, by omega, by go_num, by rw [← HYE.out]; exact hbt, hrs9, hag9, hb9, by omega⟩
        case measure => simp [intOf]; omega
    · have hke : k = x.kids.length := by omega
      subst hke
      rw [List.take_length] at hbt
      obtain ⟨B, b, hbx, hrow⟩ := hbt
      have v0 := (cell_of_block hbx 0).1
      have v1 := (cell_of_block hbx 1).1
      have v2 := (cell_of_block hbx 2).1
      have v3 := (cell_of_block hbx 3).1
      have v4 := (cell_of_block hbx 4).1
      have r0 := (cell_of_block hrs 0).1
      have r1 := (cell_of_block hrs 1).1
      have r2 := (cell_of_block hrs 2).1
      have r3 := (cell_of_block hrs 3).1
      have r4 := (cell_of_block hrs 4).1
      have f0 := (cell_of_block hrs 0).2
      have f1 := (cell_of_block hrs 1).2
      have f2 := (cell_of_block hrs 2).2
      have f3 := (cell_of_block hrs 3).2
      have f4 := (cell_of_block hrs 4).2
      have s0 := heap_set_same wr (p + 1) 0 (.int .i64 x.op) _ _ hrs
      have s1 := heap_set_same _ (p + 1) 1 (.int .i64 x.a) _ _ s0
      have s2 := heap_set_same _ (p + 1) 2 (.int .i64 x.b) _ _ s1
      have s3 := heap_set_same _ (p + 1) 3 (.string x.name) _ _ s2
      have s4 := heap_set_same _ (p + 1) 4 (.slice B x.kids.length b) _ _ s3
      have hp1 : p + 1 < p + 3 := by omega
      have HRW := Lib.hid (((((hrow.far ⟨p + 1, 0, none⟩ (.int .i64 x.op) hp1).far ⟨p + 1, 1, none⟩ (.int .i64 x.a) hp1).far ⟨p + 1, 2, none⟩ (.int .i64 x.b) hp1).far ⟨p + 1, 3, none⟩ (.string x.name) hp1).far ⟨p + 1, 4, none⟩ (.slice B x.kids.length b) hp1)
      have hp2 : p ≤ p + 1 := by omega
      have HBL := Lib.hid (below_set9 (below_set9 (below_set9 (below_set9 (below_set9 hb (p := ⟨p + 1, 0, none⟩) hp2 (.int .i64 x.op)) (p := ⟨p + 1, 1, none⟩) hp2 (.int .i64 x.a)) (p := ⟨p + 1, 2, none⟩) hp2 (.int .i64 x.b)) (p := ⟨p + 1, 3, none⟩) hp2 (.string x.name)) (p := ⟨p + 1, 4, none⟩) hp2 (.slice B x.kids.length b))
      have HS4 := Lib.hid s4
      have hcap : x.kids.length ≤ b := by
        obtain ⟨A8, c8, e8, h8⟩ := hrow.form
        injection e8 with _ _ e8
        omega
      clear s0 s1 s2 s3 s4 hp1 hp2 hrow hbx hb
      go_wp2
      generalize (((((wr.setCell ⟨p + 1, 0, none⟩ (.int .i64 x.op)).setCell ⟨p + 1, 1, none⟩ (.int .i64 x.a)).setCell ⟨p + 1, 2, none⟩ (.int .i64 x.b)).setCell ⟨p + 1, 3, none⟩ (.string x.name)).setCell ⟨p + 1, 4, none⟩ (.slice B x.kids.length b)) = W5 at *
      have k0 := (cell_of_block HS4.out 0).1
      have k1 := (cell_of_block HS4.out 1).1
      have k2 := (cell_of_block HS4.out 2).1
      have k3 := (cell_of_block HS4.out 3).1
      have k4 := (cell_of_block HS4.out 4).1
      simp at k0 k1 k2 k3 k4
      refine bodyPost_ret (v := .agg #[.int .i64 x.op, .int .i64 x.a, .int .i64 x.b, .string x.name, .slice B x.kids.length b]) (by simp [results, Tryz.results70, go_sem, k0, k1, k2, k3, k4]) rfl ?_
      refine ⟨B, b, rfl, hcap, TrT.mono (RowTr.tree HRW.out) (fun g hg => hg.le (by rw [← HP.out]; omega)), by rw [← HP.out]; exact HBL.out⟩
end Go.Proofs.YtiahmfpfimmbgaaGreatDoor

/-! A row of layers of the call's own that grows; what each layer leads to lies in a range of its own. -/
namespace Go.Proofs.YtiahmfpfimmbgaaGreatDoor
open Go Go.RowKit

/-- A fact of a layer whose rows lie between S and E. -/
abbrev LyF := World → Nat → Nat → Value → Value → Ly → Prop
/-- It hangs on those blocks alone. -/
def StayP (P : LyF) : Prop := ∀ w w' S E vd vt l, P w S E vd vt l → w.heap.size ≤ w'.heap.size → (∀ b, S ≤ b → b < E → w'.heap[b]? = w.heap[b]?) → P w' S E vd vt l
def RowP (P : LyF) (lo : Nat) (w : World) (v : Value) (ls : List Ly) : Prop :=
  ∃ cs, w.ownsRow lo 58 2 v ls.length cs ∧ ∃ (S E : Nat → Nat) (Vd Vt : Nat → Value),
    (∀ k l, ls[k]? = some l → cs[k * 2]? = some (Vd k) ∧ cs[k * 2 + 1]? = some (Vt k) ∧ (lo ≤ S k ∧ S k ≤ E k ∧ E k ≤ w.heap.size) ∧ (∀ g, v.ownBlock = some g → ¬ (S k ≤ g ∧ g < E k)) ∧ P w (S k) (E k) (Vd k) (Vt k) l) ∧
    ∀ i j, i < j → j < ls.length → E i ≤ S j
section
variable {P : LyF} {lo : Nat} {w w' : World} {v : Value} {ls : List Ly}
theorem RowP.nil (P : LyF) (w : World) (lo : Nat) : RowP P lo w (.slice none ([] : List Ly).length 0) [] :=
  ⟨[], World.ownsRow_nil _ _ _ _, fun _ => 0, fun _ => 0, fun _ => .bool true, fun _ => .bool true, fun k x h => by simp at h, fun i j _ h => by simp at h⟩
theorem RowP.lit (P : LyF) (w : World) : RowP P w.heap.size (w.alloc (.cells #[] 58)) (.slice (some ⟨w.heap.size, 0, none⟩) ([] : List Ly).length 0) [] :=
  ⟨[], own_lit0 rfl, fun _ => 0, fun _ => 0, fun _ => .bool true, fun _ => .bool true, fun k x h => by simp at h, fun i j _ h => by simp at h⟩
theorem RowP.keep (hP : StayP P) (h : RowP P lo w v ls) (hs : w.heap.size ≤ w'.heap.size) (hb : ∀ b, lo ≤ b → b < w.heap.size → w'.heap[b]? = w.heap[b]?) : RowP P lo w' v ls := by
  obtain ⟨cs, h1, S, E, Vd, Vt, h2, h3⟩ := h
  refine ⟨cs, own_of_heap h1 fun g hg => hb g (h1.lt g hg).1 (h1.lt g hg).2, S, E, Vd, Vt, fun k x hx => ?_, h3⟩
  obtain ⟨g1, g2, ⟨g3, g4, g5⟩, g6, g7⟩ := h2 k x hx
  exact ⟨g1, g2, ⟨g3, g4, Nat.le_trans g5 hs⟩, g6, hP _ _ _ _ _ _ _ g7 hs fun b h8 h9 => hb b (Nat.le_trans g3 h8) (by omega)⟩
theorem RowP.up (hP : StayP P) (h : RowP P lo w v ls) (hb : Below w.heap.size w w') : RowP P lo w' v ls := h.keep hP hb.size fun b _ h9 => hb.block b h9
theorem RowP.form (h : RowP P lo w v ls) : ∃ A c, v = .slice A ls.length c ∧ ls.length ≤ c := by
  obtain ⟨cs, h1, _⟩ := h
  rcases h1.2 with ⟨e1, e2⟩ | ⟨g, cap, cur, e1, _, _, h3, _⟩
  · exact ⟨none, 0, by rw [e1, e2], by rw [e2]; exact Nat.le_refl _⟩
  · exact ⟨_, cap, e1, h3⟩
theorem RowP.lt (h : RowP P lo w v ls) : ∀ g, v.ownBlock = some g → lo ≤ g ∧ g < w.heap.size := by
  obtain ⟨cs, h1, _⟩ := h
  exact fun g hg => h1.lt g hg
end
theorem layer_info : (Tryz.prog.info? 58).map (fun i => (i.zero, i.size, i.bytes)) = some (some ((.agg #[.slice none 0 0, .slice none 0 0])), 2, 48) := by kernel_rfl
/-- append of one layer, laid in a block of its own, whose rows lie in a new range. -/
theorem run_append_layer {P : LyF} (hP : StayP P) {w : World} {lo S0 E0 b : Nat} {A : Option Addr} {c d : Nat} {ls ys : List Ly} {l : Ly} {vd vt : Value} {ty e' : TypeId} (hlo : lo ≤ S0) (hn : ls.length ≤ 1048576)
    (hl : P w S0 E0 vd vt l) (hSE : S0 ≤ E0) (hE : E0 ≤ w.heap.size) (hvd : vd.oneCell' = true) (hvt : vt.oneCell' = true) (hb : w.heap[b]? = some (.cells #[vd, vt] e' (0, 0)))
    (hold : ∃ w0 : World, w0.heap.size ≤ S0 ∧ Below w0.heap.size w0 w ∧ RowP P lo w0 (.slice A ls.length c) ls) (hy : ys = ls ++ [l]) :
    ∃ A' c' w', (Builtin.append_ #[26, 26] ty #[.slice A ls.length c, .slice (some ⟨b, 0, none⟩) 1 d]).run Tryz.prog w = .ok (.slice A' ys.length c') w' ∧ RowP P lo w' (.slice A' ys.length c') ys ∧ w.grownBy w' (Value.slice A ls.length c).ownBlock ∧
      ((Value.slice A' ys.length c').ownBlock = (Value.slice A ls.length c).ownBlock ∨ ∃ g, (Value.slice A' ys.length c').ownBlock = some g ∧ w.heap.size ≤ g) := by
  obtain ⟨i0, hi0, hz0, hz1, hz2⟩ := info_parts layer_info
  obtain ⟨w0, hw0, hbw, cs, h1, S, E, Vd, Vt, h2, h3⟩ := hold
  have h1w : w.ownsRow lo 58 2 (.slice A ls.length c) ls.length cs := own_below h1 hbw (Nat.le_refl _)
  have hll : ls.length + 1 = ys.length := by rw [hy]; simp
  have hsrc : Src w 2 (some ⟨b, 0, none⟩) 1 [vd, vt] := by
    have := src_block (m := 1) (size := 2) hb rfl
    simpa using this
  have hbb : ys.length * 48 ≤ 140737488355328 := by omega
  have hlw : lo ≤ w.heap.size := by omega
  obtain ⟨A', c', w', hrun, ho', hg', hbk⟩ := run_append_src_at (P := Tryz.prog) w lo 26 ty 58 i0 _ 2 48 Tryz.underlying26 hi0 hz0 hz1 hz2 rfl (by omega) _ ls.length cs h1w (some ⟨b, 0, none⟩) 1 d [vd, vt] hsrc (by intro u hu; simp at hu; rcases hu with rfl | rfl <;> assumption) ys.length hll (by unfold maxLen; omega) hbb hlw (fun e => by cases e)
  have hgl : ∀ g, (Value.slice A ls.length c).ownBlock = some g → lo ≤ g ∧ g < w0.heap.size := fun g hg => h1.lt g hg
  refine ⟨A', c', w', hrun, ⟨cs ++ [vd, vt], ho', fun k => if k = ls.length then S0 else S k, fun k => if k = ls.length then E0 else E k, fun k => if k = ls.length then vd else Vd k, fun k => if k = ls.length then vt else Vt k, fun k y hky => ?_, fun i j hij hj => ?_⟩, hg', hbk⟩
  · have hcl : cs.length = ls.length * 2 := h1.1
    have hnew : ∀ (S9 E9 : Nat), E9 ≤ w.heap.size → (∀ g, (Value.slice A ls.length c).ownBlock = some g → ¬ (S9 ≤ g ∧ g < E9)) → ∀ g, (Value.slice A' ys.length c').ownBlock = some g → ¬ (S9 ≤ g ∧ g < E9) := fun S9 E9 hE9 h9 g hg => by
      rcases hbk with e | ⟨g2, e, hg2⟩
      · exact h9 g (e ▸ hg)
      · rw [e] at hg; injection hg with hg; omega
    rw [hy] at hky
    by_cases hk : k = ls.length
    · subst hk
      rw [List.getElem?_append_right (Nat.le_refl _), Nat.sub_self] at hky
      simp at hky
      subst hky
      simp only [if_true]
      refine ⟨by rw [List.getElem?_append_right (by omega), hcl, Nat.sub_self]; rfl, by rw [List.getElem?_append_right (by omega), hcl, show ls.length * 2 + 1 - ls.length * 2 = 1 by omega]; rfl, ⟨hlo, hSE, Nat.le_trans hE hg'.size⟩, hnew _ _ hE (fun g hg => by have := (hgl g hg).2; omega), ?_⟩
      exact hP _ _ _ _ _ _ _ hl hg'.size fun b h8 h9 => hg'.block b (by omega) (fun e => by have := (hgl b e.symm).2; omega)
    · have hkl : k < ls.length := by
        have := (List.getElem?_eq_some_iff.1 hky).1
        simp at this
        omega
      rw [List.getElem?_append_left hkl] at hky
      obtain ⟨g1, g2, ⟨g3, g4, g5⟩, g6, g7⟩ := h2 k y hky
      simp only [if_neg hk]
      have hs9 := hbw.size
      refine ⟨by rw [List.getElem?_append_left (by omega)]; exact g1, by rw [List.getElem?_append_left (by omega)]; exact g2, ⟨g3, g4, Nat.le_trans g5 (Nat.le_trans hbw.size hg'.size)⟩, hnew _ _ (by omega) g6, ?_⟩
      refine hP _ _ _ _ _ _ _ g7 (Nat.le_trans hbw.size hg'.size) fun b h8 h9 => (hg'.block b (by omega) (fun e => g6 b e.symm ⟨h8, h9⟩)).trans (hbw.block b (by omega))
  · have hj9 : j < ls.length + 1 := by omega
    have hil : i ≠ ls.length := by omega
    simp only [if_neg hil]
    by_cases hjl : j = ls.length
    · simp only [if_pos hjl]
      obtain ⟨_, _, ⟨_, _, g5⟩, _⟩ := h2 i ls[i] (List.getElem?_eq_getElem (by omega))
      omega
    · simp only [if_neg hjl]
      exact h3 i j hij (by omega)
theorem wpList_append_layer {Q' : Exit → Act → World → Prop} {ops : Array Oper} {rest : List Oper} {o : Oper} {a : Act} {P : LyF} (hP : StayP P) {w : World} {lo S0 E0 b : Nat} {A : Option Addr} {c d : Nat} {ls ys : List Ly} {l : Ly} {vd vt : Value} {e' : TypeId} (hgd : o.guard = none) (s y : Operand)
    (ho : o.op = .call { callee := .builtin .append, args := #[s, y], argTypes := #[26, 26] }) (hs : a.eval s = .slice A ls.length c) (hyv : a.eval y = .slice (some ⟨b, 0, none⟩) 1 d)
    (hlo : lo ≤ S0) (hn : ls.length ≤ 1048576)
    (hl : P w S0 E0 vd vt l) (hSE : S0 ≤ E0) (hE : E0 ≤ w.heap.size) (hvd : vd.oneCell' = true) (hvt : vt.oneCell' = true) (hb : w.heap[b]? = some (.cells #[vd, vt] e' (0, 0)))
    (hold : ∃ w0 : World, w0.heap.size ≤ S0 ∧ Below w0.heap.size w0 w ∧ RowP P lo w0 (.slice A ls.length c) ls) (hy : ys = ls ++ [l])
    (h : ∀ A' c' w', RowP P lo w' (.slice A' ys.length c') ys → w.grownBy w' (Value.slice A ls.length c).ownBlock → wpList Tryz.prog ops Q' rest (a.put o.dst (.slice A' ys.length c')) w') : wpList Tryz.prog ops Q' (o :: rest) a w := by
  obtain ⟨A', c', w', hrun, h1, h2, _⟩ := run_append_layer (d := d) (ty := o.type) hP hlo hn hl hSE hE hvd hvt hb hold hy
  refine wpList_plain hgd fun _ hK => ?_
  unfold Oper.wp execOp
  simp only [ho, resolve, invoke, builtin, Sem.run_bind, Sem.run_pure, Result.andThen_ok, List.map_toArray, List.map_cons, List.map_nil, hs, hyv, hrun]
  exact hK _ _ (h A' c' w' h1 h2)
/-- What is read: declarations and terms (trees), apart from each other, between S and E. -/
def PP : LyF := fun w S E vd vt l => ∃ (Fd Ft : Nat → Prop) (Ad : Option Addr) (cd : Nat) (At : Option Addr) (ct : Nat), vd = .slice Ad l.ds.length cd ∧ vt = .slice At l.ts.length ct ∧ l.ds.length ≤ cd ∧ l.ts.length ≤ ct ∧ (∀ b, Fd b → Cp S E w b) ∧ (∀ b, Ft b → Cp S E w b) ∧ (∀ b, Fd b → ¬ Ft b) ∧ Lay.decl.Sl w Fd Ad l.ds ∧ TrS w Ft At l.ts
theorem stay_cp {lo hi : Nat} {w w' : World} {b : Nat} (h : Cp lo hi w b) (hs : w.heap.size ≤ w'.heap.size) (hb : w'.heap[b]? = w.heap[b]?) : Cp lo hi w' b :=
  ⟨h.1, h.2.1, Nat.le_trans h.2.2.1 hs, fun o => (World.frozen?_of_block (a := ⟨b, o, none⟩) hb).trans (h.2.2.2 o)⟩
theorem stay_PP : StayP PP := by
  rintro w w' S E vd vt l ⟨Fd, Ft, Ad, cd, At, ct, e1, e2, h1, h2, h3, h4, h5, h6, h7⟩ hs hb
  have hk : ∀ b, Cp S E w b → w'.heap[b]? = w.heap[b]? := fun b h9 => hb b h9.1 h9.2.1
  exact ⟨Fd, Ft, Ad, cd, At, ct, e1, e2, h1, h2, fun b hb9 => stay_cp (h3 b hb9) hs (hk b (h3 b hb9)), fun b hb9 => stay_cp (h4 b hb9) hs (hk b (h4 b hb9)), h5, h6.keep fun b hb9 => hk b (h3 b hb9), TrT.keep h7 fun b hb9 => hk b (h4 b hb9)⟩
/-- A row of trees as it was made, unturned since. -/
def RowU (lo hi : Nat) (w : World) (v : Value) (ts : List T) : Prop := hi ≤ w.heap.size ∧ ∃ w0 : World, w0.heap.size = hi ∧ RowTr lo w0 v ts ∧ ∀ b, lo ≤ b → b < hi → w.heap[b]? = w0.heap[b]?
theorem RowU.row {lo hi : Nat} {w : World} {v : Value} {ts : List T} (h : RowU lo hi w v ts) : RowTr lo w v ts := by
  obtain ⟨h1, w0, rfl, h2, h3⟩ := h
  exact h2.keep h1 h3
theorem RowU.stay {lo hi : Nat} {w w' : World} {v : Value} {ts : List T} (h : RowU lo hi w v ts) (hs : w.heap.size ≤ w'.heap.size) (hb : ∀ b, lo ≤ b → b < hi → w'.heap[b]? = w.heap[b]?) : RowU lo hi w' v ts := by
  obtain ⟨h1, w0, h0, h2, h3⟩ := h
  exact ⟨Nat.le_trans h1 hs, w0, h0, h2, fun b h8 h9 => (hb b h8 h9).trans (h3 b h8 h9)⟩
theorem RowU.of {lo : Nat} {w : World} {v : Value} {ts : List T} (h : RowTr lo w v ts) : RowU lo w.heap.size w v ts := ⟨Nat.le_refl _, w, rfl, h, fun _ _ _ => rfl⟩
theorem RowU.tree {lo hi : Nat} {w : World} {A : Option Addr} {c : Nat} {ts : List T} (h : RowU lo hi w (.slice A ts.length c) ts) : TrS w (Cp lo hi w) A ts := by
  obtain ⟨h1, w0, rfl, h2, h3⟩ := h
  have h8 := TrS.cp_of h2.tree
  have hk : ∀ b, Cp lo w0.heap.size w0 b → w.heap[b]? = w0.heap[b]? := fun b h9 => h3 b h9.1 h9.2.1
  exact TrT.mono (TrT.keep h8 hk) fun b h9 => stay_cp h9 h1 (hk b h9)
/-- What may grow: a row of declarations between S and M, a row of trees between M and E. -/
def PR : LyF := fun w S E vd vt l => ∃ M Ad cd At ct, vd = .slice Ad l.ds.length cd ∧ vt = .slice At l.ts.length ct ∧ S ≤ M ∧ M ≤ E ∧ (∀ g, vd.ownBlock = some g → g < M) ∧ OwnDs w S (.slice Ad l.ds.length cd) l.ds ∧ RowU M E w (.slice At l.ts.length ct) l.ts
theorem stay_PR : StayP PR := by
  rintro w w' S E vd vt l ⟨M, Ad, cd, At, ct, e1, e2, h1, h2, h3, h4, h5⟩ hs hb
  refine ⟨M, Ad, cd, At, ct, e1, e2, h1, h2, h3, own_of_heap h4 fun g hg => hb g (h4.lt g hg).1 (by have := h3 g (by rw [e1]; exact hg); omega), h5.stay hs fun b h8 h9 => hb b (by omega) h9⟩
theorem PR.pp {w : World} {S E : Nat} {vd vt : Value} {l : Ly} (h : PR w S E vd vt l) : PP w S E vd vt l := by
  obtain ⟨M, Ad, cd, At, ct, e1, e2, h1, h2, h3, h4, h5⟩ := h
  obtain ⟨_, g1⟩ := OwnDs.cap h4
  have g2 : l.ts.length ≤ ct := by
    obtain ⟨A9, c9, e9, h9⟩ := h5.row.form
    injection e9 with _ _ e9
    omega
  have h51 := h5.1
  refine ⟨Cp S M w, Cp M E w, Ad, cd, At, ct, e1, e2, g1, g2, fun b hb => ⟨hb.1, by have := hb.2.1; omega, h51, hb.2.2.2⟩, fun b hb => ⟨by have := hb.1; omega, hb.2.1, h51, hb.2.2.2⟩, fun b hb hb2 => by have := hb.2.1; have := hb2.1; omega, ?_, h5.tree⟩
  intro h0
  obtain ⟨ad, e, hf, hc⟩ := (Lay.Sl.decl_own h4) h0
  have hm := h3 ad.block (by rw [e1, e]; rfl)
  exact ⟨ad, e, ⟨hf.1, hm, by omega, hf.2.2⟩, fun k x hx => by
    obtain ⟨vs, hr, hcell⟩ := hc k x hx
    exact ⟨vs, hr, hcell⟩⟩
end Go.Proofs.YtiahmfpfimmbgaaGreatDoor

/-! Contexts that change. No program is named here. -/
namespace Go.Proofs.YtiahmfpfimmbgaaGreatDoor
open Go Go.RowKit

/-- The last layer turned. -/
def onLast (f : Ly → Ly) : List Ly → List Ly
  | [] => []
  | [l] => [f l]
  | l :: l2 :: ls => l :: onLast f (l2 :: ls)
theorem onLast_app (f : Ly → Ly) : ∀ (xs : List Ly) (l : Ly), onLast f (xs ++ [l]) = xs ++ [f l]
  | [], l => rfl
  | [x], l => rfl
  | x :: y :: xs, l => by
    show x :: onLast f (y :: (xs ++ [l])) = _
    have := onLast_app f (y :: xs) l
    rw [List.cons_append] at this
    rw [this]; rfl
def addD (c : List Ly) (d : D) : List Ly := onLast (fun l => ⟨l.ds ++ [d], l.ts⟩) c
def addT (c : List Ly) (t : T) : List Ly := onLast (fun l => ⟨l.ds, l.ts ++ [t]⟩) c
/-- What comes of a change: that, if it is right; else what was; of a wrong context nothing. -/
def ctxCh (c x : List Ly) : List Ly × Bool := if ctxOk c = true then (if ctxOk x = true then (x, true) else (c, false)) else ([], false)
theorem dsAll_app (xs ys : List Ly) : dsAll (xs ++ ys) = dsAll xs ++ dsAll ys := by unfold dsAll; rw [List.flatMap_append]
theorem tsAll_app (xs ys : List Ly) : tsAll (xs ++ ys) = tsAll xs ++ tsAll ys := by unfold tsAll; rw [List.flatMap_append]
theorem dsAll_one (l : Ly) : dsAll [l] = l.ds := by simp [dsAll]
theorem tsAll_one (l : Ly) : tsAll [l] = l.ts := by simp [tsAll]
theorem last_of {c : List Ly} (h : 1 ≤ c.length) : ∃ xs l, c = xs ++ [l] := by
  rcases List.eq_nil_or_concat c with rfl | ⟨xs, l, rfl⟩
  · simp at h
  · exact ⟨xs, l, by simp⟩
theorem ctxGo_app : ∀ (xs seen : List Ly) (l : Ly), ctxGo seen (xs ++ [l]) = (ctxGo seen xs && lyOk (seen ++ xs) l)
  | [], seen, l => by simp [ctxGo]
  | x :: xs, seen, l => by
    simp only [List.cons_append, ctxGo]
    rw [ctxGo_app xs (seen ++ [x]) l, Bool.and_assoc, List.append_assoc]
    rfl
theorem ctxOk_parts {c : List Ly} (h : ctxOk c = true) : 1 ≤ c.length ∧ c.length ≤ 6 ∧ declOk (dsAll c) = true ∧ (tsAll c).length ≤ 8 ∧ ctxGo [] c = true := by
  unfold ctxOk at h
  simp only [Bool.and_eq_true, decide_eq_true_eq] at h
  obtain ⟨⟨⟨⟨h1, h2⟩, h3⟩, h4⟩, h5⟩ := h
  exact ⟨h1, h2, h3, h4, h5⟩
theorem declOk_len {ds : List D} (h : declOk ds = true) : ds.length ≤ 4 := by
  unfold declOk at h
  simp only [Bool.and_eq_true, decide_eq_true_eq] at h
  exact h.1
/-- A right context with one term more is right if the term is of sort 0 and there were fewer than 8. -/
theorem ctxOk_addT {xs : List Ly} {l : Ly} (t : T) (h : ctxOk (xs ++ [l]) = true) : ctxOk (xs ++ [⟨l.ds, l.ts ++ [t]⟩]) = (sort0 (dsAll (xs ++ [l])) t && decide ((tsAll (xs ++ [l])).length < 8)) := by
  obtain ⟨h1, h2, h3, h4, h5⟩ := ctxOk_parts h
  have e1 : dsAll (xs ++ [⟨l.ds, l.ts ++ [t]⟩]) = dsAll (xs ++ [l]) := by rw [dsAll_app, dsAll_app, dsAll_one, dsAll_one]
  have e2 : (tsAll (xs ++ [⟨l.ds, l.ts ++ [t]⟩])).length = (tsAll (xs ++ [l])).length + 1 := by rw [tsAll_app, tsAll_app, tsAll_one, tsAll_one]; simp; omega
  have e3 : (xs ++ [(⟨l.ds, l.ts ++ [t]⟩ : Ly)]).length = (xs ++ [l]).length := by simp
  rw [ctxGo_app] at h5
  simp only [Bool.and_eq_true] at h5
  have e4 : ctxGo [] (xs ++ [⟨l.ds, l.ts ++ [t]⟩]) = sort0 (dsAll (xs ++ [l])) t := by
    rw [ctxGo_app, h5.1, Bool.true_and]
    have h6 := h5.2
    unfold lyOk at h6 ⊢
    simp only [List.nil_append] at h6 ⊢
    rw [e1, List.all_append, h6, Bool.true_and]
    simp
  unfold ctxOk
  rw [e1, e2, e3, e4, h3, decide_eq_true h1, decide_eq_true h2]
  by_cases h9 : (tsAll (xs ++ [l])).length < 8
  · rw [decide_eq_true h9, decide_eq_true (by omega : (tsAll (xs ++ [l])).length + 1 ≤ 8)]; simp
  · rw [decide_eq_false h9, decide_eq_false (by omega : ¬ (tsAll (xs ++ [l])).length + 1 ≤ 8)]; simp
/-- What is asked of the context that a change gives. -/
theorem okC.addD {xs : List Ly} {l : Ly} {d : D} (h : okC (xs ++ [l])) (hk : ctxOk (xs ++ [l]) = true) (hd : d.name.size ≤ 9223372036854775807) : okC (xs ++ [⟨l.ds ++ [d], l.ts⟩]) := by
  have e1 : dsAll (xs ++ [⟨l.ds ++ [d], l.ts⟩]) = dsAll (xs ++ [l]) ++ [d] := by rw [dsAll_app, dsAll_app, dsAll_one, dsAll_one, List.append_assoc]
  have e2 : tsAll (xs ++ [⟨l.ds ++ [d], l.ts⟩]) = tsAll (xs ++ [l]) := by rw [tsAll_app, tsAll_app, tsAll_one, tsAll_one]
  have h4 := declOk_len (ctxOk_parts hk).2.2.1
  refine ⟨by have := h.len; simpa using this, by rw [e1, List.length_append, List.length_singleton]; omega, by rw [e2]; exact h.ts, fun x hx => ?_, fun t ht => h.terms t (by rw [e2] at ht; exact ht)⟩
  rw [e1] at hx
  rcases List.mem_append.1 hx with hx | hx
  · exact h.names x hx
  · simp at hx; subst hx; exact hd
theorem okC.addT {xs : List Ly} {l : Ly} {t : T} (h : okC (xs ++ [l])) (hk : ctxOk (xs ++ [l]) = true) (ht : T.All okT3 t) : okC (xs ++ [⟨l.ds, l.ts ++ [t]⟩]) := by
  have e1 : dsAll (xs ++ [⟨l.ds, l.ts ++ [t]⟩]) = dsAll (xs ++ [l]) := by rw [dsAll_app, dsAll_app, dsAll_one, dsAll_one]
  have e2 : tsAll (xs ++ [⟨l.ds, l.ts ++ [t]⟩]) = tsAll (xs ++ [l]) ++ [t] := by rw [tsAll_app, tsAll_app, tsAll_one, tsAll_one, List.append_assoc]
  have h4 := (ctxOk_parts hk).2.2.2.1
  refine ⟨by have := h.len; simpa using this, by rw [e1]; exact h.ds, by rw [e2, List.length_append, List.length_singleton]; omega, fun x hx => h.names x (by rw [e1] at hx; exact hx), fun x hx => ?_⟩
  rw [e2] at hx
  rcases List.mem_append.1 hx with hx | hx
  · exact h.terms x hx
  · simp at hx; subst hx; exact ht
theorem okC.push {c : List Ly} (h : okC c) (hk : ctxOk c = true) : okC (c ++ [⟨[], []⟩]) := by
  have e1 : dsAll (c ++ [⟨[], []⟩]) = dsAll c := by rw [dsAll_app, dsAll_one]; simp
  have e2 : tsAll (c ++ [⟨[], []⟩]) = tsAll c := by rw [tsAll_app, tsAll_one]; simp
  have := (ctxOk_parts hk).2.1
  exact ⟨by rw [List.length_append, List.length_singleton]; omega, by rw [e1]; exact h.ds, by rw [e2]; exact h.ts, by rw [e1]; exact h.names, by rw [e2]; exact h.terms⟩
theorem okC.pop {xs : List Ly} {l : Ly} (h : okC (xs ++ [l])) : okC xs := by
  have h1 := h.ds
  have h2 := h.ts
  rw [dsAll_app, List.length_append] at h1
  rw [tsAll_app, List.length_append] at h2
  exact ⟨by have := h.len; rw [List.length_append] at this; omega, by omega, by omega, fun d hd => h.names d (by rw [dsAll_app]; exact List.mem_append_left _ hd), fun t ht => h.terms t (by rw [tsAll_app]; exact List.mem_append_left _ ht)⟩
end Go.Proofs.YtiahmfpfimmbgaaGreatDoor

/-! A drawn region by shares; an operation may look at a slot that a later one writes. No program is named here. -/
namespace Go.Proofs.YtiahmfpfimmbgaaGreatDoor
open Go Go.RowKit
variable {P : Program} {Q : Exit → Act → World → Prop}
end Go.Proofs.YtiahmfpfimmbgaaGreatDoor
