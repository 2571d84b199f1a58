/- Rows of the call's own whose elements may lead on to other blocks; append of one element. No program is named here. Draws: what a reader's user leaves; a number of a list. Drawn regions that draw from a reader; literals. The program's builder: lists of signals, the choice. The program's builder: built. The program's BitsIf. The program's BitsIf, whole. The reference's gates with room: l7And, l7Xor, l7Or, l7One. append of one integer onto a row of the call's own, and where the row lies then. -/
import Derived.Test.YtcdlfnhjpjpbjaaDoorChecked
import Derived.Test.YtcdlfnhjpjpbjaaDoorJFnBitsIf0
import Derived.Test.YtcdlfnhjpjpbjaaDoorJFnBitsIf1
import Derived.Test.YtcdlfnhjpjpbjaaDoorJFnBitsIf2
import Derived.Test.YtcdlfnhjpjpbjaaDoorJFnBitsIf3
/-! Rows of the call's own whose elements may lead on to other blocks; append of one element. No program is named here. -/
namespace Go.Proofs.YtcdlfnhjpjpbjaaDoor
open Go Go.RowKit

/-- What is so of a block hangs on the block alone. -/
def Stay (Q : World → Nat → Prop) : Prop := ∀ w w' b, w'.heap[b]? = w.heap[b]? → Q w b → Q w' b
theorem Stay.any : Stay (fun _ _ => True) := fun _ _ _ _ _ => trivial
theorem Stay.own (lo : Nat) : Stay (fun w b => lo ≤ b ∧ ∀ o, w.frozen? ⟨b, o, none⟩ = false) := fun w w' b h hq => ⟨hq.1, fun o => by
  rw [← hq.2 o]; exact World.frozen?_of_block (a := ⟨b, o, none⟩) h⟩
/-- A row of the call's own, of elements that lead to other blocks. -/
def OwnL {α : Type} (L : Lay α) (Q : World → Nat → Prop) (e : TypeId) (w : World) (lo : Nat) (v : Value) (xs : List α) : Prop :=
  ∃ cs, w.ownsRow lo e L.size v xs.length cs ∧ ∀ i x, xs[i]? = some x → ∃ vs, L.R w (fun b => b < w.heap.size ∧ v.ownBlock ≠ some b ∧ Q w b) x vs ∧ ∀ j u, vs[j]? = some u → cs[i * L.size + j]? = some u
section
variable {α : Type} {L : Lay α} {Q : World → Nat → Prop} {e : TypeId} {lo : Nat} {w : World} {v : Value} {xs : List α}
theorem OwnL.nil (L : Lay α) (Q : World → Nat → Prop) (e : TypeId) (w : World) (lo : Nat) : OwnL L Q e w lo (.slice none 0 0) [] := ⟨[], World.ownsRow_nil _ _ _ _, fun i x h => by simp at h⟩
/-- Nothing that the row leads to has turned. -/
theorem OwnL.keep {w' : World} (h : OwnL L Q e w lo v xs) (hQ : Stay Q) (hg : w.grownBy w' none) : OwnL L Q e w' lo v xs := by
  obtain ⟨cs, h1, h2⟩ := h
  refine ⟨cs, rows_kept h1 hg (by simp), fun i x hx => ?_⟩
  obtain ⟨vs, hr, hu⟩ := h2 i x hx
  refine ⟨vs, L.mono (fun b hb => ?_) (L.keep (fun b hb => hg.block b hb.1 (by simp)) hr), hu⟩
  exact ⟨Nat.lt_of_lt_of_le hb.1 hg.size, hb.2.1, hQ _ _ _ (hg.block b hb.1 (by simp)) hb.2.2⟩
theorem grown_of_below {a b : World} {row : Option Nat} (h : Below a.heap.size a b) : a.grownBy b row := ⟨h.os, h.tape, h.output, h.size, fun i hi _ => h.block i hi⟩
theorem OwnL.up {w' : World} (h : OwnL L Q e w lo v xs) (hQ : Stay Q) (hb : Below w.heap.size w w') : OwnL L Q e w' lo v xs := h.keep hQ (grown_of_below hb)
theorem OwnL.form (h : OwnL L Q e w lo v xs) : ∃ A c, v = .slice A xs.length c ∧ xs.length ≤ c := by
  obtain ⟨cs, h1, h2⟩ := h
  rcases h1.2 with ⟨e1, e2⟩ | ⟨g, cap, cur, e1, _, _, h3, _⟩
  · exact ⟨none, 0, by rw [e1, e2], by omega⟩
  · exact ⟨_, cap, e1, h3⟩
theorem OwnL.cap {A : Option Addr} {n c : Nat} (h : OwnL L Q e w lo (.slice A n c) xs) : n = xs.length ∧ xs.length ≤ c := by
  obtain ⟨A', c', e1, h1⟩ := h.form
  injection e1 with e1 e2 e3
  exact ⟨e2, by omega⟩
theorem OwnL.len0 {n c : Nat} (h : OwnL L Q e w lo (.slice none n c) xs) : xs.length = 0 := by
  obtain ⟨cs, h1, h2⟩ := h
  rcases h1.2 with ⟨e1, e2⟩ | ⟨g, cap, cur, e1, _⟩
  · exact e2
  · cases e1
/-- How it reads: the row's own block, and those of its elements. -/
theorem OwnL.sl {A : Option Addr} {c : Nat} (h : OwnL L Q e w lo (.slice A xs.length c) xs) : L.Sl w (fun b => b < w.heap.size ∧ (lo ≤ b ∧ (∀ o, w.frozen? ⟨b, o, .none⟩ = false) ∨ Q w b)) A xs := by
  obtain ⟨cs, h1, h2⟩ := h
  intro h0
  rcases h1.2 with ⟨e1, e2⟩ | ⟨g, cap, cur, e1, hg, _⟩
  · omega
  · injection e1 with e1 e2 e3
    subst e1
    refine ⟨_, rfl, ⟨(h1.lt g rfl).2, .inl ⟨hg, fun o => h1.frozenAt o⟩⟩, fun k x hx => ?_⟩
    obtain ⟨vs, hr, hu⟩ := h2 k x hx
    exact ⟨vs, L.mono (fun b hb => ⟨hb.1, .inr hb.2.2⟩) hr, fun j u hj => h1.cells (g := g) rfl _ _ (hu j u hj)⟩
theorem OwnL.rd {A : Option Addr} {c : Nat} (h : OwnL L Q e w lo (.slice A xs.length c) xs) : L.Rd w A xs := h.sl.mono fun _ h => h.1
theorem OwnL.own {A : Option Addr} {c : Nat} (h : OwnL L (fun w b => lo ≤ b ∧ ∀ o, w.frozen? ⟨b, o, none⟩ = false) e w lo (.slice A xs.length c) xs) : L.Sl w (Own lo w) A xs :=
  h.sl.mono fun _ h => ⟨h.2.elim (fun h => h.1) (fun h => h.1), h.1, h.2.elim (fun h => h.2) (fun h => h.2)⟩
/-- The element at a place, as cells. -/
theorem OwnL.at {A : Option Addr} {c : Nat} (h : OwnL L Q e w lo (.slice A xs.length c) xs) {k : Nat} (hk : k < xs.length) : ∃ ad, A = some ad ∧ ad.block < w.heap.size := by
  obtain ⟨ad, e1, hf, _⟩ := h.rd (by omega)
  exact ⟨ad, e1, hf⟩
end
theorem OwnL.lt {α : Type} {L : Lay α} {Q : World → Nat → Prop} {e : TypeId} {w : World} {lo : Nat} {v : Value} {xs : List α} (h : OwnL L Q e w lo v xs) : ∀ g, v.ownBlock = some g → lo ≤ g ∧ g < w.heap.size := by
  obtain ⟨cs, h1, _⟩ := h
  exact fun g hg => h1.lt g hg
/-- append of one element, which has just been laid in a block of its own. -/
theorem wpList_append_row {P : Program} {Q' : Exit → Act → World → Prop} {ops : Array Oper} {rest : List Oper} {o : Oper} {a : Act} {W : World} {α : Type} {L : Lay α} {Q : World → Nat → Prop} {t e : TypeId} {i : TypeInfo} {z : Value} {bytes : Nat} {G : Nat → Prop}
    {lo : Nat} {A : Option Addr} {c : Nat} {xs ys : List α} {x : α} {cs : Array Value} {e' : TypeId} (hgd : o.guard = none) (s y : Operand)
    (ho : o.op = .call { callee := .builtin .append, args := #[s, y], argTypes := #[t, t] }) (ht : P.underlying t = some (.slice e)) (hi : P.info? e = some i) (hz : i.zero = some z) (hsize : i.size = L.size) (hby : i.bytes = bytes) (hzs : z.cells.size = L.size) (hsz : 0 < L.size)
    (hs : a.eval s = .slice A xs.length c) (hy : a.eval y = .slice (some ⟨W.heap.size, 0, none⟩) 1 1)
    (hown : OwnL L Q e W lo (.slice A xs.length c) xs) (hQ : Stay Q) (hr : L.R W G x cs.toList) (hG : ∀ b, G b → b < W.heap.size ∧ (Value.slice A xs.length c).ownBlock ≠ some b ∧ Q W b) (h1 : ∀ u ∈ cs.toList, u.oneCell' = true)
    (hn : xs.length ≤ 2000000) (hb : bytes ≤ 128) (hlo : lo ≤ W.heap.size) (hys : ys = xs ++ [x])
    (h : ∀ A' c' w', OwnL L Q e w' lo (.slice A' ys.length c') ys → W.grownBy w' (Value.slice A xs.length c).ownBlock →
      ((Value.slice A' ys.length c').ownBlock = (Value.slice A xs.length c).ownBlock ∨ ∃ g, (Value.slice A' ys.length c').ownBlock = some g ∧ W.heap.size ≤ g) → wpList P ops Q' rest (a.put o.dst (.slice A' ys.length c')) w') :
    wpList P ops Q' (o :: rest) a (W.alloc (.cells cs e')) := by
  have hal : Below W.heap.size W (W.alloc (.cells cs e')) := (Below.refl _ _).alloc (Nat.le_refl _) _
  have hl : ys.length = xs.length + 1 := by rw [hys]; simp
  have hlc : cs.toList.length = L.size := L.len hr
  obtain ⟨ks, hk1, hk2⟩ := hown.up hQ hal
  have hbb : (xs.length + 1) * bytes ≤ 140737488355328 := by
    have : (xs.length + 1) * bytes ≤ 2000001 * 128 := Nat.mul_le_mul (by omega) hb
    omega
  refine wpList_plain hgd fun _ hK => ?_
  obtain ⟨v', w', hrun, ho', hg', _, hbk⟩ := run_append_own_at (P := P) (W.alloc (.cells cs e')) lo t o.type e i z L.size bytes ht hi hz hsize hby hzs hsz
    (.slice A xs.length c) xs.length ks hk1 ⟨W.heap.size, 0, none⟩ 1 1 cs.toList (by omega) (fun j u hu => World.news_of_block (heap_alloc_new W (.cells cs e')) j u hu) h1 (by unfold maxLen; omega) hbb (Nat.le_trans hlo hal.size)
  have hform : ∃ A' c', v' = .slice A' ys.length c' := by
    rcases ho'.2 with ⟨e1, e2⟩ | ⟨g, cap, cur, e1, _⟩
    · omega
    · exact ⟨_, cap, by rw [e1, hl]⟩
  obtain ⟨A', c', rfl⟩ := hform
  have hgW := grown_then hal hg'
  have hbk2 : (Value.slice A' ys.length c').ownBlock = (Value.slice A xs.length c).ownBlock ∨ ∃ g, (Value.slice A' ys.length c').ownBlock = some g ∧ W.heap.size ≤ g := by
    rcases hbk with e | e
    · exact .inl e
    · exact .inr ⟨_, e, hal.size⟩
  have hne : ∀ b, b < W.heap.size → (Value.slice A xs.length c).ownBlock ≠ some b → (Value.slice A' ys.length c').ownBlock ≠ some b := fun b h2 h3 h4 => by
    rcases hbk2 with e | ⟨g, e, hg⟩
    · exact h3 (e ▸ h4)
    · rw [e] at h4; injection h4 with h4; omega
  unfold Oper.wp execOp
  simp only [ho, resolve, invoke, builtin, Sem.run_bind, Sem.run_pure, Result.andThen_ok, List.map_toArray, List.map_cons, List.map_nil, hs, hy, hrun]
  refine hK _ _ (h A' c' w' ⟨ks ++ cs.toList, by rw [hl] at ho' ⊢; exact ho', fun k y hky => ?_⟩ hgW hbk2)
  have hkl : ks.length = xs.length * L.size := hk1.1
  rw [hys] at hky
  have hmove : ∀ {y : α} {vs : List Value}, L.R W (fun b => b < W.heap.size ∧ (Value.slice A xs.length c).ownBlock ≠ some b ∧ Q W b) y vs → L.R w' (fun b => b < w'.heap.size ∧ (Value.slice A' ys.length c').ownBlock ≠ some b ∧ Q w' b) y vs := fun hR =>
    L.mono (fun b h9 => ⟨Nat.lt_of_lt_of_le h9.1 hgW.size, hne b h9.1 h9.2.1, hQ _ _ _ (hgW.block b h9.1 (fun e9 => h9.2.1 e9.symm)) h9.2.2⟩) (L.keep (fun b h9 => hgW.block b h9.1 (fun e9 => h9.2.1 e9.symm)) hR)
  rcases Nat.lt_or_ge k xs.length with h2 | h2
  · rw [List.getElem?_append_left h2] at hky
    obtain ⟨cs0, h01, h02⟩ := hown
    obtain ⟨vs, hR, hu⟩ := hk2 k y hky
    obtain ⟨vs0, hR0, hu0⟩ := h02 k y hky
    refine ⟨vs, ?_, fun j u hj => ?_⟩
    · refine L.mono (fun b h9 => ?_) (L.keep (fun b h9 => hg'.block b h9.1 (fun e9 => h9.2.1 e9.symm)) hR)
      have hq := hQ _ _ _ (hg'.block b h9.1 (fun e9 => h9.2.1 e9.symm)) h9.2.2
      refine ⟨Nat.lt_of_lt_of_le h9.1 hg'.size, fun e9 => ?_, hq⟩
      rcases hbk with e | e
      · exact h9.2.1 (e ▸ e9)
      · rw [e] at e9; injection e9 with e9; have := h9.1; omega
    · have hjl : j < vs.length := by
        rcases Nat.lt_or_ge j vs.length with h | h
        · exact h
        · rw [List.getElem?_eq_none h] at hj; cases hj
      have hvl := L.len hR
      have hm : (k + 1) * L.size ≤ xs.length * L.size := Nat.mul_le_mul_right _ h2
      rw [Nat.add_mul, Nat.one_mul] at hm
      rw [List.getElem?_append_left (by omega)]
      exact hu j u hj
  · rw [List.getElem?_append_right h2] at hky
    have hk0 : k = xs.length := by
      rcases Nat.eq_or_lt_of_le h2 with h3 | h3
      · exact h3.symm
      · rw [List.getElem?_eq_none (by simp; omega)] at hky; cases hky
    subst hk0
    simp at hky
    subst hky
    refine ⟨cs.toList, hmove (L.mono hG hr), fun j u hj => ?_⟩
    rw [List.getElem?_append_right (by omega), show xs.length * L.size + j - ks.length = j by omega]
    exact hj
end Go.Proofs.YtcdlfnhjpjpbjaaDoor

/-! Draws: what a reader's user leaves; a number of a list. -/
namespace Go.Proofs.YtcdlfnhjpjpbjaaDoor
open Go Go.RowKit

theorem own_of_heap {w w' : World} {base : Nat} {e : TypeId} {size n : Nat} {v : Value} {xs : List Value} (h : w.ownsRow base e size v n xs) (hk : ∀ g, v.ownBlock = some g → w'.heap[g]? = w.heap[g]?) : w'.ownsRow base e size v n xs := by
  refine ⟨h.1, ?_⟩
  rcases h.2 with hn | ⟨g, cap, cur, rfl, hb, hgg, rest⟩
  · exact .inl hn
  · exact .inr ⟨g, cap, cur, rfl, hb, (hk g rfl).trans hgg, rest⟩
/-- But for the blocks S nothing turned. -/
structure Gr (S : Nat → Prop) (w w' : World) : Prop where
  os : w'.os = w.os
  tape : w'.tape = w.tape
  output : w'.output = w.output
  size : w.heap.size ≤ w'.heap.size
  block : ∀ i, i < w.heap.size → ¬ S i → w'.heap[i]? = w.heap[i]?
theorem Gr.refl (S : Nat → Prop) (w : World) : Gr S w w := ⟨rfl, rfl, rfl, Nat.le_refl _, fun _ _ _ => rfl⟩
theorem Gr.trans {S : Nat → Prop} {a b c : World} (h : Gr S a b) (k : Gr S b c) : Gr S a c :=
  ⟨k.os.trans h.os, k.tape.trans h.tape, k.output.trans h.output, Nat.le_trans h.size k.size, fun i hi hn => (k.block i (Nat.lt_of_lt_of_le hi h.size) hn).trans (h.block i hi hn)⟩
theorem Gr.mono {S T : Nat → Prop} {a b : World} (h : Gr S a b) (hST : ∀ x, S x → T x) : Gr T a b := ⟨h.os, h.tape, h.output, h.size, fun i hi hn => h.block i hi (fun e => hn (hST i e))⟩
theorem Gr.below {S : Nat → Prop} {w w' : World} (h : Below w.heap.size w w') : Gr S w w' := ⟨h.os, h.tape, h.output, h.size, fun i hi _ => h.block i hi⟩
theorem Gr.up {S : Nat → Prop} {a w w' : World} (h : Gr S a w) (hb : Below w.heap.size w w') : Gr S a w' := h.trans (.below hb)
theorem Gr.one {S : Nat → Prop} {w w' : World} {g : Nat} (h : w.grownBy w' (some g)) (hg : S g) : Gr S w w' := ⟨h.os, h.tape, h.output, h.size, fun i hi hn => h.block i hi (fun e => by injection e with e; exact hn (e ▸ hg))⟩
theorem Gr.set {S : Nat → Prop} {a w : World} (h : Gr S a w) (g o : Nat) (u : Value) (hg : S g ∨ a.heap.size ≤ g) : Gr S a (w.setCell ⟨g, o, none⟩ u) :=
  ⟨h.os, h.tape, h.output, by rw [size_setCell]; exact h.size, fun i hi hn => (Below.heap_setCell w ⟨g, o, none⟩ u i (fun e => hg.elim (fun h9 => hn (by rw [e]; exact h9)) (fun h9 => by rw [e] at hi; exact absurd hi (by show ¬ g < _; omega)))).trans (h.block i hi hn)⟩
/-- A row of one's own has grown. -/
theorem Gr.own {S : Nat → Prop} {a w w' : World} {row : Option Nat} (h : Gr S a w) (k : w.grownBy w' row) (hr : ∀ g, row = some g → a.heap.size ≤ g) : Gr S a w' :=
  ⟨k.os.trans h.os, k.tape.trans h.tape, k.output.trans h.output, Nat.le_trans h.size k.size, fun i hi hn => (k.block i (Nat.lt_of_lt_of_le hi h.size) (fun e => by have := hr i e.symm; omega)).trans (h.block i hi hn)⟩
/-- From the blocks of a later start on, all is the caller's gain. -/
theorem Gr.then {S T : Nat → Prop} {a b c : World} (h : Gr S a b) (k : Gr T b c) (hT : ∀ x, T x → S x ∨ a.heap.size ≤ x) : Gr S a c :=
  ⟨k.os.trans h.os, k.tape.trans h.tape, k.output.trans h.output, Nat.le_trans h.size k.size, fun i hi hn => (k.block i (Nat.lt_of_lt_of_le hi h.size) (fun e => (hT i e).elim hn (fun h9 => by omega))).trans (h.block i hi hn)⟩
theorem Gr.to_below {S : Nat → Prop} {a b : World} (h : Gr S a b) (hS : ∀ x, S x → a.heap.size ≤ x) : Below a.heap.size a b := ⟨h.os, h.tape, h.output, h.size, fun i hi => h.block i hi (fun e => by have := hS i e; omega)⟩
theorem Gr.to_below' {S : Nat → Prop} {B : Nat} {a b : World} (h : Gr S a b) (hB : B ≤ a.heap.size) (hS : ∀ x, S x → B ≤ x) : Below B a b := ⟨h.os, h.tape, h.output, h.size, fun i hi => h.block i (by omega) (fun e => by have := hS i e; omega)⟩
theorem Gr.heap {S : Nat → Prop} {w w' : World} {g : Nat} {o : Obj} (h : Gr S w w') (hg : ¬ S g) (hb : w.heap[g]? = some o) : w'.heap[g]? = some o := (h.block g (Array.getElem?_eq_some_iff.1 hb).1 hg).trans hb
theorem Rdr.gr {S : Nat → Prop} {w w' : World} {r : Nat} {p : Int} (h : Rdr w r p) (k : Gr S w w') (hS : ∀ x, S x → r < x) : Rdr w' r p :=
  h.keep fun b hb => k.block b (Nat.lt_of_le_of_lt hb h.lt) (fun e => by have := hS b e; omega)
theorem Rdr.own {w w' : World} {r : Nat} {p : Int} {row : Option Nat} (h : Rdr w r p) (k : w.grownBy w' row) (hr : ∀ g, row = some g → r < g) : Rdr w' r p :=
  h.keep fun b hb => k.block b (Nat.lt_of_le_of_lt hb h.lt) (fun e => by have := hr b e.symm; omega)
theorem Rdr.set {w : World} {r g o : Nat} {p : Int} {u : Value} (h : Rdr w r p) (hg : r < g) : Rdr (w.setCell ⟨g, o, none⟩ u) r p :=
  h.keep fun b hb => Below.heap_setCell w ⟨g, o, none⟩ u b (fun e => by have : b = g := e; omega)
/-- What stays: data that do not lie in the blocks S. -/
def Ab (S : Nat → Prop) (w : World) (b : Nat) : Prop := b < w.heap.size ∧ ¬ S b
theorem Lay.Sl.gr {α : Type} {L : Lay α} {w w' : World} {S : Nat → Prop} {A : Option Addr} {xs : List α} (h : L.Sl w (Ab S w) A xs) (hg : Gr S w w') : L.Sl w' (Ab S w') A xs :=
  (h.keep fun b hb => hg.block b hb.1 hb.2).mono fun b hb => ⟨Nat.lt_of_lt_of_le hb.1 hg.size, hb.2⟩
theorem Lay.Sl.ab_rd {α : Type} {L : Lay α} {w : World} {S : Nat → Prop} {A : Option Addr} {xs : List α} (h : L.Sl w (Ab S w) A xs) : L.Rd w A xs := h.mono fun _ h => h.1
theorem Lay.Sl.ab_mono {α : Type} {L : Lay α} {w : World} {S T : Nat → Prop} {A : Option Addr} {xs : List α} (h : L.Sl w (Ab S w) A xs) (hT : ∀ b, b < w.heap.size → T b → S b) : L.Sl w (Ab T w) A xs := h.mono fun b h => ⟨h.1, fun e => h.2 (hT b h.1 e)⟩
abbrev NotIn (S : Nat → Prop) : World → Nat → Prop := fun _ b => ¬ S b
theorem Stay.notIn (S : Nat → Prop) : Stay (NotIn S) := fun _ _ _ _ h => h
theorem OwnL.gr {α : Type} {L : Lay α} {e : TypeId} {w w' : World} {lo : Nat} {S : Nat → Prop} {v : Value} {xs : List α} (h : OwnL L (NotIn S) e w lo v xs) (hg : Gr S w w') (hr : ∀ b, S b → b < lo) : OwnL L (NotIn S) e w' lo v xs := by
  obtain ⟨cs, h1, h2⟩ := h
  refine ⟨cs, own_of_heap h1 fun g hg' => hg.block g (h1.lt g hg').2 (fun e => by have := hr g e; have := (h1.lt g hg').1; omega), fun i x hx => ?_⟩
  obtain ⟨vs, hr, hu⟩ := h2 i x hx
  exact ⟨vs, L.mono (fun b hb => ⟨Nat.lt_of_lt_of_le hb.1 hg.size, hb.2.1, hb.2.2⟩) (L.keep (fun b hb => hg.block b hb.1 hb.2.2) hr), hu⟩
theorem OwnL.ab {α : Type} {L : Lay α} {e : TypeId} {w : World} {lo : Nat} {S : Nat → Prop} {A : Option Addr} {c : Nat} {xs : List α} (h : OwnL L (NotIn S) e w lo (.slice A xs.length c) xs) (hr : ∀ b, S b → b < lo) : L.Sl w (Ab S w) A xs :=
  h.sl.mono fun b hb => ⟨hb.1, hb.2.elim (fun h e => by have := hr b e; have := h.1; omega) id⟩
/-- The reader has gone on by at most N places; but for its block nothing turned. -/
def Drawn (r : Nat) (p N : Int) (w w' : World) : Prop := ∃ p', p ≤ p' ∧ p' ≤ p + N ∧ Rdr w' r p' ∧ Gr (fun b => b = r) w w'
theorem num_any (r : Nat) (p : Int) (B : Option Addr) (d : Nat) (xs : List Int) (w : World) (h : Rdr w r p) (hs : Lay.int.Sl w (Ab (fun b => b = r) w) B xs) (h0 : 0 < xs.length) (hn : xs.length ≤ 1048576) (p0 : 0 ≤ p) (p1 : p ≤ 1000000000) :
    Calls Tryd.prog 45 #[.pointer (some ⟨r, 0, none⟩), .slice B xs.length d] w fun e w' => ∃ x ∈ xs, e = .returned (.int .i64 x) ∧ Rdr w' r (p + 1) ∧ Gr (fun b => b = r) w w' := by
  go_enter Tryd.func45, Tryd.ntmps45
  go_wp2_with fail
  refine (pick_any r p xs.length w h p0 p1 (by omega) (by omega)).mono ?_
  rintro e w' ⟨k, rfl, k0, k1, _, hR, hg⟩
  have hk := k1 (by omega)
  have hg := Gr.one (S := fun b => b = r) hg rfl
  obtain ⟨n, rfl⟩ := Int.eq_ofNat_of_zero_le k0
  have hnl : n < xs.length := by omega
  obtain ⟨ad, rfl, _, hc⟩ := (hs.gr hg).at_int hnl
  have hm : xs[n] ∈ xs := List.getElem_mem hnl
  generalize xs[n] = x at *
  have HR := Lib.hid (And.intro hm (And.intro hR hg))
  clear hR hg hm k1 hs h
  go_wp2
  go_ret
  exact ⟨x, HR.out.1, rfl, HR.out.2⟩
end Go.Proofs.YtcdlfnhjpjpbjaaDoor

/-! Drawn regions that draw from a reader; literals. -/
namespace Go.Proofs.YtcdlfnhjpjpbjaaDoor
open Go Go.RowKit

abbrev IsR (r : Nat) : Nat → Prop := fun b => b = r
theorem sl_none {α : Type} {L : Lay α} {w : World} {F : Nat → Prop} {A : Option Addr} {xs : List α} (h : L.Sl w F A xs) : A = none → xs.length = 0 := fun e => by
  rcases Nat.eq_zero_or_pos xs.length with h0 | h0
  · exact h0
  · obtain ⟨ad, e', _⟩ := h h0; rw [e] at e'; cases e'
theorem two_boxes (w : World) (o o' : Obj) : Below w.heap.size w ((w.alloc o).alloc o') ∧ ((w.alloc o).alloc o').heap[w.heap.size]? = some o ∧ ((w.alloc o).alloc o').heap[w.heap.size + 1]? = some o' ∧ ((w.alloc o).alloc o').heap.size = w.heap.size + 1 + 1 := by
  have h1 := heap_alloc_new w o
  have h2 := heap_alloc_new (w.alloc o) o'
  exact ⟨((Below.refl _ _).alloc (Nat.le_refl _) _).alloc (by simp) _, (((Below.refl _ _).alloc (Nat.le_refl _) _).block _ (by simp)).trans h1, by simpa using h2, by simp⟩
theorem mem_lit {xs : List Int} {x : Int} (h : x ∈ xs) (hx : ∀ y ∈ xs, okInt y) : okInt x := hx x h
/-- A row that was just written down. -/
theorem lit_sl {S : Nat → Prop} (w : World) (xs : List Int) (cs : Array Value) (t : TypeId) (hc : cs = (xs.map (Value.int .i64)).toArray) (hS : ¬ S w.heap.size) : Lay.int.Sl (w.alloc (.cells cs t)) (Ab S (w.alloc (.cells cs t))) (some ⟨w.heap.size, 0, none⟩) xs := by
  intro _
  refine ⟨_, rfl, ⟨by simp, hS⟩, fun k x hx => ⟨[.int .i64 x], rfl, fun j u hu => ?_⟩⟩
  rcases j with _ | j
  · injection hu with hu
    subst hu
    have hb := (cell_of_block (heap_alloc_new w (.cells cs t)) k).1
    have ha : (⟨w.heap.size, 0, none⟩ : Addr).add (k * Lay.int.size + 0) = ⟨w.heap.size, k, none⟩ := by
      show (⟨w.heap.size, 0, none⟩ : Addr).add (k * 1 + 0) = _
      rw [Nat.mul_one, Nat.add_zero]; unfold Addr.add; split
      · rename_i h; rw [h]
      · simp
    rw [ha, hb, hc]
    simp [hx]
  · simp at hu
/-- What a drawn region of a reader's user does to memory: the blocks T may turn; result cells, once stored, stay. -/
def RG (T : Nat → Prop) (sts : List (Nat × Obj × Obj)) (x x' : World) : Prop := Gr T x x' ∧ ∀ s ∈ sts, x.heap[s.1]? = some s.2.2 → x'.heap[s.1]? = some s.2.2
def IG (T : Nat → Prop) (r : Nat) (q0 N : Int) (w : World) (sts : List (Nat × Obj × Obj)) (n : Nat) (x : World) : Prop :=
  Gr T w x ∧ (∃ q, Rdr x r q ∧ q0 ≤ q ∧ q ≤ q0 + N * n) ∧ ∀ s ∈ sts, x.heap[s.1]? = some s.2.1 ∨ x.heap[s.1]? = some s.2.2
theorem rg_refl (T : Nat → Prop) (sts : List (Nat × Obj × Obj)) (x : World) : RG T sts x x := ⟨Gr.refl _ _, fun _ _ h => h⟩
theorem ig_step {T : Nat → Prop} {r : Nat} {q0 N : Int} {w : World} {sts : List (Nat × Obj × Obj)} {n : Nat} {x : World} (h : IG T r q0 N w sts n x) (hN : 0 ≤ N) : IG T r q0 N w sts (n + 1) x := by
  obtain ⟨h1, ⟨q, h2, h3, h4⟩, h5⟩ := h
  refine ⟨h1, ⟨q, h2, h3, ?_⟩, h5⟩
  push_cast
  rw [Int.mul_add, Int.mul_one]
  omega
theorem ig_start {T : Nat → Prop} {r : Nat} {q0 N : Int} {w : World} {sts : List (Nat × Obj × Obj)} (h : Rdr w r q0) (hs : ∀ s ∈ sts, w.heap[s.1]? = some s.2.1) : IG T r q0 N w sts 0 (w.drewN 1) :=
  ⟨.below (below_drewN (Below.refl _ _) 1), ⟨q0, h.up (below_drewN (Below.refl _ _) 1), by omega, by simp⟩, fun s h => .inl (hs s h)⟩
/-- A call that draws. -/
theorem ig_draw {T : Nat → Prop} {r : Nat} {q0 N M q : Int} {w : World} {sts : List (Nat × Obj × Obj)} {n : Nat} {x x' : World} (h : IG T r q0 N w sts n x) (hd : Drawn r q M x x') (hq0 : q0 ≤ q) (hq : q ≤ q0 + N * n) (hM : M ≤ N) (hT : T r) (hs : ∀ s ∈ sts, s.1 ≠ r) :
    IG T r q0 N w sts (n + 1) x' ∧ RG T sts x x' := by
  obtain ⟨h1, _, h5⟩ := h
  obtain ⟨q', d1, d2, d3, d4⟩ := hd
  have hg : Gr T x x' := d4.mono fun b hb => by rw [hb]; exact hT
  have hh : ∀ s ∈ sts, ∀ o, x.heap[s.1]? = some o → x'.heap[s.1]? = some o := fun s h o => d4.heap (hs s h)
  refine ⟨⟨h1.trans hg, ⟨q', d3, by omega, ?_⟩, fun s hm => (h5 s hm).imp (hh s hm _) (hh s hm _)⟩, hg, fun s hm => hh s hm _⟩
  push_cast
  rw [Int.mul_add, Int.mul_one]
  omega
/-- A block without bytes may turn: the reader stays. -/
theorem Rdr.far {w w' : World} {r b : Nat} {p : Int} (h : Rdr w r p) (hg : Gr (fun y => y = b) w w') (hbr : b ≠ r) (hk : ∃ cs t fr, w.heap[b]? = some (.cells cs t fr) ∧ ∀ u ∈ cs.toList, ∀ z, u ≠ .int .u8 z) : Rdr w' r p := by
  obtain ⟨A, c, bs, hb, hl, hs⟩ := h
  obtain ⟨cs, t, fr, hkb, hku⟩ := hk
  refine ⟨A, c, bs, hg.heap (fun e => hbr e.symm) hb, hl, fun hn => ?_⟩
  obtain ⟨ad, e, hf, hc⟩ := hs hn
  have hne : ad.block ≠ b := fun e9 => by
    obtain ⟨vs, hr, hcell⟩ := hc 0 bs[0] (List.getElem?_eq_getElem hn)
    have h0 := hcell 0 (.int .u8 (bs[0].toNat : Int)) (by rw [hr]; rfl)
    unfold World.cell? at h0
    rw [block_of_add, e9, hkb] at h0
    dsimp only at h0
    split at h0
    · cases h0
    · exact hku _ (by rw [Array.mem_toList_iff]; exact Array.mem_of_getElem? h0) _ rfl
  refine ⟨ad, e, hf, fun k x hx => ?_⟩
  obtain ⟨vs, hr, hcell⟩ := hc k x hx
  refine ⟨vs, hr, fun j u hu => ?_⟩
  have h9 := hcell j u hu
  exact (World.cell?_of_block (hg.block _ (by have := World.block_lt_of_cell? w _ h9; exact this) (by rw [block_of_add]; exact hne))).trans h9
/-- A result cell is stored. -/
theorem ig_store {T : Nat → Prop} {r : Nat} {q0 N : Int} {w : World} {sts : List (Nat × Obj × Obj)} {n : Nat} {x x' : World} (h : IG T r q0 N w sts n x) (hN : 0 ≤ N) (b : Nat) (hg : Gr (fun y => y = b) x x') (hT : T b) (hr : b ≠ r) (hk : ∃ cs t fr, x.heap[b]? = some (.cells cs t fr) ∧ ∀ u ∈ cs.toList, ∀ z, u ≠ .int .u8 z) (hs : ∀ s ∈ sts, s.1 = b → x'.heap[b]? = some s.2.2) :
    IG T r q0 N w sts (n + 1) x' ∧ RG T sts x x' := by
  obtain ⟨h1, ⟨q, h2, h3, h4⟩, h5⟩ := ig_step h hN
  have hgT : Gr T x x' := hg.mono fun y hy => by rw [hy]; exact hT
  refine ⟨⟨h1.trans hgT, ⟨q, h2.far hg hr hk, h3, h4⟩, fun s hm => ?_⟩, hgT, fun s hm he => ?_⟩
  · by_cases e : s.1 = b
    · right; rw [e]; exact hs s hm e
    · exact (h5 s hm).imp (hg.heap e) (hg.heap e)
  · by_cases e : s.1 = b
    · rw [e]; exact hs s hm e
    · exact hg.heap e he
end Go.Proofs.YtcdlfnhjpjpbjaaDoor

/-! The program's builder: lists of signals, the choice. -/
namespace Go.Proofs.YtcdlfnhjpjpbjaaDoor
open Go Go.RowKit

theorem kd_of {lo : Nat} {w w' : World} (h : BelB lo w w') {b : Nat} {cs : Array Value} {t : TypeId} {fr : Nat × Nat} (hb : w.heap[b]? = some (.cells cs t fr)) (h1 : t ≠ 97) (h2 : t ≠ 83) (h3 : t ≠ 69) : w'.heap[b]? = some (.cells cs t fr) :=
  h.kd b _ hb (nck_of h1 h2 h3).1 (nck_of h1 h2 h3).2
/-- The builder in its state behind a failure, or none. -/
theorem Bx.bd {a0 a1 : Addr} {lo : Nat} {w w' : World} {q r : Nat} {s : BS} {e : Option Nat} (h : Bd a0 a1 lo w q r s) (hx : Bx a0 a1 lo w' q r e) (hk : CKs w w') (he : e = none → s.e = none) : Bd a0 a1 lo w' q r ⟨s.n, e⟩ :=
  ⟨hx, h.nb, fun h0 => (h.circ (he h0)).keep hk⟩
theorem Bx.up {a0 a1 : Addr} {lo : Nat} {w w' : World} {q r : Nat} {e : Option Nat} (h : Bx a0 a1 lo w q r e) (hb : Below w.heap.size w w') : Bx a0 a1 lo w' q r e :=
  ⟨h.g.below (hb.mono (Nat.le_trans h.low (Nat.le_of_lt (lt_of_block h.box)))), (hb.block q (lt_of_block h.box)).trans h.box, h.low⟩
theorem Bx.upS {a0 a1 : Addr} {lo : Nat} {w w' : World} {q r : Nat} {e : Option Nat} (h : Bx a0 a1 lo w q r e) (hb : BelS lo w w') : Bx a0 a1 lo w' q r e :=
  ⟨h.g.below hb.bel, hb.bk q _ h.box ⟨_, _, rfl⟩, h.low⟩
theorem Bx.size {a0 a1 : Addr} {lo : Nat} {w : World} {q r : Nat} {e : Option Nat} (h : Bx a0 a1 lo w q r e) : lo ≤ w.heap.size := Nat.le_trans h.low (Nat.le_of_lt (lt_of_block h.box))
theorem failE_none {e : Option Nat} {b : Bool} {k : Nat} (h : failE e b k = none) : e = none ∧ b = false := by
  unfold failE at h
  split at h
  · cases h
  · rename_i h1
    refine ⟨h, ?_⟩
    cases b
    · rfl
    · exact absurd ⟨rfl, h⟩ h1

/-! numbers -/
/-- append of one integer onto a row of the call's own. -/
theorem wpList_append_int9 {Q : Exit → Act → World → Prop} {ops : Array Oper} {rest : List Oper} {o : Oper} {a : Act} {W : World} {lo : Nat} {A : Option Addr} {c : Nat} {xs ys : List Int} {x : Int} {e' : TypeId} (hgd : o.guard = none) (s y : Operand)
    (ho : o.op = .call { callee := .builtin .append, args := #[s, y], argTypes := #[25, 25] }) (hs : a.eval s = .slice A xs.length c) (hy : a.eval y = .slice (some ⟨W.heap.size, 0, none⟩) 1 1)
    (hown : OwnI W lo (.slice A xs.length c) xs) (hn : xs.length ≤ 3000000) (hlo : lo ≤ W.heap.size) (hys : ys = xs ++ [x])
    (h : ∀ A' c' w', OwnI w' lo (.slice A' ys.length c') ys → Below lo W w' → wpList Tryd.prog ops Q rest (a.put o.dst (.slice A' ys.length c')) w') :
    wpList Tryd.prog ops Q (o :: rest) a (W.alloc (.cells #[.int .i64 x] e')) := by
  obtain ⟨i0, hi0, hz0, hz1, hz2⟩ := info_parts int_info
  have hl : ys.length = xs.length + 1 := by rw [hys]; simp
  have hm : ys.map (Value.int .i64) = xs.map (Value.int .i64) ++ [.int .i64 x] := by rw [hys]; simp
  refine wpList_append1 (P := Tryd.prog) hgd s y 25 ho lo 3 i0 _ 8 Tryd.underlying25 hi0 hz0 hz1 hz2 (by rfl) _ xs.length (xs.map (Value.int .i64)) (.int .i64 x) e' hs hown hy (by rfl) (by unfold maxLen; omega) (by omega) hlo ?_
  intro v' w' ho' hb
  rw [← hl, ← hm] at ho'
  obtain ⟨A', c', rfl, _⟩ := OwnI.form (xs := ys) ho'
  exact h A' c' w' ho' hb
set_option maxRecDepth 100000 in
set_option maxHeartbeats 1000000 in
theorem numbers_any (A : Option Addr) (c : Nat) (xs : List Int) (w : World) (h : Lay.int.Rd w A xs) (hn : xs.length ≤ 1048576) :
    Calls Tryd.prog 57 #[.slice A xs.length c] w (CopyI xs w) := by
  have H := Lib.hid h
  clear h
  go_enter Tryd.func57, Tryd.ntmps57
  go_wp2
  go_loopw [3, 8] (fun out i wr => ∃ (k : Nat) (l : List Int) (A1 : Option Addr) (c1 : Nat), k ≤ xs.length ∧ i = .int .i64 k ∧ out = .slice A1 l.length c1 ∧ l = xs.take k ∧ OwnI wr w.heap.size (.slice A1 l.length c1) l ∧ Below w.heap.size w wr) (fun _ i _ => xs.length - (intOf i).toNat)
  case atStart => exact ⟨0, [], none, 0, Nat.zero_le _, rfl, rfl, rfl, World.ownsRow_nil _ _ _ _, Below.refl _ _⟩
  case round =>
    obtain ⟨k, l, A1, c1, hk, rfl, rfl, hlt0, hown, hb⟩ := hrel
    have HL := Lib.hid hlt0
    have hll : l.length ≤ 1048576 := by rw [hlt0]; simp; omega
    have hsz := hb.size
    have HB := Lib.hid hb
    clear hlt0 hb
    by_cases hlt : k < xs.length
    · have hlt2 : (k : Int) < xs.length := by omega
      obtain ⟨ad, hA, -, c9⟩ := (H.out.up HB.out).at_int hlt
      obtain ⟨x, hx⟩ : ∃ x, x = xs[k] := ⟨_, rfl⟩
      rw [← hx] at c9
      subst hA
      obtain ⟨l2, hl2⟩ : ∃ l2, l2 = l ++ [x] := ⟨_, rfl⟩
      have HL2 := Lib.hid hl2
      have HX := Lib.hid hx
      clear hl2 hx
      go_wp2_with (at_builtin; refine wpList_append_int9 (ys := l2) (by rfl) (.tmp 12) (.tmp 14) (by rfl) (by rfl) (by rfl) hown (by omega) hsz HL2.out ?_; intro A2 c2 w2 hown2 hb2)
      go_roundw
      case rel => exact ⟨k + 1, l2, A2, c2, by omega, by go_num, rfl, by rw [HL2.out, HL.out, HX.out]; simp, hown2, HB.out.trans hb2⟩
      case measure => simp [intOf]; omega
    · have hke : k = xs.length := by omega
      subst hke
      have hlt2 : ¬ ((xs.length : Nat) : Int) < xs.length := by omega
      go_wp2
      go_ret
      have hl9 : l = xs := by rw [HL.out]; exact List.take_length
      subst hl9
      exact ⟨A1, c1, rfl, hown.cap, hown.own, HB.out⟩

/-! list -/
def goodL (n : N) (a : List Int) : Bool := decide (1 ≤ a.length) && decide (a.length ≤ 4) && a.all (netMark n)
/-- The failure behind 'list'. -/
def listE (n : N) (e : Option Nat) (a : List Int) : Option Nat := failE e (!goodL n a) 0
theorem failE_twice (e : Option Nat) (a b : Bool) : failE (failE e a 0) b 0 = failE e (a || b) 0 := by
  unfold failE
  cases a <;> cases b <;> rcases e with _ | e <;> simp
/-- What is so while 'list' runs. -/
def ListI (a0 a1 : Addr) (lo : Nat) (W : World) (q r : Nat) (n : N) (e e' : Option Nat) (base : Nat) (A : Option Addr) (c : Nat) (l : List Int) (done : Bool) (x : World) : Prop :=
  BelB lo W x ∧ Bx a0 a1 lo x q r (if done = true then e' else e) ∧ Circ lo x r n n.gs ∧ OwnSg x base (.slice A l.length c) l
theorem ListI.up {a0 a1 : Addr} {lo : Nat} {W : World} {q r : Nat} {n : N} {e e' : Option Nat} {base : Nat} {A : Option Addr} {c : Nat} {l : List Int} {done : Bool} {x x' : World} (h : ListI a0 a1 lo W q r n e e' base A c l done x) (hb : Below x.heap.size x x') : ListI a0 a1 lo W q r n e e' base A c l done x' :=
  ⟨h.1.trans (.of hb h.2.1.size), h.2.1.up hb, h.2.2.1.up hb, own_below h.2.2.2 hb (Nat.le_refl _)⟩
def RetLs (a0 a1 : Addr) (lo : Nat) (w : World) (q r : Nat) (n : N) (e' : Option Nat) (l : List Int) (e : Ending) (w' : World) : Prop :=
  ∃ A c, e = .returned (.slice A l.length c) ∧ l.length ≤ c ∧ Lay.int.Pl w' A l ∧ BelB lo w w' ∧ Bx a0 a1 lo w' q r e' ∧ Circ lo w' r n n.gs
set_option maxRecDepth 100000 in
set_option maxHeartbeats 4000000 in
theorem list_any (a0 a1 : Addr) (lo q r : Nat) (n : N) (e0 : Option Nat) (A : Option Addr) (ca : Nat) (xs : List Int) (w : World) (h : Bx a0 a1 lo w q r e0) (hc : Circ lo w r n n.gs) (hnb : NB n) (hX : Lay.int.Sl w (fun b => b < lo) A xs) (hxi : i64s xs) (hn : xs.length ≤ 1048576) :
    Calls Tryd.prog 34 #[.pointer (some ⟨q, 0, none⟩), .slice A xs.length ca] w (RetLs a0 a1 lo w q r n (listE n e0 xs) xs) := by
  have HX := Lib.hid hX
  have HXI := Lib.hid hxi
  have HC := Lib.hid hc
  have HNB := Lib.hid hnb
  have hlo := h.size
  obtain ⟨b, hb⟩ : ∃ b, b = !(decide (1 ≤ xs.length) && decide (xs.length ≤ 4)) := ⟨_, rfl⟩
  have HF := Lib.hid (fail_any a0 a1 lo q r e0 b 0 w h)
  have g0 : w.cell? ⟨0, 0, none⟩ = some (errV a0 a1 (some 0)) := h.g.c0
  have HR : Hid (listE n e0 xs = failE (failE e0 b 0) (!xs.all (netMark n)) 0) := Lib.hid (by
    unfold listE goodL; rw [failE_twice, hb]; congr 1; cases decide (1 ≤ xs.length) <;> cases decide (xs.length ≤ 4) <;> cases xs.all (netMark n) <;> rfl)
  have hcase : ((xs.length : Int) < 1 ∧ b = true) ∨ (¬ (xs.length : Int) < 1 ∧ (4 : Int) < xs.length ∧ b = true) ∨ (¬ (xs.length : Int) < 1 ∧ ¬ (4 : Int) < xs.length ∧ b = false) := by
    by_cases h1 : (xs.length : Int) < 1
    · exact .inl ⟨h1, by rw [hb, decide_eq_false (by omega : ¬ 1 ≤ xs.length)]; rfl⟩
    · by_cases h2 : (4 : Int) < xs.length
      · exact .inr (.inl ⟨h1, h2, by rw [hb, decide_eq_false (by omega : ¬ xs.length ≤ 4)]; simp⟩)
      · exact .inr (.inr ⟨h1, h2, by rw [hb, decide_eq_true (by omega : 1 ≤ xs.length), decide_eq_true (by omega : xs.length ≤ 4)]; rfl⟩)
  clear h hc hnb hX hxi hb
  generalize hv : errV a0 a1 (some 0) = v at *
  have HV := Lib.hid hv
  clear hv
  rcases hcase with ⟨hk1, rfl⟩ | ⟨hk1, hk2, rfl⟩ | ⟨hk1, hk2, rfl⟩
  all_goals
    go_enter Tryd.func34, Tryd.ntmps34
    go_wp2_with fail
    refine HF.out.mono ?_
    rintro e w1 ⟨rfl, hb1, hx1, hck1⟩
    have HB1 := Lib.hid hb1
    have HX1 := Lib.hid hx1
    have HC1 := Lib.hid (HC.out.keep hck1)
    have hs1 := hb1.bel.size
    clear hb1 hx1 hck1 HF g0 hk1
    try clear hk2
    generalize failE e0 _ 0 = e1 at *
    go_wp2
    go_loopw [5, 21] (fun out i wr => ∃ (k : Nat) (l : List Int) (A1 : Option Addr) (c1 : Nat), k ≤ xs.length ∧ i = .int .i64 k ∧ out = .slice A1 l.length c1 ∧ l = xs.take k ∧ OwnSg wr w.heap.size (.slice A1 l.length c1) l ∧ BelB lo w wr ∧ Bx a0 a1 lo wr q r (failE e1 (!l.all (netMark n)) 0) ∧ Circ lo wr r n n.gs) (fun _ i _ => xs.length - (intOf i).toNat)
    case atStart => exact ⟨0, [], none, 0, Nat.zero_le _, rfl, rfl, rfl, OwnSg.nil _ _, HB1.out, by rw [show failE e1 (!([] : List Int).all (netMark n)) 0 = e1 from if_neg (by simp)]; exact HX1.out, HC1.out⟩
    case round =>
      obtain ⟨k, l, A1, c1, hk, rfl, rfl, hlt0, hown, hbb, hbx, hcc⟩ := hrel
      have HL := Lib.hid hlt0
      have hll : l.length ≤ 1048576 := by rw [hlt0]; simp; omega
      have hsz := hbb.bel.size
      have HBB := Lib.hid hbb
      have HBX := Lib.hid hbx
      have HCC := Lib.hid hcc
      have HOWN := Lib.hid hown
      clear hlt0 hbb hbx hcc hown
      by_cases hlt : k < xs.length
      · have hlt2 : (k : Int) < xs.length := by omega
        obtain ⟨ad, hA, -, c9⟩ := (HX.out.below HBB.out.bel (fun _ h => h)).at_int hlt
        obtain ⟨x, hx⟩ : ∃ x, x = xs[k] := ⟨_, rfl⟩
        rw [← hx] at c9
        have hxi := HXI.out x (by rw [hx]; exact List.getElem_mem hlt)
        subst hA
        obtain ⟨l2, hl2⟩ : ∃ l2, l2 = l ++ [x] := ⟨_, rfl⟩
        have HL2 := Lib.hid hl2
        have HXX := Lib.hid hx
        have HE : Hid (failE (failE e1 (!l.all (netMark n)) 0) (!netMark n x) 0 = failE e1 (!l2.all (netMark n)) 0) := Lib.hid (by
          rw [failE_twice, hl2, List.all_append]; congr 1; simp only [List.all_cons, List.all_nil, Bool.and_true]; cases l.all (netMark n) <;> cases netMark n x <;> rfl)
        clear hl2 hx
        obtain ⟨hx0, hx1⟩ := hxi
        generalize hmk : netMark n x = mk at *
        have HMK := Lib.hid hmk
        clear hmk
        generalize failE e1 (!l.all (netMark n)) 0 = e2 at *
        obtain ⟨e3, he3⟩ : ∃ e3, e3 = failE e1 (!l2.all (netMark n)) 0 := ⟨_, rfl⟩
        rw [← he3] at HE
        have HE3 := Lib.hid he3
        clear he3
        go_wp2
        refine wp_region_rel4 [[], [], [(1, 26)], [(2, 27)], [(3, 28)], [], [(4, 29), (5, 30)], [(6, 31)], [], [(0, 25), (7, 32), (8, 33)]]
          (fun x9 y9 => Below x9.heap.size x9 y9)
          [(9, fun x9 y9 => BelB lo x9 y9)]
          (fun f9 x9 => ListI a0 a1 lo w q r n e2 e3 w.heap.size A1 c1 l (f9 9) x9)
          [fun vs9 _ => vs9 0 = (.pointer (some ⟨q, 0, none⟩)),
    fun vs9 _ => vs9 1 = (.pointer (some ⟨q, 0, none⟩)),
    fun vs9 _ => vs9 2 = (.pointer (some ⟨q, 0, none⟩)),
    fun vs9 _ => vs9 3 = (.pointer (some ⟨q, 0, none⟩)),
    fun vs9 _ => vs9 4 = (.pointer (some ⟨r, 0, none⟩)),
    fun vs9 _ => vs9 5 = (.int .i64 x),
    fun vs9 _ => vs9 6 = (.bool mk),
    fun vs9 _ => vs9 7 = (.bool (!mk)),
    fun vs9 _ => vs9 8 = v,
    fun _ _ => True]
          [(0, 25), (1, 26), (2, 27), (3, 28), (4, 29), (5, 30), (6, 31), (7, 32), (8, 33), (9, 34)] (by kernel_rfl) (by kernel_rfl) (by kernel_rfl) (by kernel_rfl)
          (fun _ => Below.refl _ _) ⟨fun _ => BelB.refl _ _, trivial⟩
          ⟨⟨.inr (fun _ _ _ h _ => h), ⟨.inr (.inr (fun _ _ _ h _ => h)), trivial⟩⟩,
    ⟨.inr (fun _ _ _ h _ => h), ⟨.inr (.inr (fun _ _ _ h _ => h)), trivial⟩⟩,
    ⟨.inr (fun _ _ _ h _ => h), ⟨.inr (.inr (fun _ _ _ h _ => h)), trivial⟩⟩,
    ⟨.inr (fun _ _ _ h _ => h), ⟨.inr (.inr (fun _ _ _ h _ => h)), trivial⟩⟩,
    ⟨.inr (fun _ _ _ h _ => h), ⟨.inr (.inr (fun _ _ _ h _ => h)), trivial⟩⟩,
    ⟨.inr (fun _ _ _ h _ => h), ⟨.inr (.inr (fun _ _ _ h _ => h)), trivial⟩⟩,
    ⟨.inr (fun _ _ _ h _ => h), ⟨.inr (.inr (fun _ _ _ h _ => h)), trivial⟩⟩,
    ⟨.inr (fun _ _ _ h _ => h), ⟨.inr (.inr (fun _ _ _ h _ => h)), trivial⟩⟩,
    ⟨.inr (fun _ _ _ h _ => h), ⟨.inr (.inr (fun _ _ _ h _ => h)), trivial⟩⟩,
    ⟨.inr (fun _ _ _ h _ => h), ⟨.inr (.inl rfl), trivial⟩⟩, trivial⟩ ⟨fun vs vs' x h _ hv => (by dsimp only at hv ⊢; first | (rw [← h]; exact hv) | exact hv),
    fun vs vs' x h _ hv => (by dsimp only at hv ⊢; first | (rw [← h]; exact hv) | exact hv),
    fun vs vs' x h _ hv => (by dsimp only at hv ⊢; first | (rw [← h]; exact hv) | exact hv),
    fun vs vs' x h _ hv => (by dsimp only at hv ⊢; first | (rw [← h]; exact hv) | exact hv),
    fun vs vs' x h _ hv => (by dsimp only at hv ⊢; first | (rw [← h]; exact hv) | exact hv),
    fun vs vs' x h _ hv => (by dsimp only at hv ⊢; first | (rw [← h]; exact hv) | exact hv),
    fun vs vs' x h _ hv => (by dsimp only at hv ⊢; first | (rw [← h]; exact hv) | exact hv),
    fun vs vs' x h _ hv => (by dsimp only at hv ⊢; first | (rw [← h]; exact hv) | exact hv),
    fun vs vs' x h _ hv => (by dsimp only at hv ⊢; first | (rw [← h]; exact hv) | exact hv),
    fun _ _ _ _ _ _ => trivial, trivial⟩ (⟨HBB.out.trans (.of (below_drewN (Below.refl _ _) 1) HBX.out.size), by rw [if_neg (by simp)]; exact HBX.out.up (below_drewN (Below.refl _ _) 1), HCC.out.up (below_drewN (Below.refl _ _) 1), own_below HOWN.out (below_drewN (Below.refl _ _) 1) (Nat.le_refl _)⟩) ⟨?_, ?_, ?_, ?_, ?_, ?_, ?_, ?_, ?_, ?_, trivial⟩ ?_
        · intro vals xw f hf1 hf2 hf3 hI hF
          clear hf2 hf3
          dsimp only [owes4, bare]
          simp only [putsD, Act.put, List.setIfInBounds_toArray, List.set_cons_zero, List.set_cons_succ]
          go_wp2
          exact ⟨rfl, rfl, ⟨fun h9 => absurd h9 (Nat.ne_of_beq_eq_false rfl), fun _ => Below.refl _ _⟩, hI⟩
        · intro vals xw f hf1 hf2 hf3 hI hF
          clear hf2 hf3
          dsimp only [owes4, bare]
          simp only [putsD, Act.put, List.setIfInBounds_toArray, List.set_cons_zero, List.set_cons_succ]
          go_wp2
          exact ⟨rfl, rfl, ⟨fun h9 => absurd h9 (Nat.ne_of_beq_eq_false rfl), fun _ => Below.refl _ _⟩, hI⟩
        · intro vals xw f hf1 hf2 hf3 hI hF
          clear hf2 hf3
          simp only [saysD, List.getD_cons_zero, List.getD_cons_succ, and_true] at hF
          have e26 := hF
          dsimp only [owes4, bare]
          simp only [putsD, Act.put, List.setIfInBounds_toArray, List.set_cons_zero, List.set_cons_succ]
          simp only [e26]
          go_wp2
          exact ⟨rfl, rfl, ⟨fun h9 => absurd h9 (Nat.ne_of_beq_eq_false rfl), fun _ => Below.refl _ _⟩, hI⟩
        · intro vals xw f hf1 hf2 hf3 hI hF
          clear hf2 hf3
          simp only [saysD, List.getD_cons_zero, List.getD_cons_succ, and_true] at hF
          have e27 := hF
          dsimp only [owes4, bare]
          simp only [putsD, Act.put, List.setIfInBounds_toArray, List.set_cons_zero, List.set_cons_succ]
          simp only [e27]
          go_wp2
          exact ⟨rfl, rfl, ⟨fun h9 => absurd h9 (Nat.ne_of_beq_eq_false rfl), fun _ => Below.refl _ _⟩, hI⟩
        · intro vals xw f hf1 hf2 hf3 hI hF
          clear hf2 hf3
          simp only [saysD, List.getD_cons_zero, List.getD_cons_succ, and_true] at hF
          have e28 := hF
          dsimp only [owes4, bare]
          simp only [putsD, Act.put, List.setIfInBounds_toArray, List.set_cons_zero, List.set_cons_succ]
          simp only [e28]
          have c8 := (cell_of_block hI.2.1.box 0).1
          go_wp2
          exact ⟨rfl, rfl, ⟨fun h9 => absurd h9 (Nat.ne_of_beq_eq_false rfl), fun _ => Below.refl _ _⟩, hI⟩
        · intro vals xw f hf1 hf2 hf3 hI hF
          clear hf2 hf3
          dsimp only [owes4, bare]
          simp only [putsD, Act.put, List.setIfInBounds_toArray, List.set_cons_zero, List.set_cons_succ]
          go_wp2
          exact ⟨rfl, rfl, ⟨fun h9 => absurd h9 (Nat.ne_of_beq_eq_false rfl), fun _ => Below.refl _ _⟩, hI⟩
        · intro vals xw f hf1 hf2 hf3 hI hF
          clear hf2 hf3
          simp only [saysD, List.getD_cons_zero, List.getD_cons_succ, and_true] at hF
          obtain ⟨e29, e30⟩ := hF
          dsimp only [owes4, bare]
          simp only [putsD, Act.put, List.setIfInBounds_toArray, List.set_cons_zero, List.set_cons_succ]
          simp only [e29, e30]
          have HI := Lib.hid hI
          clear hI
          go_wp2_with fail
          refine (has_any lo r n n.gs x xw HI.out.2.2.1 HNB.out.2.2 HNB.out.1 HNB.out.2.1 hx0 hx1).mono ?_
          rintro e wx ⟨rfl, hb9⟩
          rw [HMK.out]
          have HB9 := Lib.hid hb9
          clear hb9
          go_wp2
          exact ⟨rfl, rfl, ⟨fun h9 => absurd h9 (Nat.ne_of_beq_eq_false rfl), fun _ => HB9.out⟩, HI.out.up HB9.out⟩
        · intro vals xw f hf1 hf2 hf3 hI hF
          clear hf2 hf3
          simp only [saysD, List.getD_cons_zero, List.getD_cons_succ, and_true] at hF
          have e31 := hF
          dsimp only [owes4, bare]
          simp only [putsD, Act.put, List.setIfInBounds_toArray, List.set_cons_zero, List.set_cons_succ]
          simp only [e31]
          go_wp2
          exact ⟨rfl, rfl, ⟨fun h9 => absurd h9 (Nat.ne_of_beq_eq_false rfl), fun _ => Below.refl _ _⟩, hI⟩
        · intro vals xw f hf1 hf2 hf3 hI hF
          clear hf2 hf3
          dsimp only [owes4, bare]
          simp only [putsD, Act.put, List.setIfInBounds_toArray, List.set_cons_zero, List.set_cons_succ]
          have c8 : xw.cell? ⟨0, 0, none⟩ = some v := by rw [← HV.out]; exact hI.2.1.g.c0
          go_wp2
          exact ⟨rfl, rfl, ⟨fun h9 => absurd h9 (Nat.ne_of_beq_eq_false rfl), fun _ => Below.refl _ _⟩, hI⟩
        · intro vals xw f hf1 hf2 hf3 hI hF
          clear hf2 hf3
          simp only [saysD, List.getD_cons_zero, List.getD_cons_succ, and_true] at hF
          obtain ⟨e25, e32, e33⟩ := hF
          dsimp only [owes4, bare]
          simp only [putsD, Act.put, List.setIfInBounds_toArray, List.set_cons_zero, List.set_cons_succ]
          simp only [e25, e32, e33]
          obtain ⟨i1, i2, i3, i4⟩ := hI
          rw [hf1, if_neg (by simp)] at i2
          have I1 := Lib.hid i1
          have I3 := Lib.hid i3
          have I4 := Lib.hid i4
          have HF9 := Lib.hid (fail_any a0 a1 lo q r e2 (!mk) 0 xw i2)
          rw [HV.out] at HF9
          clear i1 i2 i3 i4
          go_wp2_with fail
          refine HF9.out.mono ?_
          rintro e wx ⟨rfl, hb9, hx9, hk9⟩
          have HB9 := Lib.hid hb9
          have HX9 := Lib.hid hx9
          have HK9 := Lib.hid hk9
          clear hb9 hx9 hk9 HF9
          go_wp2
          exact ⟨rfl, trivial, ⟨fun _ => HB9.out, fun h9 => absurd rfl h9⟩, I1.out.trans HB9.out, by rw [did_same, if_pos rfl, ← HE.out]; exact HX9.out, I3.out.keep HK9.out, I4.out.upB HB9.out⟩
        · intro vals xw f hall hI hF
          rw [show List.range _ = [0, 1, 2, 3, 4, 5, 6, 7, 8, 9] from rfl] at hF
          simp only [says, List.getD_cons_zero, List.getD_cons_succ, and_true] at hF
          obtain ⟨i1, i2, i3, i4⟩ := hI
          rw [hall 9 (by decide), if_pos rfl] at i2
          have I1 := Lib.hid i1
          have I2 := Lib.hid i2
          have I3 := Lib.hid i3
          have hsz9 := i1.bel.size
          clear i1 i2 i3 hF
          simp only [putsD, Act.put, List.setIfInBounds_toArray, List.set_cons_zero, List.set_cons_succ]
          have hal9 : Below xw.heap.size xw (xw.alloc (.cells #[.int .i64 x] 70)) := (Below.refl _ _).alloc (Nat.le_refl _) _
          have HAL := Lib.hid hal9
          have hsz8 : w.heap.size ≤ (xw.alloc (.cells #[.int .i64 x] 70)).heap.size := Nat.le_trans hsz9 hal9.size
          have I4 : Hid (OwnSg (xw.alloc (.cells #[.int .i64 x] 70)) w.heap.size (.slice A1 l.length c1) l) := Lib.hid (own_below i4 hal9 (Nat.le_refl _))
          clear i4 hal9
          go_wp2_with (at_builtin; refine wpList_append_sig2 (ys := l2) (by rfl) (.tmp 35) (.tmp 37) (by rfl) (by rfl) (by rfl) I4.out (heap_alloc_new _ _) (by omega) hsz8 HL2.out ?_; intro A2 c2 w2 hown2 hg2)
          have hal9 := HAL.out
          obtain ⟨hs9, hb8⟩ := I4.out.grown hg2 hsz8 hlo
          go_roundw
          case rel => exact ⟨k + 1, l2, A2, c2, by omega, by go_num, rfl, by rw [HL2.out, HL.out, HXX.out]; simp, hown2, (I1.out.trans (.of hal9 I2.out.size)).then hb8 hlo, by rw [← HE3.out]; exact (I2.out.up hal9).upS hs9, (I3.out.up hal9).keep hs9.ck⟩
          case measure => simp [intOf]; omega
      · have hke : k = xs.length := by omega
        subst hke
        have hlt2 : ¬ ((xs.length : Nat) : Int) < xs.length := by omega
        go_wp2
        go_ret
        have hl9 : l = xs := by rw [HL.out]; exact List.take_length
        subst hl9
        rw [HR.out]
        exact ⟨A1, c1, rfl, HOWN.out.pl.1, HOWN.out.pl.2, HBB.out, HBX.out, HCC.out⟩

/-! choose -/
/-- What 'choose' makes. -/
def chooseS (s : BS) (c : Int) (xs ys : List Int) : BS × List Int := if failE s.e (xs.length != ys.length) 0 = none then run opsP (eachP (muxP c) xs ys) s else (⟨s.n, failE s.e (xs.length != ys.length) 0⟩, [])
set_option maxHeartbeats 2000000 in
theorem choose_any (a0 a1 : Addr) (lo q r : Nat) (s : BS) (c : Int) (X Y : Option Addr) (cx cy : Nat) (xs ys : List Int) (w : World) (h : Bd a0 a1 lo w q r s) (hX : Lay.int.Pl w X xs) (hY : Lay.int.Pl w Y ys) (hm : failE s.e (xs.length != ys.length) 0 = none → MB c ∧ (∀ x ∈ xs, MB x) ∧ ∀ y ∈ ys, MB y) (hn : xs.length ≤ 1000) (hn' : ys.length ≤ 1000) :
    Calls Tryd.prog 37 #[.pointer (some ⟨q, 0, none⟩), .int .i64 c, .slice X xs.length cx, .slice Y ys.length cy] w (RetL a0 a1 lo w q r (chooseS s c xs ys)) := by
  have hlo := h.size
  obtain ⟨hw, hQ, hC, hWS⟩ := two_boxes w (.cells #[.pointer (some ⟨q, 0, none⟩)] 60) (.cells #[.int .i64 c] 70)
  have HQ := Lib.hid hQ
  have HCc := Lib.hid hC
  have HW := Lib.hid hw
  have HXP := Lib.hid (hX.upB (.of hw hlo))
  have HYP := Lib.hid (hY.upB (.of hw hlo))
  have HBD := Lib.hid (h.up hw)
  have HM := Lib.hid hm
  have hvb : ((xs.length : Int) != (ys.length : Int)) = (xs.length != ys.length) := by
    by_cases e : xs.length = ys.length
    · rw [e]; simp
    · have h1 : (xs.length != ys.length) = true := by simpa using e
      have h2 : ((xs.length : Int) != (ys.length : Int)) = true := by simpa using (by omega : ¬ (xs.length : Int) = ys.length)
      rw [h1, h2]
  obtain ⟨b, hb⟩ : ∃ b, b = (xs.length != ys.length) := ⟨_, rfl⟩
  have HBE := Lib.hid hb
  rw [← hb] at hvb hm
  have HF := Lib.hid (fail_any a0 a1 lo q r s.e b 0 _ HBD.out.toBx)
  have g0 := HBD.out.g.c0
  have hv : errV a0 a1 (some 0) = sentV a0 := rfl
  rw [hv] at HF
  have z0 := (cell_of_block hQ 0).1
  have HCS : Hid (chooseS s c xs ys = if failE s.e b 0 = none then run opsP (eachP (muxP c) xs ys) s else (⟨s.n, failE s.e b 0⟩, [])) := Lib.hid (by unfold chooseS; rw [← hb])
  clear h hX hY hm hw hC hb hv hQ
  go_enter Tryd.func37, Tryd.ntmps37
  go_wp2_with fail
  refine HF.out.mono ?_
  rintro e w1 ⟨rfl, hb1, hx1, hk1⟩
  have HB1 := Lib.hid (BelB.trans (.of HW.out hlo) hb1)
  have hQ1 := kd_of hb1 HQ.out (by decide) (by decide) (by decide)
  have HQ1 := Lib.hid hQ1
  have HC1 := Lib.hid (kd_of hb1 HCc.out (by decide) (by decide) (by decide))
  have HX1 := Lib.hid (HXP.out.upB hb1)
  have HY1 := Lib.hid (HYP.out.upB hb1)
  have HD1 := Lib.hid (Bx.bd HBD.out hx1 hk1 (fun h => (failE_none h).1))
  have HLE : Hid (failE s.e b 0 = none → s = ⟨s.n, none⟩ ∧ xs.length = ys.length) := Lib.hid fun h => by
    obtain ⟨h1, h2⟩ := failE_none h
    exact ⟨by cases s; dsimp only at h1; rw [h1], by rw [HBE.out] at h2; simpa using h2⟩
  have z0 := (cell_of_block hQ1 0).1
  have z1 := (cell_of_block hx1.box 1).1
  rw [← HBE.out] at HM
  clear hb1 hx1 hk1 HF HBE HW hvb g0 hQ1
  generalize failE s.e b 0 = e1 at *
  rcases e1 with _ | e1
  · simp only [errV] at z1
    obtain ⟨hs, hl⟩ := HLE.out rfl
    obtain ⟨m1, m2, m3⟩ := HM.out rfl
    have HMC := Lib.hid m1
    have HE := Lib.hid (each_choose a0 a1 lo q r w.heap.size (w.heap.size + 1) c X Y cx cy xs ys ⟨s.n, none⟩ w1 (fun z => z.heap[w.heap.size]? = some (.cells #[.pointer (some ⟨q, 0, none⟩)] 60 (0, 0)) ∧ z.heap[w.heap.size + 1]? = some (.cells #[.int .i64 c] 70 (0, 0))) ⟨HQ1.out, HC1.out⟩
      (fun z hz => ⟨kd_of hz HQ1.out (by decide) (by decide) (by decide), kd_of hz HC1.out (by decide) (by decide) (by decide)⟩) HD1.out HX1.out HY1.out m2 m3 hl hn
      (fun x y s z hz hx hy hk => choose1_any a0 a1 lo q r _ _ s c x y z hz HMC.out hx hy hk.1 hk.2) (fun x y s hz hx hy => (mux_mb hz HMC.out.rb hx.rb hy.rb).2))
    have HS := Lib.hid hs
    clear hs hl m1 m2 m3 HMC HM HLE
    go_wp2_with fail
    refine HE.out.mono ?_
    rintro e w2 ⟨A2, c2, rfl, hc2, hp2, hm2, hb2, hd2⟩
    rw [← HS.out] at hc2 hp2 hm2 hd2 ⊢
    have HB2 := Lib.hid (HB1.out.trans hb2)
    have HP2 := Lib.hid hp2
    have HM2 := Lib.hid hm2
    have HD2 := Lib.hid hd2
    clear hb2 hp2 hm2 hd2 HE
    go_wp2
    go_ret
    rw [HCS.out, if_pos trivial]
    exact ⟨A2, c2, rfl, hc2, HP2.out, HM2.out, HB2.out, HD2.out⟩
  · obtain ⟨a, ha⟩ : ∃ a, errV a0 a1 (some e1) = sentV a := by rcases e1 with _ | e1 <;> exact ⟨_, rfl⟩
    simp only [ha] at z1
    clear ha
    go_wp2
    go_ret
    rw [HCS.out, if_neg (by simp)]
    exact ⟨none, 0, rfl, Nat.zero_le _, .nil _ _ _ _, (fun m hm => by cases hm), HB1.out, HD1.out⟩
end Go.Proofs.YtcdlfnhjpjpbjaaDoor

/-! The program's builder: built. -/
namespace Go.Proofs.YtcdlfnhjpjpbjaaDoor
open Go Go.RowKit

def pickN (ok : Bool) (out : N × List Int) : N × List Int := match ok with | true => out | false => (⟨0, []⟩, [])
def bitsOut (t : BS × List Int) : N × List Int := if t.1.e = none then (t.1.n, t.2) else (⟨0, []⟩, [])
/-- Two rows in two blocks. -/
def Apart9 (A B : Option Addr) (n m : Nat) : Prop := ∀ a b, A = some a → B = some b → 0 < n → 0 < m → a.block ≠ b.block
theorem apart_of {α β : Type} {L : Lay α} {M : Lay β} {w w' : World} {F G : Nat → Prop} {A B : Option Addr} {xs : List α} {ys : List β} (h : L.Sl w F A xs) (h' : M.Sl w' G B ys) (hFG : ∀ b, F b → G b → False) : Apart9 A B xs.length ys.length := fun a b ha hb h1 h2 e => by
  obtain ⟨a', e1, f, _⟩ := h h1
  obtain ⟨b', e2, g, _⟩ := h' h2
  rw [ha] at e1
  injection e1 with e1
  subst e1
  rw [hb] at e2
  injection e2 with e2
  subst e2
  exact hFG _ f (e ▸ g)
theorem apart_nil {A B : Option Addr} {n m : Nat} (h : n = 0) : Apart9 A B n m := fun _ _ _ _ h1 => by omega
/-- A net and marks, in memory of the call's own. -/
def RetBits (r : N × List Int) (w : World) (e : Ending) (w' : World) : Prop :=
  ∃ A B c d, e = .returned (.tuple #[.agg #[.int .i64 r.1.ins, .slice A r.1.gs.length c], .slice B r.2.length d]) ∧ r.1.gs.length ≤ c ∧ r.2.length ≤ d ∧ Lay.gate.Sl w' (Own w.heap.size w') A r.1.gs ∧ Lay.int.Sl w' (Own w.heap.size w') B r.2 ∧ Below w.heap.size w w' ∧ Apart9 A B r.1.gs.length r.2.length
/-- What a builder's function leaves. -/
def RetBC (a0 a1 : Addr) (lo : Nat) (w : World) (q r : Nat) (out : N × List Int) (e : Ending) (w' : World) : Prop :=
  ∃ (T : BS × List Int) (A : Option Addr) (c : Nat), e = .returned (.slice A T.2.length c) ∧ T.2.length ≤ 1000 ∧ Lay.int.Pl w' A T.2 ∧ BelB lo w w' ∧ Bd a0 a1 lo w' q r T.1 ∧ bitsOut T = out
/-- What is so while the answer of 'built' is laid: of the world w5 all but the result's block stays. -/
def BuiltI (w5 : World) (bx : Nat) (v : Value) (cs : Array Value) (done : Bool) (x : World) : Prop :=
  w5.grownBy x (some bx) ∧ (done = false → x.heap[bx]? = some (.cells #[.int .i64 0, .slice none 0 0] 29 (0, 0))) ∧ (done = true → x.heap[bx]? = some (.cells cs 29 (0, 0)))
theorem grown_trans9 {a b c : World} {r : Option Nat} (h : a.grownBy b r) (k : b.grownBy c r) : a.grownBy c r := ⟨k.os.trans h.os, k.tape.trans h.tape, k.output.trans h.output, Nat.le_trans h.size k.size, fun i hi hn => (k.block i (Nat.lt_of_lt_of_le hi h.size) hn).trans (h.block i hi hn)⟩
theorem grown_of9 {a b : World} (h : Below a.heap.size a b) (r : Option Nat) : a.grownBy b r := ⟨h.os, h.tape, h.output, h.size, fun i hi _ => h.block i hi⟩
theorem BuiltI.up {w5 x x' : World} {bx : Nat} {v : Value} {cs : Array Value} {done : Bool} (h : BuiltI w5 bx v cs done x) (hb : Below x.heap.size x x') : BuiltI w5 bx v cs done x' :=
  ⟨grown_trans9 h.1 (grown_of9 hb _), fun hd => (hb.block _ (lt_of_block (h.2.1 hd))).trans (h.2.1 hd), fun hd => (hb.block _ (lt_of_block (h.2.2 hd))).trans (h.2.2 hd)⟩
theorem own_grown9 {α : Type} {L : Lay α} {x y : World} {lo bx : Nat} {A : Option Addr} {xs : List α} (h : L.Sl x (Own lo x) A xs) (hg : x.grownBy y (some bx)) (hb : bx < lo) : L.Sl y (Own lo y) A xs := by
  have hk : ∀ b, Own lo x b → y.heap[b]? = x.heap[b]? := fun b hb' => hg.block b hb'.2.1 (fun e => by injection e with e; have := hb'.1; omega)
  refine (h.keep hk).mono fun b hb' => ⟨hb'.1, Nat.lt_of_lt_of_le hb'.2.1 hg.size, fun o => ?_⟩
  have := hb'.2.2 o
  unfold World.frozen? at this ⊢
  rw [hk b hb']; exact this
theorem own_mono9 {α : Type} {L : Lay α} {w : World} {A : Option Addr} {xs : List α} {b b' : Nat} (h : L.Sl w (Own b w) A xs) (hb : b' ≤ b) : L.Sl w (Own b' w) A xs := h.mono fun _ ⟨h1, h2⟩ => ⟨Nat.le_trans hb h1, h2⟩
set_option maxRecDepth 100000 in
set_option maxHeartbeats 4000000 in
theorem built_if (a0 a1 : Addr) (l0 : Nat) (ba bb bc : Nat) (A : Option Addr) (c : Nat) (n : N) (w : World) (out : N × List Int) (K : World → Prop) (hg : Glb a0 a1 l0 w) (hl0 : l0 ≤ w.heap.size) (hK : ∀ x, Below w.heap.size w x → K x) (h : Lay.gate.Rd w A n.gs) (hn : n.gs.length ≤ 1048576) (hA : A = none → n.gs.length = 0) (hi : okInts n)
    (hcall : ∀ (lo q r : Nat) (z : World), Bd a0 a1 lo z q r ⟨n, none⟩ → netOk n = true → K z → w.heap.size ≤ lo → Calls Tryd.prog 33 #[.pointer (some ⟨q, 0, none⟩), .pointer (some ⟨ba, 0, none⟩), .pointer (some ⟨bb, 0, none⟩), .pointer (some ⟨bc, 0, none⟩)] z (RetBC a0 a1 lo z q r out)) :
    Calls Tryd.prog 32 #[.agg #[.int .i64 n.ins, .slice A n.gs.length c], .func (.func 33) #[] #[.pointer (some ⟨ba, 0, none⟩), .pointer (some ⟨bb, 0, none⟩), .pointer (some ⟨bc, 0, none⟩)]] w (RetBits (pickN (netOk n) out) w) := by
  obtain ⟨hW, hB0, hB1, hWS⟩ := two_boxes w (.cells #[.int .i64 n.ins, .slice A n.gs.length c] 29) (.cells #[.int .i64 0, .slice none 0 0] 29)
  have HW := Lib.hid hW
  have HB1 := Lib.hid hB1
  have HG := Lib.hid hg
  have HK := Lib.hid hK
  have HCALL := Lib.hid hcall
  have HRN := Lib.hid (readNet_any A c n _ (h.up hW) hn hA hi)
  have HWS := Lib.hid hWS
  clear hg hK hcall h hi hB0 hB1 hWS hW
  go_enter Tryd.func32, Tryd.ntmps32
  go_wp2_with fail
  refine HRN.out.mono ?_
  generalize (w.alloc (.cells #[.int .i64 n.ins, .slice A n.gs.length c] 29)).alloc (.cells #[.int .i64 0, .slice none 0 0] 29) = w2 at *
  rintro e w3 ⟨hb3, hcase⟩
  have HB1 := Lib.hid ((hb3.block _ (lt_of_block HB1.out)).trans HB1.out)
  have HB3 := Lib.hid hb3
  clear hb3 HRN
  rcases hcase with ⟨hok, r, rfl, hC⟩ | ⟨hok, rfl⟩
  rotate_left
  · have k5 := (cell_of_block HB1.out 0).1
    have k6 := (cell_of_block HB1.out 1).1
    have kf5 := (cell_of_block HB1.out 0).2
    have kf6 := (cell_of_block HB1.out 1).2
    have HOK := Lib.hid hok
    clear hok
    go_wp2
    refine bodyPost_ret (v := .tuple #[.agg #[.int .i64 0, .slice none 0 0], .slice none 0 0]) (by simp [results, Tryd.results32, go_sem, k5, k6, kf5, kf6]) rfl ?_
    rw [show pickN (netOk n) out = (⟨0, []⟩, []) by rw [HOK.out]; rfl]
    refine ⟨none, none, 0, 0, rfl, Nat.zero_le _, Nat.zero_le _, .nil _ _ _ _, .nil _ _ _ _, ?_, apart_nil rfl⟩
    repeat (refine below_set ?_ (by show w.heap.size ≤ w.heap.size + 1; omega) _)
    exact bthen HW.out HB3.out
  have HOK := Lib.hid hok
  have hnb : NB n := by have := (netOk_iff n).1 hok; exact ⟨this.1, this.2.1, this.2.2.1⟩
  have HNB := Lib.hid hnb
  have HC := Lib.hid hC
  clear hok hnb hC
  have hal : Below w3.heap.size w3 (w3.alloc (.cells #[.pointer (some ⟨r, 0, none⟩), .nilIface] 69)) := (Below.refl _ _).alloc (Nat.le_refl _) _
  have hlo2 : l0 ≤ w2.heap.size := Nat.le_trans hl0 HW.out.size
  have hbd : Bd a0 a1 w2.heap.size (w3.alloc (.cells #[.pointer (some ⟨r, 0, none⟩), .nilIface] 69)) w3.heap.size r ⟨n, none⟩ :=
    ⟨⟨(HG.out.mono hl0).below (bthen HW.out (HB3.out.trans (hal.mono HB3.out.size))) |>.mono HW.out.size, heap_alloc_new _ _, HB3.out.size⟩, HNB.out, fun _ => HC.out.up hal⟩
  have HAL := Lib.hid hal
  have HC4 := Lib.hid (HCALL.out w2.heap.size w3.heap.size r _ hbd HOK.out (HK.out _ (bthen HW.out (HB3.out.trans (hal.mono HB3.out.size)))) HW.out.size)
  clear hal hbd HCALL HK
  go_wp2_with fail
  refine HC4.out.mono ?_
  rintro e w5 ⟨T, A5, c5, rfl, hl5, hp5, hb5, hd5, hT5⟩
  have HB5 : Hid (Below w2.heap.size w2 w5) := Lib.hid (HB3.out.trans ((HAL.out.mono HB3.out.size).trans hb5.bel))
  have HB1 : Hid (w5.heap[w.heap.size + 1]? = some (.cells #[.int .i64 0, .slice none 0 0] 29 (0, 0))) := Lib.hid (by
    have h9 : w.heap.size + 1 < w2.heap.size := by rw [HWS.out]; omega
    exact (hb5.bel.block _ h9).trans ((HAL.out.block _ (Nat.lt_of_lt_of_le h9 HB3.out.size)).trans HB1.out))
  have HP5 := Lib.hid hp5
  have HD5 := Lib.hid hd5
  have HT5 := Lib.hid hT5
  clear hp5 hd5 hT5 HC4 hb5 HAL HC HNB HB3
  have k5 := (cell_of_block HB1.out 0).1
  have k6 := (cell_of_block HB1.out 1).1
  have kf5 := (cell_of_block HB1.out 0).2
  have kf6 := (cell_of_block HB1.out 1).2
  have c0 := HD5.out.g.c0
  have c1 := HD5.out.g.c1
  have q0 := (cell_of_block HD5.out.box 0).1
  have q1 := (cell_of_block HD5.out.box 1).1
  have HGL := Lib.hid HD5.out.g
  obtain ⟨⟨n5, e5⟩, l5⟩ := T
  dsimp only at q1 hl5
  have hfin : ∀ X : World, Below w2.heap.size w2 X → Below w.heap.size w X := fun X hX => bthen HW.out hX
  have HFIN := Lib.hid hfin
  clear hfin
  rcases e5 with _ | e5
  · simp only [errV] at q1
    have hC5 := HD5.out.circ rfl
    obtain ⟨A6, c6, r0, r1, ho6⟩ := circ_cells hC5
    have HO6 := Lib.hid ho6
    have HN : Hid (∀ (b : Addr) (m : Nat), Calls Tryd.prog 56 #[.nilIface, sentV b] (w5.drewN m) fun e w' => e = .returned (.bool false) ∧ w5.drewN m = w') := Lib.hid fun b m => is_nil b _
    have HS5 := Lib.hid hC5.lt
    clear hC5 ho6
    go_wp2
    go_quiet ((go_at_call 56; with_reducible exact quiet_left (HN.out _ _)))
    go_wp2
    clear HN
    have HLT : Hid (w.heap.size + 1 < w2.heap.size) := Lib.hid (by rw [HWS.out]; omega)
    have HQ : Hid (∀ x : World, w5.grownBy x (some (w.heap.size + 1)) → x.cell? ⟨w3.heap.size, 0, none⟩ = some (.pointer (some ⟨r, 0, none⟩)) ∧ x.cell? ⟨r, 0, none⟩ = some (.int .i64 n5.ins) ∧ x.cell? ⟨r, 1, none⟩ = some (.slice A6 n5.gs.length c6)) := Lib.hid fun x hx => by
      have hq := (hx.block _ (lt_of_block HD5.out.box) (fun e => by injection e with e; have := HD5.out.low; have := HLT.out; omega)).trans HD5.out.box
      have hr := hx.block r HS5.out.2 (fun e => by injection e with e; have := HS5.out.1; have := HLT.out; omega)
      exact ⟨(cell_of_block hq 0).1, (World.cell?_of_block (w := w5) (a := ⟨r, 0, none⟩) hr).trans r0, (World.cell?_of_block (w := w5) (a := ⟨r, 1, none⟩) hr).trans r1⟩
    have HL5 : Hid (∀ x : World, w5.grownBy x (some (w.heap.size + 1)) → Lay.int.Rd x A5 l5) := Lib.hid fun x hx => by
      refine (HP5.out.keep fun b hb => hx.block b hb.lt fun e => ?_).mono fun b hb => Nat.lt_of_lt_of_le hb.lt hx.size
      injection e with e
      subst e
      obtain ⟨cs, fr, h9⟩ := hb
      rw [HB1.out] at h9
      injection h9 with h9
      injection h9 with _ h9 _
      exact absurd h9 (by decide)
    refine wp_region_rel4 [[], [(0, 39)], [(1, 40)], [(2, 41)], [(3, 42)], [(4, 43)], [(5, 44)], [], [(7, 46)], [(6, 45)], [(8, 47)]]
      (fun x9 y9 => Below x9.heap.size x9 y9)
      [(9, fun x9 y9 => x9.grownBy y9 (some (w.heap.size + 1)))]
      (fun f9 x9 => BuiltI w5 (w.heap.size + 1) (.agg #[.int .i64 n5.ins, .slice A6 n5.gs.length c6]) #[.int .i64 n5.ins, .slice A6 n5.gs.length c6] (f9 9) x9)
      [fun vs9 _ => vs9 0 = (.pointer (some ⟨w3.heap.size, 0, none⟩)),
    fun vs9 _ => vs9 1 = (.pointer (some ⟨w3.heap.size, 0, none⟩)),
    fun vs9 _ => vs9 2 = (.pointer (some ⟨w3.heap.size, 0, none⟩)),
    fun vs9 _ => vs9 3 = (.pointer (some ⟨r, 0, none⟩)),
    fun vs9 _ => vs9 4 = (.pointer (some ⟨r, 0, none⟩)),
    fun vs9 _ => vs9 5 = (.pointer (some ⟨r, 0, none⟩)),
    fun vs9 _ => vs9 6 = (.agg #[.int .i64 n5.ins, .slice A6 n5.gs.length c6]),
    fun vs9 _ => vs9 7 = (.slice A5 l5.length c5),
    fun vs9 y9 => (fun v z => ∃ B d, v = .slice B l5.length d ∧ l5.length ≤ d ∧ Lay.int.Sl z (Own w5.heap.size z) B l5) (vs9 8) y9,
    fun _ _ => True,
    fun vs9 _ => vs9 10 = vs9 8]
      [(0, 39), (1, 40), (2, 41), (3, 42), (4, 43), (5, 44), (6, 45), (7, 46), (8, 47), (10, 5)] (by kernel_rfl) (by kernel_rfl) (by kernel_rfl) (by kernel_rfl)
      (fun _ => Below.refl _ _) ⟨fun _ => World.grownBy.refl _ _, trivial⟩
      ⟨⟨.inr (fun _ _ _ h _ => h), ⟨.inr (.inr (fun _ _ _ h _ => h)), trivial⟩⟩,
    ⟨.inr (fun _ _ _ h _ => h), ⟨.inr (.inr (fun _ _ _ h _ => h)), trivial⟩⟩,
    ⟨.inr (fun _ _ _ h _ => h), ⟨.inr (.inr (fun _ _ _ h _ => h)), trivial⟩⟩,
    ⟨.inr (fun _ _ _ h _ => h), ⟨.inr (.inr (fun _ _ _ h _ => h)), trivial⟩⟩,
    ⟨.inr (fun _ _ _ h _ => h), ⟨.inr (.inr (fun _ _ _ h _ => h)), trivial⟩⟩,
    ⟨.inr (fun _ _ _ h _ => h), ⟨.inr (.inr (fun _ _ _ h _ => h)), trivial⟩⟩,
    ⟨.inr (fun _ _ _ h _ => h), ⟨.inr (.inr (fun _ _ _ h _ => h)), trivial⟩⟩,
    ⟨.inr (fun _ _ _ h _ => h), ⟨.inr (.inr (fun _ _ _ h _ => h)), trivial⟩⟩,
    ⟨.inr (fun vs9 x9 y9 h9 hR9 => (show ∀ v9 y8 y7, (fun v z => ∃ B d, v = .slice B l5.length d ∧ l5.length ≤ d ∧ Lay.int.Sl z (Own w5.heap.size z) B l5) v9 y8 → (fun x9 y9 => Below x9.heap.size x9 y9) y8 y7 → (fun v z => ∃ B d, v = .slice B l5.length d ∧ l5.length ≤ d ∧ Lay.int.Sl z (Own w5.heap.size z) B l5) v9 y7 from fun _ _ _ ⟨B, d, h1, h2, h3⟩ hR => ⟨B, d, h1, h2, h3.own_up hR⟩) (vs9 8) x9 y9 h9 hR9), ⟨.inr (.inr (fun vs9 x9 y9 h9 hR9 => (show ∀ v9 y8 y7, (fun v z => ∃ B d, v = .slice B l5.length d ∧ l5.length ≤ d ∧ Lay.int.Sl z (Own w5.heap.size z) B l5) v9 y8 → (fun x9 y9 => x9.grownBy y9 (some (w.heap.size + 1))) y8 y7 → (fun v z => ∃ B d, v = .slice B l5.length d ∧ l5.length ≤ d ∧ Lay.int.Sl z (Own w5.heap.size z) B l5) v9 y7 from fun _ _ _ ⟨B, d, h1, h2, h3⟩ hR => ⟨B, d, h1, h2, own_grown9 h3 hR (Nat.lt_of_lt_of_le HLT.out HB5.out.size)⟩) (vs9 8) x9 y9 h9 hR9)), trivial⟩⟩,
    ⟨.inr (fun _ _ _ h _ => h), ⟨.inr (.inl rfl), trivial⟩⟩,
    ⟨.inr (fun _ _ _ h _ => h), ⟨.inr (.inr (fun _ _ _ h _ => h)), trivial⟩⟩, trivial⟩ ⟨fun vs vs' x h _ hv => (by dsimp only at hv ⊢; first | (rw [← h]; exact hv) | exact hv),
    fun vs vs' x h _ hv => (by dsimp only at hv ⊢; first | (rw [← h]; exact hv) | exact hv),
    fun vs vs' x h _ hv => (by dsimp only at hv ⊢; first | (rw [← h]; exact hv) | exact hv),
    fun vs vs' x h _ hv => (by dsimp only at hv ⊢; first | (rw [← h]; exact hv) | exact hv),
    fun vs vs' x h _ hv => (by dsimp only at hv ⊢; first | (rw [← h]; exact hv) | exact hv),
    fun vs vs' x h _ hv => (by dsimp only at hv ⊢; first | (rw [← h]; exact hv) | exact hv),
    fun vs vs' x h _ hv => (by dsimp only at hv ⊢; first | (rw [← h]; exact hv) | exact hv),
    fun vs vs' x h _ hv => (by dsimp only at hv ⊢; first | (rw [← h]; exact hv) | exact hv),
    fun vs vs' x h _ hv => (by dsimp only at hv ⊢; first | (rw [← h]; exact hv) | exact hv),
    fun _ _ _ _ _ _ => trivial,
    fun vs vs' x h hd hv => (by have h2 := hd 8 (by decide); show vs' 10 = vs' 8; exact h.symm.trans (Eq.trans hv h2)), trivial⟩ (⟨grown_of9 (below_drewN (below_drewN (Below.refl _ _) nq) 1) _, fun _ => HB1.out, fun h => by cases h⟩) ⟨?_, ?_, ?_, ?_, ?_, ?_, ?_, ?_, ?_, ?_, ?_, trivial⟩ ?_
    · intro vals xw f hf1 hf2 hf3 hI hF
      clear hf2 hf3
      dsimp only [owes4, bare]
      simp only [putsD, Act.put, List.setIfInBounds_toArray, List.set_cons_zero, List.set_cons_succ]
      go_wp2
      exact ⟨rfl, rfl, ⟨fun h9 => absurd h9 (Nat.ne_of_beq_eq_false rfl), fun _ => Below.refl _ _⟩, hI⟩
    · intro vals xw f hf1 hf2 hf3 hI hF
      clear hf2 hf3
      simp only [saysD, List.getD_cons_zero, List.getD_cons_succ, and_true] at hF
      have e39 := hF
      dsimp only [owes4, bare]
      simp only [putsD, Act.put, List.setIfInBounds_toArray, List.set_cons_zero, List.set_cons_succ]
      simp only [e39]
      go_wp2
      exact ⟨rfl, rfl, ⟨fun h9 => absurd h9 (Nat.ne_of_beq_eq_false rfl), fun _ => Below.refl _ _⟩, hI⟩
    · intro vals xw f hf1 hf2 hf3 hI hF
      clear hf2 hf3
      simp only [saysD, List.getD_cons_zero, List.getD_cons_succ, and_true] at hF
      have e40 := hF
      dsimp only [owes4, bare]
      simp only [putsD, Act.put, List.setIfInBounds_toArray, List.set_cons_zero, List.set_cons_succ]
      simp only [e40]
      go_wp2
      exact ⟨rfl, rfl, ⟨fun h9 => absurd h9 (Nat.ne_of_beq_eq_false rfl), fun _ => Below.refl _ _⟩, hI⟩
    · intro vals xw f hf1 hf2 hf3 hI hF
      clear hf2 hf3
      simp only [saysD, List.getD_cons_zero, List.getD_cons_succ, and_true] at hF
      have e41 := hF
      have c9 := (HQ.out xw hI.1).1
      dsimp only [owes4, bare]
      simp only [putsD, Act.put, List.setIfInBounds_toArray, List.set_cons_zero, List.set_cons_succ]
      simp only [e41]
      go_wp2
      exact ⟨rfl, rfl, ⟨fun h9 => absurd h9 (Nat.ne_of_beq_eq_false rfl), fun _ => Below.refl _ _⟩, hI⟩
    · intro vals xw f hf1 hf2 hf3 hI hF
      clear hf2 hf3
      simp only [saysD, List.getD_cons_zero, List.getD_cons_succ, and_true] at hF
      have e42 := hF
      dsimp only [owes4, bare]
      simp only [putsD, Act.put, List.setIfInBounds_toArray, List.set_cons_zero, List.set_cons_succ]
      simp only [e42]
      go_wp2
      exact ⟨rfl, rfl, ⟨fun h9 => absurd h9 (Nat.ne_of_beq_eq_false rfl), fun _ => Below.refl _ _⟩, hI⟩
    · intro vals xw f hf1 hf2 hf3 hI hF
      clear hf2 hf3
      simp only [saysD, List.getD_cons_zero, List.getD_cons_succ, and_true] at hF
      have e43 := hF
      dsimp only [owes4, bare]
      simp only [putsD, Act.put, List.setIfInBounds_toArray, List.set_cons_zero, List.set_cons_succ]
      simp only [e43]
      go_wp2
      exact ⟨rfl, rfl, ⟨fun h9 => absurd h9 (Nat.ne_of_beq_eq_false rfl), fun _ => Below.refl _ _⟩, hI⟩
    · intro vals xw f hf1 hf2 hf3 hI hF
      clear hf2 hf3
      simp only [saysD, List.getD_cons_zero, List.getD_cons_succ, and_true] at hF
      have e44 := hF
      have c9 := (HQ.out xw hI.1).2.1
      have c8 := (HQ.out xw hI.1).2.2
      dsimp only [owes4, bare]
      simp only [putsD, Act.put, List.setIfInBounds_toArray, List.set_cons_zero, List.set_cons_succ]
      simp only [e44]
      go_wp2
      exact ⟨rfl, rfl, ⟨fun h9 => absurd h9 (Nat.ne_of_beq_eq_false rfl), fun _ => Below.refl _ _⟩, hI⟩
    · intro vals xw f hf1 hf2 hf3 hI hF
      clear hf2 hf3
      dsimp only [owes4, bare]
      simp only [putsD, Act.put, List.setIfInBounds_toArray, List.set_cons_zero, List.set_cons_succ]
      go_wp2
      exact ⟨rfl, rfl, ⟨fun h9 => absurd h9 (Nat.ne_of_beq_eq_false rfl), fun _ => Below.refl _ _⟩, hI⟩
    · intro vals xw f hf1 hf2 hf3 hI hF
      clear hf2 hf3
      simp only [saysD, List.getD_cons_zero, List.getD_cons_succ, and_true] at hF
      have e46 := hF
      dsimp only [owes4, bare]
      simp only [putsD, Act.put, List.setIfInBounds_toArray, List.set_cons_zero, List.set_cons_succ]
      simp only [e46]
      have HI := Lib.hid hI
      have hsz9 : w5.heap.size ≤ xw.heap.size := hI.1.size
      have HRD := Lib.hid (HL5.out xw hI.1)
      clear hI
      go_wp2_with fail
      refine (numbers_any A5 c5 l5 xw HRD.out (by omega)).mono ?_
      rintro e wx ⟨B, d, rfl, h1, h2, h3⟩
      have H3 := Lib.hid h3
      have H2 := Lib.hid (own_mono9 h2 hsz9)
      clear h2 h3
      go_wp2
      exact ⟨rfl, ⟨B, d, rfl, h1, H2.out⟩, ⟨fun h9 => absurd h9 (Nat.ne_of_beq_eq_false rfl), fun _ => H3.out⟩, HI.out.up H3.out⟩
    · intro vals xw f hf1 hf2 hf3 hI hF
      clear hf2 hf3
      simp only [saysD, List.getD_cons_zero, List.getD_cons_succ, and_true] at hF
      have e45 := hF
      dsimp only [owes4, bare]
      simp only [putsD, Act.put, List.setIfInBounds_toArray, List.set_cons_zero, List.set_cons_succ]
      simp only [e45]
      have hbx := hI.2.1 hf1
      have j6 := (cell_of_block hbx 0).1
      have j7 := (cell_of_block hbx 1).1
      have f6 := (cell_of_block hbx 0).2
      have f7 := (cell_of_block hbx 1).2
      have HG1 := Lib.hid hI.1
      have HBX := Lib.hid hbx
      clear hI hbx
      go_wp2
      have h1 := heap_set_same xw (w.heap.size + 1) 0 (.int .i64 n5.ins) _ _ HBX.out
      have h2 := heap_set_same _ (w.heap.size + 1) 1 (.slice A6 n5.gs.length c6) _ _ h1
      have h3 : xw.grownBy ((xw.setCell ⟨w.heap.size + 1, 0, none⟩ (.int .i64 n5.ins)).setCell ⟨w.heap.size + 1, 1, none⟩ (.slice A6 n5.gs.length c6)) (some (w.heap.size + 1)) := only_setCell (only_setCell (World.grownBy.refl _ _) _ _) _ _
      exact ⟨rfl, trivial, ⟨fun _ => h3, fun h9 => absurd rfl h9⟩, grown_trans9 HG1.out h3, fun h => absurd ((did_same f 9).symm.trans h) (by simp), fun _ => h2⟩
    · intro vals xw f hf1 hf2 hf3 hI hF
      clear hf2 hf3
      simp only [saysD, List.getD_cons_zero, List.getD_cons_succ, and_true] at hF
      obtain ⟨B8, d8, e47, _⟩ := hF
      dsimp only [owes4, bare]
      simp only [putsD, Act.put, List.setIfInBounds_toArray, List.set_cons_zero, List.set_cons_succ]
      simp only [e47]
      go_wp2
      exact ⟨rfl, e47.symm, ⟨fun h9 => absurd h9 (Nat.ne_of_beq_eq_false rfl), fun _ => Below.refl _ _⟩, hI⟩
    · intro vals xw f hall hI hF
      rw [show List.range _ = [0, 1, 2, 3, 4, 5, 6, 7, 8, 9, 10] from rfl] at hF
      simp only [says, List.getD_cons_zero, List.getD_cons_succ, and_true] at hF
      obtain ⟨_, _, _, _, _, _, _, _, ⟨B8, d8, e47, hd8, hs8⟩, e5⟩ := hF
      rw [e47] at e5
      have hbx := hI.2.2 (hall 9 (by decide))
      have k5 := (cell_of_block hbx 0).1
      have k6 := (cell_of_block hbx 1).1
      have kf5 := (cell_of_block hbx 0).2
      have kf6 := (cell_of_block hbx 1).2
      have HG1 := Lib.hid hI.1
      have HS8 := Lib.hid hs8
      have HD8 := Lib.hid hd8
      clear hI hbx hs8 hd8
      simp only [putsD, Act.put, List.setIfInBounds_toArray, List.set_cons_zero, List.set_cons_succ]
      simp only [e5]
      clear e5 e47
      go_wp2
      refine bodyPost_ret (v := .tuple #[.agg #[.int .i64 n5.ins, .slice A6 n5.gs.length c6], .slice B8 l5.length d8]) (by simp [results, Tryd.results32, go_sem, k5, k6, kf5, kf6]) rfl ?_
      rw [show pickN (netOk n) out = out by rw [HOK.out]; rfl, ← HT5.out]
      show RetBits (n5, l5) w _ _
      exact ⟨A6, B8, c6, d8, rfl, HO6.out.sl.1, HD8.out, own_mono9 (own_grown9 HO6.out.own HG1.out HLT.out) HW.out.size, own_mono9 HS8.out (Nat.le_trans HW.out.size HB5.out.size), (HFIN.out _ HB5.out).grown HG1.out (bthen HW.out HB5.out).size (fun k hk => by injection hk with hk; omega), apart_of HO6.out.own HS8.out (fun b h1 h2 => by have := h1.2.1; have := h2.1; omega)⟩
  · obtain ⟨a, ha⟩ : ∃ a, errV a0 a1 (some e5) = sentV a := by rcases e5 with _ | e5 <;> exact ⟨_, rfl⟩
    simp only [ha] at q1
    have hcase : (a = a0 ∧ True) ∨ a = a1 := by
      rcases e5 with _ | e5
      · injection ha with _ ha; injection ha with ha; injection ha with ha; exact .inl ⟨ha.symm, trivial⟩
      · injection ha with _ ha; injection ha with ha; injection ha with ha; exact .inr ha.symm
    clear ha
    have HT6 : Hid (out = (⟨0, []⟩, [])) := Lib.hid (by rw [← HT5.out]; exact if_neg (by simp))
    have HSM : Hid (∀ (b : Addr) (m : Nat), Calls Tryd.prog 56 #[sentV b, sentV b] (w5.drewN m) fun e w' => e = .returned (.bool true) ∧ w5.drewN m = w') := Lib.hid fun b m => is_same b _
    have HOT : Hid (∀ (m : Nat), Calls Tryd.prog 56 #[sentV a0, sentV a1] (w5.drewN m) fun e w' => e = .returned (.bool false) ∧ w5.drewN m = w') := Lib.hid fun m => by
      obtain ⟨ca, ta, h0⟩ := HGL.out.b0
      obtain ⟨cb, tb, h1⟩ := HGL.out.b1
      exact is_other a0 a1 ca cb ta tb _ HGL.out.ne h0 h1
    rcases hcase with ⟨rfl, _⟩ | rfl
    · go_wp2
      go_quiet ((go_at_call 56; first | with_reducible exact quiet_left (HOT.out _) | with_reducible exact quiet_left (HSM.out _ _)))
      clear HSM HOT
      go_wp2
      refine bodyPost_ret (v := .tuple #[.agg #[.int .i64 0, .slice none 0 0], .slice none 0 0]) (by simp [results, Tryd.results32, go_sem, k5, k6, kf5, kf6]) rfl ?_
      rw [show pickN (netOk n) out = out by rw [HOK.out]; rfl, HT6.out]
      refine ⟨none, none, 0, 0, rfl, Nat.zero_le _, Nat.zero_le _, .nil _ _ _ _, .nil _ _ _ _, ?_, apart_nil rfl⟩
      repeat (refine below_set ?_ (by show w.heap.size ≤ w.heap.size + 1; omega) _)
      exact below_drewN (HFIN.out _ HB5.out) _
    · go_wp2
      go_quiet ((go_at_call 56; first | with_reducible exact quiet_left (HSM.out _ _) | with_reducible exact quiet_left (HOT.out _)))
      clear HSM HOT
      go_wp2
      refine bodyPost_ret (v := .tuple #[.agg #[.int .i64 0, .slice none 0 0], .slice none 0 0]) (by simp [results, Tryd.results32, go_sem, k5, k6, kf5, kf6]) rfl ?_
      rw [show pickN (netOk n) out = out by rw [HOK.out]; rfl, HT6.out]
      refine ⟨none, none, 0, 0, rfl, Nat.zero_le _, Nat.zero_le _, .nil _ _ _ _, .nil _ _ _ _, ?_, apart_nil rfl⟩
      repeat (refine below_set ?_ (by show w.heap.size ≤ w.heap.size + 1; omega) _)
      exact below_drewN (HFIN.out _ HB5.out) _
end Go.Proofs.YtcdlfnhjpjpbjaaDoor

/-! The program's BitsIf. -/
namespace Go.Proofs.YtcdlfnhjpjpbjaaDoor
open Go Go.RowKit

theorem Lay.Sl.upP {α : Type} {L : Lay α} {w w' : World} {A : Option Addr} {xs : List α} (h : L.Pl w A xs) (hb : Below w.heap.size w w') : L.Pl w' A xs :=
  (h.keep fun b hp => hb.block b hp.lt).mono fun b ⟨cs, fr, h1⟩ => ⟨cs, fr, (hb.block b (lt_of_block h1)).trans h1⟩
theorem mark_mb {n : N} {m : Int} (hn : NB n) (h : netMark n m = true) : MB m := by
  obtain ⟨h0, h1, h2⟩ := hn
  have : m ≠ 0 ∧ -(1 + n.ins + n.gs.length) ≤ m ∧ m ≤ 1 + n.ins + n.gs.length := by simpa [netMark, sigOf] using h
  unfold MB; omega
theorem goodL_iff {n : N} {a : List Int} : goodL n a = true ↔ 1 ≤ a.length ∧ a.length ≤ 4 ∧ ∀ m ∈ a, netMark n m = true := by
  unfold goodL
  simp only [Bool.and_eq_true, decide_eq_true_eq, List.all_eq_true, and_assoc]
/-- What is so while the lists are read. -/
def TwoI (a0 a1 : Addr) (lo : Nat) (W : World) (q r : Nat) (n : N) (e : Option Nat) (x : World) : Prop := BelB lo W x ∧ Bx a0 a1 lo x q r e ∧ Circ lo x r n n.gs
theorem TwoI.up {a0 a1 : Addr} {lo : Nat} {W : World} {q r : Nat} {n : N} {e : Option Nat} {x x' : World} (h : TwoI a0 a1 lo W q r n e x) (hb : Below x.heap.size x x') : TwoI a0 a1 lo W q r n e x' := ⟨h.1.trans (.of hb h.2.1.size), h.2.1.up hb, h.2.2.up hb⟩
def stE (b : Bool) (e e' : Option Nat) : Option Nat := if b = true then e else e'
def bitsOk (n : N) (ok : Bool) (p : PG (List Int)) : N × List Int := if ok = true then bitsOut (run opsP p ⟨n, none⟩) else (⟨0, []⟩, [])
def bitsIfR (n : N) (c : Int) (xs ys : List Int) : N × List Int := bitsOk n (goodL n xs && goodL n ys && netMark n c && decide (xs.length = ys.length)) (eachP (muxP c) xs ys)
set_option maxRecDepth 100000 in
set_option maxHeartbeats 4000000 in
theorem bitsIf1_any (a0 a1 : Addr) (lo q r ba bb bc : Nat) (n : N) (A B : Option Addr) (ca cb : Nat) (xs ys : List Int) (c0 : Int) (w : World) (h : Bd a0 a1 lo w q r ⟨n, none⟩)
    (ha : w.heap[ba]? = some (.cells #[.slice A xs.length ca] 25 (0, 0))) (hb : w.heap[bb]? = some (.cells #[.slice B ys.length cb] 25 (0, 0))) (hc : w.heap[bc]? = some (.cells #[.int .i64 c0] 3 (0, 0)))
    (hX : Lay.int.Sl w (fun b => b < lo) A xs) (hY : Lay.int.Sl w (fun b => b < lo) B ys) (hxi : i64s xs) (hyi : i64s ys) (hci : -9223372036854775808 ≤ c0 ∧ c0 ≤ 9223372036854775807) (hlxs : xs.length ≤ 1048576) (hlys : ys.length ≤ 1048576) :
    Calls Tryd.prog 33 #[.pointer (some ⟨q, 0, none⟩), .pointer (some ⟨ba, 0, none⟩), .pointer (some ⟨bb, 0, none⟩), .pointer (some ⟨bc, 0, none⟩)] w (RetBC a0 a1 lo w q r (bitsIfR n c0 xs ys)) := by
  have HA := Lib.hid ha
  have HB := Lib.hid hb
  have HCc := Lib.hid hc
  have Hxs := Lib.hid hX
  have Hys := Lib.hid hY
  have HIxs := Lib.hid hxi
  have HIys := Lib.hid hyi
  have HBD := Lib.hid h
  have HNB := Lib.hid h.nb
  have hlo := h.size
  obtain ⟨e1, he1⟩ : ∃ e1, e1 = listE n none xs := ⟨_, rfl⟩
  obtain ⟨e2, he2⟩ : ∃ e2, e2 = listE n e1 ys := ⟨_, rfl⟩
  obtain ⟨e3, he3⟩ : ∃ e3, e3 = failE e2 (!netMark n c0) 0 := ⟨_, rfl⟩
  have HE1 := Lib.hid he1
  have HE2 := Lib.hid he2
  have HE3 := Lib.hid he3
  obtain ⟨hc0, hc1⟩ := hci
  have HOUT : Hid (bitsIfR n c0 xs ys = if e3 = none then bitsOut (chooseS ⟨n, none⟩ c0 xs ys) else (⟨0, []⟩, [])) := Lib.hid (by
    have h3 : e3 = failE none (!goodL n xs || !goodL n ys || !netMark n c0) 0 := by rw [he3, he2, he1]; unfold listE; rw [failE_twice, failE_twice, Bool.or_assoc]
    rw [h3]
    unfold bitsIfR bitsOk chooseS
    cases goodL n xs <;> cases goodL n ys <;> cases netMark n c0 <;> simp [failE]
    by_cases hl : xs.length = ys.length
    · simp [hl]
    · simp [hl, bitsOut])
  have HGOOD : Hid (e3 = none → goodL n xs = true ∧ goodL n ys = true ∧ netMark n c0 = true) := Lib.hid (fun h0 => by
    have h3 : e3 = failE none (!goodL n xs || !goodL n ys || !netMark n c0) 0 := by rw [he3, he2, he1]; unfold listE; rw [failE_twice, failE_twice, Bool.or_assoc]
    rw [h3] at h0
    have := (failE_none h0).2
    revert this
    cases goodL n xs <;> cases goodL n ys <;> cases netMark n c0 <;> simp)
  clear he1 he2 he3 h ha hb hc hX hY hxi hyi
  go_enter Tryd.func33, Tryd.ntmps33
  go_wp2
  refine wp_region_rel4 [[], [], [(0, 8), (1, 9)], [], [], [(3, 11), (4, 12)], [(2, 10)], [(5, 13)]]
    (fun x9 y9 => Below x9.heap.size x9 y9)
    [(2, fun x9 y9 => BelB lo x9 y9), (5, fun x9 y9 => BelB lo x9 y9)]
    (fun f9 x9 => TwoI a0 a1 lo w q r n (stE (f9 5) e2 (stE (f9 2) e1 none)) x9)
    [fun vs9 _ => vs9 0 = (.pointer (some ⟨q, 0, none⟩)),
    fun vs9 _ => vs9 1 = (.slice A xs.length ca),
    fun vs9 y9 => (fun v z => ∃ A9 c9, v = .slice A9 xs.length c9 ∧ xs.length ≤ c9 ∧ Lay.int.Pl z A9 xs) (vs9 2) y9,
    fun vs9 _ => vs9 3 = (.pointer (some ⟨q, 0, none⟩)),
    fun vs9 _ => vs9 4 = (.slice B ys.length cb),
    fun vs9 y9 => (fun v z => ∃ A9 c9, v = .slice A9 ys.length c9 ∧ ys.length ≤ c9 ∧ Lay.int.Pl z A9 ys) (vs9 5) y9,
    fun vs9 _ => vs9 6 = vs9 2,
    fun vs9 _ => vs9 7 = vs9 5]
    [(0, 8), (1, 9), (2, 10), (3, 11), (4, 12), (5, 13), (6, 6), (7, 7)] (by kernel_rfl) (by kernel_rfl) (by kernel_rfl) (by kernel_rfl)
    (fun _ => Below.refl _ _) ⟨fun _ => BelB.refl _ _, fun _ => BelB.refl _ _, trivial⟩
    ⟨⟨.inr (fun _ _ _ h _ => h), ⟨.inr (.inr (fun _ _ _ h _ => h)), .inr (.inr (fun _ _ _ h _ => h)), trivial⟩⟩,
    ⟨.inr (fun _ _ _ h _ => h), ⟨.inr (.inr (fun _ _ _ h _ => h)), .inr (.inr (fun _ _ _ h _ => h)), trivial⟩⟩,
    ⟨.inr (fun vs9 x9 y9 h9 hR9 => (show ∀ v9 y8 y7, (fun v z => ∃ A9 c9, v = .slice A9 xs.length c9 ∧ xs.length ≤ c9 ∧ Lay.int.Pl z A9 xs) v9 y8 → (fun x9 y9 => Below x9.heap.size x9 y9) y8 y7 → (fun v z => ∃ A9 c9, v = .slice A9 xs.length c9 ∧ xs.length ≤ c9 ∧ Lay.int.Pl z A9 xs) v9 y7 from fun _ _ _ ⟨A9, c9, h1, h2, h3⟩ hR => ⟨A9, c9, h1, h2, h3.upP hR⟩) (vs9 2) x9 y9 h9 hR9), ⟨.inr (.inl rfl), .inr (.inr (fun vs9 x9 y9 h9 hR9 => (show ∀ v9 y8 y7, (fun v z => ∃ A9 c9, v = .slice A9 xs.length c9 ∧ xs.length ≤ c9 ∧ Lay.int.Pl z A9 xs) v9 y8 → (fun x9 y9 => BelB lo x9 y9) y8 y7 → (fun v z => ∃ A9 c9, v = .slice A9 xs.length c9 ∧ xs.length ≤ c9 ∧ Lay.int.Pl z A9 xs) v9 y7 from fun _ _ _ ⟨A9, c9, h1, h2, h3⟩ hR => ⟨A9, c9, h1, h2, h3.upB hR⟩) (vs9 2) x9 y9 h9 hR9)), trivial⟩⟩,
    ⟨.inr (fun _ _ _ h _ => h), ⟨.inr (.inr (fun _ _ _ h _ => h)), .inr (.inr (fun _ _ _ h _ => h)), trivial⟩⟩,
    ⟨.inr (fun _ _ _ h _ => h), ⟨.inr (.inr (fun _ _ _ h _ => h)), .inr (.inr (fun _ _ _ h _ => h)), trivial⟩⟩,
    ⟨.inr (fun vs9 x9 y9 h9 hR9 => (show ∀ v9 y8 y7, (fun v z => ∃ A9 c9, v = .slice A9 ys.length c9 ∧ ys.length ≤ c9 ∧ Lay.int.Pl z A9 ys) v9 y8 → (fun x9 y9 => Below x9.heap.size x9 y9) y8 y7 → (fun v z => ∃ A9 c9, v = .slice A9 ys.length c9 ∧ ys.length ≤ c9 ∧ Lay.int.Pl z A9 ys) v9 y7 from fun _ _ _ ⟨A9, c9, h1, h2, h3⟩ hR => ⟨A9, c9, h1, h2, h3.upP hR⟩) (vs9 5) x9 y9 h9 hR9), ⟨.inl (by kernel_rfl), .inr (.inl rfl), trivial⟩⟩,
    ⟨.inr (fun _ _ _ h _ => h), ⟨.inr (.inr (fun _ _ _ h _ => h)), .inr (.inr (fun _ _ _ h _ => h)), trivial⟩⟩,
    ⟨.inr (fun _ _ _ h _ => h), ⟨.inr (.inr (fun _ _ _ h _ => h)), .inr (.inr (fun _ _ _ h _ => h)), trivial⟩⟩, trivial⟩ ⟨fun vs vs' x h _ hv => (by dsimp only at hv ⊢; first | (rw [← h]; exact hv) | exact hv),
    fun vs vs' x h _ hv => (by dsimp only at hv ⊢; first | (rw [← h]; exact hv) | exact hv),
    fun vs vs' x h _ hv => (by dsimp only at hv ⊢; first | (rw [← h]; exact hv) | exact hv),
    fun vs vs' x h _ hv => (by dsimp only at hv ⊢; first | (rw [← h]; exact hv) | exact hv),
    fun vs vs' x h _ hv => (by dsimp only at hv ⊢; first | (rw [← h]; exact hv) | exact hv),
    fun vs vs' x h _ hv => (by dsimp only at hv ⊢; first | (rw [← h]; exact hv) | exact hv),
    fun vs vs' x h hd hv => (by have h2 := hd 2 (by decide); show vs' 6 = vs' 2; exact h.symm.trans (Eq.trans hv h2)),
    fun vs vs' x h hd hv => (by have h2 := hd 5 (by decide); show vs' 7 = vs' 5; exact h.symm.trans (Eq.trans hv h2)), trivial⟩ (⟨BelB.of (below_drewN (Below.refl _ _) 1) hlo, HBD.out.toBx.up (below_drewN (Below.refl _ _) 1), (HBD.out.circ rfl).up (below_drewN (Below.refl _ _) 1)⟩) ⟨?_, ?_, ?_, ?_, ?_, ?_, ?_, ?_, trivial⟩ ?_
  · intro vals xw f hf1 hf2 hf3 hI hF
    clear hf2 hf3
    dsimp only [owes4, bare]
    simp only [putsD, Act.put, List.setIfInBounds_toArray, List.set_cons_zero, List.set_cons_succ]
    go_wp2
    exact ⟨rfl, rfl, ⟨fun h9 => absurd h9 (Nat.ne_of_beq_eq_false rfl), fun _ => ⟨fun h9 => absurd h9 (Nat.ne_of_beq_eq_false rfl), fun _ => Below.refl _ _⟩⟩, hI⟩
  · intro vals xw f hf1 hf2 hf3 hI hF
    clear hf2 hf3
    dsimp only [owes4, bare]
    simp only [putsD, Act.put, List.setIfInBounds_toArray, List.set_cons_zero, List.set_cons_succ]
    have c9 := (cell_of_block (kd_of hI.1 HA.out (by decide) (by decide) (by decide)) 0).1
    go_wp2
    exact ⟨rfl, rfl, ⟨fun h9 => absurd h9 (Nat.ne_of_beq_eq_false rfl), fun _ => ⟨fun h9 => absurd h9 (Nat.ne_of_beq_eq_false rfl), fun _ => Below.refl _ _⟩⟩, hI⟩
  · intro vals xw f hf1 hf2 hf3 hI hF
    have k5 : f 5 = false := hf3 5 (by kernel_rfl)
    clear hf2 hf3
    simp only [saysD, List.getD_cons_zero, List.getD_cons_succ, and_true] at hF
    obtain ⟨e8, e9⟩ := hF
    dsimp only [owes4, bare]
    simp only [putsD, Act.put, List.setIfInBounds_toArray, List.set_cons_zero, List.set_cons_succ]
    simp only [e8, e9]
    have hI := hI
    rw [hf1, k5] at hI
    have HX9 := Lib.hid (Hxs.out.below hI.1.bel (fun _ h => h))
    have I1 := Lib.hid hI.1
    have HC9 := Lib.hid (list_any a0 a1 lo q r n none A ca xs xw hI.2.1 hI.2.2 HNB.out HX9.out HIxs.out hlxs)
    clear hI HX9
    go_wp2_with fail
    refine HC9.out.mono ?_
    rintro e wx ⟨A9, c9, rfl, h1, h2, h3, h4, h5⟩
    have H2 := Lib.hid h2
    have H3 := Lib.hid h3
    have H4 := Lib.hid h4
    have H5 := Lib.hid h5
    clear h2 h3 h4 h5 HC9
    go_wp2
    exact ⟨rfl, ⟨A9, c9, rfl, h1, H2.out⟩, ⟨fun _ => H3.out, fun h9 => absurd rfl h9⟩, show TwoI a0 a1 lo w q r n (stE (did f 2 5) e2 (stE (did f 2 2) e1 none)) wx from (by rw [did_same, did_ne (by decide), k5]; exact ⟨I1.out.trans H3.out, by rw [HE1.out]; exact H4.out, H5.out⟩)⟩
  · intro vals xw f hf1 hf2 hf3 hI hF
    clear hf2 hf3
    dsimp only [owes4, bare]
    simp only [putsD, Act.put, List.setIfInBounds_toArray, List.set_cons_zero, List.set_cons_succ]
    go_wp2
    exact ⟨rfl, rfl, ⟨fun h9 => absurd h9 (Nat.ne_of_beq_eq_false rfl), fun _ => ⟨fun h9 => absurd h9 (Nat.ne_of_beq_eq_false rfl), fun _ => Below.refl _ _⟩⟩, hI⟩
  · intro vals xw f hf1 hf2 hf3 hI hF
    clear hf2 hf3
    dsimp only [owes4, bare]
    simp only [putsD, Act.put, List.setIfInBounds_toArray, List.set_cons_zero, List.set_cons_succ]
    have c9 := (cell_of_block (kd_of hI.1 HB.out (by decide) (by decide) (by decide)) 0).1
    go_wp2
    exact ⟨rfl, rfl, ⟨fun h9 => absurd h9 (Nat.ne_of_beq_eq_false rfl), fun _ => ⟨fun h9 => absurd h9 (Nat.ne_of_beq_eq_false rfl), fun _ => Below.refl _ _⟩⟩, hI⟩
  · intro vals xw f hf1 hf2 hf3 hI hF
    have k2 : f 2 = true := hf2 2 (by kernel_rfl)
    clear hf2 hf3
    simp only [saysD, List.getD_cons_zero, List.getD_cons_succ, and_true] at hF
    obtain ⟨e11, e12⟩ := hF
    dsimp only [owes4, bare]
    simp only [putsD, Act.put, List.setIfInBounds_toArray, List.set_cons_zero, List.set_cons_succ]
    simp only [e11, e12]
    have hI := hI
    rw [hf1, k2] at hI
    have HX9 := Lib.hid (Hys.out.below hI.1.bel (fun _ h => h))
    have I1 := Lib.hid hI.1
    have HC9 := Lib.hid (list_any a0 a1 lo q r n e1 B cb ys xw hI.2.1 hI.2.2 HNB.out HX9.out HIys.out hlys)
    clear hI HX9
    go_wp2_with fail
    refine HC9.out.mono ?_
    rintro e wx ⟨A9, c9, rfl, h1, h2, h3, h4, h5⟩
    have H2 := Lib.hid h2
    have H3 := Lib.hid h3
    have H4 := Lib.hid h4
    have H5 := Lib.hid h5
    clear h2 h3 h4 h5 HC9
    go_wp2
    exact ⟨rfl, ⟨A9, c9, rfl, h1, H2.out⟩, ⟨fun h9 => absurd h9 (Nat.ne_of_beq_eq_false rfl), fun _ => ⟨fun _ => H3.out, fun h9 => absurd rfl h9⟩⟩, show TwoI a0 a1 lo w q r n (stE (did f 5 5) e2 (stE (did f 5 2) e1 none)) wx from (by rw [did_same]; exact ⟨I1.out.trans H3.out, by rw [HE2.out]; exact H4.out, H5.out⟩)⟩
  · intro vals xw f hf1 hf2 hf3 hI hF
    clear hf2 hf3
    simp only [saysD, List.getD_cons_zero, List.getD_cons_succ, and_true] at hF
    obtain ⟨B8, d8, e10, _⟩ := hF
    dsimp only [owes4, bare]
    simp only [putsD, Act.put, List.setIfInBounds_toArray, List.set_cons_zero, List.set_cons_succ]
    simp only [e10]
    go_wp2
    exact ⟨rfl, e10.symm, ⟨fun h9 => absurd h9 (Nat.ne_of_beq_eq_false rfl), fun _ => ⟨fun h9 => absurd h9 (Nat.ne_of_beq_eq_false rfl), fun _ => Below.refl _ _⟩⟩, hI⟩
  · intro vals xw f hf1 hf2 hf3 hI hF
    clear hf2 hf3
    simp only [saysD, List.getD_cons_zero, List.getD_cons_succ, and_true] at hF
    obtain ⟨B8, d8, e13, _⟩ := hF
    dsimp only [owes4, bare]
    simp only [putsD, Act.put, List.setIfInBounds_toArray, List.set_cons_zero, List.set_cons_succ]
    simp only [e13]
    go_wp2
    exact ⟨rfl, e13.symm, ⟨fun h9 => absurd h9 (Nat.ne_of_beq_eq_false rfl), fun _ => ⟨fun h9 => absurd h9 (Nat.ne_of_beq_eq_false rfl), fun _ => Below.refl _ _⟩⟩, hI⟩
  · intro vals xw f hall hI hF
    rw [show List.range _ = [0, 1, 2, 3, 4, 5, 6, 7] from rfl] at hF
    simp only [says, List.getD_cons_zero, List.getD_cons_succ, and_true] at hF
    have i9 : TwoI a0 a1 lo w q r n (stE (f 5) e2 (stE (f 2) e1 none)) xw := hI
    rw [hall 5 (by decide)] at i9
    obtain ⟨_, _, ⟨A7, c7, e7, hc7, hp7⟩, _, _, ⟨B7, d7, e8, hd7, hq7⟩, e5, e6⟩ := hF
    rw [e7] at e5
    rw [e8] at e6
    simp only [putsD, Act.put, List.setIfInBounds_toArray, List.set_cons_zero, List.set_cons_succ]
    simp only [e5, e6]
    have I1 := Lib.hid i9.1
    have I2 := Lib.hid (show Bx a0 a1 lo xw q r e2 from i9.2.1)
    have I3 := Lib.hid i9.2.2
    have HP7 := Lib.hid hp7
    have HQ7 := Lib.hid hq7
    clear i9 hI e5 e6 e7 e8 hp7 hq7
    obtain ⟨mk, hmk⟩ : ∃ mk, netMark n c0 = mk := ⟨_, rfl⟩
    rw [hmk] at HE3
    have HMK := Lib.hid hmk
    clear hmk
    have HW2 := Lib.hid I1.out
    have HBK : Hid (∀ x, BelB lo xw x → Lay.int.Pl x A7 xs ∧ Lay.int.Pl x B7 ys) := Lib.hid fun x hx => ⟨HP7.out.upB hx, HQ7.out.upB hx⟩
    clear HP7 HQ7
    obtain ⟨wz, hwz⟩ : ∃ wz, wz = xw := ⟨_, rfl⟩
    rw [← hwz] at HBK
    have HWZ := Lib.hid hwz
    clear hwz
    go_wp2
    refine wp_region_rel4 [[], [], [(1, 15)], [(2, 16)], [(3, 17)], [], [(4, 18), (5, 19)], [(6, 20)], [], [(0, 14), (7, 21), (8, 22)]]
      (fun x9 y9 => Below x9.heap.size x9 y9)
      [(9, fun x9 y9 => BelB lo x9 y9)]
      (fun f9 x9 => TwoI a0 a1 lo w q r n (stE (f9 9) e3 e2) x9 ∧ BelB lo wz x9)
      [fun vs9 _ => vs9 0 = (.pointer (some ⟨q, 0, none⟩)),
    fun vs9 _ => vs9 1 = (.pointer (some ⟨q, 0, none⟩)),
    fun vs9 _ => vs9 2 = (.pointer (some ⟨q, 0, none⟩)),
    fun vs9 _ => vs9 3 = (.pointer (some ⟨q, 0, none⟩)),
    fun vs9 _ => vs9 4 = (.pointer (some ⟨r, 0, none⟩)),
    fun vs9 _ => vs9 5 = (.int .i64 c0),
    fun vs9 _ => vs9 6 = (.bool mk),
    fun vs9 _ => vs9 7 = (.bool (!mk)),
    fun vs9 _ => vs9 8 = (sentV a0),
    fun _ _ => True]
      [(0, 14), (1, 15), (2, 16), (3, 17), (4, 18), (5, 19), (6, 20), (7, 21), (8, 22), (9, 23)] (by kernel_rfl) (by kernel_rfl) (by kernel_rfl) (by kernel_rfl)
      (fun _ => Below.refl _ _) ⟨fun _ => BelB.refl _ _, trivial⟩
      ⟨⟨.inr (fun _ _ _ h _ => h), ⟨.inr (.inr (fun _ _ _ h _ => h)), trivial⟩⟩,
    ⟨.inr (fun _ _ _ h _ => h), ⟨.inr (.inr (fun _ _ _ h _ => h)), trivial⟩⟩,
    ⟨.inr (fun _ _ _ h _ => h), ⟨.inr (.inr (fun _ _ _ h _ => h)), trivial⟩⟩,
    ⟨.inr (fun _ _ _ h _ => h), ⟨.inr (.inr (fun _ _ _ h _ => h)), trivial⟩⟩,
    ⟨.inr (fun _ _ _ h _ => h), ⟨.inr (.inr (fun _ _ _ h _ => h)), trivial⟩⟩,
    ⟨.inr (fun _ _ _ h _ => h), ⟨.inr (.inr (fun _ _ _ h _ => h)), trivial⟩⟩,
    ⟨.inr (fun _ _ _ h _ => h), ⟨.inr (.inr (fun _ _ _ h _ => h)), trivial⟩⟩,
    ⟨.inr (fun _ _ _ h _ => h), ⟨.inr (.inr (fun _ _ _ h _ => h)), trivial⟩⟩,
    ⟨.inr (fun _ _ _ h _ => h), ⟨.inr (.inr (fun _ _ _ h _ => h)), trivial⟩⟩,
    ⟨.inr (fun _ _ _ h _ => h), ⟨.inr (.inl rfl), trivial⟩⟩, trivial⟩ ⟨fun vs vs' x h _ hv => (by dsimp only at hv ⊢; first | (rw [← h]; exact hv) | exact hv),
    fun vs vs' x h _ hv => (by dsimp only at hv ⊢; first | (rw [← h]; exact hv) | exact hv),
    fun vs vs' x h _ hv => (by dsimp only at hv ⊢; first | (rw [← h]; exact hv) | exact hv),
    fun vs vs' x h _ hv => (by dsimp only at hv ⊢; first | (rw [← h]; exact hv) | exact hv),
    fun vs vs' x h _ hv => (by dsimp only at hv ⊢; first | (rw [← h]; exact hv) | exact hv),
    fun vs vs' x h _ hv => (by dsimp only at hv ⊢; first | (rw [← h]; exact hv) | exact hv),
    fun vs vs' x h _ hv => (by dsimp only at hv ⊢; first | (rw [← h]; exact hv) | exact hv),
    fun vs vs' x h _ hv => (by dsimp only at hv ⊢; first | (rw [← h]; exact hv) | exact hv),
    fun vs vs' x h _ hv => (by dsimp only at hv ⊢; first | (rw [← h]; exact hv) | exact hv),
    fun _ _ _ _ _ _ => trivial, trivial⟩ (⟨(show TwoI a0 a1 lo w q r n e2 xw from ⟨I1.out, I2.out, I3.out⟩).up (below_drewN (Below.refl _ _) 1), by rw [HWZ.out]; exact BelB.of (below_drewN (Below.refl _ _) 1) I2.out.size⟩) ⟨?_, ?_, ?_, ?_, ?_, ?_, ?_, ?_, ?_, ?_, trivial⟩ ?_
    · intro vals xw f hf1 hf2 hf3 hI hF
      clear hf2 hf3
      dsimp only [owes4, bare]
      simp only [putsD, Act.put, List.setIfInBounds_toArray, List.set_cons_zero, List.set_cons_succ]
      go_wp2
      exact ⟨rfl, rfl, ⟨fun h9 => absurd h9 (Nat.ne_of_beq_eq_false rfl), fun _ => Below.refl _ _⟩, hI⟩
    · intro vals xw f hf1 hf2 hf3 hI hF
      clear hf2 hf3
      dsimp only [owes4, bare]
      simp only [putsD, Act.put, List.setIfInBounds_toArray, List.set_cons_zero, List.set_cons_succ]
      go_wp2
      exact ⟨rfl, rfl, ⟨fun h9 => absurd h9 (Nat.ne_of_beq_eq_false rfl), fun _ => Below.refl _ _⟩, hI⟩
    · intro vals xw f hf1 hf2 hf3 hI hF
      clear hf2 hf3
      simp only [saysD, List.getD_cons_zero, List.getD_cons_succ, and_true] at hF
      have e15 := hF
      dsimp only [owes4, bare]
      simp only [putsD, Act.put, List.setIfInBounds_toArray, List.set_cons_zero, List.set_cons_succ]
      simp only [e15]
      go_wp2
      exact ⟨rfl, rfl, ⟨fun h9 => absurd h9 (Nat.ne_of_beq_eq_false rfl), fun _ => Below.refl _ _⟩, hI⟩
    · intro vals xw f hf1 hf2 hf3 hI hF
      clear hf2 hf3
      simp only [saysD, List.getD_cons_zero, List.getD_cons_succ, and_true] at hF
      have e16 := hF
      dsimp only [owes4, bare]
      simp only [putsD, Act.put, List.setIfInBounds_toArray, List.set_cons_zero, List.set_cons_succ]
      simp only [e16]
      go_wp2
      exact ⟨rfl, rfl, ⟨fun h9 => absurd h9 (Nat.ne_of_beq_eq_false rfl), fun _ => Below.refl _ _⟩, hI⟩
    · intro vals xw f hf1 hf2 hf3 hI hF
      clear hf2 hf3
      simp only [saysD, List.getD_cons_zero, List.getD_cons_succ, and_true] at hF
      have e17 := hF
      dsimp only [owes4, bare]
      simp only [putsD, Act.put, List.setIfInBounds_toArray, List.set_cons_zero, List.set_cons_succ]
      simp only [e17]
      have c8 := (cell_of_block hI.1.2.1.box 0).1
      go_wp2
      exact ⟨rfl, rfl, ⟨fun h9 => absurd h9 (Nat.ne_of_beq_eq_false rfl), fun _ => Below.refl _ _⟩, hI⟩
    · intro vals xw f hf1 hf2 hf3 hI hF
      clear hf2 hf3
      dsimp only [owes4, bare]
      simp only [putsD, Act.put, List.setIfInBounds_toArray, List.set_cons_zero, List.set_cons_succ]
      have c9 := (cell_of_block (kd_of hI.1.1 HCc.out (by decide) (by decide) (by decide)) 0).1
      go_wp2
      exact ⟨rfl, rfl, ⟨fun h9 => absurd h9 (Nat.ne_of_beq_eq_false rfl), fun _ => Below.refl _ _⟩, hI⟩
    · intro vals xw f hf1 hf2 hf3 hI hF
      clear hf2 hf3
      simp only [saysD, List.getD_cons_zero, List.getD_cons_succ, and_true] at hF
      obtain ⟨e18, e19⟩ := hF
      dsimp only [owes4, bare]
      simp only [putsD, Act.put, List.setIfInBounds_toArray, List.set_cons_zero, List.set_cons_succ]
      simp only [e18, e19]
      have HI := Lib.hid hI
      clear hI
      go_wp2_with fail
      refine (has_any lo r n n.gs c0 xw HI.out.1.2.2 HNB.out.2.2 HNB.out.1 HNB.out.2.1 hc0 hc1).mono ?_
      rintro e wx ⟨rfl, hb9⟩
      rw [HMK.out]
      have HB9 := Lib.hid hb9
      clear hb9
      go_wp2
      exact ⟨rfl, rfl, ⟨fun h9 => absurd h9 (Nat.ne_of_beq_eq_false rfl), fun _ => HB9.out⟩, HI.out.1.up HB9.out, HI.out.2.trans (.of HB9.out HI.out.1.2.1.size)⟩
    · intro vals xw f hf1 hf2 hf3 hI hF
      clear hf2 hf3
      simp only [saysD, List.getD_cons_zero, List.getD_cons_succ, and_true] at hF
      have e20 := hF
      dsimp only [owes4, bare]
      simp only [putsD, Act.put, List.setIfInBounds_toArray, List.set_cons_zero, List.set_cons_succ]
      simp only [e20]
      go_wp2
      exact ⟨rfl, rfl, ⟨fun h9 => absurd h9 (Nat.ne_of_beq_eq_false rfl), fun _ => Below.refl _ _⟩, hI⟩
    · intro vals xw f hf1 hf2 hf3 hI hF
      clear hf2 hf3
      dsimp only [owes4, bare]
      simp only [putsD, Act.put, List.setIfInBounds_toArray, List.set_cons_zero, List.set_cons_succ]
      have c8 : xw.cell? ⟨0, 0, none⟩ = some (sentV a0) := hI.1.2.1.g.c0
      go_wp2
      exact ⟨rfl, rfl, ⟨fun h9 => absurd h9 (Nat.ne_of_beq_eq_false rfl), fun _ => Below.refl _ _⟩, hI⟩
    · intro vals xw f hf1 hf2 hf3 hI hF
      clear hf2 hf3
      simp only [saysD, List.getD_cons_zero, List.getD_cons_succ, and_true] at hF
      obtain ⟨e14, e21, e22⟩ := hF
      dsimp only [owes4, bare]
      simp only [putsD, Act.put, List.setIfInBounds_toArray, List.set_cons_zero, List.set_cons_succ]
      simp only [e14, e21, e22]
      obtain ⟨⟨i1, i2, i3⟩, i4⟩ := hI
      have J4 := Lib.hid i4
      clear i4
      rw [hf1] at i2
      have J1 := Lib.hid i1
      have J3 := Lib.hid i3
      have HF9 := Lib.hid (fail_any a0 a1 lo q r e2 (!mk) 0 xw i2)
      rw [show errV a0 a1 (some 0) = sentV a0 from rfl] at HF9
      clear i1 i2 i3
      go_wp2_with fail
      refine HF9.out.mono ?_
      rintro e wx ⟨rfl, hb9, hx9, hk9⟩
      have HB9 := Lib.hid hb9
      have HX9 := Lib.hid hx9
      have HK9 := Lib.hid hk9
      clear hb9 hx9 hk9 HF9
      go_wp2
      exact ⟨rfl, trivial, ⟨fun _ => HB9.out, fun h9 => absurd rfl h9⟩, show TwoI a0 a1 lo w q r n (stE (did f 9 9) e3 e2) wx from (by rw [did_same]; exact ⟨J1.out.trans HB9.out, by rw [HE3.out]; exact HX9.out, J3.out.keep HK9.out⟩), J4.out.trans HB9.out⟩
    · intro vals xw f hall hI hF
      rw [show List.range _ = [0, 1, 2, 3, 4, 5, 6, 7, 8, 9] from rfl] at hF
      simp only [says, List.getD_cons_zero, List.getD_cons_succ, and_true] at hF
      have i9 : TwoI a0 a1 lo w q r n (stE (f 9) e3 e2) xw := hI.1
      have J4 := Lib.hid hI.2
      rw [hall 9 (by decide)] at i9
      have J1 := Lib.hid i9.1
      have J2 := Lib.hid (show Bx a0 a1 lo xw q r e3 from i9.2.1)
      have J3 := Lib.hid i9.2.2
      have y1 := (cell_of_block J2.out.box 1).1
      have HC8 := Lib.hid ((cell_of_block (kd_of J1.out HCc.out (by decide) (by decide) (by decide)) 0).1)
      clear i9 hI hF
      simp only [putsD, Act.put, List.setIfInBounds_toArray, List.set_cons_zero, List.set_cons_succ]
      have HP8 := Lib.hid (HBK.out xw J4.out)
      clear I1 I2 I3 HW2 HBK
      rcases e3 with _ | e3
      · simp only [errV] at y1
        obtain ⟨g1, g2, g3⟩ := HGOOD.out rfl
        obtain ⟨l1, l2, m1⟩ := goodL_iff.1 g1
        obtain ⟨l3, l4, m2⟩ := goodL_iff.1 g2
        have y3 := HC8.out
        have HCH := Lib.hid (choose_any a0 a1 lo q r ⟨n, none⟩ c0 A7 B7 c7 d7 xs ys xw ⟨J2.out, HNB.out, fun _ => J3.out⟩ HP8.out.1 HP8.out.2 (fun _ => ⟨mark_mb HNB.out g3, fun x hx => mark_mb HNB.out (m1 x hx), fun y hy => mark_mb HNB.out (m2 y hy)⟩) (by omega) (by omega))
        have HLN : Hid ((chooseS ⟨n, none⟩ c0 xs ys).2.length ≤ 1000) := Lib.hid (by
          unfold chooseS
          by_cases hl : xs.length = ys.length
          · rw [if_pos (by simp [failE, hl]), eachP_len xs ys _ hl]; omega
          · rw [if_neg (by simp [failE, hl])]; exact Nat.zero_le _)
        clear g1 g2 g3 m1 m2
        go_wp2_with fail
        refine HCH.out.mono ?_
        rintro e w9 ⟨A9, c9, rfl, h1, h2, h3, h4, h5⟩
        have H2 := Lib.hid h2
        have H4 := Lib.hid h4
        have H5 := Lib.hid h5
        clear h2 h3 h4 h5 HCH
        go_wp2
        go_ret
        exact ⟨chooseS ⟨n, none⟩ c0 xs ys, A9, c9, rfl, HLN.out, H2.out, J1.out.trans H4.out, H5.out, by rw [HOUT.out]; exact (if_pos trivial).symm⟩
      · obtain ⟨a, ha⟩ : ∃ a, errV a0 a1 (some e3) = sentV a := by rcases e3 with _ | e3 <;> exact ⟨_, rfl⟩
        simp only [ha] at y1
        clear ha
        go_wp2
        go_ret
        exact ⟨(⟨n, some e3⟩, []), none, 0, rfl, Nat.zero_le _, .nil _ _ _ _, J1.out, ⟨J2.out, HNB.out, fun h => by cases h⟩, by rw [HOUT.out, if_neg (by simp)]; rfl⟩
end Go.Proofs.YtcdlfnhjpjpbjaaDoor

/-! The program's BitsIf, whole. -/
namespace Go.Proofs.YtcdlfnhjpjpbjaaDoor
open Go Go.RowKit

theorem five_boxes (w : World) (o0 o1 o2 o3 o4 : Obj) : Below w.heap.size w (((((w.alloc o0).alloc o1).alloc o2).alloc o3).alloc o4) ∧ (((((w.alloc o0).alloc o1).alloc o2).alloc o3).alloc o4).heap[w.heap.size]? = some o0 ∧ (((((w.alloc o0).alloc o1).alloc o2).alloc o3).alloc o4).heap[w.heap.size + 1]? = some o1 ∧
    (((((w.alloc o0).alloc o1).alloc o2).alloc o3).alloc o4).heap[w.heap.size + 1 + 1]? = some o2 ∧ (((((w.alloc o0).alloc o1).alloc o2).alloc o3).alloc o4).heap[w.heap.size + 1 + 1 + 1]? = some o3 ∧ (((((w.alloc o0).alloc o1).alloc o2).alloc o3).alloc o4).heap[w.heap.size + 1 + 1 + 1 + 1]? = some o4 ∧ (((((w.alloc o0).alloc o1).alloc o2).alloc o3).alloc o4).heap.size = w.heap.size + 1 + 1 + 1 + 1 + 1 := by
  have h0 := heap_alloc_new w o0
  have h1 := heap_alloc_new (w.alloc o0) o1
  have h2 := heap_alloc_new ((w.alloc o0).alloc o1) o2
  have h3 := heap_alloc_new (((w.alloc o0).alloc o1).alloc o2) o3
  have h4 := heap_alloc_new ((((w.alloc o0).alloc o1).alloc o2).alloc o3) o4
  have b1 : Below w.heap.size w (w.alloc o0) := (Below.refl _ _).alloc (Nat.le_refl _) _
  have old : ∀ (u : World) (o : Obj) (k : Nat) (x : Obj), u.heap[k]? = some x → (u.alloc o).heap[k]? = some x := fun u o k x hx => (((Below.refl _ _).alloc (Nat.le_refl u.heap.size) o : Below u.heap.size u (u.alloc o)).block k (Array.getElem?_eq_some_iff.1 hx).1).trans hx
  refine ⟨(((b1.alloc (by simp) _).alloc (by simp; omega) _).alloc (by simp; omega) _).alloc (by simp; omega) _, old _ _ _ _ (old _ _ _ _ (old _ _ _ _ (old _ _ _ _ h0))), old _ _ _ _ (old _ _ _ _ (old _ _ _ _ (by simpa using h1))), old _ _ _ _ (old _ _ _ _ (by simpa using h2)), old _ _ _ _ (by simpa using h3), by simpa using h4, by simp⟩
set_option maxRecDepth 100000 in
set_option maxHeartbeats 4000000 in
theorem implBitsIf_any (a0 a1 : Addr) (l0 : Nat) (n : N) (c0 : Int) (xs ys : List Int) (A X Y : Option Addr) (c cx cy : Nat) (w : World) (hg : Glb a0 a1 l0 w) (hl0 : l0 ≤ w.heap.size) (h : Lay.gate.Rd w A n.gs) (hn : n.gs.length ≤ 1048576) (hA : A = none → n.gs.length = 0) (hi : okInts n)
    (hX : Lay.int.Rd w X xs) (hY : Lay.int.Rd w Y ys) (hxi : i64s xs) (hyi : i64s ys) (hci : -9223372036854775808 ≤ c0 ∧ c0 ≤ 9223372036854775807) (hlx : xs.length ≤ 1048576) (hly : ys.length ≤ 1048576) :
    Calls Tryd.prog 9 #[.agg #[.int .i64 n.ins, .slice A n.gs.length c], .int .i64 c0, .slice X xs.length cx, .slice Y ys.length cy] w (RetBits (pickN (netOk n) (bitsIfR n c0 xs ys)) w) := by
  obtain ⟨hW, hB0, hB1, hB2, hB3, hB4, hWS⟩ := five_boxes w (.cells #[.int .i64 n.ins, .slice A n.gs.length c] 29) (.cells #[.int .i64 c0] 3) (.cells #[.slice X xs.length cx] 25) (.cells #[.slice Y ys.length cy] 25) (.cells #[.int .i64 0, .slice none 0 0] 29)
  have HW := Lib.hid hW
  have HB0 := Lib.hid hB0
  have HB1 := Lib.hid hB1
  have HB2 := Lib.hid hB2
  have HB3 := Lib.hid hB3
  have HB4 := Lib.hid hB4
  have HWS := Lib.hid hWS
  have z0 := (cell_of_block hB0 0).1
  have z1 := (cell_of_block hB0 1).1
  have HCL := Lib.hid (built_if a0 a1 l0 (w.heap.size + 1 + 1) (w.heap.size + 1 + 1 + 1) (w.heap.size + 1) A c n _ (bitsIfR n c0 xs ys)
    (fun z => z.heap[w.heap.size + 1 + 1]? = some (.cells #[.slice X xs.length cx] 25 (0, 0)) ∧ z.heap[w.heap.size + 1 + 1 + 1]? = some (.cells #[.slice Y ys.length cy] 25 (0, 0)) ∧ z.heap[w.heap.size + 1]? = some (.cells #[.int .i64 c0] 3 (0, 0)) ∧ Lay.int.Sl z (fun b => b < w.heap.size) X xs ∧ Lay.int.Sl z (fun b => b < w.heap.size) Y ys)
    (hg.below (hW.mono hl0)) (Nat.le_trans hl0 hW.size) (fun x hx => ⟨(hx.block _ (by rw [hWS]; omega)).trans hB2, (hx.block _ (by rw [hWS]; omega)).trans hB3, (hx.block _ (by rw [hWS]; omega)).trans hB1, (hX.below (bthen hW hx) (fun _ h => h)), hY.below (bthen hW hx) (fun _ h => h)⟩)
    (h.up hW) hn hA hi (fun lo q r z hz _ hk hlo => bitsIf1_any a0 a1 lo q r _ _ _ n X Y cx cy xs ys c0 z hz hk.1 hk.2.1 hk.2.2.1 (hk.2.2.2.1.mono fun b hb => by rw [hWS] at hlo; omega) (hk.2.2.2.2.mono fun b hb => by rw [hWS] at hlo; omega) hxi hyi hci hlx hly))
  clear hg h hA hi hX hY hxi hyi hlx hly hB0 hB1 hB2 hB3 hB4 hW hWS
  generalize hout : pickN (netOk n) (bitsIfR n c0 xs ys) = out at *
  have HOUT := Lib.hid hout
  clear hout
  go_enter Tryd.func9, Tryd.ntmps9
  go_wp2_with fail
  refine HCL.out.mono ?_
  generalize ((((w.alloc (.cells #[.int .i64 n.ins, .slice A n.gs.length c] 29)).alloc (.cells #[.int .i64 c0] 3)).alloc (.cells #[.slice X xs.length cx] 25)).alloc (.cells #[.slice Y ys.length cy] 25)).alloc (.cells #[.int .i64 0, .slice none 0 0] 29) = W at *
  rintro e w1 ⟨A1, B1, c1, d1, rfl, h1, h2, h3, h4, h5, h6⟩
  have hb4 := (h5.block _ (lt_of_block HB4.out)).trans HB4.out
  have HX4 := Lib.hid hb4
  have j6 := (cell_of_block hb4 0).1
  have j7 := (cell_of_block hb4 1).1
  have f6 := (cell_of_block hb4 0).2
  have f7 := (cell_of_block hb4 1).2
  have H3 := Lib.hid h3
  have H4 := Lib.hid h4
  have H5 := Lib.hid h5
  clear hb4 h3 h4 h5 HCL
  go_wp2
  have hs1 := heap_set_same w1 (w.heap.size + 1 + 1 + 1 + 1) 0 (.int .i64 out.1.ins) _ _ HX4.out
  have hs2 := heap_set_same _ (w.heap.size + 1 + 1 + 1 + 1) 1 (.slice A1 out.1.gs.length c1) _ _ hs1
  have hs3 : w1.grownBy ((w1.setCell ⟨w.heap.size + 1 + 1 + 1 + 1, 0, none⟩ (.int .i64 out.1.ins)).setCell ⟨w.heap.size + 1 + 1 + 1 + 1, 1, none⟩ (.slice A1 out.1.gs.length c1)) (some (w.heap.size + 1 + 1 + 1 + 1)) := only_setCell (only_setCell (World.grownBy.refl _ _) _ _) _ _
  have k5 := (cell_of_block hs2 0).1
  have k6 := (cell_of_block hs2 1).1
  have kf5 := (cell_of_block hs2 0).2
  have kf6 := (cell_of_block hs2 1).2
  refine bodyPost_ret (v := .tuple #[.agg #[.int .i64 out.1.ins, .slice A1 out.1.gs.length c1], .slice B1 out.2.length d1]) (by simp [results, Tryd.results9, go_sem, k5, k6, kf5, kf6]) rfl ?_
  have hlt : w.heap.size + 1 + 1 + 1 + 1 < W.heap.size := by rw [HWS.out]; omega
  exact ⟨A1, B1, c1, d1, rfl, h1, h2, own_mono9 (own_grown9 H3.out hs3 hlt) HW.out.size, own_mono9 (own_grown9 H4.out hs3 hlt) HW.out.size, (bthen HW.out H5.out).grown hs3 (bthen HW.out H5.out).size (fun k hk => by injection hk with hk; omega), h6⟩
end Go.Proofs.YtcdlfnhjpjpbjaaDoor

/-! The reference's gates with room: l7And, l7Xor, l7Or, l7One. -/
namespace Go.Proofs.YtcdlfnhjpjpbjaaDoor
open Go Go.RowKit

theorem Lay.Sl.set_ne {α : Type} {L : Lay α} {w : World} {F : Nat → Prop} {A : Option Addr} {xs : List α} (h : L.Sl w F A xs) (p : Addr) (u : Value) (hne : ∀ b, F b → b ≠ p.block) : L.Sl (w.setCell p u) F A xs := h.keep fun b hb => heap_setCell_other _ _ _ _ (hne b hb)
/-- A net with room or without it, and a number; what it shares memory with is told by F. -/
def RetK (F : Nat → Prop) (w : World) (res : (N × Bool) × Int) (e : Ending) (w' : World) : Prop :=
  ∃ A c, e = .returned (.tuple #[.agg #[.int .i64 res.1.1.ins, .slice A res.1.1.gs.length c, .bool res.1.2], .int .i64 res.2]) ∧ (A = none → res.1.1.gs.length = 0) ∧ Lay.gate.Sl w' (fun b => F b ∨ (w.heap.size ≤ b ∧ b < w'.heap.size)) A res.1.1.gs ∧ Below w.heap.size w w'
/-- The three cells of a net with room, written. -/
abbrev st3 (w : World) (h : Nat) (u0 u1 u2 : Value) : World := ((w.setCell ⟨h, 0, none⟩ u0).setCell ⟨h, 1, none⟩ u1).setCell ⟨h, 2, none⟩ u2
theorem st3_same {w : World} {h : Nat} {v0 v1 v2 : Value} {t : TypeId} (hb : w.heap[h]? = some (.cells #[v0, v1, v2] t (0, 0))) (u0 u1 u2 : Value) : (st3 w h u0 u1 u2).heap[h]? = some (.cells #[u0, u1, u2] t (0, 0)) :=
  heap_set_same _ h 2 u2 _ _ (heap_set_same _ h 1 u1 _ _ (heap_set_same w h 0 u0 _ _ hb))
theorem st3_other {w : World} {h b : Nat} {u0 u1 u2 : Value} (hb : b ≠ h) : (st3 w h u0 u1 u2).heap[b]? = w.heap[b]? :=
  (heap_setCell_other _ _ _ _ hb).trans ((heap_setCell_other _ _ _ _ hb).trans (heap_setCell_other _ _ _ _ hb))
theorem st3_below {B : Nat} {a w : World} {h : Nat} (hb : Below B a w) (hh : B ≤ h) (u0 u1 u2 : Value) : Below B a (st3 w h u0 u1 u2) := below_set (below_set (below_set hb hh _) hh _) hh _
theorem st3_sl {α : Type} {L : Lay α} {w : World} {h : Nat} {F : Nat → Prop} {A : Option Addr} {xs : List α} (hs : L.Sl w F A xs) (hne : ∀ b, F b → b ≠ h) (u0 u1 u2 : Value) : L.Sl (st3 w h u0 u1 u2) F A xs := hs.keep fun b hb => st3_other (hne b hb)
theorem st3_size {w : World} {h : Nat} {u0 u1 u2 : Value} : (st3 w h u0 u1 u2).heap.size = w.heap.size := by simp [st3, World.setCell]
set_option maxHeartbeats 2000000 in
theorem l7And_any (F : Nat → Prop) (A : Option Addr) (c : Nat) (k : N × Bool) (a b : Int) (w : World) (h : Lay.gate.Sl w F A k.1.gs) (hF : ∀ b, F b → b < w.heap.size) (hA : A = none → k.1.gs.length = 0) (hnb : NB k.1) (ha : RB a) (hb : RB b) :
    Calls Tryd.prog 66 #[.agg #[.int .i64 k.1.ins, .slice A k.1.gs.length c, .bool k.2], .int .i64 a, .int .i64 b] w (RetK F w (opsR.and k a b)) := by
  show Calls _ _ _ _ (RetK F w (stepR k (and1 k.1 a b)))
  obtain ⟨n, ok⟩ := k
  dsimp only at h hA hnb ⊢
  obtain ⟨n0, n1, n2⟩ := hnb
  obtain ⟨a0, a1⟩ := ha
  obtain ⟨b0, b1⟩ := hb
  obtain ⟨hW, hB0, hB1, hWS⟩ := two_boxes w (.cells #[.int .i64 n.ins, .slice A n.gs.length c, .bool ok] 55) (.cells #[.int .i64 0, .slice none 0 0, .bool false] 55)
  have HB0 := Lib.hid hB0
  have HB1 := Lib.hid hB1
  have HW := Lib.hid hW
  have HWS := Lib.hid hWS
  have H := Lib.hid h
  have HF := Lib.hid hF
  have z0 := (cell_of_block hB0 0).1
  have z1 := (cell_of_block hB0 1).1
  have z2 := (cell_of_block hB0 2).1
  have HCL := Lib.hid (l6And_any F A c n a b _ (h.below hW hF) (fun b hb => Nat.lt_of_lt_of_le (hF b hb) hW.size) (by omega) hA n0 (by omega) (by omega) (by omega))
  clear h hF hB0 hB1 hWS hW
  cases ok
  · have y0 := (cell_of_block HB1.out 0).1
    have y1 := (cell_of_block HB1.out 1).1
    have y2 := (cell_of_block HB1.out 2).1
    have f0 := (cell_of_block HB1.out 0).2
    have f1 := (cell_of_block HB1.out 1).2
    have f2 := (cell_of_block HB1.out 2).2
    clear HCL
    go_enter Tryd.func66, Tryd.ntmps66
    go_wp2
    refine bodyPost_ret (v := .tuple #[.agg #[.int .i64 n.ins, .slice A n.gs.length c, .bool false], .int .i64 1]) (by simp [results, Tryd.results66, go_sem]) rfl ?_
    rw [show stepR (n, false) (and1 n a b) = ((n, false), 1) from if_pos rfl]
    exact ⟨A, c, rfl, hA, (H.out.below (two_boxes w _ _).1 HF.out).mono fun _ => .inl, (two_boxes w _ _).1⟩
  · go_enter Tryd.func66, Tryd.ntmps66
    go_wp2_with fail
    refine HCL.out.mono ?_
    generalize (w.alloc (.cells #[.int .i64 n.ins, .slice A n.gs.length c, .bool true] 55)).alloc (.cells #[.int .i64 0, .slice none 0 0, .bool false] 55) = W at *
    rw [show stepR (n, true) (and1 n a b) = (((and1 n a b).1, decide ((and1 n a b).2 ≠ 0)), (and1 n a b).2) from if_neg (by simp)]
    generalize and1 n a b = m at *
    rintro e w1 ⟨A1, c1, rfl, hA1, hs1, hb1⟩
    have HS1 := Lib.hid hs1
    have HX1 := Lib.hid ((hb1.block _ (lt_of_block HB1.out)).trans HB1.out)
    have HW1 := Lib.hid hb1
    clear hs1 hb1 HCL z0 z1 z2
    have hal : Below w1.heap.size w1 (w1.alloc (.cells #[.int .i64 m.1.ins, .slice A1 m.1.gs.length c1] 29)) := (Below.refl _ _).alloc (Nat.le_refl _) _
    have hx2 := (hal.block _ (lt_of_block HX1.out)).trans HX1.out
    have y0 := (cell_of_block hx2 0).1
    have y1 := (cell_of_block hx2 1).1
    have y2 := (cell_of_block hx2 2).1
    have f0 := (cell_of_block hx2 0).2
    have f1 := (cell_of_block hx2 1).2
    have f2 := (cell_of_block hx2 2).2
    have HX2 := Lib.hid hx2
    have HAL := Lib.hid hal
    clear hx2 hal
    go_wp2
    generalize hW2 : w1.alloc (.cells #[.int .i64 m.1.ins, .slice A1 m.1.gs.length c1] 29) = W2 at *
    have hs := st3_same HX2.out (.int .i64 m.1.ins) (.slice A1 m.1.gs.length c1) (.bool (m.2 != 0))
    have k5 := (cell_of_block hs 0).1
    have k6 := (cell_of_block hs 1).1
    have k7 := (cell_of_block hs 2).1
    have kf5 := (cell_of_block hs 0).2
    have kf6 := (cell_of_block hs 1).2
    have kf7 := (cell_of_block hs 2).2
    refine bodyPost_ret (v := .tuple #[.agg #[.int .i64 m.1.ins, .slice A1 m.1.gs.length c1, .bool (m.2 != 0)], .int .i64 m.2]) (by simp [results, Tryd.results66, go_sem, k5, k6, k7, kf5, kf6, kf7]) rfl ?_
    have hd : (m.2 != 0) = decide (m.2 ≠ 0) := by by_cases h : m.2 = 0 <;> simp [h]
    rw [hd]
    have hsz := HAL.out.size
    have hsz1 := HW1.out.size
    refine ⟨A1, c1, rfl, hA1, (st3_sl (h := w.heap.size + 1) (HS1.out.below HAL.out (fun b hb => ?_)) (fun b hb => ?_) _ _ _).mono (fun b hb => ?_), st3_below (bthen (bthen HW.out HW1.out) HAL.out) (by omega) _ _ _⟩
    · rcases hb with hb | hb
      · have := HF.out b hb; have := HW.out.size; omega
      · exact hb.2
    · rcases hb with hb | hb
      · have := HF.out b hb; omega
      · have := HWS.out; omega
    · rcases hb with hb | hb
      · exact .inl hb
      · exact .inr ⟨by have := HWS.out; omega, by rw [st3_size]; omega⟩
/-- The variable of a net with room, the result's cells, ahead of the rest. -/
structure KS (F : Nat → Prop) (w x : World) (k : N × Bool) (A : Option Addr) (c : Nat) : Prop where
  bel : Below w.heap.size w x
  var : x.heap[w.heap.size]? = some (.cells #[.int .i64 k.1.ins, .slice A k.1.gs.length c, .bool k.2] 55 (0, 0))
  res : x.heap[w.heap.size + 1]? = some (.cells #[.int .i64 0, .slice none 0 0, .bool false] 55 (0, 0))
  row : Lay.gate.Sl x (fun b => F b ∨ (w.heap.size + 2 ≤ b ∧ b < x.heap.size)) A k.1.gs
  nil : A = none → k.1.gs.length = 0
theorem KS.lt {F : Nat → Prop} {w x : World} {k : N × Bool} {A : Option Addr} {c : Nat} (h : KS F w x k A c) (hF : ∀ b, F b → b < w.heap.size) : ∀ b, (fun b => F b ∨ (w.heap.size + 2 ≤ b ∧ b < x.heap.size)) b → b < x.heap.size := fun b hb => by
  rcases hb with hb | hb
  · have := hF b hb; have := h.bel.size; omega
  · exact hb.2
theorem KS.up {F : Nat → Prop} {w x x' : World} {k : N × Bool} {A : Option Addr} {c : Nat} (h : KS F w x k A c) (hF : ∀ b, F b → b < w.heap.size) (hb : Below x.heap.size x x') : KS F w x' k A c :=
  ⟨bthen h.bel hb, (hb.block _ (lt_of_block h.var)).trans h.var, (hb.block _ (lt_of_block h.res)).trans h.res, (h.row.below hb (h.lt hF)).mono fun b hb' => hb'.imp id fun h9 => ⟨h9.1, Nat.lt_of_lt_of_le h9.2 hb.size⟩, h.nil⟩
theorem KS.step {F : Nat → Prop} {w x x' : World} {k k' : N × Bool} {A A' : Option Addr} {c c' : Nat} (h : KS F w x k A c) (hF : ∀ b, F b → b < w.heap.size) (hs : Lay.gate.Sl x' (fun b => (fun b => F b ∨ (w.heap.size + 2 ≤ b ∧ b < x.heap.size)) b ∨ (x.heap.size ≤ b ∧ b < x'.heap.size)) A' k'.1.gs) (hb : Below x.heap.size x x') (hn : A' = none → k'.1.gs.length = 0) :
    KS F w (st3 x' w.heap.size (.int .i64 k'.1.ins) (.slice A' k'.1.gs.length c') (.bool k'.2)) k' A' c' := by
  have hv := (hb.block _ (lt_of_block h.var)).trans h.var
  have hr := (hb.block _ (lt_of_block h.res)).trans h.res
  have hx := lt_of_block h.res
  have hsz := hb.size
  refine ⟨st3_below (bthen h.bel hb) (Nat.le_refl _) _ _ _, st3_same hv _ _ _, (st3_other (by omega)).trans hr, (st3_sl (h := w.heap.size) hs (fun b hb' => ?_) _ _ _).mono (fun b hb' => ?_), hn⟩
  · rcases hb' with (hb' | hb') | hb'
    · have := hF b hb'; omega
    · omega
    · omega
  · rw [st3_size]
    rcases hb' with (hb' | hb') | hb'
    · exact .inl hb'
    · exact .inr ⟨hb'.1, by omega⟩
    · exact .inr ⟨by omega, hb'.2⟩
theorem KS.two {F : Nat → Prop} {w : World} {k : N × Bool} {A : Option Addr} {c : Nat} (h : Lay.gate.Sl w F A k.1.gs) (hF : ∀ b, F b → b < w.heap.size) (hA : A = none → k.1.gs.length = 0) : KS F w ((w.alloc (.cells #[.int .i64 k.1.ins, .slice A k.1.gs.length c, .bool k.2] 55)).alloc (.cells #[.int .i64 0, .slice none 0 0, .bool false] 55)) k A c := by
  obtain ⟨hW, h0, h1, _⟩ := two_boxes w (.cells #[.int .i64 k.1.ins, .slice A k.1.gs.length c, .bool k.2] 55) (.cells #[.int .i64 0, .slice none 0 0, .bool false] 55)
  exact ⟨hW, h0, h1, (h.below hW hF).mono fun _ => .inl, hA⟩
theorem KS.done {F : Nat → Prop} {w x : World} {k : N × Bool} {A : Option Addr} {c : Nat} {m : Int} (h : KS F w x k A c) (hF : ∀ b, F b → b < w.heap.size) : RetK F w (k, m) (.returned (.tuple #[.agg #[.int .i64 k.1.ins, .slice A k.1.gs.length c, .bool k.2], .int .i64 m])) (st3 x (w.heap.size + 1) (.int .i64 k.1.ins) (.slice A k.1.gs.length c) (.bool k.2)) := by
  refine ⟨A, c, rfl, h.nil, (st3_sl (h := w.heap.size + 1) h.row (fun b hb => ?_) _ _ _).mono (fun b hb => ?_), st3_below h.bel (by omega) _ _ _⟩
  · rcases hb with hb | hb
    · have := hF b hb; omega
    · omega
  · rw [st3_size]
    exact hb.imp id fun h9 => ⟨by omega, h9.2⟩
theorem KS.out {F : Nat → Prop} {w x x' : World} {k k' : N × Bool} {A A' : Option Addr} {c c' : Nat} {m : Int} (h : KS F w x k A c) (hF : ∀ b, F b → b < w.heap.size) (hs : Lay.gate.Sl x' (fun b => (fun b => F b ∨ (w.heap.size + 2 ≤ b ∧ b < x.heap.size)) b ∨ (x.heap.size ≤ b ∧ b < x'.heap.size)) A' k'.1.gs) (hb : Below x.heap.size x x') (hn : A' = none → k'.1.gs.length = 0) :
    RetK F w (k', m) (.returned (.tuple #[.agg #[.int .i64 k'.1.ins, .slice A' k'.1.gs.length c', .bool k'.2], .int .i64 m])) (st3 x' (w.heap.size + 1) (.int .i64 k'.1.ins) (.slice A' k'.1.gs.length c') (.bool k'.2)) := by
  have hx := lt_of_block h.res
  refine ⟨A', c', rfl, hn, (st3_sl (h := w.heap.size + 1) hs (fun b hb' => ?_) _ _ _).mono (fun b hb' => ?_), st3_below (bthen h.bel hb) (by omega) _ _ _⟩
  · rcases hb' with (hb' | hb') | hb'
    · have := hF b hb'; omega
    · omega
    · omega
  · rw [st3_size]
    have hsz := hb.size
    rcases hb' with (hb' | hb') | hb'
    · exact .inl hb'
    · exact .inr ⟨by omega, by omega⟩
    · exact .inr ⟨by omega, hb'.2⟩
set_option maxHeartbeats 2000000 in
theorem l7Or_any (F : Nat → Prop) (A : Option Addr) (c : Nat) (k : N × Bool) (a b : Int) (w : World) (h : Lay.gate.Sl w F A k.1.gs) (hF : ∀ b, F b → b < w.heap.size) (hA : A = none → k.1.gs.length = 0) (hnb : NB k.1) (ha : RB a) (hb : RB b) :
    Calls Tryd.prog 67 #[.agg #[.int .i64 k.1.ins, .slice A k.1.gs.length c, .bool k.2], .int .i64 a, .int .i64 b] w (RetK F w (run opsR (orP a b) k)) := by
  have K0 := KS.two (c := c) h hF hA
  have HF := Lib.hid hF
  have HNB := Lib.hid hnb
  clear h hA
  have Ra := Lib.hid ha
  obtain ⟨a0, a1⟩ := ha
  have Rb := Lib.hid hb
  obtain ⟨b0, b1⟩ := hb
  show Calls _ _ _ _ (RetK F w ((opsR.and k (-a) (-b)).1, -(opsR.and k (-a) (-b)).2))
  have HM := Lib.hid (stepR_nb (r := and1 k.1 (-a) (-b)) (k := k) hnb (and1_nb hnb Ra.out.neg Rb.out.neg)).2
  rw [show stepR k (and1 k.1 (-a) (-b)) = opsR.and k (-a) (-b) from rfl] at HM
  have y0 := (cell_of_block K0.var 0).1
  have y1 := (cell_of_block K0.var 1).1
  have y2 := (cell_of_block K0.var 2).1
  have HC := Lib.hid (l7And_any _ A c k (-a) (-b) _ K0.row (K0.lt HF.out) K0.nil hnb Ra.out.neg Rb.out.neg)
  generalize hm : opsR.and k (-a) (-b) = m at *
  have Hm := Lib.hid hm
  clear hm
  have K0 := Lib.hid K0
  go_enter Tryd.func67, Tryd.ntmps67
  go_wp2_with fail
  refine HC.out.mono ?_
  generalize hX0 : (w.alloc (.cells #[.int .i64 k.1.ins, .slice A k.1.gs.length c, .bool k.2] 55)).alloc (.cells #[.int .i64 0, .slice none 0 0, .bool false] 55) = X0 at *
  clear hX0
  rintro e z1 ⟨A1, c1, rfl, hn9, hs9, hb9⟩
  have hv9 := (hb9.block _ (lt_of_block K0.out.var)).trans K0.out.var
  clear y0 y1 y2
  have y0 := (cell_of_block hv9 0).1
  have y1 := (cell_of_block hv9 1).1
  have y2 := (cell_of_block hv9 2).1
  have f0 := (cell_of_block hv9 0).2
  have f1 := (cell_of_block hv9 1).2
  have f2 := (cell_of_block hv9 2).2
  have K9 := K0.out.step (c' := c1) HF.out hs9 hb9 hn9
  dsimp only [st3] at K9
  have K1 := Lib.hid K9
  clear K9 HC hs9 hb9 hn9 hv9 K0
  obtain ⟨hm0, hm1⟩ := HM.out
  have q0 := (cell_of_block K1.out.var 0).1
  have q1 := (cell_of_block K1.out.var 1).1
  have q2 := (cell_of_block K1.out.var 2).1
  have r0 := (cell_of_block K1.out.res 0).1
  have r1 := (cell_of_block K1.out.res 1).1
  have r2 := (cell_of_block K1.out.res 2).1
  have rf0 := (cell_of_block K1.out.res 0).2
  have rf1 := (cell_of_block K1.out.res 1).2
  have rf2 := (cell_of_block K1.out.res 2).2
  go_wp2
  generalize hX9 : ((z1.setCell ⟨w.heap.size, 0, none⟩ (.int .i64 m.1.1.ins)).setCell ⟨w.heap.size, 1, none⟩ (.slice A1 m.1.1.gs.length c1)).setCell ⟨w.heap.size, 2, none⟩ (.bool m.1.2) = X9 at *
  clear hX9
  have hs := st3_same K1.out.res (.int .i64 m.1.1.ins) (.slice A1 m.1.1.gs.length c1) (.bool m.1.2)
  have k5 := (cell_of_block hs 0).1
  have kf5 := (cell_of_block hs 0).2
  have k6 := (cell_of_block hs 1).1
  have kf6 := (cell_of_block hs 1).2
  have k7 := (cell_of_block hs 2).1
  have kf7 := (cell_of_block hs 2).2
  refine bodyPost_ret (v := .tuple #[.agg #[.int .i64 m.1.1.ins, .slice A1 m.1.1.gs.length c1, .bool m.1.2], .int .i64 (-m.2)]) (by simp [results, Tryd.results67, go_sem, k5, k6, k7, kf5, kf6, kf7]) rfl ?_
  exact K1.out.done HF.out
set_option maxHeartbeats 2000000 in
theorem l7One_any (F : Nat → Prop) (A : Option Addr) (c : Nat) (k : N × Bool) (a b d : Int) (w : World) (h : Lay.gate.Sl w F A k.1.gs) (hF : ∀ b, F b → b < w.heap.size) (hA : A = none → k.1.gs.length = 0) (hnb : NB k.1) (ha : RB a) (hb : RB b) (hd : RB d) :
    Calls Tryd.prog 53 #[.agg #[.int .i64 k.1.ins, .slice A k.1.gs.length c, .bool k.2], .int .i64 a, .int .i64 b, .int .i64 d] w (RetK F w (run opsR (muxP a b d) k)) := by
  have K0 := KS.two (c := c) h hF hA
  have HF := Lib.hid hF
  have HNB := Lib.hid hnb
  clear h hA
  have Ra := Lib.hid ha
  obtain ⟨a0, a1⟩ := ha
  have Rb := Lib.hid hb
  obtain ⟨b0, b1⟩ := hb
  have Rd := Lib.hid hd
  obtain ⟨d0, d1⟩ := hd
  show Calls _ _ _ _ (RetK F w (run opsR (orP (opsR.and k a b).2 (opsR.and (opsR.and k a b).1 (-a) d).2) (opsR.and (opsR.and k a b).1 (-a) d).1))
  have HM1 : Hid (NB (opsR.and k a b).1.1 ∧ RB (opsR.and k a b).2) := Lib.hid (stepR_nb (r := and1 k.1 a b) (k := k) hnb (and1_nb hnb Ra.out Rb.out))
  have HM2 : Hid (NB (opsR.and (opsR.and k a b).1 (-a) d).1.1 ∧ RB (opsR.and (opsR.and k a b).1 (-a) d).2) := Lib.hid (stepR_nb (r := and1 (opsR.and k a b).1.1 (-a) d) (k := (opsR.and k a b).1) HM1.out.1 (and1_nb HM1.out.1 Ra.out.neg Rd.out))
  have y0 := (cell_of_block K0.var 0).1
  have y1 := (cell_of_block K0.var 1).1
  have y2 := (cell_of_block K0.var 2).1
  have HC := Lib.hid (l7And_any _ A c k (a) (b) _ K0.row (K0.lt HF.out) K0.nil hnb Ra.out Rb.out)
  generalize hm : opsR.and k a b = m at *
  have Hm := Lib.hid hm
  clear hm
  have K0 := Lib.hid K0
  go_enter Tryd.func53, Tryd.ntmps53
  go_wp2_with fail
  refine HC.out.mono ?_
  generalize hX0 : (w.alloc (.cells #[.int .i64 k.1.ins, .slice A k.1.gs.length c, .bool k.2] 55)).alloc (.cells #[.int .i64 0, .slice none 0 0, .bool false] 55) = X0 at *
  clear hX0
  rintro e z1 ⟨A1, c1, rfl, hn9, hs9, hb9⟩
  have hv9 := (hb9.block _ (lt_of_block K0.out.var)).trans K0.out.var
  clear y0 y1 y2
  have y0 := (cell_of_block hv9 0).1
  have y1 := (cell_of_block hv9 1).1
  have y2 := (cell_of_block hv9 2).1
  have f0 := (cell_of_block hv9 0).2
  have f1 := (cell_of_block hv9 1).2
  have f2 := (cell_of_block hv9 2).2
  have K9 := K0.out.step (c' := c1) HF.out hs9 hb9 hn9
  dsimp only [st3] at K9
  have K1 := Lib.hid K9
  clear K9 HC hs9 hb9 hn9 hv9 K0
  have y0 := (cell_of_block K1.out.var 0).1
  have y1 := (cell_of_block K1.out.var 1).1
  have y2 := (cell_of_block K1.out.var 2).1
  have HC := Lib.hid (l7And_any _ A1 c1 m.1 (-a) (d) _ K1.out.row (K1.out.lt HF.out) K1.out.nil HM1.out.1 Ra.out.neg Rd.out)
  generalize hp : opsR.and m.1 (-a) d = p at *
  have Hp := Lib.hid hp
  clear hp
  go_wp2_with fail
  refine HC.out.mono ?_
  generalize hX1 : ((z1.setCell ⟨w.heap.size, 0, none⟩ (.int .i64 m.1.1.ins)).setCell ⟨w.heap.size, 1, none⟩ (.slice A1 m.1.1.gs.length c1)).setCell ⟨w.heap.size, 2, none⟩ (.bool m.1.2) = X1 at *
  clear hX1
  rintro e z2 ⟨A2, c2, rfl, hn9, hs9, hb9⟩
  have hv9 := (hb9.block _ (lt_of_block K1.out.var)).trans K1.out.var
  clear y0 y1 y2 f0 f1 f2
  have y0 := (cell_of_block hv9 0).1
  have y1 := (cell_of_block hv9 1).1
  have y2 := (cell_of_block hv9 2).1
  have f0 := (cell_of_block hv9 0).2
  have f1 := (cell_of_block hv9 1).2
  have f2 := (cell_of_block hv9 2).2
  have K9 := K1.out.step (c' := c2) HF.out hs9 hb9 hn9
  dsimp only [st3] at K9
  have K2 := Lib.hid K9
  clear K9 HC hs9 hb9 hn9 hv9 K1
  have y0 := (cell_of_block K2.out.var 0).1
  have y1 := (cell_of_block K2.out.var 1).1
  have y2 := (cell_of_block K2.out.var 2).1
  have HC := Lib.hid (l7Or_any _ A2 c2 p.1 (m.2) (p.2) _ K2.out.row (K2.out.lt HF.out) K2.out.nil HM2.out.1 HM1.out.2 HM2.out.2)
  generalize hq : run opsR (orP m.2 p.2) p.1 = q at *
  have Hq := Lib.hid hq
  clear hq
  go_wp2_with fail
  refine HC.out.mono ?_
  generalize hX2 : ((z2.setCell ⟨w.heap.size, 0, none⟩ (.int .i64 p.1.1.ins)).setCell ⟨w.heap.size, 1, none⟩ (.slice A2 p.1.1.gs.length c2)).setCell ⟨w.heap.size, 2, none⟩ (.bool p.1.2) = X2 at *
  clear hX2
  rintro e z9 ⟨A9, c9, rfl, hn9, hs9, hb9⟩
  have hr9 := (hb9.block _ (lt_of_block K2.out.res)).trans K2.out.res
  clear y0 y1 y2 f0 f1 f2
  have r0 := (cell_of_block hr9 0).1
  have r1 := (cell_of_block hr9 1).1
  have r2 := (cell_of_block hr9 2).1
  have rf0 := (cell_of_block hr9 0).2
  have rf1 := (cell_of_block hr9 1).2
  have rf2 := (cell_of_block hr9 2).2
  have HS9 := Lib.hid hs9
  have HB9 := Lib.hid hb9
  have HR9 := Lib.hid hr9
  clear hs9 hb9 hr9 HC
  go_wp2
  have hs := st3_same HR9.out (.int .i64 q.1.1.ins) (.slice A9 q.1.1.gs.length c9) (.bool q.1.2)
  have k5 := (cell_of_block hs 0).1
  have kf5 := (cell_of_block hs 0).2
  have k6 := (cell_of_block hs 1).1
  have kf6 := (cell_of_block hs 1).2
  have k7 := (cell_of_block hs 2).1
  have kf7 := (cell_of_block hs 2).2
  refine bodyPost_ret (v := .tuple #[.agg #[.int .i64 q.1.1.ins, .slice A9 q.1.1.gs.length c9, .bool q.1.2], .int .i64 q.2]) (by simp [results, Tryd.results53, go_sem, k5, k6, k7, kf5, kf6, kf7]) rfl ?_
  exact K2.out.out HF.out HS9.out HB9.out hn9
end Go.Proofs.YtcdlfnhjpjpbjaaDoor

/-! append of one integer onto a row of the call's own, and where the row lies then. -/
namespace Go.Proofs.YtcdlfnhjpjpbjaaDoor
open Go Go.RowKit

theorem wpList_append_int8 {Q : Exit → Act → World → Prop} {ops : Array Oper} {rest : List Oper} {o : Oper} {a : Act} {W : World} {lo : Nat} {A : Option Addr} {c : Nat} {xs ys : List Int} {x : Int} {e' : TypeId} (hgd : o.guard = none) (s y : Operand)
    (ho : o.op = .call { callee := .builtin .append, args := #[s, y], argTypes := #[25, 25] }) (hs : a.eval s = .slice A xs.length c) (hy : a.eval y = .slice (some ⟨W.heap.size, 0, none⟩) 1 1)
    (hown : OwnI W lo (.slice A xs.length c) xs) (hn : xs.length ≤ 2000000) (hlo : lo ≤ W.heap.size) (hys : ys = xs ++ [x])
    (h : ∀ A' c' w', OwnI w' lo (.slice A' ys.length c') ys → W.grownBy w' (Value.slice A xs.length c).ownBlock →
      ((Value.slice A' ys.length c').ownBlock = (Value.slice A xs.length c).ownBlock ∨ ∃ g, (Value.slice A' ys.length c').ownBlock = some g ∧ W.heap.size ≤ g) → wpList Tryd.prog ops Q rest (a.put o.dst (.slice A' ys.length c')) w') :
    wpList Tryd.prog ops Q (o :: rest) a (W.alloc (.cells #[.int .i64 x] e')) := by
  obtain ⟨i0, hi0, hz0, hz1, hz2⟩ := info_parts int_info
  have hal : Below W.heap.size W (W.alloc (.cells #[.int .i64 x] e')) := (Below.refl _ _).alloc (Nat.le_refl _) _
  have hl : ys.length = xs.length + 1 := by rw [hys]; simp
  have hm : ys.map (Value.int .i64) = xs.map (Value.int .i64) ++ [.int .i64 x] := by rw [hys]; simp
  refine wpList_plain hgd fun _ hK => ?_
  obtain ⟨v', w', hrun, ho', hg', _, hbk⟩ := run_append_own_at (P := Tryd.prog) (W.alloc (.cells #[.int .i64 x] e')) lo 25 o.type 3 i0 _ 1 8 Tryd.underlying25 hi0 hz0 hz1 hz2 (by rfl) (by omega)
    (.slice A xs.length c) xs.length (xs.map (Value.int .i64)) (hown.up hal) ⟨W.heap.size, 0, none⟩ 1 1 [.int .i64 x] (by rfl) (fun j u hu => by
      have := World.news_of_block (heap_alloc_new W (.cells #[.int .i64 x] e')) j u hu
      exact this) (by simp; rfl) (by unfold maxLen; omega) (by omega) (Nat.le_trans hlo hal.size)
  rw [← hl, ← hm] at ho'
  obtain ⟨A', c', rfl, _, _⟩ := OwnI.form (xs := ys) ho'
  unfold Oper.wp execOp
  simp only [ho, resolve, invoke, builtin, Sem.run_bind, Sem.run_pure, Result.andThen_ok, List.map_toArray, List.map_cons, List.map_nil, hs, hy, hrun]
  refine hK _ _ (h A' c' w' ho' (grown_then hal hg') ?_)
  rcases hbk with e | e
  · exact .inl e
  · exact .inr ⟨_, e, hal.size⟩
end Go.Proofs.YtcdlfnhjpjpbjaaDoor
