/- The program's builder: bit by bit. Rows of the call's own whose elements may lead on to other blocks; append of one element. No program is named here. Draws: what a reader's user leaves; a number of a list. Drawn regions that draw from a reader; literals. The program's builder: lists of signals, the choice. The program's builder: built. The program's BitsIf. The program's BitsIf, whole. The reference's gates with room: l7And, l7Xor, l7Or, l7One. append of one integer onto a row of the call's own, and where the row lies then. The reference's l7Ifs. The reference's l7Right, l7Told. The reference's BitsIf. Nets and marks as an answer: two rows in two blocks, marked one behind the other; BitsIf in the laws' one form. The program's comparisons: less, same. -/
import Derived.Test.YtjghcaghigebjaaDoorChecked
import Derived.Test.YtjghcaghigebjaaDoorJFnBitsBent0
import Derived.Test.YtjghcaghigebjaaDoorJFnBitsBent1
import Derived.Test.YtjghcaghigebjaaDoorJFnBitsBent2
/-! The program's builder: bit by bit. -/
namespace Go.Proofs.YtjghcaghigebjaaDoor
open Go Go.RowKit

/-- append of one signal onto a row of the call's own, the signal lying in a block of its own. -/
theorem wpList_append_sig2 {Q : Exit → Act → World → Prop} {ops : Array Oper} {rest : List Oper} {o : Oper} {a : Act} {w : World} {lo : Nat} {A : Option Addr} {c : Nat} {xs ys : List Int} {x : Int} {b : Nat} {t : TypeId} {fr : Nat × Nat} (hgd : o.guard = none) (s y : Operand)
    (ho : o.op = .call { callee := .builtin .append, args := #[s, y], argTypes := #[74, 74] }) (hs : a.eval s = .slice A xs.length c) (hy : a.eval y = .slice (some ⟨b, 0, none⟩) 1 1)
    (hown : OwnSg w lo (.slice A xs.length c) xs) (hb : w.heap[b]? = some (.cells #[.int .i64 x] t fr)) (hn : xs.length ≤ 1048576) (hlo : lo ≤ w.heap.size) (hys : ys = xs ++ [x])
    (h : ∀ A' c' w', OwnSg w' lo (.slice A' ys.length c') ys → w.grownBy w' (Value.slice A xs.length c).ownBlock → wpList Tryd.prog ops Q rest (a.put o.dst (.slice A' ys.length c')) w') : wpList Tryd.prog ops Q (o :: rest) a w := by
  obtain ⟨i0, hi0, hz0, hz1, hz2⟩ := info_parts signal_info
  have hl : ys.length = xs.length + 1 := by rw [hys]; simp
  have hc : ys.map (Value.int .i64) = xs.map (Value.int .i64) ++ [.int .i64 x] := by rw [hys]; simp
  refine wpList_append_src (P := Tryd.prog) w hgd s y 74 ho lo 83 i0 _ 1 8 Tryd.underlying74 hi0 hz0 hz1 hz2 (by rfl) (by omega) _ xs.length (xs.map (Value.int .i64)) hs hown (some ⟨b, 0, none⟩) 1 1 [.int .i64 x] hy (src_block hb rfl) (by intro u hu; simp at hu; subst hu; rfl) ys.length hl.symm (by unfold maxLen; omega) (by omega) hlo (by simp) ?_
  intro A' c' w' h2 _ h3
  exact h A' c' w' (by unfold OwnSg; rw [hc]; exact h2) h3
/-- What the append leaves as it was. -/
theorem OwnSg.grown {x x' : World} {base c : Nat} {A : Option Addr} {l : List Int} (h : OwnSg x base (.slice A l.length c) l) (hg : x.grownBy x' (Value.slice A l.length c).ownBlock) (hb : base ≤ x.heap.size) {lo : Nat} (hl : lo ≤ base) : BelS lo x x' ∧ Below base x x' := by
  have hB : Below base x x' := (Below.refl base x).grown hg hb fun g hg' => (h.lt g hg').1
  have hk : ∀ (i : Nat) (o : Obj), x.heap[i]? = some o → (CK o ∨ BK o) → x'.heap[i]? = some o := fun i o hi hc => by
    refine (hg.block i (Array.getElem?_eq_some_iff.1 hi).1 fun e => ?_).trans hi
    rcases h.2 with ⟨e', _⟩ | ⟨g, cap, cur, e', _, hgg, _⟩
    · rw [e'] at e; cases e
    · rw [e'] at e
      injection e with e
      subst e
      rw [hi] at hgg
      injection hgg with hgg
      subst hgg
      rcases hc with hc | hc
      · exact sig_nck.1 hc
      · exact sig_nck.2 hc
  exact ⟨⟨hB.mono hl, fun i o hi hc => hk i o hi (.inl hc), fun i o hi hc => hk i o hi (.inr hc)⟩, hB⟩
theorem BelB.then {lo : Nat} {W x x' : World} (h : BelB lo W x) (hb : Below W.heap.size x x') (hl : lo ≤ W.heap.size) : BelB lo W x' :=
  ⟨h.bel.trans (hb.mono hl), fun i o hi hc hk => (hb.block i (Array.getElem?_eq_some_iff.1 hi).1).trans (h.kd i o hi hc hk)⟩
/-- What is so while a region of 'each' runs. -/
def EachI (a0 a1 : Addr) (lo : Nat) (W : World) (q r : Nat) (s s' : BS) (A : Option Addr) (c : Nat) (l : List Int) (called done : Bool) (x : World) : Prop :=
  BelB lo W x ∧ Bd a0 a1 lo x q r (if called = true then s' else s) ∧ (done = false → OwnSg x W.heap.size (.slice A l.length c) l)
theorem EachI.up {a0 a1 : Addr} {lo : Nat} {W : World} {q r : Nat} {s s' : BS} {A : Option Addr} {c : Nat} {l : List Int} {called done : Bool} {x x' : World} (h : EachI a0 a1 lo W q r s s' A c l called done x) (hb : Below x.heap.size x x') : EachI a0 a1 lo W q r s s' A c l called done x' :=
  ⟨h.1.trans (.of hb h.2.1.size), h.2.1.up hb, fun hd => own_below (h.2.2 hd) hb (Nat.le_refl _)⟩
/-- What 'each' answers. -/
def RetL (a0 a1 : Addr) (lo : Nat) (w : World) (q r : Nat) (res : BS × List Int) (e : Ending) (w' : World) : Prop :=
  ∃ A c, e = .returned (.slice A res.2.length c) ∧ res.2.length ≤ c ∧ Lay.int.Pl w' A res.2 ∧ (∀ m ∈ res.2, MB m) ∧ BelB lo w w' ∧ Bd a0 a1 lo w' q r res.1
theorem mux_mb {c x y : Int} {s : BS} (h : NB s.n) (hc : RB c) (hx : RB x) (hy : RB y) : NB (run opsP (muxP c x y) s).1.n ∧ MB (run opsP (muxP c x y) s).2 := by
  have h1 := opsP_and_mb (x := c) (y := x) h hc hx
  have h2 := opsP_and_mb (x := -c) (y := y) h1.1 hc.neg hy
  have h3 := opsP_and_mb (x := -(opsP.and s c x).2) (y := -(opsP.and (opsP.and s c x).1 (-c) y).2) h2.1 h1.2.rb.neg h2.2.rb.neg
  exact ⟨h3.1, h3.2.neg⟩
end Go.Proofs.YtjghcaghigebjaaDoor

/-! Rows of the call's own whose elements may lead on to other blocks; append of one element. No program is named here. -/
namespace Go.Proofs.YtjghcaghigebjaaDoor
open Go Go.RowKit

/-- What is so of a block hangs on the block alone. -/
def Stay (Q : World → Nat → Prop) : Prop := ∀ w w' b, w'.heap[b]? = w.heap[b]? → Q w b → Q w' b
theorem Stay.any : Stay (fun _ _ => True) := fun _ _ _ _ _ => trivial
theorem Stay.own (lo : Nat) : Stay (fun w b => lo ≤ b ∧ ∀ o, w.frozen? ⟨b, o, none⟩ = false) := fun w w' b h hq => ⟨hq.1, fun o => by
  rw [← hq.2 o]; exact World.frozen?_of_block (a := ⟨b, o, none⟩) h⟩
/-- A row of the call's own, of elements that lead to other blocks. -/
def OwnL {α : Type} (L : Lay α) (Q : World → Nat → Prop) (e : TypeId) (w : World) (lo : Nat) (v : Value) (xs : List α) : Prop :=
  ∃ cs, w.ownsRow lo e L.size v xs.length cs ∧ ∀ i x, xs[i]? = some x → ∃ vs, L.R w (fun b => b < w.heap.size ∧ v.ownBlock ≠ some b ∧ Q w b) x vs ∧ ∀ j u, vs[j]? = some u → cs[i * L.size + j]? = some u
section
variable {α : Type} {L : Lay α} {Q : World → Nat → Prop} {e : TypeId} {lo : Nat} {w : World} {v : Value} {xs : List α}
theorem OwnL.nil (L : Lay α) (Q : World → Nat → Prop) (e : TypeId) (w : World) (lo : Nat) : OwnL L Q e w lo (.slice none 0 0) [] := ⟨[], World.ownsRow_nil _ _ _ _, fun i x h => by simp at h⟩
/-- Nothing that the row leads to has turned. -/
theorem OwnL.keep {w' : World} (h : OwnL L Q e w lo v xs) (hQ : Stay Q) (hg : w.grownBy w' none) : OwnL L Q e w' lo v xs := by
  obtain ⟨cs, h1, h2⟩ := h
  refine ⟨cs, rows_kept h1 hg (by simp), fun i x hx => ?_⟩
  obtain ⟨vs, hr, hu⟩ := h2 i x hx
  refine ⟨vs, L.mono (fun b hb => ?_) (L.keep (fun b hb => hg.block b hb.1 (by simp)) hr), hu⟩
  exact ⟨Nat.lt_of_lt_of_le hb.1 hg.size, hb.2.1, hQ _ _ _ (hg.block b hb.1 (by simp)) hb.2.2⟩
theorem grown_of_below {a b : World} {row : Option Nat} (h : Below a.heap.size a b) : a.grownBy b row := ⟨h.os, h.tape, h.output, h.size, fun i hi _ => h.block i hi⟩
theorem OwnL.up {w' : World} (h : OwnL L Q e w lo v xs) (hQ : Stay Q) (hb : Below w.heap.size w w') : OwnL L Q e w' lo v xs := h.keep hQ (grown_of_below hb)
theorem OwnL.form (h : OwnL L Q e w lo v xs) : ∃ A c, v = .slice A xs.length c ∧ xs.length ≤ c := by
  obtain ⟨cs, h1, h2⟩ := h
  rcases h1.2 with ⟨e1, e2⟩ | ⟨g, cap, cur, e1, _, _, h3, _⟩
  · exact ⟨none, 0, by rw [e1, e2], by omega⟩
  · exact ⟨_, cap, e1, h3⟩
theorem OwnL.cap {A : Option Addr} {n c : Nat} (h : OwnL L Q e w lo (.slice A n c) xs) : n = xs.length ∧ xs.length ≤ c := by
  obtain ⟨A', c', e1, h1⟩ := h.form
  injection e1 with e1 e2 e3
  exact ⟨e2, by omega⟩
/-- How it reads: the row's own block, and those of its elements. -/
theorem OwnL.sl {A : Option Addr} {c : Nat} (h : OwnL L Q e w lo (.slice A xs.length c) xs) : L.Sl w (fun b => b < w.heap.size ∧ (lo ≤ b ∧ (∀ o, w.frozen? ⟨b, o, .none⟩ = false) ∨ Q w b)) A xs := by
  obtain ⟨cs, h1, h2⟩ := h
  intro h0
  rcases h1.2 with ⟨e1, e2⟩ | ⟨g, cap, cur, e1, hg, _⟩
  · omega
  · injection e1 with e1 e2 e3
    subst e1
    refine ⟨_, rfl, ⟨(h1.lt g rfl).2, .inl ⟨hg, fun o => h1.frozenAt o⟩⟩, fun k x hx => ?_⟩
    obtain ⟨vs, hr, hu⟩ := h2 k x hx
    exact ⟨vs, L.mono (fun b hb => ⟨hb.1, .inr hb.2.2⟩) hr, fun j u hj => h1.cells (g := g) rfl _ _ (hu j u hj)⟩
theorem OwnL.rd {A : Option Addr} {c : Nat} (h : OwnL L Q e w lo (.slice A xs.length c) xs) : L.Rd w A xs := h.sl.mono fun _ h => h.1
theorem OwnL.own {A : Option Addr} {c : Nat} (h : OwnL L (fun w b => lo ≤ b ∧ ∀ o, w.frozen? ⟨b, o, none⟩ = false) e w lo (.slice A xs.length c) xs) : L.Sl w (Own lo w) A xs :=
  h.sl.mono fun _ h => ⟨h.2.elim (fun h => h.1) (fun h => h.1), h.1, h.2.elim (fun h => h.2) (fun h => h.2)⟩
/-- The element at a place, as cells. -/
theorem OwnL.at {A : Option Addr} {c : Nat} (h : OwnL L Q e w lo (.slice A xs.length c) xs) {k : Nat} (hk : k < xs.length) : ∃ ad, A = some ad ∧ ad.block < w.heap.size := by
  obtain ⟨ad, e1, hf, _⟩ := h.rd (by omega)
  exact ⟨ad, e1, hf⟩
end
theorem OwnL.lt {α : Type} {L : Lay α} {Q : World → Nat → Prop} {e : TypeId} {w : World} {lo : Nat} {v : Value} {xs : List α} (h : OwnL L Q e w lo v xs) : ∀ g, v.ownBlock = some g → lo ≤ g ∧ g < w.heap.size := by
  obtain ⟨cs, h1, _⟩ := h
  exact fun g hg => h1.lt g hg
end Go.Proofs.YtjghcaghigebjaaDoor

/-! Draws: what a reader's user leaves; a number of a list. -/
namespace Go.Proofs.YtjghcaghigebjaaDoor
open Go Go.RowKit

theorem own_of_heap {w w' : World} {base : Nat} {e : TypeId} {size n : Nat} {v : Value} {xs : List Value} (h : w.ownsRow base e size v n xs) (hk : ∀ g, v.ownBlock = some g → w'.heap[g]? = w.heap[g]?) : w'.ownsRow base e size v n xs := by
  refine ⟨h.1, ?_⟩
  rcases h.2 with hn | ⟨g, cap, cur, rfl, hb, hgg, rest⟩
  · exact .inl hn
  · exact .inr ⟨g, cap, cur, rfl, hb, (hk g rfl).trans hgg, rest⟩
/-- But for the blocks S nothing turned. -/
structure Gr (S : Nat → Prop) (w w' : World) : Prop where
  os : w'.os = w.os
  tape : w'.tape = w.tape
  output : w'.output = w.output
  size : w.heap.size ≤ w'.heap.size
  block : ∀ i, i < w.heap.size → ¬ S i → w'.heap[i]? = w.heap[i]?
theorem Gr.refl (S : Nat → Prop) (w : World) : Gr S w w := ⟨rfl, rfl, rfl, Nat.le_refl _, fun _ _ _ => rfl⟩
theorem Gr.trans {S : Nat → Prop} {a b c : World} (h : Gr S a b) (k : Gr S b c) : Gr S a c :=
  ⟨k.os.trans h.os, k.tape.trans h.tape, k.output.trans h.output, Nat.le_trans h.size k.size, fun i hi hn => (k.block i (Nat.lt_of_lt_of_le hi h.size) hn).trans (h.block i hi hn)⟩
theorem Gr.mono {S T : Nat → Prop} {a b : World} (h : Gr S a b) (hST : ∀ x, S x → T x) : Gr T a b := ⟨h.os, h.tape, h.output, h.size, fun i hi hn => h.block i hi (fun e => hn (hST i e))⟩
theorem Gr.below {S : Nat → Prop} {w w' : World} (h : Below w.heap.size w w') : Gr S w w' := ⟨h.os, h.tape, h.output, h.size, fun i hi _ => h.block i hi⟩
theorem Gr.up {S : Nat → Prop} {a w w' : World} (h : Gr S a w) (hb : Below w.heap.size w w') : Gr S a w' := h.trans (.below hb)
theorem Gr.one {S : Nat → Prop} {w w' : World} {g : Nat} (h : w.grownBy w' (some g)) (hg : S g) : Gr S w w' := ⟨h.os, h.tape, h.output, h.size, fun i hi hn => h.block i hi (fun e => by injection e with e; exact hn (e ▸ hg))⟩
theorem Gr.set {S : Nat → Prop} {a w : World} (h : Gr S a w) (g o : Nat) (u : Value) (hg : S g ∨ a.heap.size ≤ g) : Gr S a (w.setCell ⟨g, o, none⟩ u) :=
  ⟨h.os, h.tape, h.output, by rw [size_setCell]; exact h.size, fun i hi hn => (Below.heap_setCell w ⟨g, o, none⟩ u i (fun e => hg.elim (fun h9 => hn (by rw [e]; exact h9)) (fun h9 => by rw [e] at hi; exact absurd hi (by show ¬ g < _; omega)))).trans (h.block i hi hn)⟩
/-- A row of one's own has grown. -/
theorem Gr.own {S : Nat → Prop} {a w w' : World} {row : Option Nat} (h : Gr S a w) (k : w.grownBy w' row) (hr : ∀ g, row = some g → a.heap.size ≤ g) : Gr S a w' :=
  ⟨k.os.trans h.os, k.tape.trans h.tape, k.output.trans h.output, Nat.le_trans h.size k.size, fun i hi hn => (k.block i (Nat.lt_of_lt_of_le hi h.size) (fun e => by have := hr i e.symm; omega)).trans (h.block i hi hn)⟩
/-- From the blocks of a later start on, all is the caller's gain. -/
theorem Gr.then {S T : Nat → Prop} {a b c : World} (h : Gr S a b) (k : Gr T b c) (hT : ∀ x, T x → S x ∨ a.heap.size ≤ x) : Gr S a c :=
  ⟨k.os.trans h.os, k.tape.trans h.tape, k.output.trans h.output, Nat.le_trans h.size k.size, fun i hi hn => (k.block i (Nat.lt_of_lt_of_le hi h.size) (fun e => (hT i e).elim hn (fun h9 => by omega))).trans (h.block i hi hn)⟩
theorem Gr.to_below {S : Nat → Prop} {a b : World} (h : Gr S a b) (hS : ∀ x, S x → a.heap.size ≤ x) : Below a.heap.size a b := ⟨h.os, h.tape, h.output, h.size, fun i hi => h.block i hi (fun e => by have := hS i e; omega)⟩
theorem Gr.heap {S : Nat → Prop} {w w' : World} {g : Nat} {o : Obj} (h : Gr S w w') (hg : ¬ S g) (hb : w.heap[g]? = some o) : w'.heap[g]? = some o := (h.block g (Array.getElem?_eq_some_iff.1 hb).1 hg).trans hb
theorem Rdr.gr {S : Nat → Prop} {w w' : World} {r : Nat} {p : Int} (h : Rdr w r p) (k : Gr S w w') (hS : ∀ x, S x → r < x) : Rdr w' r p :=
  h.keep fun b hb => k.block b (Nat.lt_of_le_of_lt hb h.lt) (fun e => by have := hS b e; omega)
theorem Rdr.own {w w' : World} {r : Nat} {p : Int} {row : Option Nat} (h : Rdr w r p) (k : w.grownBy w' row) (hr : ∀ g, row = some g → r < g) : Rdr w' r p :=
  h.keep fun b hb => k.block b (Nat.lt_of_le_of_lt hb h.lt) (fun e => by have := hr b e.symm; omega)
theorem Rdr.set {w : World} {r g o : Nat} {p : Int} {u : Value} (h : Rdr w r p) (hg : r < g) : Rdr (w.setCell ⟨g, o, none⟩ u) r p :=
  h.keep fun b hb => Below.heap_setCell w ⟨g, o, none⟩ u b (fun e => by have : b = g := e; omega)
/-- What stays: data that do not lie in the blocks S. -/
def Ab (S : Nat → Prop) (w : World) (b : Nat) : Prop := b < w.heap.size ∧ ¬ S b
theorem Lay.Sl.gr {α : Type} {L : Lay α} {w w' : World} {S : Nat → Prop} {A : Option Addr} {xs : List α} (h : L.Sl w (Ab S w) A xs) (hg : Gr S w w') : L.Sl w' (Ab S w') A xs :=
  (h.keep fun b hb => hg.block b hb.1 hb.2).mono fun b hb => ⟨Nat.lt_of_lt_of_le hb.1 hg.size, hb.2⟩
theorem Lay.Sl.ab_rd {α : Type} {L : Lay α} {w : World} {S : Nat → Prop} {A : Option Addr} {xs : List α} (h : L.Sl w (Ab S w) A xs) : L.Rd w A xs := h.mono fun _ h => h.1
theorem Lay.Sl.ab_mono {α : Type} {L : Lay α} {w : World} {S T : Nat → Prop} {A : Option Addr} {xs : List α} (h : L.Sl w (Ab S w) A xs) (hT : ∀ b, b < w.heap.size → T b → S b) : L.Sl w (Ab T w) A xs := h.mono fun b h => ⟨h.1, fun e => h.2 (hT b h.1 e)⟩
abbrev NotIn (S : Nat → Prop) : World → Nat → Prop := fun _ b => ¬ S b
theorem OwnL.gr {α : Type} {L : Lay α} {e : TypeId} {w w' : World} {lo : Nat} {S : Nat → Prop} {v : Value} {xs : List α} (h : OwnL L (NotIn S) e w lo v xs) (hg : Gr S w w') (hr : ∀ b, S b → b < lo) : OwnL L (NotIn S) e w' lo v xs := by
  obtain ⟨cs, h1, h2⟩ := h
  refine ⟨cs, own_of_heap h1 fun g hg' => hg.block g (h1.lt g hg').2 (fun e => by have := hr g e; have := (h1.lt g hg').1; omega), fun i x hx => ?_⟩
  obtain ⟨vs, hr, hu⟩ := h2 i x hx
  exact ⟨vs, L.mono (fun b hb => ⟨Nat.lt_of_lt_of_le hb.1 hg.size, hb.2.1, hb.2.2⟩) (L.keep (fun b hb => hg.block b hb.1 hb.2.2) hr), hu⟩
theorem OwnL.ab {α : Type} {L : Lay α} {e : TypeId} {w : World} {lo : Nat} {S : Nat → Prop} {A : Option Addr} {c : Nat} {xs : List α} (h : OwnL L (NotIn S) e w lo (.slice A xs.length c) xs) (hr : ∀ b, S b → b < lo) : L.Sl w (Ab S w) A xs :=
  h.sl.mono fun b hb => ⟨hb.1, hb.2.elim (fun h e => by have := hr b e; have := h.1; omega) id⟩
/-- The reader has gone on by at most N places; but for its block nothing turned. -/
def Drawn (r : Nat) (p N : Int) (w w' : World) : Prop := ∃ p', p ≤ p' ∧ p' ≤ p + N ∧ Rdr w' r p' ∧ Gr (fun b => b = r) w w'
theorem num_any (r : Nat) (p : Int) (B : Option Addr) (d : Nat) (xs : List Int) (w : World) (h : Rdr w r p) (hs : Lay.int.Sl w (Ab (fun b => b = r) w) B xs) (h0 : 0 < xs.length) (hn : xs.length ≤ 1048576) (p0 : 0 ≤ p) (p1 : p ≤ 1000000000) :
    Calls Tryd.prog 59 #[.pointer (some ⟨r, 0, none⟩), .slice B xs.length d] w fun e w' => ∃ x ∈ xs, e = .returned (.int .i64 x) ∧ Rdr w' r (p + 1) ∧ Gr (fun b => b = r) w w' := by
  go_enter Tryd.func59, Tryd.ntmps59
  go_wp2_with fail
  refine (pick_any r p xs.length w h p0 p1 (by omega) (by omega)).mono ?_
  rintro e w' ⟨k, rfl, k0, k1, _, hR, hg⟩
  have hk := k1 (by omega)
  have hg := Gr.one (S := fun b => b = r) hg rfl
  obtain ⟨n, rfl⟩ := Int.eq_ofNat_of_zero_le k0
  have hnl : n < xs.length := by omega
  obtain ⟨ad, rfl, _, hc⟩ := (hs.gr hg).at_int hnl
  have hm : xs[n] ∈ xs := List.getElem_mem hnl
  generalize xs[n] = x at *
  have HR := Lib.hid (And.intro hm (And.intro hR hg))
  clear hR hg hm k1 hs h
  go_wp2
  go_ret
  exact ⟨x, HR.out.1, rfl, HR.out.2⟩
end Go.Proofs.YtjghcaghigebjaaDoor

/-! Drawn regions that draw from a reader; literals. -/
namespace Go.Proofs.YtjghcaghigebjaaDoor
open Go Go.RowKit

abbrev IsR (r : Nat) : Nat → Prop := fun b => b = r
theorem sl_none {α : Type} {L : Lay α} {w : World} {F : Nat → Prop} {A : Option Addr} {xs : List α} (h : L.Sl w F A xs) : A = none → xs.length = 0 := fun e => by
  rcases Nat.eq_zero_or_pos xs.length with h0 | h0
  · exact h0
  · obtain ⟨ad, e', _⟩ := h h0; rw [e] at e'; cases e'
theorem two_boxes (w : World) (o o' : Obj) : Below w.heap.size w ((w.alloc o).alloc o') ∧ ((w.alloc o).alloc o').heap[w.heap.size]? = some o ∧ ((w.alloc o).alloc o').heap[w.heap.size + 1]? = some o' ∧ ((w.alloc o).alloc o').heap.size = w.heap.size + 1 + 1 := by
  have h1 := heap_alloc_new w o
  have h2 := heap_alloc_new (w.alloc o) o'
  exact ⟨((Below.refl _ _).alloc (Nat.le_refl _) _).alloc (by simp) _, (((Below.refl _ _).alloc (Nat.le_refl _) _).block _ (by simp)).trans h1, by simpa using h2, by simp⟩
theorem mem_lit {xs : List Int} {x : Int} (h : x ∈ xs) (hx : ∀ y ∈ xs, okInt y) : okInt x := hx x h
/-- A row that was just written down. -/
theorem lit_sl {S : Nat → Prop} (w : World) (xs : List Int) (cs : Array Value) (t : TypeId) (hc : cs = (xs.map (Value.int .i64)).toArray) (hS : ¬ S w.heap.size) : Lay.int.Sl (w.alloc (.cells cs t)) (Ab S (w.alloc (.cells cs t))) (some ⟨w.heap.size, 0, none⟩) xs := by
  intro _
  refine ⟨_, rfl, ⟨by simp, hS⟩, fun k x hx => ⟨[.int .i64 x], rfl, fun j u hu => ?_⟩⟩
  rcases j with _ | j
  · injection hu with hu
    subst hu
    have hb := (cell_of_block (heap_alloc_new w (.cells cs t)) k).1
    have ha : (⟨w.heap.size, 0, none⟩ : Addr).add (k * Lay.int.size + 0) = ⟨w.heap.size, k, none⟩ := by
      show (⟨w.heap.size, 0, none⟩ : Addr).add (k * 1 + 0) = _
      rw [Nat.mul_one, Nat.add_zero]; unfold Addr.add; split
      · rename_i h; rw [h]
      · simp
    rw [ha, hb, hc]
    simp [hx]
  · simp at hu
/-- What a drawn region of a reader's user does to memory: the blocks T may turn; result cells, once stored, stay. -/
def RG (T : Nat → Prop) (sts : List (Nat × Obj × Obj)) (x x' : World) : Prop := Gr T x x' ∧ ∀ s ∈ sts, x.heap[s.1]? = some s.2.2 → x'.heap[s.1]? = some s.2.2
def IG (T : Nat → Prop) (r : Nat) (q0 N : Int) (w : World) (sts : List (Nat × Obj × Obj)) (n : Nat) (x : World) : Prop :=
  Gr T w x ∧ (∃ q, Rdr x r q ∧ q0 ≤ q ∧ q ≤ q0 + N * n) ∧ ∀ s ∈ sts, x.heap[s.1]? = some s.2.1 ∨ x.heap[s.1]? = some s.2.2
theorem ig_step {T : Nat → Prop} {r : Nat} {q0 N : Int} {w : World} {sts : List (Nat × Obj × Obj)} {n : Nat} {x : World} (h : IG T r q0 N w sts n x) (hN : 0 ≤ N) : IG T r q0 N w sts (n + 1) x := by
  obtain ⟨h1, ⟨q, h2, h3, h4⟩, h5⟩ := h
  refine ⟨h1, ⟨q, h2, h3, ?_⟩, h5⟩
  push_cast
  rw [Int.mul_add, Int.mul_one]
  omega
theorem ig_start {T : Nat → Prop} {r : Nat} {q0 N : Int} {w : World} {sts : List (Nat × Obj × Obj)} (h : Rdr w r q0) (hs : ∀ s ∈ sts, w.heap[s.1]? = some s.2.1) : IG T r q0 N w sts 0 (w.drewN 1) :=
  ⟨.below (below_drewN (Below.refl _ _) 1), ⟨q0, h.up (below_drewN (Below.refl _ _) 1), by omega, by simp⟩, fun s h => .inl (hs s h)⟩
/-- A call that draws. -/
theorem ig_draw {T : Nat → Prop} {r : Nat} {q0 N M q : Int} {w : World} {sts : List (Nat × Obj × Obj)} {n : Nat} {x x' : World} (h : IG T r q0 N w sts n x) (hd : Drawn r q M x x') (hq0 : q0 ≤ q) (hq : q ≤ q0 + N * n) (hM : M ≤ N) (hT : T r) (hs : ∀ s ∈ sts, s.1 ≠ r) :
    IG T r q0 N w sts (n + 1) x' ∧ RG T sts x x' := by
  obtain ⟨h1, _, h5⟩ := h
  obtain ⟨q', d1, d2, d3, d4⟩ := hd
  have hg : Gr T x x' := d4.mono fun b hb => by rw [hb]; exact hT
  have hh : ∀ s ∈ sts, ∀ o, x.heap[s.1]? = some o → x'.heap[s.1]? = some o := fun s h o => d4.heap (hs s h)
  refine ⟨⟨h1.trans hg, ⟨q', d3, by omega, ?_⟩, fun s hm => (h5 s hm).imp (hh s hm _) (hh s hm _)⟩, hg, fun s hm => hh s hm _⟩
  push_cast
  rw [Int.mul_add, Int.mul_one]
  omega
/-- A block without bytes may turn: the reader stays. -/
theorem Rdr.far {w w' : World} {r b : Nat} {p : Int} (h : Rdr w r p) (hg : Gr (fun y => y = b) w w') (hbr : b ≠ r) (hk : ∃ cs t fr, w.heap[b]? = some (.cells cs t fr) ∧ ∀ u ∈ cs.toList, ∀ z, u ≠ .int .u8 z) : Rdr w' r p := by
  obtain ⟨A, c, bs, hb, hl, hs⟩ := h
  obtain ⟨cs, t, fr, hkb, hku⟩ := hk
  refine ⟨A, c, bs, hg.heap (fun e => hbr e.symm) hb, hl, fun hn => ?_⟩
  obtain ⟨ad, e, hf, hc⟩ := hs hn
  have hne : ad.block ≠ b := fun e9 => by
    obtain ⟨vs, hr, hcell⟩ := hc 0 bs[0] (List.getElem?_eq_getElem hn)
    have h0 := hcell 0 (.int .u8 (bs[0].toNat : Int)) (by rw [hr]; rfl)
    unfold World.cell? at h0
    rw [block_of_add, e9, hkb] at h0
    dsimp only at h0
    split at h0
    · cases h0
    · exact hku _ (by rw [Array.mem_toList_iff]; exact Array.mem_of_getElem? h0) _ rfl
  refine ⟨ad, e, hf, fun k x hx => ?_⟩
  obtain ⟨vs, hr, hcell⟩ := hc k x hx
  refine ⟨vs, hr, fun j u hu => ?_⟩
  have h9 := hcell j u hu
  exact (World.cell?_of_block (hg.block _ (by have := World.block_lt_of_cell? w _ h9; exact this) (by rw [block_of_add]; exact hne))).trans h9
end Go.Proofs.YtjghcaghigebjaaDoor

/-! The program's builder: lists of signals, the choice. -/
namespace Go.Proofs.YtjghcaghigebjaaDoor
open Go Go.RowKit

theorem kd_of {lo : Nat} {w w' : World} (h : BelB lo w w') {b : Nat} {cs : Array Value} {t : TypeId} {fr : Nat × Nat} (hb : w.heap[b]? = some (.cells cs t fr)) (h1 : t ≠ 121) (h2 : t ≠ 96) (h3 : t ≠ 82) : w'.heap[b]? = some (.cells cs t fr) :=
  h.kd b _ hb (nck_of h1 h2 h3).1 (nck_of h1 h2 h3).2
/-- The builder in its state behind a failure, or none. -/
theorem Bx.bd {a0 a1 : Addr} {lo : Nat} {w w' : World} {q r : Nat} {s : BS} {e : Option Nat} (h : Bd a0 a1 lo w q r s) (hx : Bx a0 a1 lo w' q r e) (hk : CKs w w') (he : e = none → s.e = none) : Bd a0 a1 lo w' q r ⟨s.n, e⟩ :=
  ⟨hx, h.nb, fun h0 => (h.circ (he h0)).keep hk⟩
theorem Bx.up {a0 a1 : Addr} {lo : Nat} {w w' : World} {q r : Nat} {e : Option Nat} (h : Bx a0 a1 lo w q r e) (hb : Below w.heap.size w w') : Bx a0 a1 lo w' q r e :=
  ⟨h.g.below (hb.mono (Nat.le_trans h.low (Nat.le_of_lt (lt_of_block h.box)))), (hb.block q (lt_of_block h.box)).trans h.box, h.low⟩
theorem Bx.upS {a0 a1 : Addr} {lo : Nat} {w w' : World} {q r : Nat} {e : Option Nat} (h : Bx a0 a1 lo w q r e) (hb : BelS lo w w') : Bx a0 a1 lo w' q r e :=
  ⟨h.g.below hb.bel, hb.bk q _ h.box ⟨_, _, rfl⟩, h.low⟩
theorem Bx.size {a0 a1 : Addr} {lo : Nat} {w : World} {q r : Nat} {e : Option Nat} (h : Bx a0 a1 lo w q r e) : lo ≤ w.heap.size := Nat.le_trans h.low (Nat.le_of_lt (lt_of_block h.box))
theorem failE_none {e : Option Nat} {b : Bool} {k : Nat} (h : failE e b k = none) : e = none ∧ b = false := by
  unfold failE at h
  split at h
  · cases h
  · rename_i h1
    refine ⟨h, ?_⟩
    cases b
    · rfl
    · exact absurd ⟨rfl, h⟩ h1

/-! numbers -/
/-- append of one integer onto a row of the call's own. -/
theorem wpList_append_int9 {Q : Exit → Act → World → Prop} {ops : Array Oper} {rest : List Oper} {o : Oper} {a : Act} {W : World} {lo : Nat} {A : Option Addr} {c : Nat} {xs ys : List Int} {x : Int} {e' : TypeId} (hgd : o.guard = none) (s y : Operand)
    (ho : o.op = .call { callee := .builtin .append, args := #[s, y], argTypes := #[25, 25] }) (hs : a.eval s = .slice A xs.length c) (hy : a.eval y = .slice (some ⟨W.heap.size, 0, none⟩) 1 1)
    (hown : OwnI W lo (.slice A xs.length c) xs) (hn : xs.length ≤ 3000000) (hlo : lo ≤ W.heap.size) (hys : ys = xs ++ [x])
    (h : ∀ A' c' w', OwnI w' lo (.slice A' ys.length c') ys → Below lo W w' → wpList Tryd.prog ops Q rest (a.put o.dst (.slice A' ys.length c')) w') :
    wpList Tryd.prog ops Q (o :: rest) a (W.alloc (.cells #[.int .i64 x] e')) := by
  obtain ⟨i0, hi0, hz0, hz1, hz2⟩ := info_parts int_info
  have hl : ys.length = xs.length + 1 := by rw [hys]; simp
  have hm : ys.map (Value.int .i64) = xs.map (Value.int .i64) ++ [.int .i64 x] := by rw [hys]; simp
  refine wpList_append1 (P := Tryd.prog) hgd s y 25 ho lo 3 i0 _ 8 Tryd.underlying25 hi0 hz0 hz1 hz2 (by rfl) _ xs.length (xs.map (Value.int .i64)) (.int .i64 x) e' hs hown hy (by rfl) (by unfold maxLen; omega) (by omega) hlo ?_
  intro v' w' ho' hb
  rw [← hl, ← hm] at ho'
  obtain ⟨A', c', rfl, _⟩ := OwnI.form (xs := ys) ho'
  exact h A' c' w' ho' hb
set_option maxRecDepth 100000 in
set_option maxHeartbeats 1000000 in
theorem numbers_any (A : Option Addr) (c : Nat) (xs : List Int) (w : World) (h : Lay.int.Rd w A xs) (hn : xs.length ≤ 1048576) :
    Calls Tryd.prog 83 #[.slice A xs.length c] w (CopyI xs w) := by
  have H := Lib.hid h
  clear h
  go_enter Tryd.func83, Tryd.ntmps83
  go_wp2
  go_loopw [3, 8] (fun out i wr => ∃ (k : Nat) (l : List Int) (A1 : Option Addr) (c1 : Nat), k ≤ xs.length ∧ i = .int .i64 k ∧ out = .slice A1 l.length c1 ∧ l = xs.take k ∧ OwnI wr w.heap.size (.slice A1 l.length c1) l ∧ Below w.heap.size w wr) (fun _ i _ => xs.length - (intOf i).toNat)
  case atStart => exact ⟨0, [], none, 0, Nat.zero_le _, rfl, rfl, rfl, World.ownsRow_nil _ _ _ _, Below.refl _ _⟩
  case round =>
    obtain ⟨k, l, A1, c1, hk, rfl, rfl, hlt0, hown, hb⟩ := hrel
    have HL := Lib.hid hlt0
    have hll : l.length ≤ 1048576 := by rw [hlt0]; simp; omega
    have hsz := hb.size
    have HB := Lib.hid hb
    clear hlt0 hb
    by_cases hlt : k < xs.length
    · have hlt2 : (k : Int) < xs.length := by omega
      obtain ⟨ad, hA, -, c9⟩ := (H.out.up HB.out).at_int hlt
      obtain ⟨x, hx⟩ : ∃ x, x = xs[k] := ⟨_, rfl⟩
      rw [← hx] at c9
      subst hA
      obtain ⟨l2, hl2⟩ : ∃ l2, l2 = l ++ [x] := ⟨_, rfl⟩
      have HL2 := Lib.hid hl2
      have HX := Lib.hid hx
      clear hl2 hx
      go_wp2_with (at_builtin; refine wpList_append_int9 (ys := l2) (by rfl) (.tmp 12) (.tmp 14) (by rfl) (by rfl) (by rfl) hown (by omega) hsz HL2.out ?_; intro A2 c2 w2 hown2 hb2)
      go_roundw
      case rel => exact ⟨k + 1, l2, A2, c2, by omega, by go_num, rfl, by rw [HL2.out, HL.out, HX.out]; simp, hown2, HB.out.trans hb2⟩
      case measure => simp [intOf]; omega
    · have hke : k = xs.length := by omega
      subst hke
      have hlt2 : ¬ ((xs.length : Nat) : Int) < xs.length := by omega
      go_wp2
      go_ret
      have hl9 : l = xs := by rw [HL.out]; exact List.take_length
      subst hl9
      exact ⟨A1, c1, rfl, hown.cap, hown.own, HB.out⟩

/-! list -/
def goodL (n : N) (a : List Int) : Bool := decide (1 ≤ a.length) && decide (a.length ≤ 4) && a.all (netMark n)
/-- The failure behind 'list'. -/
def listE (n : N) (e : Option Nat) (a : List Int) : Option Nat := failE e (!goodL n a) 0
theorem failE_twice (e : Option Nat) (a b : Bool) : failE (failE e a 0) b 0 = failE e (a || b) 0 := by
  unfold failE
  cases a <;> cases b <;> rcases e with _ | e <;> simp
/-- What is so while 'list' runs. -/
def ListI (a0 a1 : Addr) (lo : Nat) (W : World) (q r : Nat) (n : N) (e e' : Option Nat) (base : Nat) (A : Option Addr) (c : Nat) (l : List Int) (done : Bool) (x : World) : Prop :=
  BelB lo W x ∧ Bx a0 a1 lo x q r (if done = true then e' else e) ∧ Circ lo x r n n.gs ∧ OwnSg x base (.slice A l.length c) l
theorem ListI.up {a0 a1 : Addr} {lo : Nat} {W : World} {q r : Nat} {n : N} {e e' : Option Nat} {base : Nat} {A : Option Addr} {c : Nat} {l : List Int} {done : Bool} {x x' : World} (h : ListI a0 a1 lo W q r n e e' base A c l done x) (hb : Below x.heap.size x x') : ListI a0 a1 lo W q r n e e' base A c l done x' :=
  ⟨h.1.trans (.of hb h.2.1.size), h.2.1.up hb, h.2.2.1.up hb, own_below h.2.2.2 hb (Nat.le_refl _)⟩
def RetLs (a0 a1 : Addr) (lo : Nat) (w : World) (q r : Nat) (n : N) (e' : Option Nat) (l : List Int) (e : Ending) (w' : World) : Prop :=
  ∃ A c, e = .returned (.slice A l.length c) ∧ l.length ≤ c ∧ Lay.int.Pl w' A l ∧ BelB lo w w' ∧ Bx a0 a1 lo w' q r e' ∧ Circ lo w' r n n.gs
set_option maxRecDepth 100000 in
set_option maxHeartbeats 4000000 in
theorem list_any (a0 a1 : Addr) (lo q r : Nat) (n : N) (e0 : Option Nat) (A : Option Addr) (ca : Nat) (xs : List Int) (w : World) (h : Bx a0 a1 lo w q r e0) (hc : Circ lo w r n n.gs) (hnb : NB n) (hX : Lay.int.Sl w (fun b => b < lo) A xs) (hxi : i64s xs) (hn : xs.length ≤ 1048576) :
    Calls Tryd.prog 48 #[.pointer (some ⟨q, 0, none⟩), .slice A xs.length ca] w (RetLs a0 a1 lo w q r n (listE n e0 xs) xs) := by
  have HX := Lib.hid hX
  have HXI := Lib.hid hxi
  have HC := Lib.hid hc
  have HNB := Lib.hid hnb
  have hlo := h.size
  obtain ⟨b, hb⟩ : ∃ b, b = !(decide (1 ≤ xs.length) && decide (xs.length ≤ 4)) := ⟨_, rfl⟩
  have HF := Lib.hid (fail_any a0 a1 lo q r e0 b 0 w h)
  have g0 : w.cell? ⟨0, 0, none⟩ = some (errV a0 a1 (some 0)) := h.g.c0
  have HR : Hid (listE n e0 xs = failE (failE e0 b 0) (!xs.all (netMark n)) 0) := Lib.hid (by
    unfold listE goodL; rw [failE_twice, hb]; congr 1; cases decide (1 ≤ xs.length) <;> cases decide (xs.length ≤ 4) <;> cases xs.all (netMark n) <;> rfl)
  have hcase : ((xs.length : Int) < 1 ∧ b = true) ∨ (¬ (xs.length : Int) < 1 ∧ (4 : Int) < xs.length ∧ b = true) ∨ (¬ (xs.length : Int) < 1 ∧ ¬ (4 : Int) < xs.length ∧ b = false) := by
    by_cases h1 : (xs.length : Int) < 1
    · exact .inl ⟨h1, by rw [hb, decide_eq_false (by omega : ¬ 1 ≤ xs.length)]; rfl⟩
    · by_cases h2 : (4 : Int) < xs.length
      · exact .inr (.inl ⟨h1, h2, by rw [hb, decide_eq_false (by omega : ¬ xs.length ≤ 4)]; simp⟩)
      · exact .inr (.inr ⟨h1, h2, by rw [hb, decide_eq_true (by omega : 1 ≤ xs.length), decide_eq_true (by omega : xs.length ≤ 4)]; rfl⟩)
  clear h hc hnb hX hxi hb
  generalize hv : errV a0 a1 (some 0) = v at *
  have HV := Lib.hid hv
  clear hv
  rcases hcase with ⟨hk1, rfl⟩ | ⟨hk1, hk2, rfl⟩ | ⟨hk1, hk2, rfl⟩
  all_goals
    go_enter Tryd.func48, Tryd.ntmps48
    go_wp2_with fail
    refine HF.out.mono ?_
    rintro e w1 ⟨rfl, hb1, hx1, hck1⟩
    have HB1 := Lib.hid hb1
    have HX1 := Lib.hid hx1
    have HC1 := Lib.hid (HC.out.keep hck1)
    have hs1 := hb1.bel.size
    clear hb1 hx1 hck1 HF g0 hk1
    try clear hk2
    generalize failE e0 _ 0 = e1 at *
    go_wp2
    go_loopw [5, 21] (fun out i wr => ∃ (k : Nat) (l : List Int) (A1 : Option Addr) (c1 : Nat), k ≤ xs.length ∧ i = .int .i64 k ∧ out = .slice A1 l.length c1 ∧ l = xs.take k ∧ OwnSg wr w.heap.size (.slice A1 l.length c1) l ∧ BelB lo w wr ∧ Bx a0 a1 lo wr q r (failE e1 (!l.all (netMark n)) 0) ∧ Circ lo wr r n n.gs) (fun _ i _ => xs.length - (intOf i).toNat)
    case atStart => exact ⟨0, [], none, 0, Nat.zero_le _, rfl, rfl, rfl, OwnSg.nil _ _, HB1.out, by rw [show failE e1 (!([] : List Int).all (netMark n)) 0 = e1 from if_neg (by simp)]; exact HX1.out, HC1.out⟩
    case round =>
      obtain ⟨k, l, A1, c1, hk, rfl, rfl, hlt0, hown, hbb, hbx, hcc⟩ := hrel
      have HL := Lib.hid hlt0
      have hll : l.length ≤ 1048576 := by rw [hlt0]; simp; omega
      have hsz := hbb.bel.size
      have HBB := Lib.hid hbb
      have HBX := Lib.hid hbx
      have HCC := Lib.hid hcc
      have HOWN := Lib.hid hown
      clear hlt0 hbb hbx hcc hown
      by_cases hlt : k < xs.length
      · have hlt2 : (k : Int) < xs.length := by omega
        obtain ⟨ad, hA, -, c9⟩ := (HX.out.below HBB.out.bel (fun _ h => h)).at_int hlt
        obtain ⟨x, hx⟩ : ∃ x, x = xs[k] := ⟨_, rfl⟩
        rw [← hx] at c9
        have hxi := HXI.out x (by rw [hx]; exact List.getElem_mem hlt)
        subst hA
        obtain ⟨l2, hl2⟩ : ∃ l2, l2 = l ++ [x] := ⟨_, rfl⟩
        have HL2 := Lib.hid hl2
        have HXX := Lib.hid hx
        have HE : Hid (failE (failE e1 (!l.all (netMark n)) 0) (!netMark n x) 0 = failE e1 (!l2.all (netMark n)) 0) := Lib.hid (by
          rw [failE_twice, hl2, List.all_append]; congr 1; simp only [List.all_cons, List.all_nil, Bool.and_true]; cases l.all (netMark n) <;> cases netMark n x <;> rfl)
        clear hl2 hx
        obtain ⟨hx0, hx1⟩ := hxi
        generalize hmk : netMark n x = mk at *
        have HMK := Lib.hid hmk
        clear hmk
        generalize failE e1 (!l.all (netMark n)) 0 = e2 at *
        obtain ⟨e3, he3⟩ : ∃ e3, e3 = failE e1 (!l2.all (netMark n)) 0 := ⟨_, rfl⟩
        rw [← he3] at HE
        have HE3 := Lib.hid he3
        clear he3
        go_wp2
        refine wp_region_rel4 [[], [], [(1, 26)], [(2, 27)], [(3, 28)], [], [(4, 29), (5, 30)], [(6, 31)], [], [(0, 25), (7, 32), (8, 33)]]
          (fun x9 y9 => Below x9.heap.size x9 y9)
          [(9, fun x9 y9 => BelB lo x9 y9)]
          (fun f9 x9 => ListI a0 a1 lo w q r n e2 e3 w.heap.size A1 c1 l (f9 9) x9)
          [fun vs9 _ => vs9 0 = (.pointer (some ⟨q, 0, none⟩)),
    fun vs9 _ => vs9 1 = (.pointer (some ⟨q, 0, none⟩)),
    fun vs9 _ => vs9 2 = (.pointer (some ⟨q, 0, none⟩)),
    fun vs9 _ => vs9 3 = (.pointer (some ⟨q, 0, none⟩)),
    fun vs9 _ => vs9 4 = (.pointer (some ⟨r, 0, none⟩)),
    fun vs9 _ => vs9 5 = (.int .i64 x),
    fun vs9 _ => vs9 6 = (.bool mk),
    fun vs9 _ => vs9 7 = (.bool (!mk)),
    fun vs9 _ => vs9 8 = v,
    fun _ _ => True]
          [(0, 25), (1, 26), (2, 27), (3, 28), (4, 29), (5, 30), (6, 31), (7, 32), (8, 33), (9, 34)] (by kernel_rfl) (by kernel_rfl) (by kernel_rfl) (by kernel_rfl)
          (fun _ => Below.refl _ _) ⟨fun _ => BelB.refl _ _, trivial⟩
          ⟨⟨.inr (fun _ _ _ h _ => h), ⟨.inr (.inr (fun _ _ _ h _ => h)), trivial⟩⟩,
    ⟨.inr (fun _ _ _ h _ => h), ⟨.inr (.inr (fun _ _ _ h _ => h)), trivial⟩⟩,
    ⟨.inr (fun _ _ _ h _ => h), ⟨.inr (.inr (fun _ _ _ h _ => h)), trivial⟩⟩,
    ⟨.inr (fun _ _ _ h _ => h), ⟨.inr (.inr (fun _ _ _ h _ => h)), trivial⟩⟩,
    ⟨.inr (fun _ _ _ h _ => h), ⟨.inr (.inr (fun _ _ _ h _ => h)), trivial⟩⟩,
    ⟨.inr (fun _ _ _ h _ => h), ⟨.inr (.inr (fun _ _ _ h _ => h)), trivial⟩⟩,
    ⟨.inr (fun _ _ _ h _ => h), ⟨.inr (.inr (fun _ _ _ h _ => h)), trivial⟩⟩,
    ⟨.inr (fun _ _ _ h _ => h), ⟨.inr (.inr (fun _ _ _ h _ => h)), trivial⟩⟩,
    ⟨.inr (fun _ _ _ h _ => h), ⟨.inr (.inr (fun _ _ _ h _ => h)), trivial⟩⟩,
    ⟨.inr (fun _ _ _ h _ => h), ⟨.inr (.inl rfl), trivial⟩⟩, trivial⟩ ⟨fun vs vs' x h _ hv => (by dsimp only at hv ⊢; first | (rw [← h]; exact hv) | exact hv),
    fun vs vs' x h _ hv => (by dsimp only at hv ⊢; first | (rw [← h]; exact hv) | exact hv),
    fun vs vs' x h _ hv => (by dsimp only at hv ⊢; first | (rw [← h]; exact hv) | exact hv),
    fun vs vs' x h _ hv => (by dsimp only at hv ⊢; first | (rw [← h]; exact hv) | exact hv),
    fun vs vs' x h _ hv => (by dsimp only at hv ⊢; first | (rw [← h]; exact hv) | exact hv),
    fun vs vs' x h _ hv => (by dsimp only at hv ⊢; first | (rw [← h]; exact hv) | exact hv),
    fun vs vs' x h _ hv => (by dsimp only at hv ⊢; first | (rw [← h]; exact hv) | exact hv),
    fun vs vs' x h _ hv => (by dsimp only at hv ⊢; first | (rw [← h]; exact hv) | exact hv),
    fun vs vs' x h _ hv => (by dsimp only at hv ⊢; first | (rw [← h]; exact hv) | exact hv),
    fun _ _ _ _ _ _ => trivial, trivial⟩ (⟨HBB.out.trans (.of (below_drewN (Below.refl _ _) 1) HBX.out.size), by rw [if_neg (by simp)]; exact HBX.out.up (below_drewN (Below.refl _ _) 1), HCC.out.up (below_drewN (Below.refl _ _) 1), own_below HOWN.out (below_drewN (Below.refl _ _) 1) (Nat.le_refl _)⟩) ⟨?_, ?_, ?_, ?_, ?_, ?_, ?_, ?_, ?_, ?_, trivial⟩ ?_
        · intro vals xw f hf1 hf2 hf3 hI hF
          clear hf2 hf3
          dsimp only [owes4, bare]
          simp only [putsD, Act.put, List.setIfInBounds_toArray, List.set_cons_zero, List.set_cons_succ]
          go_wp2
          exact ⟨rfl, rfl, ⟨fun h9 => absurd h9 (Nat.ne_of_beq_eq_false rfl), fun _ => Below.refl _ _⟩, hI⟩
        · intro vals xw f hf1 hf2 hf3 hI hF
          clear hf2 hf3
          dsimp only [owes4, bare]
          simp only [putsD, Act.put, List.setIfInBounds_toArray, List.set_cons_zero, List.set_cons_succ]
          go_wp2
          exact ⟨rfl, rfl, ⟨fun h9 => absurd h9 (Nat.ne_of_beq_eq_false rfl), fun _ => Below.refl _ _⟩, hI⟩
        · intro vals xw f hf1 hf2 hf3 hI hF
          clear hf2 hf3
          simp only [saysD, List.getD_cons_zero, List.getD_cons_succ, and_true] at hF
          have e26 := hF
          dsimp only [owes4, bare]
          simp only [putsD, Act.put, List.setIfInBounds_toArray, List.set_cons_zero, List.set_cons_succ]
          simp only [e26]
          go_wp2
          exact ⟨rfl, rfl, ⟨fun h9 => absurd h9 (Nat.ne_of_beq_eq_false rfl), fun _ => Below.refl _ _⟩, hI⟩
        · intro vals xw f hf1 hf2 hf3 hI hF
          clear hf2 hf3
          simp only [saysD, List.getD_cons_zero, List.getD_cons_succ, and_true] at hF
          have e27 := hF
          dsimp only [owes4, bare]
          simp only [putsD, Act.put, List.setIfInBounds_toArray, List.set_cons_zero, List.set_cons_succ]
          simp only [e27]
          go_wp2
          exact ⟨rfl, rfl, ⟨fun h9 => absurd h9 (Nat.ne_of_beq_eq_false rfl), fun _ => Below.refl _ _⟩, hI⟩
        · intro vals xw f hf1 hf2 hf3 hI hF
          clear hf2 hf3
          simp only [saysD, List.getD_cons_zero, List.getD_cons_succ, and_true] at hF
          have e28 := hF
          dsimp only [owes4, bare]
          simp only [putsD, Act.put, List.setIfInBounds_toArray, List.set_cons_zero, List.set_cons_succ]
          simp only [e28]
          have c8 := (cell_of_block hI.2.1.box 0).1
          go_wp2
          exact ⟨rfl, rfl, ⟨fun h9 => absurd h9 (Nat.ne_of_beq_eq_false rfl), fun _ => Below.refl _ _⟩, hI⟩
        · intro vals xw f hf1 hf2 hf3 hI hF
          clear hf2 hf3
          dsimp only [owes4, bare]
          simp only [putsD, Act.put, List.setIfInBounds_toArray, List.set_cons_zero, List.set_cons_succ]
          go_wp2
          exact ⟨rfl, rfl, ⟨fun h9 => absurd h9 (Nat.ne_of_beq_eq_false rfl), fun _ => Below.refl _ _⟩, hI⟩
        · intro vals xw f hf1 hf2 hf3 hI hF
          clear hf2 hf3
          simp only [saysD, List.getD_cons_zero, List.getD_cons_succ, and_true] at hF
          obtain ⟨e29, e30⟩ := hF
          dsimp only [owes4, bare]
          simp only [putsD, Act.put, List.setIfInBounds_toArray, List.set_cons_zero, List.set_cons_succ]
          simp only [e29, e30]
          have HI := Lib.hid hI
          clear hI
          go_wp2_with fail
          refine (has_any lo r n n.gs x xw HI.out.2.2.1 HNB.out.2.2 HNB.out.1 HNB.out.2.1 hx0 hx1).mono ?_
          rintro e wx ⟨rfl, hb9⟩
          rw [HMK.out]
          have HB9 := Lib.hid hb9
          clear hb9
          go_wp2
          exact ⟨rfl, rfl, ⟨fun h9 => absurd h9 (Nat.ne_of_beq_eq_false rfl), fun _ => HB9.out⟩, HI.out.up HB9.out⟩
        · intro vals xw f hf1 hf2 hf3 hI hF
          clear hf2 hf3
          simp only [saysD, List.getD_cons_zero, List.getD_cons_succ, and_true] at hF
          have e31 := hF
          dsimp only [owes4, bare]
          simp only [putsD, Act.put, List.setIfInBounds_toArray, List.set_cons_zero, List.set_cons_succ]
          simp only [e31]
          go_wp2
          exact ⟨rfl, rfl, ⟨fun h9 => absurd h9 (Nat.ne_of_beq_eq_false rfl), fun _ => Below.refl _ _⟩, hI⟩
        · intro vals xw f hf1 hf2 hf3 hI hF
          clear hf2 hf3
          dsimp only [owes4, bare]
          simp only [putsD, Act.put, List.setIfInBounds_toArray, List.set_cons_zero, List.set_cons_succ]
          have c8 : xw.cell? ⟨0, 0, none⟩ = some v := by rw [← HV.out]; exact hI.2.1.g.c0
          go_wp2
          exact ⟨rfl, rfl, ⟨fun h9 => absurd h9 (Nat.ne_of_beq_eq_false rfl), fun _ => Below.refl _ _⟩, hI⟩
        · intro vals xw f hf1 hf2 hf3 hI hF
          clear hf2 hf3
          simp only [saysD, List.getD_cons_zero, List.getD_cons_succ, and_true] at hF
          obtain ⟨e25, e32, e33⟩ := hF
          dsimp only [owes4, bare]
          simp only [putsD, Act.put, List.setIfInBounds_toArray, List.set_cons_zero, List.set_cons_succ]
          simp only [e25, e32, e33]
          obtain ⟨i1, i2, i3, i4⟩ := hI
          rw [hf1, if_neg (by simp)] at i2
          have I1 := Lib.hid i1
          have I3 := Lib.hid i3
          have I4 := Lib.hid i4
          have HF9 := Lib.hid (fail_any a0 a1 lo q r e2 (!mk) 0 xw i2)
          rw [HV.out] at HF9
          clear i1 i2 i3 i4
          go_wp2_with fail
          refine HF9.out.mono ?_
          rintro e wx ⟨rfl, hb9, hx9, hk9⟩
          have HB9 := Lib.hid hb9
          have HX9 := Lib.hid hx9
          have HK9 := Lib.hid hk9
          clear hb9 hx9 hk9 HF9
          go_wp2
          exact ⟨rfl, trivial, ⟨fun _ => HB9.out, fun h9 => absurd rfl h9⟩, I1.out.trans HB9.out, by rw [did_same, if_pos rfl, ← HE.out]; exact HX9.out, I3.out.keep HK9.out, I4.out.upB HB9.out⟩
        · intro vals xw f hall hI hF
          rw [show List.range _ = [0, 1, 2, 3, 4, 5, 6, 7, 8, 9] from rfl] at hF
          simp only [says, List.getD_cons_zero, List.getD_cons_succ, and_true] at hF
          obtain ⟨i1, i2, i3, i4⟩ := hI
          rw [hall 9 (by decide), if_pos rfl] at i2
          have I1 := Lib.hid i1
          have I2 := Lib.hid i2
          have I3 := Lib.hid i3
          have hsz9 := i1.bel.size
          clear i1 i2 i3 hF
          simp only [putsD, Act.put, List.setIfInBounds_toArray, List.set_cons_zero, List.set_cons_succ]
          have hal9 : Below xw.heap.size xw (xw.alloc (.cells #[.int .i64 x] 83)) := (Below.refl _ _).alloc (Nat.le_refl _) _
          have HAL := Lib.hid hal9
          have hsz8 : w.heap.size ≤ (xw.alloc (.cells #[.int .i64 x] 83)).heap.size := Nat.le_trans hsz9 hal9.size
          have I4 : Hid (OwnSg (xw.alloc (.cells #[.int .i64 x] 83)) w.heap.size (.slice A1 l.length c1) l) := Lib.hid (own_below i4 hal9 (Nat.le_refl _))
          clear i4 hal9
          go_wp2_with (at_builtin; refine wpList_append_sig2 (ys := l2) (by rfl) (.tmp 35) (.tmp 37) (by rfl) (by rfl) (by rfl) I4.out (heap_alloc_new _ _) (by omega) hsz8 HL2.out ?_; intro A2 c2 w2 hown2 hg2)
          have hal9 := HAL.out
          obtain ⟨hs9, hb8⟩ := I4.out.grown hg2 hsz8 hlo
          go_roundw
          case rel => exact ⟨k + 1, l2, A2, c2, by omega, by go_num, rfl, by rw [HL2.out, HL.out, HXX.out]; simp, hown2, (I1.out.trans (.of hal9 I2.out.size)).then hb8 hlo, by rw [← HE3.out]; exact (I2.out.up hal9).upS hs9, (I3.out.up hal9).keep hs9.ck⟩
          case measure => simp [intOf]; omega
      · have hke : k = xs.length := by omega
        subst hke
        have hlt2 : ¬ ((xs.length : Nat) : Int) < xs.length := by omega
        go_wp2
        go_ret
        have hl9 : l = xs := by rw [HL.out]; exact List.take_length
        subst hl9
        rw [HR.out]
        exact ⟨A1, c1, rfl, HOWN.out.pl.1, HOWN.out.pl.2, HBB.out, HBX.out, HCC.out⟩

/-! choose -/
end Go.Proofs.YtjghcaghigebjaaDoor

/-! The program's builder: built. -/
namespace Go.Proofs.YtjghcaghigebjaaDoor
open Go Go.RowKit

def pickN (ok : Bool) (out : N × List Int) : N × List Int := match ok with | true => out | false => (⟨0, []⟩, [])
def bitsOut (t : BS × List Int) : N × List Int := if t.1.e = none then (t.1.n, t.2) else (⟨0, []⟩, [])
/-- Two rows in two blocks. -/
def Apart9 (A B : Option Addr) (n m : Nat) : Prop := ∀ a b, A = some a → B = some b → 0 < n → 0 < m → a.block ≠ b.block
theorem apart_of {α β : Type} {L : Lay α} {M : Lay β} {w w' : World} {F G : Nat → Prop} {A B : Option Addr} {xs : List α} {ys : List β} (h : L.Sl w F A xs) (h' : M.Sl w' G B ys) (hFG : ∀ b, F b → G b → False) : Apart9 A B xs.length ys.length := fun a b ha hb h1 h2 e => by
  obtain ⟨a', e1, f, _⟩ := h h1
  obtain ⟨b', e2, g, _⟩ := h' h2
  rw [ha] at e1
  injection e1 with e1
  subst e1
  rw [hb] at e2
  injection e2 with e2
  subst e2
  exact hFG _ f (e ▸ g)
theorem apart_nil {A B : Option Addr} {n m : Nat} (h : n = 0) : Apart9 A B n m := fun _ _ _ _ h1 => by omega
/-- A net and marks, in memory of the call's own. -/
def RetBits (r : N × List Int) (w : World) (e : Ending) (w' : World) : Prop :=
  ∃ A B c d, e = .returned (.tuple #[.agg #[.int .i64 r.1.ins, .slice A r.1.gs.length c], .slice B r.2.length d]) ∧ r.1.gs.length ≤ c ∧ r.2.length ≤ d ∧ Lay.gate.Sl w' (Own w.heap.size w') A r.1.gs ∧ Lay.int.Sl w' (Own w.heap.size w') B r.2 ∧ Below w.heap.size w w' ∧ Apart9 A B r.1.gs.length r.2.length
/-- What a builder's function leaves. -/
def RetBC (a0 a1 : Addr) (lo : Nat) (w : World) (q r : Nat) (out : N × List Int) (e : Ending) (w' : World) : Prop :=
  ∃ (T : BS × List Int) (A : Option Addr) (c : Nat), e = .returned (.slice A T.2.length c) ∧ T.2.length ≤ 1000 ∧ Lay.int.Pl w' A T.2 ∧ BelB lo w w' ∧ Bd a0 a1 lo w' q r T.1 ∧ bitsOut T = out
/-- What is so while the answer of 'built' is laid: of the world w5 all but the result's block stays. -/
def BuiltI (w5 : World) (bx : Nat) (v : Value) (cs : Array Value) (done : Bool) (x : World) : Prop :=
  w5.grownBy x (some bx) ∧ (done = false → x.heap[bx]? = some (.cells #[.int .i64 0, .slice none 0 0] 29 (0, 0))) ∧ (done = true → x.heap[bx]? = some (.cells cs 29 (0, 0)))
theorem grown_trans9 {a b c : World} {r : Option Nat} (h : a.grownBy b r) (k : b.grownBy c r) : a.grownBy c r := ⟨k.os.trans h.os, k.tape.trans h.tape, k.output.trans h.output, Nat.le_trans h.size k.size, fun i hi hn => (k.block i (Nat.lt_of_lt_of_le hi h.size) hn).trans (h.block i hi hn)⟩
theorem grown_of9 {a b : World} (h : Below a.heap.size a b) (r : Option Nat) : a.grownBy b r := ⟨h.os, h.tape, h.output, h.size, fun i hi _ => h.block i hi⟩
theorem BuiltI.up {w5 x x' : World} {bx : Nat} {v : Value} {cs : Array Value} {done : Bool} (h : BuiltI w5 bx v cs done x) (hb : Below x.heap.size x x') : BuiltI w5 bx v cs done x' :=
  ⟨grown_trans9 h.1 (grown_of9 hb _), fun hd => (hb.block _ (lt_of_block (h.2.1 hd))).trans (h.2.1 hd), fun hd => (hb.block _ (lt_of_block (h.2.2 hd))).trans (h.2.2 hd)⟩
theorem own_grown9 {α : Type} {L : Lay α} {x y : World} {lo bx : Nat} {A : Option Addr} {xs : List α} (h : L.Sl x (Own lo x) A xs) (hg : x.grownBy y (some bx)) (hb : bx < lo) : L.Sl y (Own lo y) A xs := by
  have hk : ∀ b, Own lo x b → y.heap[b]? = x.heap[b]? := fun b hb' => hg.block b hb'.2.1 (fun e => by injection e with e; have := hb'.1; omega)
  refine (h.keep hk).mono fun b hb' => ⟨hb'.1, Nat.lt_of_lt_of_le hb'.2.1 hg.size, fun o => ?_⟩
  have := hb'.2.2 o
  unfold World.frozen? at this ⊢
  rw [hk b hb']; exact this
theorem own_mono9 {α : Type} {L : Lay α} {w : World} {A : Option Addr} {xs : List α} {b b' : Nat} (h : L.Sl w (Own b w) A xs) (hb : b' ≤ b) : L.Sl w (Own b' w) A xs := h.mono fun _ ⟨h1, h2⟩ => ⟨Nat.le_trans hb h1, h2⟩
end Go.Proofs.YtjghcaghigebjaaDoor

/-! The program's BitsIf. -/
namespace Go.Proofs.YtjghcaghigebjaaDoor
open Go Go.RowKit

theorem Lay.Sl.upP {α : Type} {L : Lay α} {w w' : World} {A : Option Addr} {xs : List α} (h : L.Pl w A xs) (hb : Below w.heap.size w w') : L.Pl w' A xs :=
  (h.keep fun b hp => hb.block b hp.lt).mono fun b ⟨cs, fr, h1⟩ => ⟨cs, fr, (hb.block b (lt_of_block h1)).trans h1⟩
theorem mark_mb {n : N} {m : Int} (hn : NB n) (h : netMark n m = true) : MB m := by
  obtain ⟨h0, h1, h2⟩ := hn
  have : m ≠ 0 ∧ -(1 + n.ins + n.gs.length) ≤ m ∧ m ≤ 1 + n.ins + n.gs.length := by simpa [netMark, sigOf] using h
  unfold MB; omega
theorem goodL_iff {n : N} {a : List Int} : goodL n a = true ↔ 1 ≤ a.length ∧ a.length ≤ 4 ∧ ∀ m ∈ a, netMark n m = true := by
  unfold goodL
  simp only [Bool.and_eq_true, decide_eq_true_eq, List.all_eq_true, and_assoc]
/-- What is so while the lists are read. -/
def TwoI (a0 a1 : Addr) (lo : Nat) (W : World) (q r : Nat) (n : N) (e : Option Nat) (x : World) : Prop := BelB lo W x ∧ Bx a0 a1 lo x q r e ∧ Circ lo x r n n.gs
theorem TwoI.up {a0 a1 : Addr} {lo : Nat} {W : World} {q r : Nat} {n : N} {e : Option Nat} {x x' : World} (h : TwoI a0 a1 lo W q r n e x) (hb : Below x.heap.size x x') : TwoI a0 a1 lo W q r n e x' := ⟨h.1.trans (.of hb h.2.1.size), h.2.1.up hb, h.2.2.up hb⟩
def stE (b : Bool) (e e' : Option Nat) : Option Nat := if b = true then e else e'
def bitsOk (n : N) (ok : Bool) (p : PG (List Int)) : N × List Int := if ok = true then bitsOut (run opsP p ⟨n, none⟩) else (⟨0, []⟩, [])
end Go.Proofs.YtjghcaghigebjaaDoor

/-! The program's BitsIf, whole. -/
namespace Go.Proofs.YtjghcaghigebjaaDoor
open Go Go.RowKit

theorem five_boxes (w : World) (o0 o1 o2 o3 o4 : Obj) : Below w.heap.size w (((((w.alloc o0).alloc o1).alloc o2).alloc o3).alloc o4) ∧ (((((w.alloc o0).alloc o1).alloc o2).alloc o3).alloc o4).heap[w.heap.size]? = some o0 ∧ (((((w.alloc o0).alloc o1).alloc o2).alloc o3).alloc o4).heap[w.heap.size + 1]? = some o1 ∧
    (((((w.alloc o0).alloc o1).alloc o2).alloc o3).alloc o4).heap[w.heap.size + 1 + 1]? = some o2 ∧ (((((w.alloc o0).alloc o1).alloc o2).alloc o3).alloc o4).heap[w.heap.size + 1 + 1 + 1]? = some o3 ∧ (((((w.alloc o0).alloc o1).alloc o2).alloc o3).alloc o4).heap[w.heap.size + 1 + 1 + 1 + 1]? = some o4 ∧ (((((w.alloc o0).alloc o1).alloc o2).alloc o3).alloc o4).heap.size = w.heap.size + 1 + 1 + 1 + 1 + 1 := by
  have h0 := heap_alloc_new w o0
  have h1 := heap_alloc_new (w.alloc o0) o1
  have h2 := heap_alloc_new ((w.alloc o0).alloc o1) o2
  have h3 := heap_alloc_new (((w.alloc o0).alloc o1).alloc o2) o3
  have h4 := heap_alloc_new ((((w.alloc o0).alloc o1).alloc o2).alloc o3) o4
  have b1 : Below w.heap.size w (w.alloc o0) := (Below.refl _ _).alloc (Nat.le_refl _) _
  have old : ∀ (u : World) (o : Obj) (k : Nat) (x : Obj), u.heap[k]? = some x → (u.alloc o).heap[k]? = some x := fun u o k x hx => (((Below.refl _ _).alloc (Nat.le_refl u.heap.size) o : Below u.heap.size u (u.alloc o)).block k (Array.getElem?_eq_some_iff.1 hx).1).trans hx
  refine ⟨(((b1.alloc (by simp) _).alloc (by simp; omega) _).alloc (by simp; omega) _).alloc (by simp; omega) _, old _ _ _ _ (old _ _ _ _ (old _ _ _ _ (old _ _ _ _ h0))), old _ _ _ _ (old _ _ _ _ (old _ _ _ _ (by simpa using h1))), old _ _ _ _ (old _ _ _ _ (by simpa using h2)), old _ _ _ _ (by simpa using h3), by simpa using h4, by simp⟩
end Go.Proofs.YtjghcaghigebjaaDoor

/-! The reference's gates with room: l7And, l7Xor, l7Or, l7One. -/
namespace Go.Proofs.YtjghcaghigebjaaDoor
open Go Go.RowKit

/-- A net with room or without it, and a number; what it shares memory with is told by F. -/
def RetK (F : Nat → Prop) (w : World) (res : (N × Bool) × Int) (e : Ending) (w' : World) : Prop :=
  ∃ A c, e = .returned (.tuple #[.agg #[.int .i64 res.1.1.ins, .slice A res.1.1.gs.length c, .bool res.1.2], .int .i64 res.2]) ∧ (A = none → res.1.1.gs.length = 0) ∧ Lay.gate.Sl w' (fun b => F b ∨ (w.heap.size ≤ b ∧ b < w'.heap.size)) A res.1.1.gs ∧ Below w.heap.size w w'
/-- The three cells of a net with room, written. -/
abbrev st3 (w : World) (h : Nat) (u0 u1 u2 : Value) : World := ((w.setCell ⟨h, 0, none⟩ u0).setCell ⟨h, 1, none⟩ u1).setCell ⟨h, 2, none⟩ u2
theorem st3_same {w : World} {h : Nat} {v0 v1 v2 : Value} {t : TypeId} (hb : w.heap[h]? = some (.cells #[v0, v1, v2] t (0, 0))) (u0 u1 u2 : Value) : (st3 w h u0 u1 u2).heap[h]? = some (.cells #[u0, u1, u2] t (0, 0)) :=
  heap_set_same _ h 2 u2 _ _ (heap_set_same _ h 1 u1 _ _ (heap_set_same w h 0 u0 _ _ hb))
theorem st3_other {w : World} {h b : Nat} {u0 u1 u2 : Value} (hb : b ≠ h) : (st3 w h u0 u1 u2).heap[b]? = w.heap[b]? :=
  (heap_setCell_other _ _ _ _ hb).trans ((heap_setCell_other _ _ _ _ hb).trans (heap_setCell_other _ _ _ _ hb))
theorem st3_below {B : Nat} {a w : World} {h : Nat} (hb : Below B a w) (hh : B ≤ h) (u0 u1 u2 : Value) : Below B a (st3 w h u0 u1 u2) := below_set (below_set (below_set hb hh _) hh _) hh _
theorem st3_sl {α : Type} {L : Lay α} {w : World} {h : Nat} {F : Nat → Prop} {A : Option Addr} {xs : List α} (hs : L.Sl w F A xs) (hne : ∀ b, F b → b ≠ h) (u0 u1 u2 : Value) : L.Sl (st3 w h u0 u1 u2) F A xs := hs.keep fun b hb => st3_other (hne b hb)
theorem st3_size {w : World} {h : Nat} {u0 u1 u2 : Value} : (st3 w h u0 u1 u2).heap.size = w.heap.size := by simp [st3, World.setCell]
set_option maxHeartbeats 2000000 in
theorem l7And_any (F : Nat → Prop) (A : Option Addr) (c : Nat) (k : N × Bool) (a b : Int) (w : World) (h : Lay.gate.Sl w F A k.1.gs) (hF : ∀ b, F b → b < w.heap.size) (hA : A = none → k.1.gs.length = 0) (hnb : NB k.1) (ha : RB a) (hb : RB b) :
    Calls Tryd.prog 112 #[.agg #[.int .i64 k.1.ins, .slice A k.1.gs.length c, .bool k.2], .int .i64 a, .int .i64 b] w (RetK F w (opsR.and k a b)) := by
  show Calls _ _ _ _ (RetK F w (stepR k (and1 k.1 a b)))
  obtain ⟨n, ok⟩ := k
  dsimp only at h hA hnb ⊢
  obtain ⟨n0, n1, n2⟩ := hnb
  obtain ⟨a0, a1⟩ := ha
  obtain ⟨b0, b1⟩ := hb
  obtain ⟨hW, hB0, hB1, hWS⟩ := two_boxes w (.cells #[.int .i64 n.ins, .slice A n.gs.length c, .bool ok] 68) (.cells #[.int .i64 0, .slice none 0 0, .bool false] 68)
  have HB0 := Lib.hid hB0
  have HB1 := Lib.hid hB1
  have HW := Lib.hid hW
  have HWS := Lib.hid hWS
  have H := Lib.hid h
  have HF := Lib.hid hF
  have z0 := (cell_of_block hB0 0).1
  have z1 := (cell_of_block hB0 1).1
  have z2 := (cell_of_block hB0 2).1
  have HCL := Lib.hid (l6And_any F A c n a b _ (h.below hW hF) (fun b hb => Nat.lt_of_lt_of_le (hF b hb) hW.size) (by omega) hA n0 (by omega) (by omega) (by omega))
  clear h hF hB0 hB1 hWS hW
  cases ok
  · have y0 := (cell_of_block HB1.out 0).1
    have y1 := (cell_of_block HB1.out 1).1
    have y2 := (cell_of_block HB1.out 2).1
    have f0 := (cell_of_block HB1.out 0).2
    have f1 := (cell_of_block HB1.out 1).2
    have f2 := (cell_of_block HB1.out 2).2
    clear HCL
    go_enter Tryd.func112, Tryd.ntmps112
    go_wp2
    refine bodyPost_ret (v := .tuple #[.agg #[.int .i64 n.ins, .slice A n.gs.length c, .bool false], .int .i64 1]) (by simp [results, Tryd.results112, go_sem]) rfl ?_
    rw [show stepR (n, false) (and1 n a b) = ((n, false), 1) from if_pos rfl]
    exact ⟨A, c, rfl, hA, (H.out.below (two_boxes w _ _).1 HF.out).mono fun _ => .inl, (two_boxes w _ _).1⟩
  · go_enter Tryd.func112, Tryd.ntmps112
    go_wp2_with fail
    refine HCL.out.mono ?_
    generalize (w.alloc (.cells #[.int .i64 n.ins, .slice A n.gs.length c, .bool true] 68)).alloc (.cells #[.int .i64 0, .slice none 0 0, .bool false] 68) = W at *
    rw [show stepR (n, true) (and1 n a b) = (((and1 n a b).1, decide ((and1 n a b).2 ≠ 0)), (and1 n a b).2) from if_neg (by simp)]
    generalize and1 n a b = m at *
    rintro e w1 ⟨A1, c1, rfl, hA1, hs1, hb1⟩
    have HS1 := Lib.hid hs1
    have HX1 := Lib.hid ((hb1.block _ (lt_of_block HB1.out)).trans HB1.out)
    have HW1 := Lib.hid hb1
    clear hs1 hb1 HCL z0 z1 z2
    have hal : Below w1.heap.size w1 (w1.alloc (.cells #[.int .i64 m.1.ins, .slice A1 m.1.gs.length c1] 29)) := (Below.refl _ _).alloc (Nat.le_refl _) _
    have hx2 := (hal.block _ (lt_of_block HX1.out)).trans HX1.out
    have y0 := (cell_of_block hx2 0).1
    have y1 := (cell_of_block hx2 1).1
    have y2 := (cell_of_block hx2 2).1
    have f0 := (cell_of_block hx2 0).2
    have f1 := (cell_of_block hx2 1).2
    have f2 := (cell_of_block hx2 2).2
    have HX2 := Lib.hid hx2
    have HAL := Lib.hid hal
    clear hx2 hal
    go_wp2
    generalize hW2 : w1.alloc (.cells #[.int .i64 m.1.ins, .slice A1 m.1.gs.length c1] 29) = W2 at *
    have hs := st3_same HX2.out (.int .i64 m.1.ins) (.slice A1 m.1.gs.length c1) (.bool (m.2 != 0))
    have k5 := (cell_of_block hs 0).1
    have k6 := (cell_of_block hs 1).1
    have k7 := (cell_of_block hs 2).1
    have kf5 := (cell_of_block hs 0).2
    have kf6 := (cell_of_block hs 1).2
    have kf7 := (cell_of_block hs 2).2
    refine bodyPost_ret (v := .tuple #[.agg #[.int .i64 m.1.ins, .slice A1 m.1.gs.length c1, .bool (m.2 != 0)], .int .i64 m.2]) (by simp [results, Tryd.results112, go_sem, k5, k6, k7, kf5, kf6, kf7]) rfl ?_
    have hd : (m.2 != 0) = decide (m.2 ≠ 0) := by by_cases h : m.2 = 0 <;> simp [h]
    rw [hd]
    have hsz := HAL.out.size
    have hsz1 := HW1.out.size
    refine ⟨A1, c1, rfl, hA1, (st3_sl (h := w.heap.size + 1) (HS1.out.below HAL.out (fun b hb => ?_)) (fun b hb => ?_) _ _ _).mono (fun b hb => ?_), st3_below (bthen (bthen HW.out HW1.out) HAL.out) (by omega) _ _ _⟩
    · rcases hb with hb | hb
      · have := HF.out b hb; have := HW.out.size; omega
      · exact hb.2
    · rcases hb with hb | hb
      · have := HF.out b hb; omega
      · have := HWS.out; omega
    · rcases hb with hb | hb
      · exact .inl hb
      · exact .inr ⟨by have := HWS.out; omega, by rw [st3_size]; omega⟩
set_option maxHeartbeats 2000000 in
theorem l7Xor_any (F : Nat → Prop) (A : Option Addr) (c : Nat) (k : N × Bool) (a b : Int) (w : World) (h : Lay.gate.Sl w F A k.1.gs) (hF : ∀ b, F b → b < w.heap.size) (hA : A = none → k.1.gs.length = 0) (hnb : NB k.1) (ha : RB a) (hb : RB b) :
    Calls Tryd.prog 119 #[.agg #[.int .i64 k.1.ins, .slice A k.1.gs.length c, .bool k.2], .int .i64 a, .int .i64 b] w (RetK F w (opsR.xor k a b)) := by
  show Calls _ _ _ _ (RetK F w (stepR k (xor1 k.1 a b)))
  obtain ⟨n, ok⟩ := k
  dsimp only at h hA hnb ⊢
  obtain ⟨n0, n1, n2⟩ := hnb
  obtain ⟨a0, a1⟩ := ha
  obtain ⟨b0, b1⟩ := hb
  obtain ⟨hW, hB0, hB1, hWS⟩ := two_boxes w (.cells #[.int .i64 n.ins, .slice A n.gs.length c, .bool ok] 68) (.cells #[.int .i64 0, .slice none 0 0, .bool false] 68)
  have HB0 := Lib.hid hB0
  have HB1 := Lib.hid hB1
  have HW := Lib.hid hW
  have HWS := Lib.hid hWS
  have H := Lib.hid h
  have HF := Lib.hid hF
  have z0 := (cell_of_block hB0 0).1
  have z1 := (cell_of_block hB0 1).1
  have z2 := (cell_of_block hB0 2).1
  have HCL := Lib.hid (l6Xor_any F A c n a b _ (h.below hW hF) (fun b hb => Nat.lt_of_lt_of_le (hF b hb) hW.size) (by omega) hA n0 (by omega) (by omega) (by omega))
  clear h hF hB0 hB1 hWS hW
  cases ok
  · have y0 := (cell_of_block HB1.out 0).1
    have y1 := (cell_of_block HB1.out 1).1
    have y2 := (cell_of_block HB1.out 2).1
    have f0 := (cell_of_block HB1.out 0).2
    have f1 := (cell_of_block HB1.out 1).2
    have f2 := (cell_of_block HB1.out 2).2
    clear HCL
    go_enter Tryd.func119, Tryd.ntmps119
    go_wp2
    refine bodyPost_ret (v := .tuple #[.agg #[.int .i64 n.ins, .slice A n.gs.length c, .bool false], .int .i64 1]) (by simp [results, Tryd.results119, go_sem]) rfl ?_
    rw [show stepR (n, false) (xor1 n a b) = ((n, false), 1) from if_pos rfl]
    exact ⟨A, c, rfl, hA, (H.out.below (two_boxes w _ _).1 HF.out).mono fun _ => .inl, (two_boxes w _ _).1⟩
  · go_enter Tryd.func119, Tryd.ntmps119
    go_wp2_with fail
    refine HCL.out.mono ?_
    generalize (w.alloc (.cells #[.int .i64 n.ins, .slice A n.gs.length c, .bool true] 68)).alloc (.cells #[.int .i64 0, .slice none 0 0, .bool false] 68) = W at *
    rw [show stepR (n, true) (xor1 n a b) = (((xor1 n a b).1, decide ((xor1 n a b).2 ≠ 0)), (xor1 n a b).2) from if_neg (by simp)]
    generalize xor1 n a b = m at *
    rintro e w1 ⟨A1, c1, rfl, hA1, hs1, hb1⟩
    have HS1 := Lib.hid hs1
    have HX1 := Lib.hid ((hb1.block _ (lt_of_block HB1.out)).trans HB1.out)
    have HW1 := Lib.hid hb1
    clear hs1 hb1 HCL z0 z1 z2
    have hal : Below w1.heap.size w1 (w1.alloc (.cells #[.int .i64 m.1.ins, .slice A1 m.1.gs.length c1] 29)) := (Below.refl _ _).alloc (Nat.le_refl _) _
    have hx2 := (hal.block _ (lt_of_block HX1.out)).trans HX1.out
    have y0 := (cell_of_block hx2 0).1
    have y1 := (cell_of_block hx2 1).1
    have y2 := (cell_of_block hx2 2).1
    have f0 := (cell_of_block hx2 0).2
    have f1 := (cell_of_block hx2 1).2
    have f2 := (cell_of_block hx2 2).2
    have HX2 := Lib.hid hx2
    have HAL := Lib.hid hal
    clear hx2 hal
    go_wp2
    generalize hW2 : w1.alloc (.cells #[.int .i64 m.1.ins, .slice A1 m.1.gs.length c1] 29) = W2 at *
    have hs := st3_same HX2.out (.int .i64 m.1.ins) (.slice A1 m.1.gs.length c1) (.bool (m.2 != 0))
    have k5 := (cell_of_block hs 0).1
    have k6 := (cell_of_block hs 1).1
    have k7 := (cell_of_block hs 2).1
    have kf5 := (cell_of_block hs 0).2
    have kf6 := (cell_of_block hs 1).2
    have kf7 := (cell_of_block hs 2).2
    refine bodyPost_ret (v := .tuple #[.agg #[.int .i64 m.1.ins, .slice A1 m.1.gs.length c1, .bool (m.2 != 0)], .int .i64 m.2]) (by simp [results, Tryd.results119, go_sem, k5, k6, k7, kf5, kf6, kf7]) rfl ?_
    have hd : (m.2 != 0) = decide (m.2 ≠ 0) := by by_cases h : m.2 = 0 <;> simp [h]
    rw [hd]
    have hsz := HAL.out.size
    have hsz1 := HW1.out.size
    refine ⟨A1, c1, rfl, hA1, (st3_sl (h := w.heap.size + 1) (HS1.out.below HAL.out (fun b hb => ?_)) (fun b hb => ?_) _ _ _).mono (fun b hb => ?_), st3_below (bthen (bthen HW.out HW1.out) HAL.out) (by omega) _ _ _⟩
    · rcases hb with hb | hb
      · have := HF.out b hb; have := HW.out.size; omega
      · exact hb.2
    · rcases hb with hb | hb
      · have := HF.out b hb; omega
      · have := HWS.out; omega
    · rcases hb with hb | hb
      · exact .inl hb
      · exact .inr ⟨by have := HWS.out; omega, by rw [st3_size]; omega⟩
/-- The variable of a net with room, the result's cells, ahead of the rest. -/
structure KS (F : Nat → Prop) (w x : World) (k : N × Bool) (A : Option Addr) (c : Nat) : Prop where
  bel : Below w.heap.size w x
  var : x.heap[w.heap.size]? = some (.cells #[.int .i64 k.1.ins, .slice A k.1.gs.length c, .bool k.2] 68 (0, 0))
  res : x.heap[w.heap.size + 1]? = some (.cells #[.int .i64 0, .slice none 0 0, .bool false] 68 (0, 0))
  row : Lay.gate.Sl x (fun b => F b ∨ (w.heap.size + 2 ≤ b ∧ b < x.heap.size)) A k.1.gs
  nil : A = none → k.1.gs.length = 0
theorem KS.lt {F : Nat → Prop} {w x : World} {k : N × Bool} {A : Option Addr} {c : Nat} (h : KS F w x k A c) (hF : ∀ b, F b → b < w.heap.size) : ∀ b, (fun b => F b ∨ (w.heap.size + 2 ≤ b ∧ b < x.heap.size)) b → b < x.heap.size := fun b hb => by
  rcases hb with hb | hb
  · have := hF b hb; have := h.bel.size; omega
  · exact hb.2
theorem KS.up {F : Nat → Prop} {w x x' : World} {k : N × Bool} {A : Option Addr} {c : Nat} (h : KS F w x k A c) (hF : ∀ b, F b → b < w.heap.size) (hb : Below x.heap.size x x') : KS F w x' k A c :=
  ⟨bthen h.bel hb, (hb.block _ (lt_of_block h.var)).trans h.var, (hb.block _ (lt_of_block h.res)).trans h.res, (h.row.below hb (h.lt hF)).mono fun b hb' => hb'.imp id fun h9 => ⟨h9.1, Nat.lt_of_lt_of_le h9.2 hb.size⟩, h.nil⟩
theorem KS.step {F : Nat → Prop} {w x x' : World} {k k' : N × Bool} {A A' : Option Addr} {c c' : Nat} (h : KS F w x k A c) (hF : ∀ b, F b → b < w.heap.size) (hs : Lay.gate.Sl x' (fun b => (fun b => F b ∨ (w.heap.size + 2 ≤ b ∧ b < x.heap.size)) b ∨ (x.heap.size ≤ b ∧ b < x'.heap.size)) A' k'.1.gs) (hb : Below x.heap.size x x') (hn : A' = none → k'.1.gs.length = 0) :
    KS F w (st3 x' w.heap.size (.int .i64 k'.1.ins) (.slice A' k'.1.gs.length c') (.bool k'.2)) k' A' c' := by
  have hv := (hb.block _ (lt_of_block h.var)).trans h.var
  have hr := (hb.block _ (lt_of_block h.res)).trans h.res
  have hx := lt_of_block h.res
  have hsz := hb.size
  refine ⟨st3_below (bthen h.bel hb) (Nat.le_refl _) _ _ _, st3_same hv _ _ _, (st3_other (by omega)).trans hr, (st3_sl (h := w.heap.size) hs (fun b hb' => ?_) _ _ _).mono (fun b hb' => ?_), hn⟩
  · rcases hb' with (hb' | hb') | hb'
    · have := hF b hb'; omega
    · omega
    · omega
  · rw [st3_size]
    rcases hb' with (hb' | hb') | hb'
    · exact .inl hb'
    · exact .inr ⟨hb'.1, by omega⟩
    · exact .inr ⟨by omega, hb'.2⟩
theorem KS.two {F : Nat → Prop} {w : World} {k : N × Bool} {A : Option Addr} {c : Nat} (h : Lay.gate.Sl w F A k.1.gs) (hF : ∀ b, F b → b < w.heap.size) (hA : A = none → k.1.gs.length = 0) : KS F w ((w.alloc (.cells #[.int .i64 k.1.ins, .slice A k.1.gs.length c, .bool k.2] 68)).alloc (.cells #[.int .i64 0, .slice none 0 0, .bool false] 68)) k A c := by
  obtain ⟨hW, h0, h1, _⟩ := two_boxes w (.cells #[.int .i64 k.1.ins, .slice A k.1.gs.length c, .bool k.2] 68) (.cells #[.int .i64 0, .slice none 0 0, .bool false] 68)
  exact ⟨hW, h0, h1, (h.below hW hF).mono fun _ => .inl, hA⟩
theorem KS.done {F : Nat → Prop} {w x : World} {k : N × Bool} {A : Option Addr} {c : Nat} {m : Int} (h : KS F w x k A c) (hF : ∀ b, F b → b < w.heap.size) : RetK F w (k, m) (.returned (.tuple #[.agg #[.int .i64 k.1.ins, .slice A k.1.gs.length c, .bool k.2], .int .i64 m])) (st3 x (w.heap.size + 1) (.int .i64 k.1.ins) (.slice A k.1.gs.length c) (.bool k.2)) := by
  refine ⟨A, c, rfl, h.nil, (st3_sl (h := w.heap.size + 1) h.row (fun b hb => ?_) _ _ _).mono (fun b hb => ?_), st3_below h.bel (by omega) _ _ _⟩
  · rcases hb with hb | hb
    · have := hF b hb; omega
    · omega
  · rw [st3_size]
    exact hb.imp id fun h9 => ⟨by omega, h9.2⟩
theorem KS.out {F : Nat → Prop} {w x x' : World} {k k' : N × Bool} {A A' : Option Addr} {c c' : Nat} {m : Int} (h : KS F w x k A c) (hF : ∀ b, F b → b < w.heap.size) (hs : Lay.gate.Sl x' (fun b => (fun b => F b ∨ (w.heap.size + 2 ≤ b ∧ b < x.heap.size)) b ∨ (x.heap.size ≤ b ∧ b < x'.heap.size)) A' k'.1.gs) (hb : Below x.heap.size x x') (hn : A' = none → k'.1.gs.length = 0) :
    RetK F w (k', m) (.returned (.tuple #[.agg #[.int .i64 k'.1.ins, .slice A' k'.1.gs.length c', .bool k'.2], .int .i64 m])) (st3 x' (w.heap.size + 1) (.int .i64 k'.1.ins) (.slice A' k'.1.gs.length c') (.bool k'.2)) := by
  have hx := lt_of_block h.res
  refine ⟨A', c', rfl, hn, (st3_sl (h := w.heap.size + 1) hs (fun b hb' => ?_) _ _ _).mono (fun b hb' => ?_), st3_below (bthen h.bel hb) (by omega) _ _ _⟩
  · rcases hb' with (hb' | hb') | hb'
    · have := hF b hb'; omega
    · omega
    · omega
  · rw [st3_size]
    have hsz := hb.size
    rcases hb' with (hb' | hb') | hb'
    · exact .inl hb'
    · exact .inr ⟨by omega, by omega⟩
    · exact .inr ⟨by omega, hb'.2⟩
set_option maxHeartbeats 2000000 in
theorem l7Or_any (F : Nat → Prop) (A : Option Addr) (c : Nat) (k : N × Bool) (a b : Int) (w : World) (h : Lay.gate.Sl w F A k.1.gs) (hF : ∀ b, F b → b < w.heap.size) (hA : A = none → k.1.gs.length = 0) (hnb : NB k.1) (ha : RB a) (hb : RB b) :
    Calls Tryd.prog 113 #[.agg #[.int .i64 k.1.ins, .slice A k.1.gs.length c, .bool k.2], .int .i64 a, .int .i64 b] w (RetK F w (run opsR (orP a b) k)) := by
  have K0 := KS.two (c := c) h hF hA
  have HF := Lib.hid hF
  have HNB := Lib.hid hnb
  clear h hA
  have Ra := Lib.hid ha
  obtain ⟨a0, a1⟩ := ha
  have Rb := Lib.hid hb
  obtain ⟨b0, b1⟩ := hb
  show Calls _ _ _ _ (RetK F w ((opsR.and k (-a) (-b)).1, -(opsR.and k (-a) (-b)).2))
  have HM := Lib.hid (stepR_nb (r := and1 k.1 (-a) (-b)) (k := k) hnb (and1_nb hnb Ra.out.neg Rb.out.neg)).2
  rw [show stepR k (and1 k.1 (-a) (-b)) = opsR.and k (-a) (-b) from rfl] at HM
  have y0 := (cell_of_block K0.var 0).1
  have y1 := (cell_of_block K0.var 1).1
  have y2 := (cell_of_block K0.var 2).1
  have HC := Lib.hid (l7And_any _ A c k (-a) (-b) _ K0.row (K0.lt HF.out) K0.nil hnb Ra.out.neg Rb.out.neg)
  generalize hm : opsR.and k (-a) (-b) = m at *
  have Hm := Lib.hid hm
  clear hm
  have K0 := Lib.hid K0
  go_enter Tryd.func113, Tryd.ntmps113
  go_wp2_with fail
  refine HC.out.mono ?_
  generalize hX0 : (w.alloc (.cells #[.int .i64 k.1.ins, .slice A k.1.gs.length c, .bool k.2] 68)).alloc (.cells #[.int .i64 0, .slice none 0 0, .bool false] 68) = X0 at *
  clear hX0
  rintro e z1 ⟨A1, c1, rfl, hn9, hs9, hb9⟩
  have hv9 := (hb9.block _ (lt_of_block K0.out.var)).trans K0.out.var
  clear y0 y1 y2
  have y0 := (cell_of_block hv9 0).1
  have y1 := (cell_of_block hv9 1).1
  have y2 := (cell_of_block hv9 2).1
  have f0 := (cell_of_block hv9 0).2
  have f1 := (cell_of_block hv9 1).2
  have f2 := (cell_of_block hv9 2).2
  have K9 := K0.out.step (c' := c1) HF.out hs9 hb9 hn9
  dsimp only [st3] at K9
  have K1 := Lib.hid K9
  clear K9 HC hs9 hb9 hn9 hv9 K0
  obtain ⟨hm0, hm1⟩ := HM.out
  have q0 := (cell_of_block K1.out.var 0).1
  have q1 := (cell_of_block K1.out.var 1).1
  have q2 := (cell_of_block K1.out.var 2).1
  have r0 := (cell_of_block K1.out.res 0).1
  have r1 := (cell_of_block K1.out.res 1).1
  have r2 := (cell_of_block K1.out.res 2).1
  have rf0 := (cell_of_block K1.out.res 0).2
  have rf1 := (cell_of_block K1.out.res 1).2
  have rf2 := (cell_of_block K1.out.res 2).2
  go_wp2
  generalize hX9 : ((z1.setCell ⟨w.heap.size, 0, none⟩ (.int .i64 m.1.1.ins)).setCell ⟨w.heap.size, 1, none⟩ (.slice A1 m.1.1.gs.length c1)).setCell ⟨w.heap.size, 2, none⟩ (.bool m.1.2) = X9 at *
  clear hX9
  have hs := st3_same K1.out.res (.int .i64 m.1.1.ins) (.slice A1 m.1.1.gs.length c1) (.bool m.1.2)
  have k5 := (cell_of_block hs 0).1
  have kf5 := (cell_of_block hs 0).2
  have k6 := (cell_of_block hs 1).1
  have kf6 := (cell_of_block hs 1).2
  have k7 := (cell_of_block hs 2).1
  have kf7 := (cell_of_block hs 2).2
  refine bodyPost_ret (v := .tuple #[.agg #[.int .i64 m.1.1.ins, .slice A1 m.1.1.gs.length c1, .bool m.1.2], .int .i64 (-m.2)]) (by simp [results, Tryd.results113, go_sem, k5, k6, k7, kf5, kf6, kf7]) rfl ?_
  exact K1.out.done HF.out
set_option maxHeartbeats 2000000 in
theorem l7One_any (F : Nat → Prop) (A : Option Addr) (c : Nat) (k : N × Bool) (a b d : Int) (w : World) (h : Lay.gate.Sl w F A k.1.gs) (hF : ∀ b, F b → b < w.heap.size) (hA : A = none → k.1.gs.length = 0) (hnb : NB k.1) (ha : RB a) (hb : RB b) (hd : RB d) :
    Calls Tryd.prog 79 #[.agg #[.int .i64 k.1.ins, .slice A k.1.gs.length c, .bool k.2], .int .i64 a, .int .i64 b, .int .i64 d] w (RetK F w (run opsR (muxP a b d) k)) := by
  have K0 := KS.two (c := c) h hF hA
  have HF := Lib.hid hF
  have HNB := Lib.hid hnb
  clear h hA
  have Ra := Lib.hid ha
  obtain ⟨a0, a1⟩ := ha
  have Rb := Lib.hid hb
  obtain ⟨b0, b1⟩ := hb
  have Rd := Lib.hid hd
  obtain ⟨d0, d1⟩ := hd
  show Calls _ _ _ _ (RetK F w (run opsR (orP (opsR.and k a b).2 (opsR.and (opsR.and k a b).1 (-a) d).2) (opsR.and (opsR.and k a b).1 (-a) d).1))
  have HM1 : Hid (NB (opsR.and k a b).1.1 ∧ RB (opsR.and k a b).2) := Lib.hid (stepR_nb (r := and1 k.1 a b) (k := k) hnb (and1_nb hnb Ra.out Rb.out))
  have HM2 : Hid (NB (opsR.and (opsR.and k a b).1 (-a) d).1.1 ∧ RB (opsR.and (opsR.and k a b).1 (-a) d).2) := Lib.hid (stepR_nb (r := and1 (opsR.and k a b).1.1 (-a) d) (k := (opsR.and k a b).1) HM1.out.1 (and1_nb HM1.out.1 Ra.out.neg Rd.out))
  have y0 := (cell_of_block K0.var 0).1
  have y1 := (cell_of_block K0.var 1).1
  have y2 := (cell_of_block K0.var 2).1
  have HC := Lib.hid (l7And_any _ A c k (a) (b) _ K0.row (K0.lt HF.out) K0.nil hnb Ra.out Rb.out)
  generalize hm : opsR.and k a b = m at *
  have Hm := Lib.hid hm
  clear hm
  have K0 := Lib.hid K0
  go_enter Tryd.func79, Tryd.ntmps79
  go_wp2_with fail
  refine HC.out.mono ?_
  generalize hX0 : (w.alloc (.cells #[.int .i64 k.1.ins, .slice A k.1.gs.length c, .bool k.2] 68)).alloc (.cells #[.int .i64 0, .slice none 0 0, .bool false] 68) = X0 at *
  clear hX0
  rintro e z1 ⟨A1, c1, rfl, hn9, hs9, hb9⟩
  have hv9 := (hb9.block _ (lt_of_block K0.out.var)).trans K0.out.var
  clear y0 y1 y2
  have y0 := (cell_of_block hv9 0).1
  have y1 := (cell_of_block hv9 1).1
  have y2 := (cell_of_block hv9 2).1
  have f0 := (cell_of_block hv9 0).2
  have f1 := (cell_of_block hv9 1).2
  have f2 := (cell_of_block hv9 2).2
  have K9 := K0.out.step (c' := c1) HF.out hs9 hb9 hn9
  dsimp only [st3] at K9
  have K1 := Lib.hid K9
  clear K9 HC hs9 hb9 hn9 hv9 K0
  have y0 := (cell_of_block K1.out.var 0).1
  have y1 := (cell_of_block K1.out.var 1).1
  have y2 := (cell_of_block K1.out.var 2).1
  have HC := Lib.hid (l7And_any _ A1 c1 m.1 (-a) (d) _ K1.out.row (K1.out.lt HF.out) K1.out.nil HM1.out.1 Ra.out.neg Rd.out)
  generalize hp : opsR.and m.1 (-a) d = p at *
  have Hp := Lib.hid hp
  clear hp
  go_wp2_with fail
  refine HC.out.mono ?_
  generalize hX1 : ((z1.setCell ⟨w.heap.size, 0, none⟩ (.int .i64 m.1.1.ins)).setCell ⟨w.heap.size, 1, none⟩ (.slice A1 m.1.1.gs.length c1)).setCell ⟨w.heap.size, 2, none⟩ (.bool m.1.2) = X1 at *
  clear hX1
  rintro e z2 ⟨A2, c2, rfl, hn9, hs9, hb9⟩
  have hv9 := (hb9.block _ (lt_of_block K1.out.var)).trans K1.out.var
  clear y0 y1 y2 f0 f1 f2
  have y0 := (cell_of_block hv9 0).1
  have y1 := (cell_of_block hv9 1).1
  have y2 := (cell_of_block hv9 2).1
  have f0 := (cell_of_block hv9 0).2
  have f1 := (cell_of_block hv9 1).2
  have f2 := (cell_of_block hv9 2).2
  have K9 := K1.out.step (c' := c2) HF.out hs9 hb9 hn9
  dsimp only [st3] at K9
  have K2 := Lib.hid K9
  clear K9 HC hs9 hb9 hn9 hv9 K1
  have y0 := (cell_of_block K2.out.var 0).1
  have y1 := (cell_of_block K2.out.var 1).1
  have y2 := (cell_of_block K2.out.var 2).1
  have HC := Lib.hid (l7Or_any _ A2 c2 p.1 (m.2) (p.2) _ K2.out.row (K2.out.lt HF.out) K2.out.nil HM2.out.1 HM1.out.2 HM2.out.2)
  generalize hq : run opsR (orP m.2 p.2) p.1 = q at *
  have Hq := Lib.hid hq
  clear hq
  go_wp2_with fail
  refine HC.out.mono ?_
  generalize hX2 : ((z2.setCell ⟨w.heap.size, 0, none⟩ (.int .i64 p.1.1.ins)).setCell ⟨w.heap.size, 1, none⟩ (.slice A2 p.1.1.gs.length c2)).setCell ⟨w.heap.size, 2, none⟩ (.bool p.1.2) = X2 at *
  clear hX2
  rintro e z9 ⟨A9, c9, rfl, hn9, hs9, hb9⟩
  have hr9 := (hb9.block _ (lt_of_block K2.out.res)).trans K2.out.res
  clear y0 y1 y2 f0 f1 f2
  have r0 := (cell_of_block hr9 0).1
  have r1 := (cell_of_block hr9 1).1
  have r2 := (cell_of_block hr9 2).1
  have rf0 := (cell_of_block hr9 0).2
  have rf1 := (cell_of_block hr9 1).2
  have rf2 := (cell_of_block hr9 2).2
  have HS9 := Lib.hid hs9
  have HB9 := Lib.hid hb9
  have HR9 := Lib.hid hr9
  clear hs9 hb9 hr9 HC
  go_wp2
  have hs := st3_same HR9.out (.int .i64 q.1.1.ins) (.slice A9 q.1.1.gs.length c9) (.bool q.1.2)
  have k5 := (cell_of_block hs 0).1
  have kf5 := (cell_of_block hs 0).2
  have k6 := (cell_of_block hs 1).1
  have kf6 := (cell_of_block hs 1).2
  have k7 := (cell_of_block hs 2).1
  have kf7 := (cell_of_block hs 2).2
  refine bodyPost_ret (v := .tuple #[.agg #[.int .i64 q.1.1.ins, .slice A9 q.1.1.gs.length c9, .bool q.1.2], .int .i64 q.2]) (by simp [results, Tryd.results79, go_sem, k5, k6, k7, kf5, kf6, kf7]) rfl ?_
  exact K2.out.out HF.out HS9.out HB9.out hn9
end Go.Proofs.YtjghcaghigebjaaDoor

/-! append of one integer onto a row of the call's own, and where the row lies then. -/
namespace Go.Proofs.YtjghcaghigebjaaDoor
open Go Go.RowKit

theorem wpList_append_int8 {Q : Exit → Act → World → Prop} {ops : Array Oper} {rest : List Oper} {o : Oper} {a : Act} {W : World} {lo : Nat} {A : Option Addr} {c : Nat} {xs ys : List Int} {x : Int} {e' : TypeId} (hgd : o.guard = none) (s y : Operand)
    (ho : o.op = .call { callee := .builtin .append, args := #[s, y], argTypes := #[25, 25] }) (hs : a.eval s = .slice A xs.length c) (hy : a.eval y = .slice (some ⟨W.heap.size, 0, none⟩) 1 1)
    (hown : OwnI W lo (.slice A xs.length c) xs) (hn : xs.length ≤ 2000000) (hlo : lo ≤ W.heap.size) (hys : ys = xs ++ [x])
    (h : ∀ A' c' w', OwnI w' lo (.slice A' ys.length c') ys → W.grownBy w' (Value.slice A xs.length c).ownBlock →
      ((Value.slice A' ys.length c').ownBlock = (Value.slice A xs.length c).ownBlock ∨ ∃ g, (Value.slice A' ys.length c').ownBlock = some g ∧ W.heap.size ≤ g) → wpList Tryd.prog ops Q rest (a.put o.dst (.slice A' ys.length c')) w') :
    wpList Tryd.prog ops Q (o :: rest) a (W.alloc (.cells #[.int .i64 x] e')) := by
  obtain ⟨i0, hi0, hz0, hz1, hz2⟩ := info_parts int_info
  have hal : Below W.heap.size W (W.alloc (.cells #[.int .i64 x] e')) := (Below.refl _ _).alloc (Nat.le_refl _) _
  have hl : ys.length = xs.length + 1 := by rw [hys]; simp
  have hm : ys.map (Value.int .i64) = xs.map (Value.int .i64) ++ [.int .i64 x] := by rw [hys]; simp
  refine wpList_plain hgd fun _ hK => ?_
  obtain ⟨v', w', hrun, ho', hg', _, hbk⟩ := run_append_own_at (P := Tryd.prog) (W.alloc (.cells #[.int .i64 x] e')) lo 25 o.type 3 i0 _ 1 8 Tryd.underlying25 hi0 hz0 hz1 hz2 (by rfl) (by omega)
    (.slice A xs.length c) xs.length (xs.map (Value.int .i64)) (hown.up hal) ⟨W.heap.size, 0, none⟩ 1 1 [.int .i64 x] (by rfl) (fun j u hu => by
      have := World.news_of_block (heap_alloc_new W (.cells #[.int .i64 x] e')) j u hu
      exact this) (by simp; rfl) (by unfold maxLen; omega) (by omega) (Nat.le_trans hlo hal.size)
  rw [← hl, ← hm] at ho'
  obtain ⟨A', c', rfl, _, _⟩ := OwnI.form (xs := ys) ho'
  unfold Oper.wp execOp
  simp only [ho, resolve, invoke, builtin, Sem.run_bind, Sem.run_pure, Result.andThen_ok, List.map_toArray, List.map_cons, List.map_nil, hs, hy, hrun]
  refine hK _ _ (h A' c' w' ho' (grown_then hal hg') ?_)
  rcases hbk with e | e
  · exact .inl e
  · exact .inr ⟨_, e, hal.size⟩
end Go.Proofs.YtjghcaghigebjaaDoor

/-! The reference's l7Ifs. -/
namespace Go.Proofs.YtjghcaghigebjaaDoor
open Go Go.RowKit

abbrev G2 (F : Nat → Prop) (w x : World) (S : Nat → Prop) (b : Nat) : Prop := F b ∨ (w.heap.size + 2 ≤ b ∧ b < x.heap.size ∧ ¬ S b)
/-- The variable of a net with room, the result's cells; the net's row lies in no block of S. -/
structure KS2 (F : Nat → Prop) (w x : World) (k : N × Bool) (A : Option Addr) (c : Nat) (S : Nat → Prop) : Prop where
  bel : Below w.heap.size w x
  var : x.heap[w.heap.size]? = some (.cells #[.int .i64 k.1.ins, .slice A k.1.gs.length c, .bool k.2] 68 (0, 0))
  res : x.heap[w.heap.size + 1]? = some (.cells #[.int .i64 0, .slice none 0 0, .bool false] 68 (0, 0))
  row : Lay.gate.Sl x (G2 F w x S) A k.1.gs
  nil : A = none → k.1.gs.length = 0
theorem KS2.lt {F : Nat → Prop} {w x : World} {S : Nat → Prop} (h : Below w.heap.size w x) (hF : ∀ b, F b → b < w.heap.size) : ∀ b, G2 F w x S b → b < x.heap.size := fun b hb => by
  rcases hb with hb | hb
  · have := hF b hb; have := h.size; omega
  · exact hb.2.1
theorem G2.up {α : Type} {L : Lay α} {F : Nat → Prop} {w x x' : World} {S : Nat → Prop} {A : Option Addr} {xs : List α} (h : L.Sl x (G2 F w x S) A xs) (hw : Below w.heap.size w x) (hF : ∀ b, F b → b < w.heap.size) (hb : Below x.heap.size x x') : L.Sl x' (G2 F w x' S) A xs :=
  (h.below hb (KS2.lt hw hF)).mono fun b hb' => hb'.imp id fun h9 => ⟨h9.1, Nat.lt_of_lt_of_le h9.2.1 hb.size, h9.2.2⟩
theorem G2.up2 {α : Type} {L : Lay α} {F : Nat → Prop} {w x x' : World} {S : Nat → Prop} {A : Option Addr} {xs : List α} (h : L.Sl x (G2 F w x S) A xs) (hF : ∀ b, F b → b < x.heap.size) (hb : Below x.heap.size x x') : L.Sl x' (G2 F w x' S) A xs :=
  (h.below hb (fun b hb' => hb'.elim (hF b) (fun h9 => h9.2.1))).mono fun b hb' => hb'.imp id fun h9 => ⟨h9.1, Nat.lt_of_lt_of_le h9.2.1 hb.size, h9.2.2⟩
theorem KS2.up {F : Nat → Prop} {w x x' : World} {k : N × Bool} {A : Option Addr} {c : Nat} {S : Nat → Prop} (h : KS2 F w x k A c S) (hF : ∀ b, F b → b < w.heap.size) (hb : Below x.heap.size x x') : KS2 F w x' k A c S :=
  ⟨bthen h.bel hb, (hb.block _ (lt_of_block h.var)).trans h.var, (hb.block _ (lt_of_block h.res)).trans h.res, G2.up h.row h.bel hF hb, h.nil⟩
/-- A write into the variable. -/
theorem KS2.set {F : Nat → Prop} {w x : World} {k k' : N × Bool} {A A' : Option Addr} {c c' : Nat} {S : Nat → Prop} (h : KS2 F w x k A c S) (hF : ∀ b, F b → b < w.heap.size) (hs : Lay.gate.Sl x (G2 F w x S) A' k'.1.gs) (hn : A' = none → k'.1.gs.length = 0) :
    KS2 F w (st3 x w.heap.size (.int .i64 k'.1.ins) (.slice A' k'.1.gs.length c') (.bool k'.2)) k' A' c' S := by
  refine ⟨st3_below h.bel (Nat.le_refl _) _ _ _, st3_same h.var _ _ _, (st3_other (by omega)).trans h.res, (st3_sl (h := w.heap.size) hs (fun b hb' => ?_) _ _ _).mono (fun b hb' => ?_), hn⟩
  · rcases hb' with hb' | hb'
    · have := hF b hb'; omega
    · omega
  · rw [G2, st3_size]; exact hb'
/-- A longer row of the call's own, which may lie elsewhere. -/
theorem KS2.grown {F : Nat → Prop} {w x x' : World} {k : N × Bool} {A : Option Addr} {c : Nat} {v v' : Value} (h : KS2 F w x k A c (fun b => v.ownBlock = some b)) (hF : ∀ b, F b → b < w.heap.size) (hg : x.grownBy x' v.ownBlock) (hv : ∀ g, v.ownBlock = some g → w.heap.size + 2 ≤ g) (hbk : v'.ownBlock = v.ownBlock ∨ ∃ g, v'.ownBlock = some g ∧ x.heap.size ≤ g) :
    KS2 F w x' k A c (fun b => v'.ownBlock = some b) := by
  have hne : ∀ b, b < w.heap.size + 2 → some b ≠ v.ownBlock := fun b hb e => by have := hv b e.symm; omega
  have h1 := lt_of_block h.var
  have h2 := lt_of_block h.res
  have hk : ∀ b, G2 F w x (fun b => v.ownBlock = some b) b → x'.heap[b]? = x.heap[b]? := fun b hb => by
    rcases hb with hb | hb
    · have := hF b hb; exact hg.block b (by omega) (hne b (by omega))
    · exact hg.block b hb.2.1 fun e => hb.2.2 e.symm
  refine ⟨h.bel.grown hg h.bel.size fun g e => by have := hv g e; omega, (hg.block _ h1 (hne _ (by omega))).trans h.var, (hg.block _ h2 (hne _ (by omega))).trans h.res, (h.row.keep hk).mono fun b hb => hb.imp id fun h9 => ⟨h9.1, Nat.lt_of_lt_of_le h9.2.1 hg.size, fun e => ?_⟩, h.nil⟩
  rcases hbk with hbk | ⟨g, hbk, hle⟩
  · rw [hbk] at e; exact h9.2.2 e
  · rw [hbk] at e; injection e with e; omega
theorem mux_rb {c x y : Int} {k : N × Bool} (h : NB k.1) (hc : RB c) (hx : RB x) (hy : RB y) : NB (run opsR (muxP c x y) k).1.1 ∧ RB (run opsR (muxP c x y) k).2 := by
  have h1 : NB (opsR.and k c x).1.1 ∧ RB (opsR.and k c x).2 := stepR_nb h (and1_nb h hc hx)
  have h2 : NB (opsR.and (opsR.and k c x).1 (-c) y).1.1 ∧ RB (opsR.and (opsR.and k c x).1 (-c) y).2 := stepR_nb h1.1 (and1_nb h1.1 hc.neg hy)
  have h3 : NB (opsR.and (opsR.and (opsR.and k c x).1 (-c) y).1 (-(opsR.and k c x).2) (-(opsR.and (opsR.and k c x).1 (-c) y).2)).1.1 ∧ RB (opsR.and (opsR.and (opsR.and k c x).1 (-c) y).1 (-(opsR.and k c x).2) (-(opsR.and (opsR.and k c x).1 (-c) y).2)).2 := stepR_nb h2.1 (and1_nb h2.1 h1.2.neg h2.2.neg)
  exact ⟨h3.1, h3.2.neg⟩
end Go.Proofs.YtjghcaghigebjaaDoor

/-! The reference's l7Right, l7Told. -/
namespace Go.Proofs.YtjghcaghigebjaaDoor
open Go Go.RowKit

set_option maxRecDepth 100000 in
set_option maxHeartbeats 2000000 in
theorem l7Right_any (A X : Option Addr) (c cx : Nat) (n : N) (xs : List Int) (w : World) (hX : Lay.int.Rd w X xs) (hxi : i64s xs) (hlx : xs.length ≤ 1048576) (hn : n.gs.length ≤ 1048576) (h0 : 0 ≤ n.ins) (h1 : n.ins ≤ 1000000) :
    Calls Tryd.prog 41 #[.agg #[.int .i64 n.ins, .slice A n.gs.length c], .slice X xs.length cx] w (RetB w (goodL n xs)) := by
  have hal : Below w.heap.size w (w.alloc (.cells #[.int .i64 n.ins, .slice A n.gs.length c] 29)) := (Below.refl _ _).alloc (Nat.le_refl _) _
  have HB0 := Lib.hid (heap_alloc_new w (.cells #[.int .i64 n.ins, .slice A n.gs.length c] 29))
  have HAL := Lib.hid hal
  have HX := Lib.hid hX
  have HXI := Lib.hid hxi
  clear hal hX hxi
  go_enter Tryd.func41, Tryd.ntmps41
  go_wp2
  generalize hX0 : w.alloc (.cells #[.int .i64 n.ins, .slice A n.gs.length c] 29) = X0 at *
  clear hX0
  go_loopw [5] (fun i wr => ∃ (j : Nat), j ≤ xs.length ∧ i = .int .i64 j ∧ Below w.heap.size w wr ∧ wr.heap[w.heap.size]? = some (.cells #[.int .i64 n.ins, .slice A n.gs.length c] 29 (0, 0)) ∧ ∀ m ∈ xs.take j, netMark n m = true) (fun i _ => xs.length - (intOf i).toNat)
  case atStart => exact ⟨0, Nat.zero_le _, rfl, HAL.out, HB0.out, (fun m hm => by simp at hm)⟩
  case round =>
    obtain ⟨j, hj, rfl, hb, hb0, hall⟩ := hrel
    have HB := Lib.hid hb
    have HB1 := Lib.hid hb0
    have HALL := Lib.hid hall
    clear hb hb0 hall
    by_cases hlt : j < xs.length
    · have hlt2 : (j : Int) < xs.length := by omega
      obtain ⟨x, hx⟩ : ∃ x, xs[j]? = some x := ⟨_, List.getElem?_eq_getElem hlt⟩
      have hxg : xs[j] = x := (List.getElem?_eq_some_iff.1 hx).2
      have HMEM := Lib.hid (List.mem_of_getElem? hx)
      obtain ⟨x0, x1⟩ := HXI.out x HMEM.out
      obtain ⟨adx, rfl, -, -⟩ := HX.out.at_int hlt
      have HRX : Hid (∀ z, Below w.heap.size w z → z.cell? (adx.add j) = some (.int .i64 x)) := Lib.hid fun z hz => by
        obtain ⟨ad, e, _, hc⟩ := (HX.out.up hz).at_int hlt
        injection e with e; subst e; rw [← hxg]; exact hc
      have HTK : Hid (xs.take (j + 1) = xs.take j ++ [x]) := Lib.hid (by rw [← hxg]; simp)
      obtain ⟨mk, hmk⟩ : ∃ mk, netMark n x = mk := ⟨_, rfl⟩
      have HMK := Lib.hid hmk
      clear hx hxg hmk
      go_wp2
      refine wp_region_rel4 [[], [], [], [(1, 13), (2, 14)], [(3, 15)], [(0, 12), (4, 16)], [(5, 17)]]
        (fun x9 y9 => Below x9.heap.size x9 y9)
        []
        (fun _ x9 => Below w.heap.size w x9 ∧ x9.heap[w.heap.size]? = some (.cells #[.int .i64 n.ins, .slice A n.gs.length c] 29 (0, 0)))
        [fun vs9 _ => vs9 0 = (.agg #[.int .i64 n.ins, .slice A n.gs.length c]),
    fun vs9 _ => vs9 1 = (.slice (some adx) xs.length cx),
    fun vs9 _ => vs9 2 = (.int .i64 (j : Int)),
    fun vs9 _ => vs9 3 = (.pointer (some (adx.add j))),
    fun vs9 _ => vs9 4 = (.int .i64 x),
    fun vs9 _ => vs9 5 = (.bool mk),
    fun vs9 _ => vs9 6 = (.bool (!mk))]
        [(0, 12), (1, 13), (2, 14), (3, 15), (4, 16), (5, 17), (6, 18)] (by kernel_rfl) (by kernel_rfl) (by kernel_rfl) (by kernel_rfl)
        (fun _ => Below.refl _ _) trivial
        ⟨⟨.inr (fun _ _ _ h _ => h), trivial⟩,
    ⟨.inr (fun _ _ _ h _ => h), trivial⟩,
    ⟨.inr (fun _ _ _ h _ => h), trivial⟩,
    ⟨.inr (fun _ _ _ h _ => h), trivial⟩,
    ⟨.inr (fun _ _ _ h _ => h), trivial⟩,
    ⟨.inr (fun _ _ _ h _ => h), trivial⟩,
    ⟨.inr (fun _ _ _ h _ => h), trivial⟩, trivial⟩ ⟨fun vs vs' x h _ hv => (by dsimp only at hv ⊢; first | (rw [← h]; exact hv) | exact hv),
    fun vs vs' x h _ hv => (by dsimp only at hv ⊢; first | (rw [← h]; exact hv) | exact hv),
    fun vs vs' x h _ hv => (by dsimp only at hv ⊢; first | (rw [← h]; exact hv) | exact hv),
    fun vs vs' x h _ hv => (by dsimp only at hv ⊢; first | (rw [← h]; exact hv) | exact hv),
    fun vs vs' x h _ hv => (by dsimp only at hv ⊢; first | (rw [← h]; exact hv) | exact hv),
    fun vs vs' x h _ hv => (by dsimp only at hv ⊢; first | (rw [← h]; exact hv) | exact hv),
    fun vs vs' x h _ hv => (by dsimp only at hv ⊢; first | (rw [← h]; exact hv) | exact hv), trivial⟩ (⟨bthen HB.out (below_drewN (Below.refl _ _) 1), HB1.out⟩) ⟨?_, ?_, ?_, ?_, ?_, ?_, ?_, trivial⟩ ?_
      · intro vals xw f hf1 hf2 hf3 hI hF
        clear hf2 hf3
        dsimp only [owes4, bare]
        simp only [putsD, Act.put, List.setIfInBounds_toArray, List.set_cons_zero, List.set_cons_succ]
        have y0 := (cell_of_block hI.2 0).1
        have y1 := (cell_of_block hI.2 1).1
        go_wp2
        exact ⟨rfl, rfl, Below.refl _ _, hI⟩
      · intro vals xw f hf1 hf2 hf3 hI hF
        clear hf2 hf3
        dsimp only [owes4, bare]
        simp only [putsD, Act.put, List.setIfInBounds_toArray, List.set_cons_zero, List.set_cons_succ]
        go_wp2
        exact ⟨rfl, rfl, Below.refl _ _, hI⟩
      · intro vals xw f hf1 hf2 hf3 hI hF
        clear hf2 hf3
        dsimp only [owes4, bare]
        simp only [putsD, Act.put, List.setIfInBounds_toArray, List.set_cons_zero, List.set_cons_succ]
        go_wp2
        exact ⟨rfl, rfl, Below.refl _ _, hI⟩
      · intro vals xw f hf1 hf2 hf3 hI hF
        clear hf2 hf3
        simp only [saysD, List.getD_cons_zero, List.getD_cons_succ, and_true] at hF
        obtain ⟨e13, e14⟩ := hF
        dsimp only [owes4, bare]
        simp only [putsD, Act.put, List.setIfInBounds_toArray, List.set_cons_zero, List.set_cons_succ]
        simp only [e13, e14]
        go_wp2
        exact ⟨rfl, rfl, Below.refl _ _, hI⟩
      · intro vals xw f hf1 hf2 hf3 hI hF
        clear hf2 hf3
        simp only [saysD, List.getD_cons_zero, List.getD_cons_succ, and_true] at hF
        have e15 := hF
        dsimp only [owes4, bare]
        simp only [putsD, Act.put, List.setIfInBounds_toArray, List.set_cons_zero, List.set_cons_succ]
        simp only [e15]
        have c9 := HRX.out _ hI.1
        go_wp2
        exact ⟨rfl, rfl, Below.refl _ _, hI⟩
      · intro vals xw f hf1 hf2 hf3 hI hF
        clear hf2 hf3
        simp only [saysD, List.getD_cons_zero, List.getD_cons_succ, and_true] at hF
        obtain ⟨e12, e16⟩ := hF
        dsimp only [owes4, bare]
        simp only [putsD, Act.put, List.setIfInBounds_toArray, List.set_cons_zero, List.set_cons_succ]
        simp only [e12, e16]
        have HI := Lib.hid hI
        clear hI
        go_wp2_with fail
        refine (l6Mark_any A c n x xw hn h0 h1 x0 x1).mono ?_
        rintro e wx ⟨rfl, hb9⟩
        rw [HMK.out]
        have HB9 := Lib.hid hb9
        clear hb9
        go_wp2
        exact ⟨rfl, rfl, HB9.out, bthen HI.out.1 HB9.out, (HB9.out.block _ (lt_of_block HI.out.2)).trans HI.out.2⟩
      · intro vals xw f hf1 hf2 hf3 hI hF
        clear hf2 hf3
        simp only [saysD, List.getD_cons_zero, List.getD_cons_succ, and_true] at hF
        have e17 := hF
        dsimp only [owes4, bare]
        simp only [putsD, Act.put, List.setIfInBounds_toArray, List.set_cons_zero, List.set_cons_succ]
        simp only [e17]
        go_wp2
        exact ⟨rfl, rfl, Below.refl _ _, hI⟩
      · intro vals xw f hall hI hF
        rw [show List.range _ = [0, 1, 2, 3, 4, 5, 6] from rfl] at hF
        simp only [says, List.getD_cons_zero, List.getD_cons_succ, and_true] at hF
        obtain ⟨i1, i2⟩ := hI
        obtain ⟨_, _, _, _, _, _, e18⟩ := hF
        have I1 := Lib.hid i1
        have I2 := Lib.hid i2
        clear i1 i2
        simp only [putsD, Act.put, List.setIfInBounds_toArray, List.set_cons_zero, List.set_cons_succ]
        simp only [e18]
        clear e18
        cases mk
        · go_wp2
          go_ret
          refine ⟨ret_bool ?_, I1.out⟩
          rw [eq_comm]
          unfold goodL
          have : xs.all (netMark n) = false := by rw [List.all_eq_false]; exact ⟨x, HMEM.out, by rw [HMK.out]; simp⟩
          rw [this, Bool.and_false]
        · go_wp2
          go_roundw
          case rel => exact ⟨j + 1, by omega, by go_num, I1.out, I2.out, fun m hm => by
            rw [HTK.out] at hm
            rcases List.mem_append.1 hm with hm | hm
            · exact HALL.out m hm
            · rw [List.mem_singleton.1 hm]; exact HMK.out⟩
          case measure => simp [intOf]; omega
    · have hje : j = xs.length := by omega
      subst hje
      have hlt2 : ¬ ((xs.length : Nat) : Int) < xs.length := by omega
      have HAL2 : Hid (xs.all (netMark n) = true) := Lib.hid (List.all_eq_true.2 fun m hm => HALL.out m (by rw [List.take_length]; exact hm))
      by_cases g1 : (1 : Int) ≤ xs.length
      · by_cases g2 : (xs.length : Int) ≤ 4
        · go_wp2
          go_ret
          exact ⟨ret_bool (by unfold goodL; rw [HAL2.out, decide_eq_true (by omega : 1 ≤ xs.length), decide_eq_true (by omega : xs.length ≤ 4)]; rfl), HB.out⟩
        · go_wp2
          go_ret
          exact ⟨ret_bool (by unfold goodL; rw [decide_eq_false (by omega : ¬ xs.length ≤ 4)]; simp), HB.out⟩
      · go_wp2
        go_ret
        exact ⟨ret_bool (by unfold goodL; rw [decide_eq_false (by omega : ¬ 1 ≤ xs.length)]; simp), HB.out⟩
def toldR (z : (N × Bool) × List Int) : N × List Int := if z.1.2 = true then (z.1.1, z.2) else (⟨0, []⟩, [])
end Go.Proofs.YtjghcaghigebjaaDoor

/-! The reference's BitsIf. -/
namespace Go.Proofs.YtjghcaghigebjaaDoor
open Go Go.RowKit

theorem told_out {n : N} (p : PG (List Int)) : toldR (run opsR p (n, true)) = bitsOut (run opsP p ⟨n, none⟩) := by
  rcases run_sim p ⟨n, none⟩ (n, true) (.inl ⟨rfl, rfl⟩) with ⟨h1, h2, h3, _⟩ | ⟨h1, h2⟩
  · unfold toldR bitsOut
    rw [h2, if_pos rfl, if_pos h1, h3]
  · unfold toldR bitsOut
    rw [if_neg (by rw [h2]; simp), if_neg h1]
end Go.Proofs.YtjghcaghigebjaaDoor

/-! Nets and marks as an answer: two rows in two blocks, marked one behind the other; BitsIf in the laws' one form. -/
namespace Go.Proofs.YtjghcaghigebjaaDoor
open Go Go.RowKit Go.ChangeShapes Go.WideShapes Go.ChangeAt Go.Deep

theorem pickN_len {n : N} {o : N × List Int} (h : netOk n = true → o.1.gs.length ≤ 1048576 ∧ o.2.length ≤ 1048576) : (pickN (netOk n) o).1.gs.length ≤ 1048576 ∧ (pickN (netOk n) o).2.length ≤ 1048576 := by
  cases hk : netOk n
  · exact ⟨Nat.zero_le _, Nat.zero_le _⟩
  · exact h hk
end Go.Proofs.YtjghcaghigebjaaDoor

/-! The program's comparisons: less, same. -/
namespace Go.Proofs.YtjghcaghigebjaaDoor
open Go Go.RowKit

theorem run_less {σ : Type} {o : Ops σ} (xs ys : List Int) (k : Nat) (x y : Int) (hx : xs[k]? = some x) (hy : ys[k]? = some y) (s : σ) (r : Int) :
    run o (lessP (xs.drop k) (ys.drop k) r) s = (let d := o.xor s x y; let p := run o (muxP d.2 y r) d.1; run o (lessP (xs.drop (k + 1)) (ys.drop (k + 1)) p.2) p.1) := by
  obtain ⟨hk, rfl⟩ := List.getElem?_eq_some_iff.1 hx
  obtain ⟨hk', rfl⟩ := List.getElem?_eq_some_iff.1 hy
  rw [List.drop_eq_getElem_cons hk, List.drop_eq_getElem_cons hk']
  simp only [lessP, run, run_bind]
theorem run_same {σ : Type} {o : Ops σ} (xs ys : List Int) (k : Nat) (x y : Int) (hx : xs[k]? = some x) (hy : ys[k]? = some y) (s : σ) (r : Int) :
    run o (sameP (xs.drop k) (ys.drop k) r) s = (let d := o.xor s x y; let p := o.and d.1 r (-d.2); run o (sameP (xs.drop (k + 1)) (ys.drop (k + 1)) p.2) p.1) := by
  obtain ⟨hk, rfl⟩ := List.getElem?_eq_some_iff.1 hx
  obtain ⟨hk', rfl⟩ := List.getElem?_eq_some_iff.1 hy
  rw [List.drop_eq_getElem_cons hk, List.drop_eq_getElem_cons hk']
  simp only [sameP, run]
/-- What is so while two signals are read and a gate is made. -/
def GateI (a0 a1 : Addr) (lo : Nat) (W : World) (q r : Nat) (s s' : BS) (called : Bool) (x : World) : Prop := BelB lo W x ∧ Bd a0 a1 lo x q r (if called = true then s' else s)
theorem GateI.up {a0 a1 : Addr} {lo : Nat} {W : World} {q r : Nat} {s s' : BS} {called : Bool} {x x' : World} (h : GateI a0 a1 lo W q r s s' called x) (hb : Below x.heap.size x x') : GateI a0 a1 lo W q r s s' called x' := ⟨h.1.trans (.of hb h.2.size), h.2.up hb⟩
set_option maxRecDepth 100000 in
set_option maxHeartbeats 4000000 in
theorem bLess_any (a0 a1 : Addr) (lo q r : Nat) (X Y : Option Addr) (cx cy : Nat) (xs ys : List Int) (s : BS) (w : World) (h : Bd a0 a1 lo w q r s) (hX : Lay.int.Pl w X xs) (hY : Lay.int.Pl w Y ys) (hxm : ∀ x ∈ xs, MB x) (hym : ∀ y ∈ ys, MB y) (hl : xs.length = ys.length) (hn : xs.length ≤ 1000) :
    Calls Tryd.prog 94 #[.pointer (some ⟨q, 0, none⟩), .slice X xs.length cx, .slice Y ys.length cy] w (RetM a0 a1 lo w q r (run opsP (lessP xs ys (-1)) s)) := by
  obtain ⟨T, hT⟩ : ∃ T, T = run opsP (lessP xs ys (-1)) s := ⟨_, rfl⟩
  rw [← hT]
  have HT := Lib.hid hT
  have HB := Lib.hid h
  have HX := Lib.hid hX
  have HY := Lib.hid hY
  have HXM := Lib.hid hxm
  have HYM := Lib.hid hym
  have HL := Lib.hid hl
  have hlo := h.size
  clear hT h hX hY hxm hym
  rw [← hl]
  clear hl
  go_enter Tryd.func94, Tryd.ntmps94
  go_wp2
  go_loopw [7, 12] (fun rv i wr => ∃ (k : Nat) (s1 : BS) (rr : Int), k ≤ xs.length ∧ i = .int .i64 k ∧ rv = .int .i64 rr ∧ MB rr ∧ BelB lo w wr ∧ Bd a0 a1 lo wr q r s1 ∧ Hid (run opsP (lessP (xs.drop k) (ys.drop k) rr) s1 = T)) (fun _ i _ => xs.length - (intOf i).toNat)
  case atStart => exact ⟨0, s, (-1), Nat.zero_le _, rfl, rfl, by unfold MB; omega, .refl _ _, HB.out, Lib.hid (by rw [HT.out]; rfl)⟩
  case round =>
    obtain ⟨k, s1, rr, hk, rfl, rfl, hrr, hbb, hbd, hst⟩ := hrel
    have HRR := Lib.hid hrr
    have HBB := Lib.hid hbb
    have HBD := Lib.hid hbd
    clear hbb hbd hrr
    by_cases hlt : k < xs.length
    · have hlt2 : (k : Int) < xs.length := by omega
      have hlty : k < ys.length := by rw [← HL.out]; exact hlt
      obtain ⟨x, hx⟩ : ∃ x, xs[k]? = some x := ⟨_, List.getElem?_eq_getElem hlt⟩
      obtain ⟨y, hy⟩ : ∃ y, ys[k]? = some y := ⟨_, List.getElem?_eq_getElem hlty⟩
      have hxg : xs[k] = x := (List.getElem?_eq_some_iff.1 hx).2
      have hyg : ys[k] = y := (List.getElem?_eq_some_iff.1 hy).2
      have HXYM := Lib.hid (And.intro (HXM.out x (List.mem_of_getElem? hx)) (HYM.out y (List.mem_of_getElem? hy)))
      obtain ⟨adx, rfl, -, -⟩ := HX.out.at_int hlt
      obtain ⟨ady, rfl, -, -⟩ := HY.out.at_int hlty
      obtain ⟨m, hm⟩ : ∃ m, m = opsP.xor s1 x y := ⟨_, rfl⟩
      have HST := Lib.hid ((run_less (o := opsP) xs ys k x y hx hy s1 rr).symm.trans hst.out)
      have HM := Lib.hid hm
      have HMB : Hid (NB m.1.n ∧ MB m.2) := Lib.hid (by rw [hm]; exact opsP_xor_mb HBD.out.nb HXYM.out.1.rb HXYM.out.2.rb)
      have HRX : Hid (∀ z, BelB lo w z → z.cell? (adx.add k) = some (.int .i64 x)) := Lib.hid fun z hz => by
        obtain ⟨ad, e, _, hc⟩ := (HX.out.upB hz).at_int hlt
        injection e with e; subst e; rw [← hxg]; exact hc
      have HRY : Hid (∀ z, BelB lo w z → z.cell? (ady.add k) = some (.int .i64 y)) := Lib.hid fun z hz => by
        obtain ⟨ad, e, _, hc⟩ := (HY.out.upB hz).at_int hlty
        injection e with e; subst e; rw [← hyg]; exact hc
      clear hm hx hy hxg hyg hst hlty
      go_wp2
      refine wp_region_rel4 [[], [], [], [(1, 16), (2, 17)], [(3, 18)], [], [], [(5, 20), (6, 21)], [(7, 22)], [(0, 15), (4, 19), (8, 23)], [(9, 24)]]
        (fun x9 y9 => Below x9.heap.size x9 y9)
        [(9, fun x9 y9 => BelB lo x9 y9)]
        (fun f9 x9 => GateI a0 a1 lo w q r s1 m.1 (f9 9) x9)
        [fun vs9 _ => vs9 0 = (.pointer (some ⟨q, 0, none⟩)),
    fun vs9 _ => vs9 1 = (.slice (some adx) xs.length cx),
    fun vs9 _ => vs9 2 = (.int .i64 (k : Int)),
    fun vs9 _ => vs9 3 = (.pointer (some (adx.add k))),
    fun vs9 _ => vs9 4 = (.int .i64 x),
    fun vs9 _ => vs9 5 = (.slice (some ady) xs.length cy),
    fun vs9 _ => vs9 6 = (.int .i64 (k : Int)),
    fun vs9 _ => vs9 7 = (.pointer (some (ady.add k))),
    fun vs9 _ => vs9 8 = (.int .i64 y),
    fun vs9 _ => vs9 9 = (.int .i64 m.2),
    fun vs9 _ => vs9 10 = (.int .i64 m.2)]
        [(0, 15), (1, 16), (2, 17), (3, 18), (4, 19), (5, 20), (6, 21), (7, 22), (8, 23), (9, 24), (10, 9)] (by kernel_rfl) (by kernel_rfl) (by kernel_rfl) (by kernel_rfl)
        (fun _ => Below.refl _ _) ⟨fun _ => BelB.refl _ _, trivial⟩
        ⟨⟨.inr (fun _ _ _ h _ => h), ⟨.inr (.inr (fun _ _ _ h _ => h)), trivial⟩⟩,
    ⟨.inr (fun _ _ _ h _ => h), ⟨.inr (.inr (fun _ _ _ h _ => h)), trivial⟩⟩,
    ⟨.inr (fun _ _ _ h _ => h), ⟨.inr (.inr (fun _ _ _ h _ => h)), trivial⟩⟩,
    ⟨.inr (fun _ _ _ h _ => h), ⟨.inr (.inr (fun _ _ _ h _ => h)), trivial⟩⟩,
    ⟨.inr (fun _ _ _ h _ => h), ⟨.inr (.inr (fun _ _ _ h _ => h)), trivial⟩⟩,
    ⟨.inr (fun _ _ _ h _ => h), ⟨.inr (.inr (fun _ _ _ h _ => h)), trivial⟩⟩,
    ⟨.inr (fun _ _ _ h _ => h), ⟨.inr (.inr (fun _ _ _ h _ => h)), trivial⟩⟩,
    ⟨.inr (fun _ _ _ h _ => h), ⟨.inr (.inr (fun _ _ _ h _ => h)), trivial⟩⟩,
    ⟨.inr (fun _ _ _ h _ => h), ⟨.inr (.inr (fun _ _ _ h _ => h)), trivial⟩⟩,
    ⟨.inr (fun _ _ _ h _ => h), ⟨.inr (.inl rfl), trivial⟩⟩,
    ⟨.inr (fun _ _ _ h _ => h), ⟨.inr (.inr (fun _ _ _ h _ => h)), trivial⟩⟩, trivial⟩ ⟨fun vs vs' x h _ hv => (by dsimp only at hv ⊢; first | (rw [← h]; exact hv) | exact hv),
    fun vs vs' x h _ hv => (by dsimp only at hv ⊢; first | (rw [← h]; exact hv) | exact hv),
    fun vs vs' x h _ hv => (by dsimp only at hv ⊢; first | (rw [← h]; exact hv) | exact hv),
    fun vs vs' x h _ hv => (by dsimp only at hv ⊢; first | (rw [← h]; exact hv) | exact hv),
    fun vs vs' x h _ hv => (by dsimp only at hv ⊢; first | (rw [← h]; exact hv) | exact hv),
    fun vs vs' x h _ hv => (by dsimp only at hv ⊢; first | (rw [← h]; exact hv) | exact hv),
    fun vs vs' x h _ hv => (by dsimp only at hv ⊢; first | (rw [← h]; exact hv) | exact hv),
    fun vs vs' x h _ hv => (by dsimp only at hv ⊢; first | (rw [← h]; exact hv) | exact hv),
    fun vs vs' x h _ hv => (by dsimp only at hv ⊢; first | (rw [← h]; exact hv) | exact hv),
    fun vs vs' x h _ hv => (by dsimp only at hv ⊢; first | (rw [← h]; exact hv) | exact hv),
    fun vs vs' x h _ hv => (by dsimp only at hv ⊢; first | (rw [← h]; exact hv) | exact hv), trivial⟩ (⟨HBB.out.trans (.of (below_drewN (Below.refl _ _) 1) HBD.out.size), by rw [if_neg (by simp)]; exact HBD.out.up (below_drewN (Below.refl _ _) 1)⟩) ⟨?_, ?_, ?_, ?_, ?_, ?_, ?_, ?_, ?_, ?_, ?_, trivial⟩ ?_
      · intro vals xw f hf1 hf2 hf3 hI hF
        clear hf2 hf3
        dsimp only [owes4, bare]
        simp only [putsD, Act.put, List.setIfInBounds_toArray, List.set_cons_zero, List.set_cons_succ]
        go_wp2
        exact ⟨rfl, rfl, ⟨fun h9 => absurd h9 (Nat.ne_of_beq_eq_false rfl), fun _ => Below.refl _ _⟩, hI⟩
      · intro vals xw f hf1 hf2 hf3 hI hF
        clear hf2 hf3
        dsimp only [owes4, bare]
        simp only [putsD, Act.put, List.setIfInBounds_toArray, List.set_cons_zero, List.set_cons_succ]
        go_wp2
        exact ⟨rfl, rfl, ⟨fun h9 => absurd h9 (Nat.ne_of_beq_eq_false rfl), fun _ => Below.refl _ _⟩, hI⟩
      · intro vals xw f hf1 hf2 hf3 hI hF
        clear hf2 hf3
        dsimp only [owes4, bare]
        simp only [putsD, Act.put, List.setIfInBounds_toArray, List.set_cons_zero, List.set_cons_succ]
        go_wp2
        exact ⟨rfl, rfl, ⟨fun h9 => absurd h9 (Nat.ne_of_beq_eq_false rfl), fun _ => Below.refl _ _⟩, hI⟩
      · intro vals xw f hf1 hf2 hf3 hI hF
        clear hf2 hf3
        simp only [saysD, List.getD_cons_zero, List.getD_cons_succ, and_true] at hF
        obtain ⟨e16, e17⟩ := hF
        dsimp only [owes4, bare]
        simp only [putsD, Act.put, List.setIfInBounds_toArray, List.set_cons_zero, List.set_cons_succ]
        simp only [e16, e17]
        go_wp2
        exact ⟨rfl, rfl, ⟨fun h9 => absurd h9 (Nat.ne_of_beq_eq_false rfl), fun _ => Below.refl _ _⟩, hI⟩
      · intro vals xw f hf1 hf2 hf3 hI hF
        clear hf2 hf3
        simp only [saysD, List.getD_cons_zero, List.getD_cons_succ, and_true] at hF
        have e18 := hF
        dsimp only [owes4, bare]
        simp only [putsD, Act.put, List.setIfInBounds_toArray, List.set_cons_zero, List.set_cons_succ]
        simp only [e18]
        have c9 := HRX.out _ hI.1
        go_wp2
        exact ⟨rfl, rfl, ⟨fun h9 => absurd h9 (Nat.ne_of_beq_eq_false rfl), fun _ => Below.refl _ _⟩, hI⟩
      · intro vals xw f hf1 hf2 hf3 hI hF
        clear hf2 hf3
        dsimp only [owes4, bare]
        simp only [putsD, Act.put, List.setIfInBounds_toArray, List.set_cons_zero, List.set_cons_succ]
        go_wp2
        exact ⟨rfl, rfl, ⟨fun h9 => absurd h9 (Nat.ne_of_beq_eq_false rfl), fun _ => Below.refl _ _⟩, hI⟩
      · intro vals xw f hf1 hf2 hf3 hI hF
        clear hf2 hf3
        dsimp only [owes4, bare]
        simp only [putsD, Act.put, List.setIfInBounds_toArray, List.set_cons_zero, List.set_cons_succ]
        go_wp2
        exact ⟨rfl, rfl, ⟨fun h9 => absurd h9 (Nat.ne_of_beq_eq_false rfl), fun _ => Below.refl _ _⟩, hI⟩
      · intro vals xw f hf1 hf2 hf3 hI hF
        clear hf2 hf3
        simp only [saysD, List.getD_cons_zero, List.getD_cons_succ, and_true] at hF
        obtain ⟨e20, e21⟩ := hF
        dsimp only [owes4, bare]
        simp only [putsD, Act.put, List.setIfInBounds_toArray, List.set_cons_zero, List.set_cons_succ]
        simp only [e20, e21]
        go_wp2
        exact ⟨rfl, rfl, ⟨fun h9 => absurd h9 (Nat.ne_of_beq_eq_false rfl), fun _ => Below.refl _ _⟩, hI⟩
      · intro vals xw f hf1 hf2 hf3 hI hF
        clear hf2 hf3
        simp only [saysD, List.getD_cons_zero, List.getD_cons_succ, and_true] at hF
        have e22 := hF
        dsimp only [owes4, bare]
        simp only [putsD, Act.put, List.setIfInBounds_toArray, List.set_cons_zero, List.set_cons_succ]
        simp only [e22]
        have c9 := HRY.out _ hI.1
        go_wp2
        exact ⟨rfl, rfl, ⟨fun h9 => absurd h9 (Nat.ne_of_beq_eq_false rfl), fun _ => Below.refl _ _⟩, hI⟩
      · intro vals xw f hf1 hf2 hf3 hI hF
        clear hf2 hf3
        simp only [saysD, List.getD_cons_zero, List.getD_cons_succ, and_true] at hF
        obtain ⟨e15, e19, e23⟩ := hF
        dsimp only [owes4, bare]
        simp only [putsD, Act.put, List.setIfInBounds_toArray, List.set_cons_zero, List.set_cons_succ]
        simp only [e15, e19, e23]
        obtain ⟨i1, i2⟩ := hI
        rw [hf1, if_neg (by simp)] at i2
        have I1 := Lib.hid i1
        have HC := Lib.hid (bXor_any a0 a1 lo q r s1 x y xw i2 HXYM.out.1 HXYM.out.2)
        rw [← HM.out] at HC
        clear i1 i2
        go_wp2_with fail
        refine HC.out.mono ?_
        rintro e wx ⟨rfl, hb9, hd9⟩
        have HB9 := Lib.hid hb9
        have HD9 := Lib.hid hd9
        clear hb9 hd9 HC
        go_wp2
        exact ⟨rfl, rfl, ⟨fun _ => HB9.out, fun h9 => absurd rfl h9⟩, I1.out.trans HB9.out, by rw [did_same, if_pos rfl]; exact HD9.out⟩
      · intro vals xw f hf1 hf2 hf3 hI hF
        clear hf2 hf3
        simp only [saysD, List.getD_cons_zero, List.getD_cons_succ, and_true] at hF
        have e24 := hF
        dsimp only [owes4, bare]
        simp only [putsD, Act.put, List.setIfInBounds_toArray, List.set_cons_zero, List.set_cons_succ]
        simp only [e24]
        go_wp2
        exact ⟨rfl, rfl, ⟨fun h9 => absurd h9 (Nat.ne_of_beq_eq_false rfl), fun _ => Below.refl _ _⟩, hI⟩
      · intro vals xw f hall hI hF
        rw [show List.range _ = [0, 1, 2, 3, 4, 5, 6, 7, 8, 9, 10] from rfl] at hF
        simp only [says, List.getD_cons_zero, List.getD_cons_succ, and_true] at hF
        obtain ⟨i1, i2⟩ := hI
        rw [hall 9 (by decide), if_pos rfl] at i2
        obtain ⟨_, _, _, _, _, _, _, _, _, _, e9⟩ := hF
        simp only [putsD, Act.put, List.setIfInBounds_toArray, List.set_cons_zero, List.set_cons_succ]
        simp only [e9]
        clear e9
        have hmn := HMB.out.2
        obtain ⟨_, hm0, hm1⟩ := hmn
        have c9 := HRY.out _ i1
        obtain ⟨p, hp⟩ : ∃ p, p = run opsP (muxP m.2 y rr) m.1 := ⟨_, rfl⟩
        have HP := Lib.hid hp
        have HC := Lib.hid (bMux_any a0 a1 lo q r m.1 m.2 y rr xw i2 HMB.out.2 HXYM.out.2 HRR.out)
        rw [← hp] at HC
        have HPM : Hid (MB p.2) := Lib.hid (by rw [hp]; exact (mux_mb HMB.out.1 HMB.out.2.rb HXYM.out.2.rb HRR.out.rb).2)
        have I1 := Lib.hid i1
        clear i1 i2 hp
        go_wp2_with fail
        refine HC.out.mono ?_
        rintro e w2 ⟨rfl, hb2, hd2⟩
        have HB2 := Lib.hid (I1.out.trans hb2)
        have HD2 := Lib.hid hd2
        clear hb2 hd2 HC c9
        go_wp2
        go_roundw
        case rel => exact ⟨k + 1, p.1, p.2, by omega, by go_num, rfl, HPM.out, HB2.out, HD2.out, Lib.hid (by rw [HP.out, HM.out]; exact HST.out)⟩
        case measure => simp [intOf]; omega
    · have hke : k = xs.length := by omega
      subst hke
      have hlt2 : ¬ ((xs.length : Nat) : Int) < xs.length := by omega
      go_wp2
      go_ret
      have hd1 : xs.drop xs.length = [] := List.drop_length
      have hd2 : ys.drop xs.length = [] := by rw [HL.out]; exact List.drop_length
      have hst2 := hst.out
      rw [hd1, hd2] at hst2
      have hT2 : T = (s1, rr) := by rw [← hst2]; rfl
      rw [hT2]
      exact ⟨rfl, HBB.out, HBD.out⟩
set_option maxRecDepth 100000 in
set_option maxHeartbeats 4000000 in
theorem bSame_any (a0 a1 : Addr) (lo q r : Nat) (X Y : Option Addr) (cx cy : Nat) (xs ys : List Int) (s : BS) (w : World) (h : Bd a0 a1 lo w q r s) (hX : Lay.int.Pl w X xs) (hY : Lay.int.Pl w Y ys) (hxm : ∀ x ∈ xs, MB x) (hym : ∀ y ∈ ys, MB y) (hl : xs.length = ys.length) (hn : xs.length ≤ 1000) :
    Calls Tryd.prog 93 #[.pointer (some ⟨q, 0, none⟩), .slice X xs.length cx, .slice Y ys.length cy] w (RetM a0 a1 lo w q r (run opsP (sameP xs ys 1) s)) := by
  obtain ⟨T, hT⟩ : ∃ T, T = run opsP (sameP xs ys 1) s := ⟨_, rfl⟩
  rw [← hT]
  have HT := Lib.hid hT
  have HB := Lib.hid h
  have HX := Lib.hid hX
  have HY := Lib.hid hY
  have HXM := Lib.hid hxm
  have HYM := Lib.hid hym
  have HL := Lib.hid hl
  have hlo := h.size
  clear hT h hX hY hxm hym
  rw [← hl]
  clear hl
  go_enter Tryd.func93, Tryd.ntmps93
  go_wp2
  go_loopw [7, 12] (fun rv i wr => ∃ (k : Nat) (s1 : BS) (rr : Int), k ≤ xs.length ∧ i = .int .i64 k ∧ rv = .int .i64 rr ∧ MB rr ∧ BelB lo w wr ∧ Bd a0 a1 lo wr q r s1 ∧ Hid (run opsP (sameP (xs.drop k) (ys.drop k) rr) s1 = T)) (fun _ i _ => xs.length - (intOf i).toNat)
  case atStart => exact ⟨0, s, 1, Nat.zero_le _, rfl, rfl, by unfold MB; omega, .refl _ _, HB.out, Lib.hid (by rw [HT.out]; rfl)⟩
  case round =>
    obtain ⟨k, s1, rr, hk, rfl, rfl, hrr, hbb, hbd, hst⟩ := hrel
    have HRR := Lib.hid hrr
    have HBB := Lib.hid hbb
    have HBD := Lib.hid hbd
    clear hbb hbd hrr
    by_cases hlt : k < xs.length
    · have hlt2 : (k : Int) < xs.length := by omega
      have hlty : k < ys.length := by rw [← HL.out]; exact hlt
      obtain ⟨x, hx⟩ : ∃ x, xs[k]? = some x := ⟨_, List.getElem?_eq_getElem hlt⟩
      obtain ⟨y, hy⟩ : ∃ y, ys[k]? = some y := ⟨_, List.getElem?_eq_getElem hlty⟩
      have hxg : xs[k] = x := (List.getElem?_eq_some_iff.1 hx).2
      have hyg : ys[k] = y := (List.getElem?_eq_some_iff.1 hy).2
      have HXYM := Lib.hid (And.intro (HXM.out x (List.mem_of_getElem? hx)) (HYM.out y (List.mem_of_getElem? hy)))
      obtain ⟨adx, rfl, -, -⟩ := HX.out.at_int hlt
      obtain ⟨ady, rfl, -, -⟩ := HY.out.at_int hlty
      obtain ⟨m, hm⟩ : ∃ m, m = opsP.xor s1 x y := ⟨_, rfl⟩
      have HST := Lib.hid ((run_same (o := opsP) xs ys k x y hx hy s1 rr).symm.trans hst.out)
      have HM := Lib.hid hm
      have HMB : Hid (NB m.1.n ∧ MB m.2) := Lib.hid (by rw [hm]; exact opsP_xor_mb HBD.out.nb HXYM.out.1.rb HXYM.out.2.rb)
      have HRX : Hid (∀ z, BelB lo w z → z.cell? (adx.add k) = some (.int .i64 x)) := Lib.hid fun z hz => by
        obtain ⟨ad, e, _, hc⟩ := (HX.out.upB hz).at_int hlt
        injection e with e; subst e; rw [← hxg]; exact hc
      have HRY : Hid (∀ z, BelB lo w z → z.cell? (ady.add k) = some (.int .i64 y)) := Lib.hid fun z hz => by
        obtain ⟨ad, e, _, hc⟩ := (HY.out.upB hz).at_int hlty
        injection e with e; subst e; rw [← hyg]; exact hc
      clear hm hx hy hxg hyg hst hlty
      go_wp2
      refine wp_region_rel4 [[], [], [], [(1, 16), (2, 17)], [(3, 18)], [], [], [(5, 20), (6, 21)], [(7, 22)], [(0, 15), (4, 19), (8, 23)], [(9, 24)]]
        (fun x9 y9 => Below x9.heap.size x9 y9)
        [(9, fun x9 y9 => BelB lo x9 y9)]
        (fun f9 x9 => GateI a0 a1 lo w q r s1 m.1 (f9 9) x9)
        [fun vs9 _ => vs9 0 = (.pointer (some ⟨q, 0, none⟩)),
    fun vs9 _ => vs9 1 = (.slice (some adx) xs.length cx),
    fun vs9 _ => vs9 2 = (.int .i64 (k : Int)),
    fun vs9 _ => vs9 3 = (.pointer (some (adx.add k))),
    fun vs9 _ => vs9 4 = (.int .i64 x),
    fun vs9 _ => vs9 5 = (.slice (some ady) xs.length cy),
    fun vs9 _ => vs9 6 = (.int .i64 (k : Int)),
    fun vs9 _ => vs9 7 = (.pointer (some (ady.add k))),
    fun vs9 _ => vs9 8 = (.int .i64 y),
    fun vs9 _ => vs9 9 = (.int .i64 m.2),
    fun vs9 _ => vs9 10 = (.int .i64 m.2)]
        [(0, 15), (1, 16), (2, 17), (3, 18), (4, 19), (5, 20), (6, 21), (7, 22), (8, 23), (9, 24), (10, 9)] (by kernel_rfl) (by kernel_rfl) (by kernel_rfl) (by kernel_rfl)
        (fun _ => Below.refl _ _) ⟨fun _ => BelB.refl _ _, trivial⟩
        ⟨⟨.inr (fun _ _ _ h _ => h), ⟨.inr (.inr (fun _ _ _ h _ => h)), trivial⟩⟩,
    ⟨.inr (fun _ _ _ h _ => h), ⟨.inr (.inr (fun _ _ _ h _ => h)), trivial⟩⟩,
    ⟨.inr (fun _ _ _ h _ => h), ⟨.inr (.inr (fun _ _ _ h _ => h)), trivial⟩⟩,
    ⟨.inr (fun _ _ _ h _ => h), ⟨.inr (.inr (fun _ _ _ h _ => h)), trivial⟩⟩,
    ⟨.inr (fun _ _ _ h _ => h), ⟨.inr (.inr (fun _ _ _ h _ => h)), trivial⟩⟩,
    ⟨.inr (fun _ _ _ h _ => h), ⟨.inr (.inr (fun _ _ _ h _ => h)), trivial⟩⟩,
    ⟨.inr (fun _ _ _ h _ => h), ⟨.inr (.inr (fun _ _ _ h _ => h)), trivial⟩⟩,
    ⟨.inr (fun _ _ _ h _ => h), ⟨.inr (.inr (fun _ _ _ h _ => h)), trivial⟩⟩,
    ⟨.inr (fun _ _ _ h _ => h), ⟨.inr (.inr (fun _ _ _ h _ => h)), trivial⟩⟩,
    ⟨.inr (fun _ _ _ h _ => h), ⟨.inr (.inl rfl), trivial⟩⟩,
    ⟨.inr (fun _ _ _ h _ => h), ⟨.inr (.inr (fun _ _ _ h _ => h)), trivial⟩⟩, trivial⟩ ⟨fun vs vs' x h _ hv => (by dsimp only at hv ⊢; first | (rw [← h]; exact hv) | exact hv),
    fun vs vs' x h _ hv => (by dsimp only at hv ⊢; first | (rw [← h]; exact hv) | exact hv),
    fun vs vs' x h _ hv => (by dsimp only at hv ⊢; first | (rw [← h]; exact hv) | exact hv),
    fun vs vs' x h _ hv => (by dsimp only at hv ⊢; first | (rw [← h]; exact hv) | exact hv),
    fun vs vs' x h _ hv => (by dsimp only at hv ⊢; first | (rw [← h]; exact hv) | exact hv),
    fun vs vs' x h _ hv => (by dsimp only at hv ⊢; first | (rw [← h]; exact hv) | exact hv),
    fun vs vs' x h _ hv => (by dsimp only at hv ⊢; first | (rw [← h]; exact hv) | exact hv),
    fun vs vs' x h _ hv => (by dsimp only at hv ⊢; first | (rw [← h]; exact hv) | exact hv),
    fun vs vs' x h _ hv => (by dsimp only at hv ⊢; first | (rw [← h]; exact hv) | exact hv),
    fun vs vs' x h _ hv => (by dsimp only at hv ⊢; first | (rw [← h]; exact hv) | exact hv),
    fun vs vs' x h _ hv => (by dsimp only at hv ⊢; first | (rw [← h]; exact hv) | exact hv), trivial⟩ (⟨HBB.out.trans (.of (below_drewN (Below.refl _ _) 1) HBD.out.size), by rw [if_neg (by simp)]; exact HBD.out.up (below_drewN (Below.refl _ _) 1)⟩) ⟨?_, ?_, ?_, ?_, ?_, ?_, ?_, ?_, ?_, ?_, ?_, trivial⟩ ?_
      · intro vals xw f hf1 hf2 hf3 hI hF
        clear hf2 hf3
        dsimp only [owes4, bare]
        simp only [putsD, Act.put, List.setIfInBounds_toArray, List.set_cons_zero, List.set_cons_succ]
        go_wp2
        exact ⟨rfl, rfl, ⟨fun h9 => absurd h9 (Nat.ne_of_beq_eq_false rfl), fun _ => Below.refl _ _⟩, hI⟩
      · intro vals xw f hf1 hf2 hf3 hI hF
        clear hf2 hf3
        dsimp only [owes4, bare]
        simp only [putsD, Act.put, List.setIfInBounds_toArray, List.set_cons_zero, List.set_cons_succ]
        go_wp2
        exact ⟨rfl, rfl, ⟨fun h9 => absurd h9 (Nat.ne_of_beq_eq_false rfl), fun _ => Below.refl _ _⟩, hI⟩
      · intro vals xw f hf1 hf2 hf3 hI hF
        clear hf2 hf3
        dsimp only [owes4, bare]
        simp only [putsD, Act.put, List.setIfInBounds_toArray, List.set_cons_zero, List.set_cons_succ]
        go_wp2
        exact ⟨rfl, rfl, ⟨fun h9 => absurd h9 (Nat.ne_of_beq_eq_false rfl), fun _ => Below.refl _ _⟩, hI⟩
      · intro vals xw f hf1 hf2 hf3 hI hF
        clear hf2 hf3
        simp only [saysD, List.getD_cons_zero, List.getD_cons_succ, and_true] at hF
        obtain ⟨e16, e17⟩ := hF
        dsimp only [owes4, bare]
        simp only [putsD, Act.put, List.setIfInBounds_toArray, List.set_cons_zero, List.set_cons_succ]
        simp only [e16, e17]
        go_wp2
        exact ⟨rfl, rfl, ⟨fun h9 => absurd h9 (Nat.ne_of_beq_eq_false rfl), fun _ => Below.refl _ _⟩, hI⟩
      · intro vals xw f hf1 hf2 hf3 hI hF
        clear hf2 hf3
        simp only [saysD, List.getD_cons_zero, List.getD_cons_succ, and_true] at hF
        have e18 := hF
        dsimp only [owes4, bare]
        simp only [putsD, Act.put, List.setIfInBounds_toArray, List.set_cons_zero, List.set_cons_succ]
        simp only [e18]
        have c9 := HRX.out _ hI.1
        go_wp2
        exact ⟨rfl, rfl, ⟨fun h9 => absurd h9 (Nat.ne_of_beq_eq_false rfl), fun _ => Below.refl _ _⟩, hI⟩
      · intro vals xw f hf1 hf2 hf3 hI hF
        clear hf2 hf3
        dsimp only [owes4, bare]
        simp only [putsD, Act.put, List.setIfInBounds_toArray, List.set_cons_zero, List.set_cons_succ]
        go_wp2
        exact ⟨rfl, rfl, ⟨fun h9 => absurd h9 (Nat.ne_of_beq_eq_false rfl), fun _ => Below.refl _ _⟩, hI⟩
      · intro vals xw f hf1 hf2 hf3 hI hF
        clear hf2 hf3
        dsimp only [owes4, bare]
        simp only [putsD, Act.put, List.setIfInBounds_toArray, List.set_cons_zero, List.set_cons_succ]
        go_wp2
        exact ⟨rfl, rfl, ⟨fun h9 => absurd h9 (Nat.ne_of_beq_eq_false rfl), fun _ => Below.refl _ _⟩, hI⟩
      · intro vals xw f hf1 hf2 hf3 hI hF
        clear hf2 hf3
        simp only [saysD, List.getD_cons_zero, List.getD_cons_succ, and_true] at hF
        obtain ⟨e20, e21⟩ := hF
        dsimp only [owes4, bare]
        simp only [putsD, Act.put, List.setIfInBounds_toArray, List.set_cons_zero, List.set_cons_succ]
        simp only [e20, e21]
        go_wp2
        exact ⟨rfl, rfl, ⟨fun h9 => absurd h9 (Nat.ne_of_beq_eq_false rfl), fun _ => Below.refl _ _⟩, hI⟩
      · intro vals xw f hf1 hf2 hf3 hI hF
        clear hf2 hf3
        simp only [saysD, List.getD_cons_zero, List.getD_cons_succ, and_true] at hF
        have e22 := hF
        dsimp only [owes4, bare]
        simp only [putsD, Act.put, List.setIfInBounds_toArray, List.set_cons_zero, List.set_cons_succ]
        simp only [e22]
        have c9 := HRY.out _ hI.1
        go_wp2
        exact ⟨rfl, rfl, ⟨fun h9 => absurd h9 (Nat.ne_of_beq_eq_false rfl), fun _ => Below.refl _ _⟩, hI⟩
      · intro vals xw f hf1 hf2 hf3 hI hF
        clear hf2 hf3
        simp only [saysD, List.getD_cons_zero, List.getD_cons_succ, and_true] at hF
        obtain ⟨e15, e19, e23⟩ := hF
        dsimp only [owes4, bare]
        simp only [putsD, Act.put, List.setIfInBounds_toArray, List.set_cons_zero, List.set_cons_succ]
        simp only [e15, e19, e23]
        obtain ⟨i1, i2⟩ := hI
        rw [hf1, if_neg (by simp)] at i2
        have I1 := Lib.hid i1
        have HC := Lib.hid (bXor_any a0 a1 lo q r s1 x y xw i2 HXYM.out.1 HXYM.out.2)
        rw [← HM.out] at HC
        clear i1 i2
        go_wp2_with fail
        refine HC.out.mono ?_
        rintro e wx ⟨rfl, hb9, hd9⟩
        have HB9 := Lib.hid hb9
        have HD9 := Lib.hid hd9
        clear hb9 hd9 HC
        go_wp2
        exact ⟨rfl, rfl, ⟨fun _ => HB9.out, fun h9 => absurd rfl h9⟩, I1.out.trans HB9.out, by rw [did_same, if_pos rfl]; exact HD9.out⟩
      · intro vals xw f hf1 hf2 hf3 hI hF
        clear hf2 hf3
        simp only [saysD, List.getD_cons_zero, List.getD_cons_succ, and_true] at hF
        have e24 := hF
        dsimp only [owes4, bare]
        simp only [putsD, Act.put, List.setIfInBounds_toArray, List.set_cons_zero, List.set_cons_succ]
        simp only [e24]
        go_wp2
        exact ⟨rfl, rfl, ⟨fun h9 => absurd h9 (Nat.ne_of_beq_eq_false rfl), fun _ => Below.refl _ _⟩, hI⟩
      · intro vals xw f hall hI hF
        rw [show List.range _ = [0, 1, 2, 3, 4, 5, 6, 7, 8, 9, 10] from rfl] at hF
        simp only [says, List.getD_cons_zero, List.getD_cons_succ, and_true] at hF
        obtain ⟨i1, i2⟩ := hI
        rw [hall 9 (by decide), if_pos rfl] at i2
        obtain ⟨_, _, _, _, _, _, _, _, _, _, e9⟩ := hF
        simp only [putsD, Act.put, List.setIfInBounds_toArray, List.set_cons_zero, List.set_cons_succ]
        simp only [e9]
        clear e9
        have hmn := HMB.out.2
        obtain ⟨_, hm0, hm1⟩ := hmn
        have c9 := HRY.out _ i1
        obtain ⟨p, hp⟩ : ∃ p, p = opsP.and m.1 rr (-m.2) := ⟨_, rfl⟩
        have HP := Lib.hid hp
        have HC := Lib.hid (bAnd_any a0 a1 lo q r m.1 rr (-m.2) xw i2 HRR.out HMB.out.2.neg)
        rw [← hp] at HC
        have HPM : Hid (MB p.2) := Lib.hid (by rw [hp]; exact (opsP_and_mb HMB.out.1 HRR.out.rb HMB.out.2.neg.rb).2)
        have I1 := Lib.hid i1
        clear i1 i2 hp
        go_wp2_with fail
        refine HC.out.mono ?_
        rintro e w2 ⟨rfl, hb2, hd2⟩
        have HB2 := Lib.hid (I1.out.trans hb2)
        have HD2 := Lib.hid hd2
        clear hb2 hd2 HC c9
        go_wp2
        go_roundw
        case rel => exact ⟨k + 1, p.1, p.2, by omega, by go_num, rfl, HPM.out, HB2.out, HD2.out, Lib.hid (by rw [HP.out, HM.out]; exact HST.out)⟩
        case measure => simp [intOf]; omega
    · have hke : k = xs.length := by omega
      subst hke
      have hlt2 : ¬ ((xs.length : Nat) : Int) < xs.length := by omega
      go_wp2
      go_ret
      have hd1 : xs.drop xs.length = [] := List.drop_length
      have hd2 : ys.drop xs.length = [] := by rw [HL.out]; exact List.drop_length
      have hst2 := hst.out
      rw [hd1, hd2] at hst2
      have hT2 : T = (s1, rr) := by rw [← hst2]; rfl
      rw [hT2]
      exact ⟨rfl, HBB.out, HBD.out⟩
end Go.Proofs.YtjghcaghigebjaaDoor
