/- Contexts: when they are right. No program is named here. What grows but for some blocks. No program is named here. Rows of declarations of the call's own. Rows of the call's own whose elements may lead on to other blocks; append of one element. No program is named here. append of a whole slice onto a row of the call's own whose elements lead to other blocks. No program is named here. The reference's contexts: l10Decls, l10Terms, CtxOk. The reference's CtxOk. -/
import Derived.Test.YtiahmfpfimmbgaaGreatDoorJExCtxAssert0
import Derived.Test.YtiahmfpfimmbgaaGreatDoorJExCtxAssert1
import Derived.Test.YtiahmfpfimmbgaaGreatDoorJExCtxAssert2
/-! Contexts: when they are right. No program is named here. -/
namespace Go.Proofs.YtiahmfpfimmbgaaGreatDoor
open Go Go.RowKit

def dsAll (c : List Ly) : List D := c.flatMap Ly.ds
def tsAll (c : List Ly) : List T := c.flatMap Ly.ts
def sort0 (ds : List D) (t : T) : Bool := tsort ds t == 0
def lyOk (seen : List Ly) (l : Ly) : Bool := l.ts.all (sort0 (dsAll (seen ++ [l])))
def ctxGo : List Ly → List Ly → Bool
  | _, [] => true
  | seen, l :: ls => lyOk seen l && ctxGo (seen ++ [l]) ls
/-- A right context. -/
def ctxOk (c : List Ly) : Bool := decide (1 ≤ c.length) && decide (c.length ≤ 6) && declOk (dsAll c) && decide ((tsAll c).length ≤ 8) && ctxGo [] c
theorem ctxGo_step (c : List Ly) (k : Nat) (h : k < c.length) : ctxGo (c.take k) (c.drop k) = (lyOk (c.take k) c[k] && ctxGo (c.take (k + 1)) (c.drop (k + 1))) := by
  rw [List.drop_eq_getElem_cons h]
  show (_ && ctxGo (c.take k ++ [c[k]]) _) = _
  rw [List.take_succ_eq_append_getElem h]
theorem lyOk_take (c : List Ly) (k : Nat) (h : k < c.length) : lyOk (c.take k) c[k] = c[k].ts.all (sort0 (dsAll (c.take (k + 1)))) := by
  unfold lyOk
  rw [List.take_succ_eq_append_getElem h]
theorem all_step {α : Type} (p : α → Bool) (l : List α) (k : Nat) (h : k < l.length) : (l.drop k).all p = (p l[k] && (l.drop (k + 1)).all p) := by
  rw [List.drop_eq_getElem_cons h]; rfl
theorem dsAll_step (c : List Ly) (k : Nat) (h : k < c.length) : dsAll (c.take (k + 1)) = dsAll (c.take k) ++ c[k].ds := by
  unfold dsAll
  rw [List.take_succ_eq_append_getElem h, List.flatMap_append]
  simp
theorem tsAll_step (c : List Ly) (k : Nat) (h : k < c.length) : tsAll (c.take (k + 1)) = tsAll (c.take k) ++ c[k].ts := by
  unfold tsAll
  rw [List.take_succ_eq_append_getElem h, List.flatMap_append]
  simp
theorem dsAll_le (c : List Ly) (k : Nat) : (dsAll (c.take k)).length ≤ (dsAll c).length := by
  conv => rhs; rw [← List.take_append_drop k c]
  unfold dsAll
  rw [List.flatMap_append, List.length_append]; omega
theorem tsAll_le (c : List Ly) (k : Nat) : (tsAll (c.take k)).length ≤ (tsAll c).length := by
  conv => rhs; rw [← List.take_append_drop k c]
  unfold tsAll
  rw [List.flatMap_append, List.length_append]; omega
theorem dsAll_at (c : List Ly) (k : Nat) (h : k < c.length) : c[k].ds.length ≤ (dsAll c).length := by
  have h1 := dsAll_le c (k + 1)
  rw [dsAll_step c k h, List.length_append] at h1
  omega
theorem tsAll_at (c : List Ly) (k : Nat) (h : k < c.length) : c[k].ts.length ≤ (tsAll c).length := by
  have h1 := tsAll_le c (k + 1)
  rw [tsAll_step c k h, List.length_append] at h1
  omega
theorem dsAll_mem {c : List Ly} {k : Nat} {d : D} (h : d ∈ dsAll (c.take k)) : d ∈ dsAll c := by
  obtain ⟨l, hl, hd⟩ := List.mem_flatMap.1 h
  exact List.mem_flatMap.2 ⟨l, List.mem_of_mem_take hl, hd⟩
theorem tsAll_mem {c : List Ly} {k j : Nat} (h : k < c.length) (hj : j < c[k].ts.length) : c[k].ts[j] ∈ tsAll c := List.mem_flatMap.2 ⟨c[k], List.getElem_mem h, List.getElem_mem hj⟩
theorem ctxOk_short {c : List Ly} (h : ¬ 1 ≤ c.length) : ctxOk c = false := by unfold ctxOk; rw [decide_eq_false h]; rfl
theorem ctxOk_long {c : List Ly} (h : ¬ c.length ≤ 6) : ctxOk c = false := by unfold ctxOk; rw [decide_eq_false h]; simp
theorem ctxOk_decl {c : List Ly} (h : declOk (dsAll c) = false) : ctxOk c = false := by unfold ctxOk; rw [h]; simp
theorem ctxOk_terms {c : List Ly} (h : ¬ (tsAll c).length ≤ 8) : ctxOk c = false := by unfold ctxOk; rw [decide_eq_false h]; simp
theorem ctxOk_go {c : List Ly} (h1 : 1 ≤ c.length) (h6 : c.length ≤ 6) (hd : declOk (dsAll c) = true) (h8 : (tsAll c).length ≤ 8) : ctxOk c = ctxGo [] c := by unfold ctxOk; rw [decide_eq_true h1, decide_eq_true h6, hd, decide_eq_true h8]; rfl
def okT3 (t : T) : Prop := okT2 t ∧ (-9223372036854775808 ≤ t.op ∧ t.op ≤ 9223372036854775807)
/-- What is asked of a context that comes in. -/
structure okC (c : List Ly) : Prop where
  len : c.length ≤ 1048576
  ds : (dsAll c).length ≤ 1048576
  ts : (tsAll c).length ≤ 1048576
  names : ∀ d ∈ dsAll c, d.name.size ≤ 9223372036854775807
  terms : ∀ t ∈ tsAll c, T.All okT3 t
end Go.Proofs.YtiahmfpfimmbgaaGreatDoor

/-! What grows but for some blocks. No program is named here. -/
namespace Go.Proofs.YtiahmfpfimmbgaaGreatDoor
open Go Go.RowKit

theorem own_of_heap {w w' : World} {base : Nat} {e : TypeId} {size n : Nat} {v : Value} {xs : List Value} (h : w.ownsRow base e size v n xs) (hk : ∀ g, v.ownBlock = some g → w'.heap[g]? = w.heap[g]?) : w'.ownsRow base e size v n xs := by
  refine ⟨h.1, ?_⟩
  rcases h.2 with hn | ⟨g, cap, cur, rfl, hb, hgg, rest⟩
  · exact .inl hn
  · exact .inr ⟨g, cap, cur, rfl, hb, (hk g rfl).trans hgg, rest⟩
/-- But for the blocks S nothing turned. -/
structure Gr (S : Nat → Prop) (w w' : World) : Prop where
  os : w'.os = w.os
  tape : w'.tape = w.tape
  output : w'.output = w.output
  size : w.heap.size ≤ w'.heap.size
  block : ∀ i, i < w.heap.size → ¬ S i → w'.heap[i]? = w.heap[i]?
theorem Gr.refl (S : Nat → Prop) (w : World) : Gr S w w := ⟨rfl, rfl, rfl, Nat.le_refl _, fun _ _ _ => rfl⟩
theorem Gr.trans {S : Nat → Prop} {a b c : World} (h : Gr S a b) (k : Gr S b c) : Gr S a c :=
  ⟨k.os.trans h.os, k.tape.trans h.tape, k.output.trans h.output, Nat.le_trans h.size k.size, fun i hi hn => (k.block i (Nat.lt_of_lt_of_le hi h.size) hn).trans (h.block i hi hn)⟩
theorem Gr.mono {S T : Nat → Prop} {a b : World} (h : Gr S a b) (hST : ∀ x, S x → T x) : Gr T a b := ⟨h.os, h.tape, h.output, h.size, fun i hi hn => h.block i hi (fun e => hn (hST i e))⟩
theorem Gr.below {S : Nat → Prop} {w w' : World} (h : Below w.heap.size w w') : Gr S w w' := ⟨h.os, h.tape, h.output, h.size, fun i hi _ => h.block i hi⟩
theorem Gr.up {S : Nat → Prop} {a w w' : World} (h : Gr S a w) (hb : Below w.heap.size w w') : Gr S a w' := h.trans (.below hb)
theorem Gr.one {S : Nat → Prop} {w w' : World} {g : Nat} (h : w.grownBy w' (some g)) (hg : S g) : Gr S w w' := ⟨h.os, h.tape, h.output, h.size, fun i hi hn => h.block i hi (fun e => by injection e with e; exact hn (e ▸ hg))⟩
theorem Gr.set {S : Nat → Prop} {a w : World} (h : Gr S a w) (g o : Nat) (u : Value) (hg : S g ∨ a.heap.size ≤ g) : Gr S a (w.setCell ⟨g, o, none⟩ u) :=
  ⟨h.os, h.tape, h.output, by rw [size_setCell]; exact h.size, fun i hi hn => (Below.heap_setCell w ⟨g, o, none⟩ u i (fun e => hg.elim (fun h9 => hn (by rw [e]; exact h9)) (fun h9 => by rw [e] at hi; exact absurd hi (by show ¬ g < _; omega)))).trans (h.block i hi hn)⟩
/-- A row of one's own has grown. -/
theorem Gr.own {S : Nat → Prop} {a w w' : World} {row : Option Nat} (h : Gr S a w) (k : w.grownBy w' row) (hr : ∀ g, row = some g → a.heap.size ≤ g) : Gr S a w' :=
  ⟨k.os.trans h.os, k.tape.trans h.tape, k.output.trans h.output, Nat.le_trans h.size k.size, fun i hi hn => (k.block i (Nat.lt_of_lt_of_le hi h.size) (fun e => by have := hr i e.symm; omega)).trans (h.block i hi hn)⟩
/-- From the blocks of a later start on, all is the caller's gain. -/
theorem Gr.then {S T : Nat → Prop} {a b c : World} (h : Gr S a b) (k : Gr T b c) (hT : ∀ x, T x → S x ∨ a.heap.size ≤ x) : Gr S a c :=
  ⟨k.os.trans h.os, k.tape.trans h.tape, k.output.trans h.output, Nat.le_trans h.size k.size, fun i hi hn => (k.block i (Nat.lt_of_lt_of_le hi h.size) (fun e => (hT i e).elim hn (fun h9 => by omega))).trans (h.block i hi hn)⟩
theorem Gr.to_below' {S : Nat → Prop} {B : Nat} {a b : World} (h : Gr S a b) (hB : B ≤ a.heap.size) (hS : ∀ x, S x → B ≤ x) : Below B a b := ⟨h.os, h.tape, h.output, h.size, fun i hi => h.block i (by omega) (fun e => by have := hS i e; omega)⟩
theorem Gr.heap {S : Nat → Prop} {w w' : World} {g : Nat} {o : Obj} (h : Gr S w w') (hg : ¬ S g) (hb : w.heap[g]? = some o) : w'.heap[g]? = some o := (h.block g (Array.getElem?_eq_some_iff.1 hb).1 hg).trans hb
/-- What stays: data that do not lie in the blocks S. -/
def Ab (S : Nat → Prop) (w : World) (b : Nat) : Prop := b < w.heap.size ∧ ¬ S b
theorem Lay.Sl.gr {α : Type} {L : Lay α} {w w' : World} {S : Nat → Prop} {A : Option Addr} {xs : List α} (h : L.Sl w (Ab S w) A xs) (hg : Gr S w w') : L.Sl w' (Ab S w') A xs :=
  (h.keep fun b hb => hg.block b hb.1 hb.2).mono fun b hb => ⟨Nat.lt_of_lt_of_le hb.1 hg.size, hb.2⟩
end Go.Proofs.YtiahmfpfimmbgaaGreatDoor

/-! Rows of declarations of the call's own. -/
namespace Go.Proofs.YtiahmfpfimmbgaaGreatDoor
open Go Go.RowKit

def dcells (d : D) : List Value := [.string d.name, .int .i64 d.wide]
theorem dcells_len (xs : List D) : (xs.flatMap dcells).length = xs.length * 2 := by
  induction xs with
  | nil => rfl
  | cons x xs ih => rw [List.flatMap_cons, List.length_append, ih]; simp [dcells]; omega
theorem dcells_get (xs : List D) (k j : Nat) (hk : k < xs.length) (hj : j < 2) : (xs.flatMap dcells)[k * 2 + j]? = (dcells xs[k])[j]? := by
  have hl : ((xs.take k).flatMap dcells).length = k * 2 := by rw [dcells_len]; simp; omega
  have e : xs.flatMap dcells = (xs.take k).flatMap dcells ++ (dcells xs[k] ++ (xs.drop (k + 1)).flatMap dcells) := by
    conv => lhs; rw [← List.take_append_drop k xs, List.drop_eq_getElem_cons hk]
    rw [List.flatMap_append, List.flatMap_cons]
  rw [e, List.getElem?_append_right (by omega), hl, show k * 2 + j - k * 2 = j by omega, List.getElem?_append_left (by simp [dcells]; omega)]
theorem dcells_put (xs : List D) (k j : Nat) (hk : k < xs.length) (v : Value) (d : D) (h : (dcells xs[k]).set j v = dcells d) (hj : j < 2) : (xs.flatMap dcells).set (k * 2 + j) v = (xs.set k d).flatMap dcells := by
  have hl : ((xs.take k).flatMap dcells).length = k * 2 := by rw [dcells_len]; simp; omega
  have e : xs.flatMap dcells = (xs.take k).flatMap dcells ++ (dcells xs[k] ++ (xs.drop (k + 1)).flatMap dcells) := by
    conv => lhs; rw [← List.take_append_drop k xs, List.drop_eq_getElem_cons hk]
    rw [List.flatMap_append, List.flatMap_cons]
  have e2 : (xs.set k d).flatMap dcells = (xs.take k).flatMap dcells ++ (dcells d ++ (xs.drop (k + 1)).flatMap dcells) := by
    rw [List.set_eq_take_append_cons_drop, if_pos hk, List.flatMap_append, List.flatMap_cons]
  rw [e, e2, List.set_append_right _ _ (by omega), hl, show k * 2 + j - k * 2 = j by omega, List.set_append_left _ _ (by simp [dcells]; omega), h]
theorem dcells_one (xs : List D) : ∀ u ∈ xs.flatMap dcells, u.oneCell' = true := by
  intro u hu
  obtain ⟨g, _, hg⟩ := List.mem_flatMap.1 hu
  simp [dcells] at hg
  rcases hg with rfl | rfl <;> rfl
theorem src_decls {w : World} {F : Nat → Prop} {A : Option Addr} {xs : List D} (h : Lay.decl.Sl w F A xs) : Src w 2 A xs.length (xs.flatMap dcells) := by
  refine ⟨dcells_len xs, fun h0 => ?_⟩
  obtain ⟨ad, rfl, _, hc⟩ := h h0
  refine ⟨ad, rfl, fun j u hu => ?_⟩
  have hj : j < (xs.flatMap dcells).length := by
    rcases Nat.lt_or_ge j (xs.flatMap dcells).length with h | h
    · exact h
    · rw [List.getElem?_eq_none h] at hu; cases hu
  rw [dcells_len] at hj
  have hk : j / 2 < xs.length := by omega
  obtain ⟨vs, hr, hcell⟩ := hc (j / 2) xs[j / 2] (List.getElem?_eq_getElem hk)
  have e : j = j / 2 * 2 + j % 2 := by omega
  rw [e, dcells_get xs (j / 2) (j % 2) hk (by omega)] at hu
  have := hcell (j % 2) u (by rw [hr]; exact hu)
  rw [show Lay.decl.size = 2 from rfl, ← e] at this
  exact this
/-- The call's own row of declarations. -/
def OwnDs (w : World) (base : Nat) (v : Value) (xs : List D) : Prop := w.ownsRow base 39 2 v xs.length (xs.flatMap dcells)
theorem OwnDs.up {w w' : World} {base : Nat} {v : Value} {xs : List D} (h : OwnDs w base v xs) (hb : Below w.heap.size w w') : OwnDs w' base v xs := own_below h hb (Nat.le_refl _)
theorem OwnDs.gr {S : Nat → Prop} {w w' : World} {base : Nat} {v : Value} {xs : List D} (h : OwnDs w base v xs) (hg : Gr S w w') (hr : ∀ b, S b → b < base) : OwnDs w' base v xs :=
  own_of_heap h fun g hg' => hg.block g (h.lt g hg').2 (fun e => by have := hr g e; have := (h.lt g hg').1; omega)
theorem OwnDs.sl {w : World} {base c : Nat} {A : Option Addr} {xs : List D} (h : OwnDs w base (.slice A xs.length c) xs) : Lay.decl.Sl w (fun b => base ≤ b ∧ b < w.heap.size) A xs :=
  Lay.Sl.of_own (L := Lay.decl) (e := 39) h rfl (fun g h1 h2 => ⟨h1, h2⟩) fun k x hx => ⟨dcells x, rfl, fun j u hu => by
    have hk : k < xs.length := (List.getElem?_eq_some_iff.1 hx).1
    have hj : j < 2 := by have := (List.getElem?_eq_some_iff.1 hu).1; simpa [dcells] using this
    show (xs.flatMap dcells)[k * 2 + j]? = _
    rw [dcells_get xs k j hk hj, (List.getElem?_eq_some_iff.1 hx).2]; exact hu⟩
theorem OwnDs.rd {w : World} {base c : Nat} {A : Option Addr} {xs : List D} (h : OwnDs w base (.slice A xs.length c) xs) : Lay.decl.Rd w A xs := h.sl.mono fun _ h => h.2
theorem OwnDs.form {w : World} {lo : Nat} {v : Value} {xs : List D} (h : OwnDs w lo v xs) : ∃ A c, v = .slice A xs.length c ∧ xs.length ≤ c := by
  rcases h.2 with ⟨h1, h2⟩ | ⟨g, cap, cur, h1, _, _, h3, _⟩
  · exact ⟨none, 0, by rw [h1, h2], by rw [h2]; exact Nat.le_refl _⟩
  · exact ⟨_, cap, h1, h3⟩
theorem OwnDs.cap {w : World} {lo c n : Nat} {A : Option Addr} {xs : List D} (h : OwnDs w lo (.slice A n c) xs) : n = xs.length ∧ xs.length ≤ c := by
  obtain ⟨A', c', e, hl⟩ := h.form
  injection e with e1 e2 e3
  exact ⟨e2, by omega⟩
theorem OwnDs.first {w : World} {base c : Nat} {A : Option Addr} {xs : List D} (h : OwnDs w base (.slice A xs.length c) xs) (hx : 0 < xs.length) : ∃ g, A = some ⟨g, 0, none⟩ := by
  rcases h.2 with ⟨_, h2⟩ | ⟨g, cap, cur, h1, _⟩
  · rw [h2] at hx; exact absurd hx (by simp)
  · injection h1 with h1; exact ⟨g, h1⟩
/-- A field of an own row's declaration is stored. -/
theorem OwnDs.put {w : World} {base g c k j : Nat} {xs : List D} (h : OwnDs w base (.slice (some ⟨g, 0, none⟩) xs.length c) xs) (hk : k < xs.length) (v : Value) (d : D) (hd : (dcells xs[k]).set j v = dcells d) (hj : j < 2) :
    OwnDs (w.setCell ⟨g, k * 2 + j, none⟩ v) base (.slice (some ⟨g, 0, none⟩) (xs.set k d).length c) (xs.set k d) := by
  have := (World.ownsRow.stored h (k * 2 + j) v).1
  unfold OwnDs
  rw [← dcells_put xs k j hk v d hd hj]
  simpa using this
theorem OwnDs.cell {w : World} {base g c k j : Nat} {xs : List D} (h : OwnDs w base (.slice (some ⟨g, 0, none⟩) xs.length c) xs) (hk : k < xs.length) (hj : j < 2) : w.cell? ⟨g, k * 2 + j, none⟩ = (dcells xs[k])[j]? ∧ w.frozen? ⟨g, k * 2 + j, none⟩ = false := by
  have hl : (xs.flatMap dcells).length = xs.length * 2 := dcells_len xs
  refine ⟨?_, World.ownsRow.frozenAt h _⟩
  rw [World.ownsRow.cellAt h _ (by omega), dcells_get xs k j hk hj]
theorem OwnDs.mono {w : World} {base base' : Nat} {v : Value} {xs : List D} (h : OwnDs w base v xs) (hb : base' ≤ base) : OwnDs w base' v xs := own_mono h hb
theorem own_lit0D (w : World) : OwnDs (w.alloc (.cells #[] 39)) w.heap.size (.slice (some ⟨w.heap.size, 0, none⟩) ([] : List D).length 0) [] := own_lit0 rfl
theorem decl_info : (Tryz.prog.info? 39).map (fun i => (i.zero, i.size, i.bytes)) = some (some ((.agg #[.string ⟨#[]⟩, .int .i64 0])), 2, 24) := by kernel_rfl
/-- append of some declarations, read anywhere, onto an own row. -/
theorem wpList_append_decls {Q : Exit → Act → World → Prop} {ops : Array Oper} {rest : List Oper} {o : Oper} {a : Act} {w : World} {lo : Nat} {A B : Option Addr} {c d : Nat} {xs zs ys : List D} (hgd : o.guard = none) (s x : Operand)
    (ho : o.op = .call { callee := .builtin .append, args := #[s, x], argTypes := #[55, 55] }) (hs : a.eval s = .slice A xs.length c) (hx : a.eval x = .slice B zs.length d)
    (hown : OwnDs w lo (.slice A xs.length c) xs) (hsrc : Src w 2 B zs.length (zs.flatMap dcells)) (hB : B = none → zs.length = 0) (hn : xs.length ≤ 2000000) (hm : zs.length ≤ 2000000) (hlo : lo ≤ w.heap.size) (hy : ys = xs ++ zs)
    (h : ∀ A' c' w', OwnDs w' lo (.slice A' ys.length c') ys → Below lo w w' → w.grownBy w' (Value.slice A xs.length c).ownBlock → wpList Tryz.prog ops Q rest (a.put o.dst (.slice A' ys.length c')) w') : wpList Tryz.prog ops Q (o :: rest) a w := by
  obtain ⟨i0, hi0, hz0, hz1, hz2⟩ := info_parts decl_info
  have hl : xs.length + zs.length = ys.length := by rw [hy]; simp
  have hc : ys.flatMap dcells = xs.flatMap dcells ++ zs.flatMap dcells := by rw [hy]; simp
  refine wpList_append_src (P := Tryz.prog) w hgd s x 55 ho lo 39 i0 _ 2 24 Tryz.underlying55 hi0 hz0 hz1 hz2 (by rfl) (by omega) _ xs.length (xs.flatMap dcells) hs hown B zs.length d (zs.flatMap dcells) hx hsrc (dcells_one zs) ys.length hl (by unfold maxLen; omega) (by omega) hlo hB ?_
  intro A' c' w' h2 hb h3
  exact h A' c' w' (by unfold OwnDs; rw [hc]; exact h2) hb h3
end Go.Proofs.YtiahmfpfimmbgaaGreatDoor

/-! Rows of the call's own whose elements may lead on to other blocks; append of one element. No program is named here. -/
namespace Go.Proofs.YtiahmfpfimmbgaaGreatDoor
open Go Go.RowKit

/-- What is so of a block hangs on the block alone. -/
def Stay (Q : World → Nat → Prop) : Prop := ∀ w w' b, w'.heap[b]? = w.heap[b]? → Q w b → Q w' b
theorem Stay.any : Stay (fun _ _ => True) := fun _ _ _ _ _ => trivial
theorem Stay.own (lo : Nat) : Stay (fun w b => lo ≤ b ∧ ∀ o, w.frozen? ⟨b, o, none⟩ = false) := fun w w' b h hq => ⟨hq.1, fun o => by
  rw [← hq.2 o]; exact World.frozen?_of_block (a := ⟨b, o, none⟩) h⟩
/-- A row of the call's own, of elements that lead to other blocks. -/
def OwnL {α : Type} (L : Lay α) (Q : World → Nat → Prop) (e : TypeId) (w : World) (lo : Nat) (v : Value) (xs : List α) : Prop :=
  ∃ cs, w.ownsRow lo e L.size v xs.length cs ∧ ∀ i x, xs[i]? = some x → ∃ vs, L.R w (fun b => b < w.heap.size ∧ v.ownBlock ≠ some b ∧ Q w b) x vs ∧ ∀ j u, vs[j]? = some u → cs[i * L.size + j]? = some u
section
variable {α : Type} {L : Lay α} {Q : World → Nat → Prop} {e : TypeId} {lo : Nat} {w : World} {v : Value} {xs : List α}
theorem OwnL.nil (L : Lay α) (Q : World → Nat → Prop) (e : TypeId) (w : World) (lo : Nat) : OwnL L Q e w lo (.slice none 0 0) [] := ⟨[], World.ownsRow_nil _ _ _ _, fun i x h => by simp at h⟩
/-- Nothing that the row leads to has turned. -/
theorem OwnL.keep {w' : World} (h : OwnL L Q e w lo v xs) (hQ : Stay Q) (hg : w.grownBy w' none) : OwnL L Q e w' lo v xs := by
  obtain ⟨cs, h1, h2⟩ := h
  refine ⟨cs, rows_kept h1 hg (by simp), fun i x hx => ?_⟩
  obtain ⟨vs, hr, hu⟩ := h2 i x hx
  refine ⟨vs, L.mono (fun b hb => ?_) (L.keep (fun b hb => hg.block b hb.1 (by simp)) hr), hu⟩
  exact ⟨Nat.lt_of_lt_of_le hb.1 hg.size, hb.2.1, hQ _ _ _ (hg.block b hb.1 (by simp)) hb.2.2⟩
theorem grown_of_below {a b : World} {row : Option Nat} (h : Below a.heap.size a b) : a.grownBy b row := ⟨h.os, h.tape, h.output, h.size, fun i hi _ => h.block i hi⟩
theorem OwnL.up {w' : World} (h : OwnL L Q e w lo v xs) (hQ : Stay Q) (hb : Below w.heap.size w w') : OwnL L Q e w' lo v xs := h.keep hQ (grown_of_below hb)
theorem OwnL.form (h : OwnL L Q e w lo v xs) : ∃ A c, v = .slice A xs.length c ∧ xs.length ≤ c := by
  obtain ⟨cs, h1, h2⟩ := h
  rcases h1.2 with ⟨e1, e2⟩ | ⟨g, cap, cur, e1, _, _, h3, _⟩
  · exact ⟨none, 0, by rw [e1, e2], by omega⟩
  · exact ⟨_, cap, e1, h3⟩
theorem OwnL.cap {A : Option Addr} {n c : Nat} (h : OwnL L Q e w lo (.slice A n c) xs) : n = xs.length ∧ xs.length ≤ c := by
  obtain ⟨A', c', e1, h1⟩ := h.form
  injection e1 with e1 e2 e3
  exact ⟨e2, by omega⟩
/-- How it reads: the row's own block, and those of its elements. -/
theorem OwnL.sl {A : Option Addr} {c : Nat} (h : OwnL L Q e w lo (.slice A xs.length c) xs) : L.Sl w (fun b => b < w.heap.size ∧ (lo ≤ b ∧ (∀ o, w.frozen? ⟨b, o, .none⟩ = false) ∨ Q w b)) A xs := by
  obtain ⟨cs, h1, h2⟩ := h
  intro h0
  rcases h1.2 with ⟨e1, e2⟩ | ⟨g, cap, cur, e1, hg, _⟩
  · omega
  · injection e1 with e1 e2 e3
    subst e1
    refine ⟨_, rfl, ⟨(h1.lt g rfl).2, .inl ⟨hg, fun o => h1.frozenAt o⟩⟩, fun k x hx => ?_⟩
    obtain ⟨vs, hr, hu⟩ := h2 k x hx
    exact ⟨vs, L.mono (fun b hb => ⟨hb.1, .inr hb.2.2⟩) hr, fun j u hj => h1.cells (g := g) rfl _ _ (hu j u hj)⟩
theorem OwnL.rd {A : Option Addr} {c : Nat} (h : OwnL L Q e w lo (.slice A xs.length c) xs) : L.Rd w A xs := h.sl.mono fun _ h => h.1
theorem OwnL.own {A : Option Addr} {c : Nat} (h : OwnL L (fun w b => lo ≤ b ∧ ∀ o, w.frozen? ⟨b, o, none⟩ = false) e w lo (.slice A xs.length c) xs) : L.Sl w (Own lo w) A xs :=
  h.sl.mono fun _ h => ⟨h.2.elim (fun h => h.1) (fun h => h.1), h.1, h.2.elim (fun h => h.2) (fun h => h.2)⟩
/-- The element at a place, as cells. -/
theorem OwnL.at {A : Option Addr} {c : Nat} (h : OwnL L Q e w lo (.slice A xs.length c) xs) {k : Nat} (hk : k < xs.length) : ∃ ad, A = some ad ∧ ad.block < w.heap.size := by
  obtain ⟨ad, e1, hf, _⟩ := h.rd (by omega)
  exact ⟨ad, e1, hf⟩
end
theorem OwnL.lt {α : Type} {L : Lay α} {Q : World → Nat → Prop} {e : TypeId} {w : World} {lo : Nat} {v : Value} {xs : List α} (h : OwnL L Q e w lo v xs) : ∀ g, v.ownBlock = some g → lo ≤ g ∧ g < w.heap.size := by
  obtain ⟨cs, h1, _⟩ := h
  exact fun g hg => h1.lt g hg
end Go.Proofs.YtiahmfpfimmbgaaGreatDoor

/-! append of a whole slice onto a row of the call's own whose elements lead to other blocks. No program is named here. -/
namespace Go.Proofs.YtiahmfpfimmbgaaGreatDoor
open Go Go.RowKit

theorem flat_len {n : Nat} : ∀ {ls : List (List Value)}, (∀ l ∈ ls, l.length = n) → ls.flatten.length = ls.length * n
  | [], _ => by simp
  | l :: ls, h => by
    rw [List.flatten_cons, List.length_append, flat_len (ls := ls) fun x hx => h x (List.mem_cons_of_mem _ hx), h l (List.mem_cons_self ..), List.length_cons, Nat.add_mul, Nat.one_mul, Nat.add_comm]
theorem flat_get {n : Nat} : ∀ {ls : List (List Value)} (_ : ∀ l ∈ ls, l.length = n) (i j : Nat) (l : List Value), ls[i]? = some l → j < n → ls.flatten[i * n + j]? = l[j]?
  | [], _, i, j, l, h, _ => by simp at h
  | l0 :: ls, hl, 0, j, l, h, hj => by
    simp at h
    subst h
    rw [List.flatten_cons, Nat.zero_mul, Nat.zero_add, List.getElem?_append_left (by rw [hl _ (List.mem_cons_self ..)]; exact hj)]
  | l0 :: ls, hl, i + 1, j, l, h, hj => by
    have h0 := hl l0 (List.mem_cons_self ..)
    rw [List.flatten_cons, List.getElem?_append_right (by rw [h0, Nat.add_mul, Nat.one_mul]; omega)]
    have e : (i + 1) * n + j - l0.length = i * n + j := by rw [h0, Nat.add_mul, Nat.one_mul]; omega
    rw [e]
    exact flat_get (fun x hx => hl x (List.mem_cons_of_mem _ hx)) i j l (by simpa using h) hj
/-- A slice that is read: its cells. -/
theorem Lay.Sl.src {α : Type} {L : Lay α} {w : World} {F : Nat → Prop} {A : Option Addr} {xs : List α} (h : L.Sl w F A xs) (h1 : ∀ x vs, L.R w F x vs → ∀ u ∈ vs, u.oneCell' = true) :
    ∃ news, Src w L.size A xs.length news ∧ (∀ u ∈ news, u.oneCell' = true) ∧ ∀ i x, xs[i]? = some x → ∃ vs, L.R w F x vs ∧ ∀ j u, vs[j]? = some u → news[i * L.size + j]? = some u := by
  by_cases h0 : 0 < xs.length
  · obtain ⟨ad, rfl, hf, hc⟩ := h h0
    have hk' : ∀ k, ∃ vs, ∀ x, xs[k]? = some x → L.R w F x vs ∧ ∀ j u, vs[j]? = some u → w.cell? (ad.add (k * L.size + j)) = some u := fun k => by
      cases hx : xs[k]? with
      | none => exact ⟨[], fun x h => by cases h⟩
      | some x =>
        obtain ⟨vs, h1, h2⟩ := hc k x hx
        exact ⟨vs, fun x' h => by cases h; exact ⟨h1, h2⟩⟩
    obtain ⟨f, hf'⟩ := Classical.axiomOfChoice hk'
    have hlen : ∀ l ∈ (List.range xs.length).map f, l.length = L.size := fun l hl => by
      obtain ⟨i, hi, rfl⟩ := List.mem_map.1 hl
      exact L.len (hf' i _ (List.getElem?_eq_getElem (List.mem_range.1 hi))).1
    have hat : ∀ i, i < xs.length → ((List.range xs.length).map f)[i]? = some (f i) := fun i hi => by simp [hi]
    refine ⟨((List.range xs.length).map f).flatten, ⟨by rw [flat_len hlen]; simp, fun _ => ⟨ad, rfl, fun j u hu => ?_⟩⟩, fun u hu => ?_, fun i x hx => ?_⟩
    · have hj : j < xs.length * L.size := by
        have := (List.getElem?_eq_some_iff.1 hu).1
        rw [flat_len hlen] at this
        simpa using this
      have hs : 0 < L.size := by
        rcases Nat.eq_zero_or_pos L.size with e | e
        · rw [e] at hj; omega
        · exact e
      have hi : j / L.size < xs.length := (Nat.div_lt_iff_lt_mul hs).2 hj
      have hm : j % L.size < L.size := Nat.mod_lt _ hs
      have e : j / L.size * L.size + j % L.size = j := by rw [Nat.mul_comm]; exact Nat.div_add_mod j L.size
      have h9 := flat_get hlen (j / L.size) (j % L.size) _ (hat _ hi) hm
      rw [e, hu] at h9
      have := (hf' _ _ (List.getElem?_eq_getElem hi)).2 (j % L.size) u h9.symm
      rw [e] at this
      exact this
    · obtain ⟨l, hl, hul⟩ := List.mem_flatten.1 hu
      obtain ⟨i, hi, rfl⟩ := List.mem_map.1 hl
      exact h1 _ _ (hf' i _ (List.getElem?_eq_getElem (List.mem_range.1 hi))).1 u hul
    · have hi : i < xs.length := (List.getElem?_eq_some_iff.1 hx).1
      refine ⟨f i, (hf' i x hx).1, fun j u hj => ?_⟩
      have hjl : j < L.size := by
        have := (List.getElem?_eq_some_iff.1 hj).1
        rwa [L.len (hf' i x hx).1] at this
      rw [flat_get hlen i j _ (hat i hi) hjl]
      exact hj
  · have : xs = [] := List.eq_nil_of_length_eq_zero (by omega)
    subst this
    exact ⟨[], ⟨by simp, fun h => absurd h (by simp)⟩, by simp, fun i x h => by simp at h⟩
section
variable {P : Program} (w : World)
theorem run_append_src_at (base : Nat) (t ty e : TypeId) (i : TypeInfo) (z : Value) (size bytes : Nat) (ht : P.underlying t = some (.slice e)) (hi : P.info? e = some i) (hz : i.zero = some z)
    (hsize : i.size = size) (hby : i.bytes = bytes) (hzs : z.cells.size = size) (hsz : 0 < size)
    (v : Value) (n : Nat) (xs : List Value) (hown : w.ownsRow base e size v n xs)
    (A : Option Addr) (m c : Nat) (news : List Value) (hr : Src w size A m news) (h1 : ∀ u ∈ news, u.oneCell' = true)
    (nm : Nat) (hnm : n + m = nm) (h63 : nm ≤ maxLen) (hbytes : nm * bytes ≤ 140737488355328) (hbase : base ≤ w.heap.size) (hA : A = none → m = 0) :
    ∃ A' c' w', (Builtin.append_ #[t, t] ty #[v, .slice A m c]).run P w = .ok (.slice A' nm c') w' ∧ w'.ownsRow base e size (.slice A' nm c') nm (xs ++ news) ∧ w.grownBy w' v.ownBlock ∧
      ((Value.slice A' nm c').ownBlock = v.ownBlock ∨ ∃ g, (Value.slice A' nm c').ownBlock = some g ∧ w.heap.size ≤ g) := by
  subst hnm
  suffices H : ∃ v' w', (Builtin.append_ #[t, t] ty #[v, .slice A m c]).run P w = .ok v' w' ∧ w'.ownsRow base e size v' (n + m) (xs ++ news) ∧ w.grownBy w' v.ownBlock ∧ (v'.ownBlock = v.ownBlock ∨ ∃ g, v'.ownBlock = some g ∧ w.heap.size ≤ g) by
    obtain ⟨v', w', h1, h2, h3, h4⟩ := H
    rcases h2.2 with ⟨e1, e2⟩ | ⟨g, cap, cur, e1, _⟩
    · exact ⟨none, 0, w', by rw [h1, e1, e2], by rw [e1] at h2; rw [e2] at h2 ⊢; exact h2, h3, by rw [e1] at h4; rw [e2]; exact h4⟩
    · exact ⟨_, cap, w', by rw [h1, e1], by rw [e1] at h2; exact h2, h3, by rw [e1] at h4; exact h4⟩
  rcases A with _ | ad
  · have hm : m = 0 := hA rfl
    subst hm
    have hn : news = [] := List.eq_nil_of_length_eq_zero (by simpa using hr.1)
    subst hn
    exact ⟨v, w, run_append_of_nil w base t ty e i size ht hi v n xs hown c, by simpa using hown, World.grownBy.refl _ _, .inl rfl⟩
  · have hcells : ∀ j u, news[j]? = some u → w.cell? (ad.add j) = some u := by
      intro j u hu
      rcases Nat.eq_zero_or_pos m with h0 | h0
      · subst h0
        have hn : news = [] := List.eq_nil_of_length_eq_zero (by simpa using hr.1)
        subst hn
        simp at hu
      · obtain ⟨ad', h, hc⟩ := hr.2 h0
        injection h with h
        subst h
        exact hc j u hu
    obtain ⟨v', w', hrun, h2, h3, _, h5⟩ := run_append_own_at (P := P) w base t ty e i z size bytes ht hi hz hsize hby hzs hsz v n xs hown ad m c news hr.1 hcells h1 h63 hbytes hbase
    refine ⟨v', w', hrun, h2, h3, ?_⟩
    rcases h5 with e | e
    · exact .inl e
    · exact .inr ⟨_, e, Nat.le_refl _⟩
end
theorem OwnL.appended {α : Type} {L : Lay α} {Q : World → Nat → Prop} {e : TypeId} {w w' : World} {lo c c' : Nat} {A A' : Option Addr} {xs zs ys : List α} {G : Nat → Prop} {news ks : List Value}
    (hown : OwnL L Q e w lo (.slice A xs.length c) xs) (hQ : Stay Q) (hG : ∀ b, G b → b < w.heap.size ∧ (Value.slice A xs.length c).ownBlock ≠ some b ∧ Q w b) (hy : ys = xs ++ zs)
    (hks : w.ownsRow lo e L.size (.slice A xs.length c) xs.length ks) (hkx : ∀ i x, xs[i]? = some x → ∃ vs, L.R w (fun b => b < w.heap.size ∧ (Value.slice A xs.length c).ownBlock ≠ some b ∧ Q w b) x vs ∧ ∀ j u, vs[j]? = some u → ks[i * L.size + j]? = some u)
    (hz : ∀ i x, zs[i]? = some x → ∃ vs, L.R w G x vs ∧ ∀ j u, vs[j]? = some u → news[i * L.size + j]? = some u)
    (ho' : w'.ownsRow lo e L.size (.slice A' ys.length c') ys.length (ks ++ news)) (hg : w.grownBy w' (Value.slice A xs.length c).ownBlock)
    (hbk : (Value.slice A' ys.length c').ownBlock = (Value.slice A xs.length c).ownBlock ∨ ∃ g, (Value.slice A' ys.length c').ownBlock = some g ∧ w.heap.size ≤ g) : OwnL L Q e w' lo (.slice A' ys.length c') ys := by
  have hne : ∀ b, b < w.heap.size → (Value.slice A xs.length c).ownBlock ≠ some b → (Value.slice A' ys.length c').ownBlock ≠ some b := fun b h2 h3 h4 => by
    rcases hbk with e | ⟨g, e, hg⟩
    · exact h3 (e ▸ h4)
    · rw [e] at h4; injection h4 with h4; omega
  have hmove : ∀ {y : α} {vs : List Value}, L.R w (fun b => b < w.heap.size ∧ (Value.slice A xs.length c).ownBlock ≠ some b ∧ Q w b) y vs → L.R w' (fun b => b < w'.heap.size ∧ (Value.slice A' ys.length c').ownBlock ≠ some b ∧ Q w' b) y vs := fun hR =>
    L.mono (fun b h9 => ⟨Nat.lt_of_lt_of_le h9.1 hg.size, hne b h9.1 h9.2.1, hQ _ _ _ (hg.block b h9.1 (fun e9 => h9.2.1 e9.symm)) h9.2.2⟩) (L.keep (fun b h9 => hg.block b h9.1 (fun e9 => h9.2.1 e9.symm)) hR)
  refine ⟨ks ++ news, ho', fun k y hky => ?_⟩
  have hkl : ks.length = xs.length * L.size := hks.1
  rw [hy] at hky
  rcases Nat.lt_or_ge k xs.length with h2 | h2
  · rw [List.getElem?_append_left h2] at hky
    obtain ⟨vs, hR, hu⟩ := hkx k y hky
    refine ⟨vs, hmove hR, fun j u hj => ?_⟩
    have hjl := (List.getElem?_eq_some_iff.1 hj).1
    have hvl := L.len hR
    have hm : (k + 1) * L.size ≤ xs.length * L.size := Nat.mul_le_mul_right _ h2
    rw [Nat.add_mul, Nat.one_mul] at hm
    rw [List.getElem?_append_left (by omega)]
    exact hu j u hj
  · rw [List.getElem?_append_right h2] at hky
    obtain ⟨vs, hR, hu⟩ := hz _ y hky
    refine ⟨vs, hmove (L.mono hG hR), fun j u hj => ?_⟩
    have e1 : k * L.size = xs.length * L.size + (k - xs.length) * L.size := by rw [← Nat.add_mul]; congr 1; omega
    rw [List.getElem?_append_right (by omega), show k * L.size + j - ks.length = (k - xs.length) * L.size + j by omega]
    exact hu j u hj
/-- append of a slice whose cells are known. -/
theorem run_append_rowsS {P : Program} {w : World} {α : Type} {L : Lay α} {Q : World → Nat → Prop} {t e ty : TypeId} {i : TypeInfo} {z : Value} {bytes : Nat} {G : Nat → Prop} {news : List Value}
    {lo : Nat} {A B : Option Addr} {c d : Nat} {xs zs ys : List α} (ht : P.underlying t = some (.slice e)) (hi : P.info? e = some i) (hz : i.zero = some z) (hsize : i.size = L.size) (hby : i.bytes = bytes) (hzs : z.cells.size = L.size) (hsz : 0 < L.size)
    (hown : OwnL L Q e w lo (.slice A xs.length c) xs) (hQ : Stay Q) (hs : Src w L.size B zs.length news) (h1 : ∀ u ∈ news, u.oneCell' = true) (hnz : ∀ i x, zs[i]? = some x → ∃ vs, L.R w G x vs ∧ ∀ j u, vs[j]? = some u → news[i * L.size + j]? = some u)
    (hB : B = none → zs.length = 0) (hG : ∀ b, G b → b < w.heap.size ∧ (Value.slice A xs.length c).ownBlock ≠ some b ∧ Q w b)
    (hn : xs.length ≤ 2000000) (hm : zs.length ≤ 2000000) (hb : bytes ≤ 128) (hlo : lo ≤ w.heap.size) (hy : ys = xs ++ zs) :
    ∃ A' c' w', (Builtin.append_ #[t, t] ty #[.slice A xs.length c, .slice B zs.length d]).run P w = .ok (.slice A' ys.length c') w' ∧ OwnL L Q e w' lo (.slice A' ys.length c') ys ∧ w.grownBy w' (Value.slice A xs.length c).ownBlock ∧
      ((Value.slice A' ys.length c').ownBlock = (Value.slice A xs.length c).ownBlock ∨ ∃ g, (Value.slice A' ys.length c').ownBlock = some g ∧ w.heap.size ≤ g) := by
  have hl : xs.length + zs.length = ys.length := by rw [hy]; simp
  obtain ⟨ks, hk1, hk2⟩ := hown
  have hbb : ys.length * bytes ≤ 140737488355328 := by
    have : ys.length * bytes ≤ 4000000 * 128 := Nat.mul_le_mul (by omega) hb
    omega
  obtain ⟨A', c', w', hrun, ho', hg', hbk⟩ := run_append_src_at (P := P) w lo t ty e i z L.size bytes ht hi hz hsize hby hzs hsz _ xs.length ks hk1 B zs.length d news hs h1 ys.length hl (by unfold maxLen; omega) hbb hlo hB
  exact ⟨A', c', w', hrun, OwnL.appended ⟨ks, hk1, hk2⟩ hQ hG hy hk1 hk2 hnz ho' hg' hbk, hg', hbk⟩
theorem wpList_append_rowsS {P : Program} {Q' : Exit → Act → World → Prop} {ops : Array Oper} {rest : List Oper} {o : Oper} {a : Act} {w : World} {α : Type} {L : Lay α} {Q : World → Nat → Prop} {t e : TypeId} {i : TypeInfo} {z : Value} {bytes : Nat} {G : Nat → Prop} {news : List Value}
    {lo : Nat} {A B : Option Addr} {c d : Nat} {xs zs ys : List α} (hgd : o.guard = none) (s y : Operand)
    (ho : o.op = .call { callee := .builtin .append, args := #[s, y], argTypes := #[t, t] }) (ht : P.underlying t = some (.slice e)) (hi : P.info? e = some i) (hz : i.zero = some z) (hsize : i.size = L.size) (hby : i.bytes = bytes) (hzs : z.cells.size = L.size) (hsz : 0 < L.size)
    (hs : a.eval s = .slice A xs.length c) (hyv : a.eval y = .slice B zs.length d)
    (hown : OwnL L Q e w lo (.slice A xs.length c) xs) (hQ : Stay Q) (hsr : Src w L.size B zs.length news) (h1 : ∀ u ∈ news, u.oneCell' = true) (hnz : ∀ i x, zs[i]? = some x → ∃ vs, L.R w G x vs ∧ ∀ j u, vs[j]? = some u → news[i * L.size + j]? = some u)
    (hB : B = none → zs.length = 0) (hG : ∀ b, G b → b < w.heap.size ∧ (Value.slice A xs.length c).ownBlock ≠ some b ∧ Q w b)
    (hn : xs.length ≤ 2000000) (hm : zs.length ≤ 2000000) (hb : bytes ≤ 128) (hlo : lo ≤ w.heap.size) (hy : ys = xs ++ zs)
    (h : ∀ A' c' w', OwnL L Q e w' lo (.slice A' ys.length c') ys → w.grownBy w' (Value.slice A xs.length c).ownBlock →
      ((Value.slice A' ys.length c').ownBlock = (Value.slice A xs.length c).ownBlock ∨ ∃ g, (Value.slice A' ys.length c').ownBlock = some g ∧ w.heap.size ≤ g) → wpList P ops Q' rest (a.put o.dst (.slice A' ys.length c')) w') :
    wpList P ops Q' (o :: rest) a w := by
  obtain ⟨A', c', w', hrun, h2, h3, h4⟩ := run_append_rowsS (d := d) (ty := o.type) ht hi hz hsize hby hzs hsz hown hQ hsr h1 hnz hB hG hn hm hb hlo hy
  refine wpList_plain hgd fun _ hK => ?_
  unfold Oper.wp execOp
  simp only [ho, resolve, invoke, builtin, Sem.run_bind, Sem.run_pure, Result.andThen_ok, List.map_toArray, List.map_cons, List.map_nil, hs, hyv, hrun]
  exact hK _ _ (h A' c' w' h2 h3 h4)
/-- append of a slice that is read anywhere. -/
theorem run_append_rows {P : Program} {w : World} {α : Type} {L : Lay α} {Q : World → Nat → Prop} {t e ty : TypeId} {i : TypeInfo} {z : Value} {bytes : Nat} {G : Nat → Prop}
    {lo : Nat} {A B : Option Addr} {c d : Nat} {xs zs ys : List α} (ht : P.underlying t = some (.slice e)) (hi : P.info? e = some i) (hz : i.zero = some z) (hsize : i.size = L.size) (hby : i.bytes = bytes) (hzs : z.cells.size = L.size) (hsz : 0 < L.size)
    (hL : ∀ w F x vs, L.R w F x vs → ∀ u ∈ vs, u.oneCell' = true)
    (hown : OwnL L Q e w lo (.slice A xs.length c) xs) (hQ : Stay Q) (hr : L.Sl w G B zs) (hG : ∀ b, G b → b < w.heap.size ∧ (Value.slice A xs.length c).ownBlock ≠ some b ∧ Q w b)
    (hn : xs.length ≤ 2000000) (hm : zs.length ≤ 2000000) (hb : bytes ≤ 128) (hlo : lo ≤ w.heap.size) (hy : ys = xs ++ zs) :
    ∃ A' c' w', (Builtin.append_ #[t, t] ty #[.slice A xs.length c, .slice B zs.length d]).run P w = .ok (.slice A' ys.length c') w' ∧ OwnL L Q e w' lo (.slice A' ys.length c') ys ∧ w.grownBy w' (Value.slice A xs.length c).ownBlock ∧
      ((Value.slice A' ys.length c').ownBlock = (Value.slice A xs.length c).ownBlock ∨ ∃ g, (Value.slice A' ys.length c').ownBlock = some g ∧ w.heap.size ≤ g) := by
  have hl : xs.length + zs.length = ys.length := by rw [hy]; simp
  obtain ⟨ks, hk1, hk2⟩ := hown
  obtain ⟨news, hs, h1, hnz⟩ := hr.src (fun x vs h => hL _ _ x vs h)
  have hbb : ys.length * bytes ≤ 140737488355328 := by
    have : ys.length * bytes ≤ 4000000 * 128 := Nat.mul_le_mul (by omega) hb
    omega
  have hB : B = none → zs.length = 0 := fun e => by
    rcases Nat.eq_zero_or_pos zs.length with h9 | h9
    · exact h9
    · obtain ⟨ad, e9, _⟩ := hr h9
      rw [e] at e9; cases e9
  obtain ⟨A', c', w', hrun, ho', hg', hbk⟩ := run_append_src_at (P := P) w lo t ty e i z L.size bytes ht hi hz hsize hby hzs hsz _ xs.length ks hk1 B zs.length d news hs h1 ys.length hl (by unfold maxLen; omega) hbb hlo hB
  exact ⟨A', c', w', hrun, OwnL.appended ⟨ks, hk1, hk2⟩ hQ hG hy hk1 hk2 hnz ho' hg' hbk, hg', hbk⟩
theorem wpList_append_rows {P : Program} {Q' : Exit → Act → World → Prop} {ops : Array Oper} {rest : List Oper} {o : Oper} {a : Act} {w : World} {α : Type} {L : Lay α} {Q : World → Nat → Prop} {t e : TypeId} {i : TypeInfo} {z : Value} {bytes : Nat} {G : Nat → Prop}
    {lo : Nat} {A B : Option Addr} {c d : Nat} {xs zs ys : List α} (hgd : o.guard = none) (s y : Operand)
    (ho : o.op = .call { callee := .builtin .append, args := #[s, y], argTypes := #[t, t] }) (ht : P.underlying t = some (.slice e)) (hi : P.info? e = some i) (hz : i.zero = some z) (hsize : i.size = L.size) (hby : i.bytes = bytes) (hzs : z.cells.size = L.size) (hsz : 0 < L.size)
    (hL : ∀ w F x vs, L.R w F x vs → ∀ u ∈ vs, u.oneCell' = true) (hs : a.eval s = .slice A xs.length c) (hyv : a.eval y = .slice B zs.length d)
    (hown : OwnL L Q e w lo (.slice A xs.length c) xs) (hQ : Stay Q) (hr : L.Sl w G B zs) (hG : ∀ b, G b → b < w.heap.size ∧ (Value.slice A xs.length c).ownBlock ≠ some b ∧ Q w b)
    (hn : xs.length ≤ 2000000) (hm : zs.length ≤ 2000000) (hb : bytes ≤ 128) (hlo : lo ≤ w.heap.size) (hy : ys = xs ++ zs)
    (h : ∀ A' c' w', OwnL L Q e w' lo (.slice A' ys.length c') ys → w.grownBy w' (Value.slice A xs.length c).ownBlock →
      ((Value.slice A' ys.length c').ownBlock = (Value.slice A xs.length c).ownBlock ∨ ∃ g, (Value.slice A' ys.length c').ownBlock = some g ∧ w.heap.size ≤ g) → wpList P ops Q' rest (a.put o.dst (.slice A' ys.length c')) w') :
    wpList P ops Q' (o :: rest) a w := by
  obtain ⟨A', c', w', hrun, h1, h2, h3⟩ := run_append_rows (d := d) (ty := o.type) ht hi hz hsize hby hzs hsz hL hown hQ hr hG hn hm hb hlo hy
  refine wpList_plain hgd fun _ hK => ?_
  unfold Oper.wp execOp
  simp only [ho, resolve, invoke, builtin, Sem.run_bind, Sem.run_pure, Result.andThen_ok, List.map_toArray, List.map_cons, List.map_nil, hs, hyv, hrun]
  exact hK _ _ (h A' c' w' h1 h2 h3)
end Go.Proofs.YtiahmfpfimmbgaaGreatDoor

/-! The reference's contexts: l10Decls, l10Terms, CtxOk. -/
namespace Go.Proofs.YtiahmfpfimmbgaaGreatDoor
open Go Go.RowKit

theorem term_one : ∀ w F (x : T) vs, Lay.term.R w F x vs → ∀ u ∈ vs, u.oneCell' = true := by
  intro w F x vs h u hu
  obtain ⟨A, c, rfl, _, _⟩ := TermR.form h
  simp at hu
  rcases hu with rfl | rfl | rfl | rfl | rfl <;> rfl
theorem term_info : (Tryz.prog.info? 48).map (fun i => (i.zero, i.size, i.bytes)) = some (some ((.agg #[.int .i64 0, .int .i64 0, .int .i64 0, .string ⟨#[]⟩, .slice none 0 0])), 5, 64) := by kernel_rfl
/-- A row of terms of the call's own, whose kids lie below lo. -/
def OwnTs (lo : Nat) (w : World) (v : Value) (xs : List T) : Prop := OwnL Lay.term (fun _ b => b < lo) 48 w lo v xs
theorem stay_lt (lo : Nat) : Stay (fun _ b => b < lo) := fun _ _ _ _ h => h
theorem OwnTs.up {lo : Nat} {w w' : World} {v : Value} {xs : List T} (h : OwnTs lo w v xs) (hb : Below w.heap.size w w') : OwnTs lo w' v xs := OwnL.up h (stay_lt lo) hb
theorem own_lit0T (w : World) : OwnTs w.heap.size (w.alloc (.cells #[] 48)) (.slice (some ⟨w.heap.size, 0, none⟩) ([] : List T).length 0) [] := ⟨[], own_lit0 rfl, fun i x h => by simp at h⟩
/-- append of some terms, read below lo. -/
theorem wpList_append_terms {Q : Exit → Act → World → Prop} {ops : Array Oper} {rest : List Oper} {o : Oper} {a : Act} {w : World} {lo : Nat} {A B : Option Addr} {c d : Nat} {xs zs ys : List T} (hgd : o.guard = none) (s x : Operand)
    (ho : o.op = .call { callee := .builtin .append, args := #[s, x], argTypes := #[24, 24] }) (hs : a.eval s = .slice A xs.length c) (hx : a.eval x = .slice B zs.length d)
    (hown : OwnTs lo w (.slice A xs.length c) xs) (hr : Lay.term.Sl w (fun b => b < lo) B zs) (hn : xs.length ≤ 2000000) (hm : zs.length ≤ 2000000) (hlo : lo ≤ w.heap.size) (hy : ys = xs ++ zs)
    (h : ∀ A' c' w', OwnTs lo w' (.slice A' ys.length c') ys → Below lo w w' → w.grownBy w' (Value.slice A xs.length c).ownBlock → wpList Tryz.prog ops Q rest (a.put o.dst (.slice A' ys.length c')) w') : wpList Tryz.prog ops Q (o :: rest) a w := by
  obtain ⟨i0, hi0, hz0, hz1, hz2⟩ := info_parts term_info
  refine wpList_append_rows (L := Lay.term) (Q := fun _ b => b < lo) hgd s x ho Tryz.underlying24 hi0 hz0 hz1 hz2 rfl (by show 0 < 5; omega) term_one hs hx hown (stay_lt lo) hr (fun b hb => ⟨Nat.lt_of_lt_of_le hb hlo, fun e => by have := (hown.lt b e).1; omega, hb⟩) hn hm (by omega) hlo hy ?_
  intro A' c' w' h1 h2 h3
  exact h A' c' w' h1 ((Below.refl _ _).grown h2 hlo (fun k hk => (hown.lt k hk).1)) h2
set_option maxHeartbeats 2000000 in
theorem l10Decls_any (A : Option Addr) (q : Nat) (c : List Ly) (w : World) (h : Lay.layer.Rd w A c) (hl : c.length ≤ 1048576) (hd : (dsAll c).length ≤ 1048576) :
    Calls Tryz.prog 69 #[.slice A c.length q] w fun e w' => ∃ A' c', e = .returned (.slice A' (dsAll c).length c') ∧ OwnDs w' w.heap.size (.slice A' (dsAll c).length c') (dsAll c) ∧ Below w.heap.size w w' := by
  have hal : Below w.heap.size w (w.alloc (.cells #[] 39)) := (Below.refl _ _).alloc (Nat.le_refl _) _
  have hlit := own_lit0D w
  have H := h.up hal
  go_enter Tryz.func69, Tryz.ntmps69
  go_wp2
  go_loopw [3, 4] (fun a i wr => ∃ (k : Nat) (xs : List D) (A' : Option Addr) (c' : Nat), k ≤ c.length ∧ a = .slice A' xs.length c' ∧ i = .int .i64 k ∧ OwnDs wr w.heap.size (.slice A' xs.length c') xs ∧ Below w.heap.size w wr ∧ Hid (xs = dsAll (c.take k))) (fun _ i _ => c.length - (intOf i).toNat)
  case atStart => exact ⟨0, [], _, _, Nat.zero_le _, rfl, rfl, hlit, hal, Lib.hid (by simp [dsAll])⟩
  case round =>
    obtain ⟨k, xs, A', c', hk, rfl, rfl, hown, hb, HX⟩ := hrel
    by_cases hlt : k < c.length
    · have hk1 : (k : Int) < c.length := by omega
      obtain ⟨ad, A1, c1, A2, c2, rfl, hf, e1, e2, hc1, hc2, hds, hts⟩ := (h.up hb).at_layer hlt
      have hxl : xs.length ≤ 2000000 := by rw [HX.out]; have := dsAll_le c k; omega
      have hzl : c[k].ds.length ≤ 2000000 := by have := dsAll_at c k hlt; omega
      obtain ⟨ys, hys⟩ : ∃ ys, ys = xs ++ c[k].ds := ⟨_, rfl⟩
      have HY : Hid (ys = dsAll (c.take (k + 1))) := Lib.hid (by rw [hys, HX.out, dsAll_step c k hlt])
      have HYS := Lib.hid hys
      have hB : A1 = none → c[k].ds.length = 0 := fun e => by
        rcases Nat.eq_zero_or_pos c[k].ds.length with h9 | h9
        · exact h9
        · obtain ⟨a9, e9, _⟩ := hds h9
          rw [e] at e9; cases e9
      have hsz := hb.size
      have HB := Lib.hid hB
      have HSR := Lib.hid (src_decls hds)
      clear hys hB hds hts
      go_wp2_with (at_builtin; refine wpList_append_decls (ys := ys) (by rfl) (.tmp 12) (.tmp 17) (by rfl) (by rfl) (by rfl) hown HSR.out HB.out hxl hzl hsz HYS.out ?_; intro A3 c3 w3 hown3 hb3 hg3)
      have hb4 := hb.trans hb3
      go_roundw
      case rel => exact ⟨k + 1, ys, A3, c3, by omega, rfl, by go_num, hown3, hb4, HY⟩
      case measure => simp [intOf]; omega
    · have hke : k = c.length := by omega
      subst hke
      have HE : Hid (xs = dsAll c) := Lib.hid (by rw [HX.out, List.take_length])
      go_wp2
      go_ret
      rw [← HE.out]
      exact ⟨_, _, rfl, hown, hb⟩
set_option maxHeartbeats 2000000 in
theorem l10Terms_any (A : Option Addr) (q : Nat) (c : List Ly) (w : World) (h : Lay.layer.Rd w A c) (hl : c.length ≤ 1048576) (hd : (tsAll c).length ≤ 1048576) :
    Calls Tryz.prog 51 #[.slice A c.length q] w fun e w' => ∃ A' c', e = .returned (.slice A' (tsAll c).length c') ∧ OwnTs w.heap.size w' (.slice A' (tsAll c).length c') (tsAll c) ∧ Below w.heap.size w w' := by
  have hal : Below w.heap.size w (w.alloc (.cells #[] 48)) := (Below.refl _ _).alloc (Nat.le_refl _) _
  have hlit := own_lit0T w
  go_enter Tryz.func51, Tryz.ntmps51
  go_wp2
  go_loopw [3, 4] (fun a i wr => ∃ (k : Nat) (xs : List T) (A' : Option Addr) (c' : Nat), k ≤ c.length ∧ a = .slice A' xs.length c' ∧ i = .int .i64 k ∧ OwnTs w.heap.size wr (.slice A' xs.length c') xs ∧ Below w.heap.size w wr ∧ Hid (xs = tsAll (c.take k))) (fun _ i _ => c.length - (intOf i).toNat)
  case atStart => exact ⟨0, [], _, _, Nat.zero_le _, rfl, rfl, hlit, hal, Lib.hid (by simp [tsAll])⟩
  case round =>
    obtain ⟨k, xs, A', c', hk, rfl, rfl, hown, hb, HX⟩ := hrel
    by_cases hlt : k < c.length
    · have hk1 : (k : Int) < c.length := by omega
      obtain ⟨ad, A1, c1, A2, c2, rfl, hf, e1, e2, hc1, hc2, hds, hts⟩ := (Lay.Sl.below h hb (fun _ h => h)).at_layer hlt
      have hxl : xs.length ≤ 2000000 := by rw [HX.out]; have := tsAll_le c k; omega
      have hzl : c[k].ts.length ≤ 2000000 := by have := tsAll_at c k hlt; omega
      obtain ⟨ys, hys⟩ : ∃ ys, ys = xs ++ c[k].ts := ⟨_, rfl⟩
      have HY : Hid (ys = tsAll (c.take (k + 1))) := Lib.hid (by rw [hys, HX.out, tsAll_step c k hlt])
      have HYS := Lib.hid hys
      have hsz := hb.size
      have HTS := Lib.hid hts
      clear hys hds hts
      go_wp2_with (at_builtin; refine wpList_append_terms (ys := ys) (by rfl) (.tmp 12) (.tmp 17) (by rfl) (by rfl) (by rfl) hown HTS.out hxl hzl hsz HYS.out ?_; intro A3 c3 w3 hown3 hb3 hg3)
      have hb4 := hb.trans hb3
      go_roundw
      case rel => exact ⟨k + 1, ys, A3, c3, by omega, rfl, by go_num, hown3, hb4, HY⟩
      case measure => simp [intOf]; omega
    · have hke : k = c.length := by omega
      subst hke
      have HE : Hid (xs = tsAll c) := Lib.hid (by rw [HX.out, List.take_length])
      go_wp2
      go_ret
      rw [← HE.out]
      exact ⟨_, _, rfl, hown, hb⟩
end Go.Proofs.YtiahmfpfimmbgaaGreatDoor

/-! The reference's CtxOk. -/
namespace Go.Proofs.YtiahmfpfimmbgaaGreatDoor
open Go Go.RowKit

theorem OwnDs.rdv {w : World} {base c : Nat} {A : Option Addr} {xs : List D} (h : OwnDs w base (.slice A xs.length c) xs) : Lay.decl.Sl w (fun b => b < w.heap.size) A xs := h.sl.mono fun _ h => h.2
theorem sort0_yes {ds : List D} {t : T} (h : tsort ds t = 0) : sort0 ds t = true := by unfold sort0; rw [h]; rfl
theorem sort0_no {ds : List D} {t : T} (h : tsort ds t ≠ 0) : sort0 ds t = false := by unfold sort0; simpa using h
set_option maxRecDepth 100000 in
set_option maxHeartbeats 8000000 in
theorem specCtxOk_any (A : Option Addr) (q : Nat) (c : List Ly) (w : World) (h : Lay.layer.Rd w A c) (hq : c.length ≤ q) (hc : okC c) :
    Calls Tryz.prog 40 #[.slice A c.length q] w (RetB w (ctxOk c)) := by
  obtain ⟨hl, hds, hts, hnm, htm⟩ := hc
  obtain ⟨r, hr⟩ : ∃ r, r = ctxOk c := ⟨_, rfl⟩
  rw [← hr]
  have HR := Lib.hid hr
  clear hr
  have HNM := Lib.hid hnm
  have HTM := Lib.hid htm
  clear hnm htm
  by_cases h1 : 1 ≤ c.length
  rotate_left
  · have HX : Hid (r = false) := Lib.hid (by rw [HR.out]; exact ctxOk_short h1)
    go_enter Tryz.func40, Tryz.ntmps40
    go_wp2
    go_ret
    exact ⟨ret_bool (by rw [HX.out]), Below.refl _ _⟩
  by_cases h6 : c.length ≤ 6
  rotate_left
  · have HX : Hid (r = false) := Lib.hid (by rw [HR.out]; exact ctxOk_long h6)
    go_enter Tryz.func40, Tryz.ntmps40
    go_wp2
    go_ret
    exact ⟨ret_bool (by rw [HX.out]), Below.refl _ _⟩
  have HD := Lib.hid (l10Decls_any A q c w h hl hds)
  go_enter Tryz.func40, Tryz.ntmps40
  go_wp2_with fail
  refine HD.out.mono ?_
  rintro e w1 ⟨A1, c1, rfl, hown, hb1⟩
  have HDO := Lib.hid (specDeclOk_any A1 c1 (dsAll c) _ w1 hown.rdv (fun _ h => h) (by omega) HNM.out hown.cap.2)
  obtain ⟨p, hp⟩ : ∃ p, p = declOk (dsAll c) := ⟨_, rfl⟩
  rw [← hp] at HDO
  clear hown
  go_wp2_with fail
  refine HDO.out.mono ?_
  rintro e w2 ⟨rfl, hb2⟩
  have hb := bthen hb1 hb2
  clear hb1 hb2 HD HDO
  cases p
  · have HX : Hid (r = false) := Lib.hid (by rw [HR.out]; exact ctxOk_decl hp.symm)
    clear hp
    go_wp2
    go_ret
    exact ⟨ret_bool (by rw [HX.out]), hb⟩
  have HDK := Lib.hid hp.symm
  clear hp
  have HT := Lib.hid (l10Terms_any A q c w2 (h.up hb) hl hts)
  go_wp2_with fail
  refine HT.out.mono ?_
  rintro e w3 ⟨A3, c3, rfl, hown3, hb3⟩
  have hb := bthen hb hb3
  clear hown3 hb3 HT
  by_cases h8 : (tsAll c).length ≤ 8
  rotate_left
  · have HX : Hid (r = false) := Lib.hid (by rw [HR.out]; exact ctxOk_terms h8)
    have h9 : (8 : Int) < (tsAll c).length := by omega
    go_wp2
    go_ret
    exact ⟨ret_bool (by rw [HX.out]), hb⟩
  have HX : Hid (r = ctxGo [] c) := Lib.hid (by rw [HR.out]; exact ctxOk_go h1 h6 HDK.out h8)
  have h9 : ¬ (8 : Int) < (tsAll c).length := by omega
  go_wp2
  clear h9
  go_loopw [3] (fun i wr => ∃ k : Nat, k ≤ c.length ∧ i = .int .i64 k ∧ Below w.heap.size w wr ∧ Hid (ctxGo [] c = ctxGo (c.take k) (c.drop k))) (fun i _ => c.length - (intOf i).toNat)
  case atStart => exact ⟨0, Nat.zero_le _, rfl, hb, Lib.hid (by simp)⟩
  case round =>
    obtain ⟨k, hk, rfl, hbr, HG⟩ := hrel
    by_cases hlt : k < c.length
    · have hk1 : (k : Int) < c.length := by omega
      have hkq : k + 1 ≤ q := by omega
      have e9 : (c.take (k + 1)).length = k + 1 := by rw [List.length_take]; omega
      have hLD := l10Decls_any A q (c.take (k + 1)) wr ((h.up hbr).take (k + 1)) (by omega) (Nat.le_trans (dsAll_le c (k + 1)) hds)
      rw [e9] at hLD
      have HLD := Lib.hid hLD
      have HST := Lib.hid (ctxGo_step c k hlt)
      have HLY := Lib.hid (lyOk_take c k hlt)
      have HNK : Hid (okNames (dsAll (c.take (k + 1)))) := Lib.hid (fun d hd => HNM.out d (dsAll_mem hd))
      have hdk : (dsAll (c.take (k + 1))).length ≤ 1048576 := Nat.le_trans (dsAll_le c (k + 1)) hds
      generalize dsAll (c.take (k + 1)) = ds at *
      have hA : ∃ ad, A = some ad := by
        obtain ⟨ad, _, _, _, _, e, _⟩ := h.at_layer hlt
        exact ⟨ad, e⟩
      obtain ⟨ad, rfl⟩ := hA
      clear hLD e9
      go_wp2_with fail
      refine HLD.out.mono ?_
      rintro e w5 ⟨A5, c5, rfl, hown5, hb5⟩
      have hbr5 := bthen hbr hb5
      clear HLD
      go_wp2
      go_loopw [5] (fun j wj => ∃ m : Nat, m ≤ c[k].ts.length ∧ j = .int .i64 m ∧ Below w5.heap.size w5 wj ∧ Hid (lyOk (c.take k) c[k] = (c[k].ts.drop m).all (sort0 ds))) (fun j _ => c[k].ts.length - (intOf j).toNat)
      case atStart => exact ⟨0, Nat.zero_le _, rfl, Below.refl _ _, Lib.hid (by rw [HLY.out]; simp)⟩
      case round =>
        obtain ⟨m, hm, rfl, hbj, HJ⟩ := hrel
        have hbw := bthen hbr5 hbj
        obtain ⟨ad', B1, d1, B2, d2, had, hf, e1, e2, hc1, hc2, hdd, htt⟩ := (h.up hbw).at_layer hlt
        cases had
        have htl : c[k].ts.length ≤ 1048576 := Nat.le_trans (tsAll_at c k hlt) hts
        by_cases hmt : m < c[k].ts.length
        · have hm1 : (m : Int) < c[k].ts.length := by omega
          obtain ⟨ad2, B3, d3, rfl, hf2, t1, t2, t3, t4, t5, hcc, hkk⟩ := htt.at_term hmt
          have hown := hown5.up hbj
          have HC := Lib.hid (specTermSort_any ds c[k].ts[m] ((HTM.out _ (tsAll_mem hlt hmt)).imp fun _ h => h.1) HNK.out (by omega) B3 A5 d3 c5 _ wr hkk hown.rdv (fun _ h => h) hown.cap.2)
          have HSTEP := Lib.hid (all_step (sort0 ds) c[k].ts m hmt)
          obtain ⟨z, hz⟩ : ∃ z, z = tsort ds c[k].ts[m] := ⟨_, rfl⟩
          rw [← hz] at HC
          have HZ := Lib.hid hz
          clear hz hown hkk hdd htt
          go_wp2_with fail
          refine HC.out.mono ?_
          rintro e w6 ⟨rfl, hb6⟩
          have hbj6 := bthen hbj hb6
          by_cases hz0 : z = 0
          · have HN : Hid (lyOk (c.take k) c[k] = (c[k].ts.drop (m + 1)).all (sort0 ds)) := Lib.hid (by rw [HJ.out, HSTEP.out, sort0_yes (by rw [← HZ.out]; exact hz0), Bool.true_and])
            subst hz0
            go_wp2
            go_roundw
            case rel => exact ⟨m + 1, by omega, by go_num, hbj6, HN⟩
            case measure => simp [intOf]; omega
          · have HN : Hid (r = false) := Lib.hid (by rw [HX.out, HG.out, HST.out, HJ.out, HSTEP.out, sort0_no (by rw [← HZ.out]; exact hz0), Bool.false_and, Bool.false_and])
            have gz : (z != 0) = true := by simpa using hz0
            go_wp2
            go_ret
            exact ⟨ret_bool (by rw [HN.out]), bthen hbr5 hbj6⟩
        · have hme : m = c[k].ts.length := by omega
          subst hme
          have HN : Hid (ctxGo [] c = ctxGo (c.take (k + 1)) (c.drop (k + 1))) := Lib.hid (by rw [HG.out, HST.out, HJ.out, List.drop_length]; rfl)
          go_wp2
          go_roundw
          case rel => exact ⟨k + 1, by omega, by go_num, hbw, HN⟩
          case measure => simp [intOf]; omega
    · have hke : k = c.length := by omega
      subst hke
      have HN : Hid (r = true) := Lib.hid (by rw [HX.out, HG.out, List.drop_length]; rfl)
      go_wp2
      go_ret
      exact ⟨ret_bool (by rw [HN.out]), hbr⟩
end Go.Proofs.YtiahmfpfimmbgaaGreatDoor
