/- A row of layers of the call's own that grows; what each layer leads to lies in a range of its own. Contexts that change. No program is named here. A drawn region by shares; an operation may look at a slot that a later one writes. No program is named here. The program's layers of a stack. The program's closure of CtxName. The program's closure of CtxAssert. Layers as the answer of a law: rows in ranges of their own; marks. The program's changed. The reference's l10Copy. What the reference hands back is only read; the reference's CtxTerms. -/
import Derived.RegionTactic
import Derived.Test.YtiahmfpfimmbgaaGreatDoorJFnCtxList6
import Derived.Test.YtiahmfpfimmbgaaGreatDoorJFnCtxList7
import Derived.Test.YtiahmfpfimmbgaaGreatDoorJFnCtxList8
import Derived.Test.YtiahmfpfimmbgaaGreatDoorJFnCtxList9
/-! A row of layers of the call's own that grows; what each layer leads to lies in a range of its own. -/
namespace Go.Proofs.YtiahmfpfimmbgaaGreatDoor
open Go Go.RowKit

/-- A fact of a layer whose rows lie between S and E. -/
abbrev LyF := World → Nat → Nat → Value → Value → Ly → Prop
/-- It hangs on those blocks alone. -/
def StayP (P : LyF) : Prop := ∀ w w' S E vd vt l, P w S E vd vt l → w.heap.size ≤ w'.heap.size → (∀ b, S ≤ b → b < E → w'.heap[b]? = w.heap[b]?) → P w' S E vd vt l
def RowP (P : LyF) (lo : Nat) (w : World) (v : Value) (ls : List Ly) : Prop :=
  ∃ cs, w.ownsRow lo 58 2 v ls.length cs ∧ ∃ (S E : Nat → Nat) (Vd Vt : Nat → Value),
    (∀ k l, ls[k]? = some l → cs[k * 2]? = some (Vd k) ∧ cs[k * 2 + 1]? = some (Vt k) ∧ (lo ≤ S k ∧ S k ≤ E k ∧ E k ≤ w.heap.size) ∧ (∀ g, v.ownBlock = some g → ¬ (S k ≤ g ∧ g < E k)) ∧ P w (S k) (E k) (Vd k) (Vt k) l) ∧
    ∀ i j, i < j → j < ls.length → E i ≤ S j
section
variable {P : LyF} {lo : Nat} {w w' : World} {v : Value} {ls : List Ly}
theorem RowP.nil (P : LyF) (w : World) (lo : Nat) : RowP P lo w (.slice none ([] : List Ly).length 0) [] :=
  ⟨[], World.ownsRow_nil _ _ _ _, fun _ => 0, fun _ => 0, fun _ => .bool true, fun _ => .bool true, fun k x h => by simp at h, fun i j _ h => by simp at h⟩
theorem RowP.lit (P : LyF) (w : World) : RowP P w.heap.size (w.alloc (.cells #[] 58)) (.slice (some ⟨w.heap.size, 0, none⟩) ([] : List Ly).length 0) [] :=
  ⟨[], own_lit0 rfl, fun _ => 0, fun _ => 0, fun _ => .bool true, fun _ => .bool true, fun k x h => by simp at h, fun i j _ h => by simp at h⟩
theorem RowP.keep (hP : StayP P) (h : RowP P lo w v ls) (hs : w.heap.size ≤ w'.heap.size) (hb : ∀ b, lo ≤ b → b < w.heap.size → w'.heap[b]? = w.heap[b]?) : RowP P lo w' v ls := by
  obtain ⟨cs, h1, S, E, Vd, Vt, h2, h3⟩ := h
  refine ⟨cs, own_of_heap h1 fun g hg => hb g (h1.lt g hg).1 (h1.lt g hg).2, S, E, Vd, Vt, fun k x hx => ?_, h3⟩
  obtain ⟨g1, g2, ⟨g3, g4, g5⟩, g6, g7⟩ := h2 k x hx
  exact ⟨g1, g2, ⟨g3, g4, Nat.le_trans g5 hs⟩, g6, hP _ _ _ _ _ _ _ g7 hs fun b h8 h9 => hb b (Nat.le_trans g3 h8) (by omega)⟩
theorem RowP.up (hP : StayP P) (h : RowP P lo w v ls) (hb : Below w.heap.size w w') : RowP P lo w' v ls := h.keep hP hb.size fun b _ h9 => hb.block b h9
theorem RowP.form (h : RowP P lo w v ls) : ∃ A c, v = .slice A ls.length c ∧ ls.length ≤ c := by
  obtain ⟨cs, h1, _⟩ := h
  rcases h1.2 with ⟨e1, e2⟩ | ⟨g, cap, cur, e1, _, _, h3, _⟩
  · exact ⟨none, 0, by rw [e1, e2], by rw [e2]; exact Nat.le_refl _⟩
  · exact ⟨_, cap, e1, h3⟩
theorem RowP.lt (h : RowP P lo w v ls) : ∀ g, v.ownBlock = some g → lo ≤ g ∧ g < w.heap.size := by
  obtain ⟨cs, h1, _⟩ := h
  exact fun g hg => h1.lt g hg
end
theorem layer_info : (Tryz.prog.info? 58).map (fun i => (i.zero, i.size, i.bytes)) = some (some ((.agg #[.slice none 0 0, .slice none 0 0])), 2, 48) := by kernel_rfl
/-- append of one layer, laid in a block of its own, whose rows lie in a new range. -/
theorem run_append_layer {P : LyF} (hP : StayP P) {w : World} {lo S0 E0 b : Nat} {A : Option Addr} {c d : Nat} {ls ys : List Ly} {l : Ly} {vd vt : Value} {ty e' : TypeId} (hlo : lo ≤ S0) (hn : ls.length ≤ 1048576)
    (hl : P w S0 E0 vd vt l) (hSE : S0 ≤ E0) (hE : E0 ≤ w.heap.size) (hvd : vd.oneCell' = true) (hvt : vt.oneCell' = true) (hb : w.heap[b]? = some (.cells #[vd, vt] e' (0, 0)))
    (hold : ∃ w0 : World, w0.heap.size ≤ S0 ∧ Below w0.heap.size w0 w ∧ RowP P lo w0 (.slice A ls.length c) ls) (hy : ys = ls ++ [l]) :
    ∃ A' c' w', (Builtin.append_ #[26, 26] ty #[.slice A ls.length c, .slice (some ⟨b, 0, none⟩) 1 d]).run Tryz.prog w = .ok (.slice A' ys.length c') w' ∧ RowP P lo w' (.slice A' ys.length c') ys ∧ w.grownBy w' (Value.slice A ls.length c).ownBlock ∧
      ((Value.slice A' ys.length c').ownBlock = (Value.slice A ls.length c).ownBlock ∨ ∃ g, (Value.slice A' ys.length c').ownBlock = some g ∧ w.heap.size ≤ g) := by
  obtain ⟨i0, hi0, hz0, hz1, hz2⟩ := info_parts layer_info
  obtain ⟨w0, hw0, hbw, cs, h1, S, E, Vd, Vt, h2, h3⟩ := hold
  have h1w : w.ownsRow lo 58 2 (.slice A ls.length c) ls.length cs := own_below h1 hbw (Nat.le_refl _)
  have hll : ls.length + 1 = ys.length := by rw [hy]; simp
  have hsrc : Src w 2 (some ⟨b, 0, none⟩) 1 [vd, vt] := by
    have := src_block (m := 1) (size := 2) hb rfl
    simpa using this
  have hbb : ys.length * 48 ≤ 140737488355328 := by omega
  have hlw : lo ≤ w.heap.size := by omega
  obtain ⟨A', c', w', hrun, ho', hg', hbk⟩ := run_append_src_at (P := Tryz.prog) w lo 26 ty 58 i0 _ 2 48 Tryz.underlying26 hi0 hz0 hz1 hz2 rfl (by omega) _ ls.length cs h1w (some ⟨b, 0, none⟩) 1 d [vd, vt] hsrc (by intro u hu; simp at hu; rcases hu with rfl | rfl <;> assumption) ys.length hll (by unfold maxLen; omega) hbb hlw (fun e => by cases e)
  have hgl : ∀ g, (Value.slice A ls.length c).ownBlock = some g → lo ≤ g ∧ g < w0.heap.size := fun g hg => h1.lt g hg
  refine ⟨A', c', w', hrun, ⟨cs ++ [vd, vt], ho', fun k => if k = ls.length then S0 else S k, fun k => if k = ls.length then E0 else E k, fun k => if k = ls.length then vd else Vd k, fun k => if k = ls.length then vt else Vt k, fun k y hky => ?_, fun i j hij hj => ?_⟩, hg', hbk⟩
  · have hcl : cs.length = ls.length * 2 := h1.1
    have hnew : ∀ (S9 E9 : Nat), E9 ≤ w.heap.size → (∀ g, (Value.slice A ls.length c).ownBlock = some g → ¬ (S9 ≤ g ∧ g < E9)) → ∀ g, (Value.slice A' ys.length c').ownBlock = some g → ¬ (S9 ≤ g ∧ g < E9) := fun S9 E9 hE9 h9 g hg => by
      rcases hbk with e | ⟨g2, e, hg2⟩
      · exact h9 g (e ▸ hg)
      · rw [e] at hg; injection hg with hg; omega
    rw [hy] at hky
    by_cases hk : k = ls.length
    · subst hk
      rw [List.getElem?_append_right (Nat.le_refl _), Nat.sub_self] at hky
      simp at hky
      subst hky
      simp only [if_true]
      refine ⟨by rw [List.getElem?_append_right (by omega), hcl, Nat.sub_self]; rfl, by rw [List.getElem?_append_right (by omega), hcl, show ls.length * 2 + 1 - ls.length * 2 = 1 by omega]; rfl, ⟨hlo, hSE, Nat.le_trans hE hg'.size⟩, hnew _ _ hE (fun g hg => by have := (hgl g hg).2; omega), ?_⟩
      exact hP _ _ _ _ _ _ _ hl hg'.size fun b h8 h9 => hg'.block b (by omega) (fun e => by have := (hgl b e.symm).2; omega)
    · have hkl : k < ls.length := by
        have := (List.getElem?_eq_some_iff.1 hky).1
        simp at this
        omega
      rw [List.getElem?_append_left hkl] at hky
      obtain ⟨g1, g2, ⟨g3, g4, g5⟩, g6, g7⟩ := h2 k y hky
      simp only [if_neg hk]
      have hs9 := hbw.size
      refine ⟨by rw [List.getElem?_append_left (by omega)]; exact g1, by rw [List.getElem?_append_left (by omega)]; exact g2, ⟨g3, g4, Nat.le_trans g5 (Nat.le_trans hbw.size hg'.size)⟩, hnew _ _ (by omega) g6, ?_⟩
      refine hP _ _ _ _ _ _ _ g7 (Nat.le_trans hbw.size hg'.size) fun b h8 h9 => (hg'.block b (by omega) (fun e => g6 b e.symm ⟨h8, h9⟩)).trans (hbw.block b (by omega))
  · have hj9 : j < ls.length + 1 := by omega
    have hil : i ≠ ls.length := by omega
    simp only [if_neg hil]
    by_cases hjl : j = ls.length
    · simp only [if_pos hjl]
      obtain ⟨_, _, ⟨_, _, g5⟩, _⟩ := h2 i ls[i] (List.getElem?_eq_getElem (by omega))
      omega
    · simp only [if_neg hjl]
      exact h3 i j hij (by omega)
theorem wpList_append_layer {Q' : Exit → Act → World → Prop} {ops : Array Oper} {rest : List Oper} {o : Oper} {a : Act} {P : LyF} (hP : StayP P) {w : World} {lo S0 E0 b : Nat} {A : Option Addr} {c d : Nat} {ls ys : List Ly} {l : Ly} {vd vt : Value} {e' : TypeId} (hgd : o.guard = none) (s y : Operand)
    (ho : o.op = .call { callee := .builtin .append, args := #[s, y], argTypes := #[26, 26] }) (hs : a.eval s = .slice A ls.length c) (hyv : a.eval y = .slice (some ⟨b, 0, none⟩) 1 d)
    (hlo : lo ≤ S0) (hn : ls.length ≤ 1048576)
    (hl : P w S0 E0 vd vt l) (hSE : S0 ≤ E0) (hE : E0 ≤ w.heap.size) (hvd : vd.oneCell' = true) (hvt : vt.oneCell' = true) (hb : w.heap[b]? = some (.cells #[vd, vt] e' (0, 0)))
    (hold : ∃ w0 : World, w0.heap.size ≤ S0 ∧ Below w0.heap.size w0 w ∧ RowP P lo w0 (.slice A ls.length c) ls) (hy : ys = ls ++ [l])
    (h : ∀ A' c' w', RowP P lo w' (.slice A' ys.length c') ys → w.grownBy w' (Value.slice A ls.length c).ownBlock → wpList Tryz.prog ops Q' rest (a.put o.dst (.slice A' ys.length c')) w') : wpList Tryz.prog ops Q' (o :: rest) a w := by
  obtain ⟨A', c', w', hrun, h1, h2, _⟩ := run_append_layer (d := d) (ty := o.type) hP hlo hn hl hSE hE hvd hvt hb hold hy
  refine wpList_plain hgd fun _ hK => ?_
  unfold Oper.wp execOp
  simp only [ho, resolve, invoke, builtin, Sem.run_bind, Sem.run_pure, Result.andThen_ok, List.map_toArray, List.map_cons, List.map_nil, hs, hyv, hrun]
  exact hK _ _ (h A' c' w' h1 h2)
/-- What is read: declarations and terms (trees), apart from each other, between S and E. -/
def PP : LyF := fun w S E vd vt l => ∃ (Fd Ft : Nat → Prop) (Ad : Option Addr) (cd : Nat) (At : Option Addr) (ct : Nat), vd = .slice Ad l.ds.length cd ∧ vt = .slice At l.ts.length ct ∧ l.ds.length ≤ cd ∧ l.ts.length ≤ ct ∧ (∀ b, Fd b → Cp S E w b) ∧ (∀ b, Ft b → Cp S E w b) ∧ (∀ b, Fd b → ¬ Ft b) ∧ Lay.decl.Sl w Fd Ad l.ds ∧ TrS w Ft At l.ts
theorem stay_cp {lo hi : Nat} {w w' : World} {b : Nat} (h : Cp lo hi w b) (hs : w.heap.size ≤ w'.heap.size) (hb : w'.heap[b]? = w.heap[b]?) : Cp lo hi w' b :=
  ⟨h.1, h.2.1, Nat.le_trans h.2.2.1 hs, fun o => (World.frozen?_of_block (a := ⟨b, o, none⟩) hb).trans (h.2.2.2 o)⟩
theorem stay_PP : StayP PP := by
  rintro w w' S E vd vt l ⟨Fd, Ft, Ad, cd, At, ct, e1, e2, h1, h2, h3, h4, h5, h6, h7⟩ hs hb
  have hk : ∀ b, Cp S E w b → w'.heap[b]? = w.heap[b]? := fun b h9 => hb b h9.1 h9.2.1
  exact ⟨Fd, Ft, Ad, cd, At, ct, e1, e2, h1, h2, fun b hb9 => stay_cp (h3 b hb9) hs (hk b (h3 b hb9)), fun b hb9 => stay_cp (h4 b hb9) hs (hk b (h4 b hb9)), h5, h6.keep fun b hb9 => hk b (h3 b hb9), TrT.keep h7 fun b hb9 => hk b (h4 b hb9)⟩
/-- A row of trees as it was made, unturned since. -/
def RowU (lo hi : Nat) (w : World) (v : Value) (ts : List T) : Prop := hi ≤ w.heap.size ∧ ∃ w0 : World, w0.heap.size = hi ∧ RowTr lo w0 v ts ∧ ∀ b, lo ≤ b → b < hi → w.heap[b]? = w0.heap[b]?
theorem RowU.row {lo hi : Nat} {w : World} {v : Value} {ts : List T} (h : RowU lo hi w v ts) : RowTr lo w v ts := by
  obtain ⟨h1, w0, rfl, h2, h3⟩ := h
  exact h2.keep h1 h3
theorem RowU.stay {lo hi : Nat} {w w' : World} {v : Value} {ts : List T} (h : RowU lo hi w v ts) (hs : w.heap.size ≤ w'.heap.size) (hb : ∀ b, lo ≤ b → b < hi → w'.heap[b]? = w.heap[b]?) : RowU lo hi w' v ts := by
  obtain ⟨h1, w0, h0, h2, h3⟩ := h
  exact ⟨Nat.le_trans h1 hs, w0, h0, h2, fun b h8 h9 => (hb b h8 h9).trans (h3 b h8 h9)⟩
theorem RowU.of {lo : Nat} {w : World} {v : Value} {ts : List T} (h : RowTr lo w v ts) : RowU lo w.heap.size w v ts := ⟨Nat.le_refl _, w, rfl, h, fun _ _ _ => rfl⟩
theorem RowU.tree {lo hi : Nat} {w : World} {A : Option Addr} {c : Nat} {ts : List T} (h : RowU lo hi w (.slice A ts.length c) ts) : TrS w (Cp lo hi w) A ts := by
  obtain ⟨h1, w0, rfl, h2, h3⟩ := h
  have h8 := TrS.cp_of h2.tree
  have hk : ∀ b, Cp lo w0.heap.size w0 b → w.heap[b]? = w0.heap[b]? := fun b h9 => h3 b h9.1 h9.2.1
  exact TrT.mono (TrT.keep h8 hk) fun b h9 => stay_cp h9 h1 (hk b h9)
/-- What may grow: a row of declarations between S and M, a row of trees between M and E. -/
def PR : LyF := fun w S E vd vt l => ∃ M Ad cd At ct, vd = .slice Ad l.ds.length cd ∧ vt = .slice At l.ts.length ct ∧ S ≤ M ∧ M ≤ E ∧ (∀ g, vd.ownBlock = some g → g < M) ∧ OwnDs w S (.slice Ad l.ds.length cd) l.ds ∧ RowU M E w (.slice At l.ts.length ct) l.ts
theorem stay_PR : StayP PR := by
  rintro w w' S E vd vt l ⟨M, Ad, cd, At, ct, e1, e2, h1, h2, h3, h4, h5⟩ hs hb
  refine ⟨M, Ad, cd, At, ct, e1, e2, h1, h2, h3, own_of_heap h4 fun g hg => hb g (h4.lt g hg).1 (by have := h3 g (by rw [e1]; exact hg); omega), h5.stay hs fun b h8 h9 => hb b (by omega) h9⟩
theorem PR.pp {w : World} {S E : Nat} {vd vt : Value} {l : Ly} (h : PR w S E vd vt l) : PP w S E vd vt l := by
  obtain ⟨M, Ad, cd, At, ct, e1, e2, h1, h2, h3, h4, h5⟩ := h
  obtain ⟨_, g1⟩ := OwnDs.cap h4
  have g2 : l.ts.length ≤ ct := by
    obtain ⟨A9, c9, e9, h9⟩ := h5.row.form
    injection e9 with _ _ e9
    omega
  have h51 := h5.1
  refine ⟨Cp S M w, Cp M E w, Ad, cd, At, ct, e1, e2, g1, g2, fun b hb => ⟨hb.1, by have := hb.2.1; omega, h51, hb.2.2.2⟩, fun b hb => ⟨by have := hb.1; omega, hb.2.1, h51, hb.2.2.2⟩, fun b hb hb2 => by have := hb.2.1; have := hb2.1; omega, ?_, h5.tree⟩
  intro h0
  obtain ⟨ad, e, hf, hc⟩ := (Lay.Sl.decl_own h4) h0
  have hm := h3 ad.block (by rw [e1, e]; rfl)
  exact ⟨ad, e, ⟨hf.1, hm, by omega, hf.2.2⟩, fun k x hx => by
    obtain ⟨vs, hr, hcell⟩ := hc k x hx
    exact ⟨vs, hr, hcell⟩⟩
end Go.Proofs.YtiahmfpfimmbgaaGreatDoor

/-! Contexts that change. No program is named here. -/
namespace Go.Proofs.YtiahmfpfimmbgaaGreatDoor
open Go Go.RowKit

/-- The last layer turned. -/
def onLast (f : Ly → Ly) : List Ly → List Ly
  | [] => []
  | [l] => [f l]
  | l :: l2 :: ls => l :: onLast f (l2 :: ls)
theorem onLast_app (f : Ly → Ly) : ∀ (xs : List Ly) (l : Ly), onLast f (xs ++ [l]) = xs ++ [f l]
  | [], l => rfl
  | [x], l => rfl
  | x :: y :: xs, l => by
    show x :: onLast f (y :: (xs ++ [l])) = _
    have := onLast_app f (y :: xs) l
    rw [List.cons_append] at this
    rw [this]; rfl
def addD (c : List Ly) (d : D) : List Ly := onLast (fun l => ⟨l.ds ++ [d], l.ts⟩) c
def addT (c : List Ly) (t : T) : List Ly := onLast (fun l => ⟨l.ds, l.ts ++ [t]⟩) c
/-- What comes of a change: that, if it is right; else what was; of a wrong context nothing. -/
def ctxCh (c x : List Ly) : List Ly × Bool := if ctxOk c = true then (if ctxOk x = true then (x, true) else (c, false)) else ([], false)
theorem dsAll_app (xs ys : List Ly) : dsAll (xs ++ ys) = dsAll xs ++ dsAll ys := by unfold dsAll; rw [List.flatMap_append]
theorem tsAll_app (xs ys : List Ly) : tsAll (xs ++ ys) = tsAll xs ++ tsAll ys := by unfold tsAll; rw [List.flatMap_append]
theorem dsAll_one (l : Ly) : dsAll [l] = l.ds := by simp [dsAll]
theorem tsAll_one (l : Ly) : tsAll [l] = l.ts := by simp [tsAll]
theorem last_of {c : List Ly} (h : 1 ≤ c.length) : ∃ xs l, c = xs ++ [l] := by
  rcases List.eq_nil_or_concat c with rfl | ⟨xs, l, rfl⟩
  · simp at h
  · exact ⟨xs, l, by simp⟩
theorem ctxGo_app : ∀ (xs seen : List Ly) (l : Ly), ctxGo seen (xs ++ [l]) = (ctxGo seen xs && lyOk (seen ++ xs) l)
  | [], seen, l => by simp [ctxGo]
  | x :: xs, seen, l => by
    simp only [List.cons_append, ctxGo]
    rw [ctxGo_app xs (seen ++ [x]) l, Bool.and_assoc, List.append_assoc]
    rfl
theorem ctxOk_parts {c : List Ly} (h : ctxOk c = true) : 1 ≤ c.length ∧ c.length ≤ 6 ∧ declOk (dsAll c) = true ∧ (tsAll c).length ≤ 8 ∧ ctxGo [] c = true := by
  unfold ctxOk at h
  simp only [Bool.and_eq_true, decide_eq_true_eq] at h
  obtain ⟨⟨⟨⟨h1, h2⟩, h3⟩, h4⟩, h5⟩ := h
  exact ⟨h1, h2, h3, h4, h5⟩
theorem declOk_len {ds : List D} (h : declOk ds = true) : ds.length ≤ 4 := by
  unfold declOk at h
  simp only [Bool.and_eq_true, decide_eq_true_eq] at h
  exact h.1
/-- A right context with one term more is right if the term is of sort 0 and there were fewer than 8. -/
theorem ctxOk_addT {xs : List Ly} {l : Ly} (t : T) (h : ctxOk (xs ++ [l]) = true) : ctxOk (xs ++ [⟨l.ds, l.ts ++ [t]⟩]) = (sort0 (dsAll (xs ++ [l])) t && decide ((tsAll (xs ++ [l])).length < 8)) := by
  obtain ⟨h1, h2, h3, h4, h5⟩ := ctxOk_parts h
  have e1 : dsAll (xs ++ [⟨l.ds, l.ts ++ [t]⟩]) = dsAll (xs ++ [l]) := by rw [dsAll_app, dsAll_app, dsAll_one, dsAll_one]
  have e2 : (tsAll (xs ++ [⟨l.ds, l.ts ++ [t]⟩])).length = (tsAll (xs ++ [l])).length + 1 := by rw [tsAll_app, tsAll_app, tsAll_one, tsAll_one]; simp; omega
  have e3 : (xs ++ [(⟨l.ds, l.ts ++ [t]⟩ : Ly)]).length = (xs ++ [l]).length := by simp
  rw [ctxGo_app] at h5
  simp only [Bool.and_eq_true] at h5
  have e4 : ctxGo [] (xs ++ [⟨l.ds, l.ts ++ [t]⟩]) = sort0 (dsAll (xs ++ [l])) t := by
    rw [ctxGo_app, h5.1, Bool.true_and]
    have h6 := h5.2
    unfold lyOk at h6 ⊢
    simp only [List.nil_append] at h6 ⊢
    rw [e1, List.all_append, h6, Bool.true_and]
    simp
  unfold ctxOk
  rw [e1, e2, e3, e4, h3, decide_eq_true h1, decide_eq_true h2]
  by_cases h9 : (tsAll (xs ++ [l])).length < 8
  · rw [decide_eq_true h9, decide_eq_true (by omega : (tsAll (xs ++ [l])).length + 1 ≤ 8)]; simp
  · rw [decide_eq_false h9, decide_eq_false (by omega : ¬ (tsAll (xs ++ [l])).length + 1 ≤ 8)]; simp
/-- What is asked of the context that a change gives. -/
theorem okC.addD {xs : List Ly} {l : Ly} {d : D} (h : okC (xs ++ [l])) (hk : ctxOk (xs ++ [l]) = true) (hd : d.name.size ≤ 9223372036854775807) : okC (xs ++ [⟨l.ds ++ [d], l.ts⟩]) := by
  have e1 : dsAll (xs ++ [⟨l.ds ++ [d], l.ts⟩]) = dsAll (xs ++ [l]) ++ [d] := by rw [dsAll_app, dsAll_app, dsAll_one, dsAll_one, List.append_assoc]
  have e2 : tsAll (xs ++ [⟨l.ds ++ [d], l.ts⟩]) = tsAll (xs ++ [l]) := by rw [tsAll_app, tsAll_app, tsAll_one, tsAll_one]
  have h4 := declOk_len (ctxOk_parts hk).2.2.1
  refine ⟨by have := h.len; simpa using this, by rw [e1, List.length_append, List.length_singleton]; omega, by rw [e2]; exact h.ts, fun x hx => ?_, fun t ht => h.terms t (by rw [e2] at ht; exact ht)⟩
  rw [e1] at hx
  rcases List.mem_append.1 hx with hx | hx
  · exact h.names x hx
  · simp at hx; subst hx; exact hd
theorem okC.addT {xs : List Ly} {l : Ly} {t : T} (h : okC (xs ++ [l])) (hk : ctxOk (xs ++ [l]) = true) (ht : T.All okT3 t) : okC (xs ++ [⟨l.ds, l.ts ++ [t]⟩]) := by
  have e1 : dsAll (xs ++ [⟨l.ds, l.ts ++ [t]⟩]) = dsAll (xs ++ [l]) := by rw [dsAll_app, dsAll_app, dsAll_one, dsAll_one]
  have e2 : tsAll (xs ++ [⟨l.ds, l.ts ++ [t]⟩]) = tsAll (xs ++ [l]) ++ [t] := by rw [tsAll_app, tsAll_app, tsAll_one, tsAll_one, List.append_assoc]
  have h4 := (ctxOk_parts hk).2.2.2.1
  refine ⟨by have := h.len; simpa using this, by rw [e1]; exact h.ds, by rw [e2, List.length_append, List.length_singleton]; omega, fun x hx => h.names x (by rw [e1] at hx; exact hx), fun x hx => ?_⟩
  rw [e2] at hx
  rcases List.mem_append.1 hx with hx | hx
  · exact h.terms x hx
  · simp at hx; subst hx; exact ht
theorem okC.push {c : List Ly} (h : okC c) (hk : ctxOk c = true) : okC (c ++ [⟨[], []⟩]) := by
  have e1 : dsAll (c ++ [⟨[], []⟩]) = dsAll c := by rw [dsAll_app, dsAll_one]; simp
  have e2 : tsAll (c ++ [⟨[], []⟩]) = tsAll c := by rw [tsAll_app, tsAll_one]; simp
  have := (ctxOk_parts hk).2.1
  exact ⟨by rw [List.length_append, List.length_singleton]; omega, by rw [e1]; exact h.ds, by rw [e2]; exact h.ts, by rw [e1]; exact h.names, by rw [e2]; exact h.terms⟩
theorem okC.pop {xs : List Ly} {l : Ly} (h : okC (xs ++ [l])) : okC xs := by
  have h1 := h.ds
  have h2 := h.ts
  rw [dsAll_app, List.length_append] at h1
  rw [tsAll_app, List.length_append] at h2
  exact ⟨by have := h.len; rw [List.length_append] at this; omega, by omega, by omega, fun d hd => h.names d (by rw [dsAll_app]; exact List.mem_append_left _ hd), fun t ht => h.terms t (by rw [tsAll_app]; exact List.mem_append_left _ ht)⟩
end Go.Proofs.YtiahmfpfimmbgaaGreatDoor

/-! A drawn region by shares; an operation may look at a slot that a later one writes. No program is named here. -/
namespace Go.Proofs.YtiahmfpfimmbgaaGreatDoor
open Go Go.RowKit
variable {P : Program} {Q : Exit → Act → World → Prop}
end Go.Proofs.YtiahmfpfimmbgaaGreatDoor

/-! The program's layers of a stack. -/
namespace Go.Proofs.YtiahmfpfimmbgaaGreatDoor
open Go Go.RowKit

theorem RowP.low {P : LyF} {lo lo' : Nat} {w : World} {v : Value} {ls : List Ly} (h : RowP P lo w v ls) (hl : lo' ≤ lo) : RowP P lo' w v ls := by
  obtain ⟨cs, h1, S, E, Vd, Vt, h2, h3⟩ := h
  exact ⟨cs, own_mono h1 hl, S, E, Vd, Vt, fun k l hk => by
    obtain ⟨g1, g2, ⟨g3, g4, g5⟩, g6, g7⟩ := h2 k l hk
    exact ⟨g1, g2, ⟨Nat.le_trans hl g3, g4, g5⟩, g6, g7⟩, h3⟩
theorem RowP.far {P : LyF} {lo : Nat} {w : World} {v : Value} {ls : List Ly} (h : RowP P lo w v ls) (hP : StayP P) (p : Addr) (u : Value) (hp : p.block < lo) : RowP P lo (w.setCell p u) v ls :=
  h.keep hP (by rw [size_setCell]; exact Nat.le_refl _) fun b hb _ => Below.heap_setCell w p u b (fun e => by omega)
end Go.Proofs.YtiahmfpfimmbgaaGreatDoor

/-! The program's closure of CtxName. -/
namespace Go.Proofs.YtiahmfpfimmbgaaGreatDoor
open Go Go.RowKit

theorem decl_src {w : World} {b : Nat} {d : D} {fr : Nat × Nat} (h : w.heap[b]? = some (.cells #[.string d.name, .int .i64 d.wide] 39 fr)) : Src w Lay.decl.size (some ⟨b, 0, none⟩) [d].length [.string d.name, .int .i64 d.wide] := src_block h rfl
end Go.Proofs.YtiahmfpfimmbgaaGreatDoor

/-! The program's closure of CtxAssert. -/
namespace Go.Proofs.YtiahmfpfimmbgaaGreatDoor
open Go Go.RowKit

end Go.Proofs.YtiahmfpfimmbgaaGreatDoor

/-! Layers as the answer of a law: rows in ranges of their own; marks. -/
namespace Go.Proofs.YtiahmfpfimmbgaaGreatDoor
open Go Go.RowKit Go.ChangeShapes Go.WideShapes Go.ChangeAt Go.Deep

/-- The layers lie at A, between lo and hi, each layer's rows in a range of its own; P of each. -/
def TrG (P : Nat → LyF) (lo hi : Nat) (w : World) (A : Option Addr) (ls : List Ly) : Prop :=
  hi ≤ w.heap.size ∧ (0 < ls.length → ∃ ad, A = some ad ∧ Cp lo hi w ad.block ∧ ∃ (S E : Nat → Nat) (Vd Vt : Nat → Value),
    (∀ k l, ls[k]? = some l → w.cell? (ad.add (k * 2)) = some (Vd k) ∧ w.cell? (ad.add (k * 2 + 1)) = some (Vt k) ∧ (lo ≤ S k ∧ S k ≤ E k ∧ E k ≤ hi) ∧ ¬ (S k ≤ ad.block ∧ ad.block < E k) ∧ P k w (S k) (E k) (Vd k) (Vt k) l) ∧
    ∀ i j, i < j → j < ls.length → E i ≤ S j)
abbrev TrY (lo hi : Nat) (w : World) (A : Option Addr) (ls : List Ly) : Prop := TrG (fun _ => PP) lo hi w A ls
theorem RowP.cp_of {lo c : Nat} {w : World} {A : Option Addr} {ls : List Ly} (h : RowP PP lo w (.slice A ls.length c) ls) : TrY lo w.heap.size w A ls := by
  obtain ⟨cs, h1, S, E, Vd, Vt, h2, h3⟩ := h
  refine ⟨Nat.le_refl _, fun h0 => ?_⟩
  have hcs : cs.length = ls.length * 2 := h1.1
  rcases h1.2 with ⟨e1, e2⟩ | ⟨g, cap, cur, e1, hlo, hg, hn, hm, hsz, htk⟩
  · omega
  · injection e1 with e1 e2 e3
    subst e1
    refine ⟨_, rfl, ⟨hlo, (Array.getElem?_eq_some_iff.1 hg).1, Nat.le_refl _, fun o => World.ownsRow.frozenAt (g := g) (cap := c) ⟨h1.1, h1.2⟩ o⟩, S, E, Vd, Vt, fun k l hl => ?_, h3⟩
    obtain ⟨g1, g2, g3, g6, g7⟩ := h2 k l hl
    have hc : ∀ j u, cs[j]? = some u → w.cell? ((⟨g, 0, none⟩ : Addr).add j) = some u := fun j u hu => by
      have hj : j < cs.length := (List.getElem?_eq_some_iff.1 hu).1
      have ea : (⟨g, 0, none⟩ : Addr).add j = ⟨g, j, none⟩ := by
        unfold Addr.add
        split
        · rename_i e; rw [e]
        · simp
      rw [ea, World.ownsRow.cellAt (g := g) (cap := c) ⟨h1.1, h1.2⟩ _ (by omega)]
      exact hu
    exact ⟨hc _ _ g1, hc _ _ g2, g3, g6 g rfl, g7⟩
section
variable {P : Nat → LyF} {lo hi : Nat} {w w' : World} {A : Option Addr} {ls : List Ly}
theorem TrG.stay (hP : ∀ k, StayP (P k)) (h : TrG P lo hi w A ls) (hs : w.heap.size ≤ w'.heap.size) (hb : ∀ b, lo ≤ b → b < hi → w'.heap[b]? = w.heap[b]?) : TrG P lo hi w' A ls := by
  obtain ⟨h0, h⟩ := h
  refine ⟨Nat.le_trans h0 hs, fun h9 => ?_⟩
  obtain ⟨ad, e, hf, S, E, Vd, Vt, h2, h3⟩ := h h9
  have hk := hb _ hf.1 hf.2.1
  refine ⟨ad, e, stay_cp hf hs hk, S, E, Vd, Vt, fun k l hl => ?_, h3⟩
  obtain ⟨g1, g2, ⟨g3, g4, g5⟩, g6, g7⟩ := h2 k l hl
  exact ⟨(World.cell?_of_block (w := w) (by rw [block_of_add]; exact hk)).trans g1, (World.cell?_of_block (w := w) (by rw [block_of_add]; exact hk)).trans g2, ⟨g3, g4, g5⟩, g6, hP k _ _ _ _ _ _ _ g7 hs fun b h8 h9 => hb b (by omega) (by omega)⟩
end
theorem PP.layer {w : World} {S E lo hi : Nat} {vd vt : Value} {l : Ly} (h : PP w S E vd vt l) (h1 : lo ≤ S) (h2 : E ≤ hi) (h3 : hi ≤ w.heap.size) : Lay.layer.R w (Cp lo hi w) l [vd, vt] := by
  obtain ⟨Fd, Ft, Ad, cd, At, ct, rfl, rfl, k1, k2, k3, k4, k5, k6, k7⟩ := h
  exact ⟨Ad, cd, At, ct, rfl, k1, k2, k6.mono fun b hb => ⟨by have := (k3 b hb).1; omega, by have := (k3 b hb).2.1; omega, h3, (k3 b hb).2.2.2⟩, (TrT.sl k7).mono fun b hb => ⟨by have := (k4 b hb).1; omega, by have := (k4 b hb).2.1; omega, h3, (k4 b hb).2.2.2⟩⟩
theorem sl_two {w : World} {F : Nat → Prop} {A : Option Addr} {ls : List Ly} (h : 0 < ls.length → ∃ ad, A = some ad ∧ F ad.block ∧ ∀ k l, ls[k]? = some l → ∃ vd vt, Lay.layer.R w F l [vd, vt] ∧ w.cell? (ad.add (k * 2)) = some vd ∧ w.cell? (ad.add (k * 2 + 1)) = some vt) : Lay.layer.Sl w F A ls := by
  intro h0
  obtain ⟨ad, e, hf, hc⟩ := h h0
  refine ⟨ad, e, hf, fun k l hl => ?_⟩
  obtain ⟨vd, vt, hr, c1, c2⟩ := hc k l hl
  refine ⟨_, hr, fun j u hu => ?_⟩
  match j, hu with
  | 0, hu => simp at hu; subst hu; exact c1
  | 1, hu => simp at hu; subst hu; exact c2
  | j + 2, hu => simp at hu
theorem TrG.sl {lo hi : Nat} {w : World} {A : Option Addr} {ls : List Ly} (h : TrY lo hi w A ls) : Lay.layer.Sl w (Cp lo hi w) A ls := sl_two fun h0 => by
  obtain ⟨ad, e, hf, S, E, Vd, Vt, h2, h3⟩ := h.2 h0
  refine ⟨ad, e, hf, fun k l hl => ?_⟩
  obtain ⟨g1, g2, ⟨g3, g4, g5⟩, g6, g7⟩ := h2 k l hl
  exact ⟨Vd k, Vt k, g7.layer g3 g5 h.1, g1, g2⟩
theorem TrG.cp_rd {lo hi : Nat} {w : World} {A : Option Addr} {ls : List Ly} (h : TrY lo hi w A ls) : Lay.layer.Rd w A ls := h.sl.mono fun _ h => h.lt
/-- Marked layers. -/
def upLs : List Ly → Int → List Ly
  | [], _ => []
  | l :: ls, k => ⟨upD l.ds.length k, upTL l.ts (k + 2 * (l.ds.length : Int))⟩ :: upLs ls (k + (2 * (l.ds.length : Int) + 4 * (T.sizeL l.ts : Int)))
theorem upLs_len : ∀ (ls : List Ly) (k : Int), (upLs ls k).length = ls.length
  | [], _ => rfl
  | l :: ls, k => by simp [upLs, upLs_len ls]
theorem upLs_get : ∀ (ls : List Ly) (k : Int) (i : Nat) (x : Ly), ls[i]? = some x → (upLs ls k)[i]? = some ⟨upD x.ds.length (k + (mwL (ls.take i) : Int)), upTL x.ts (k + (mwL (ls.take i) : Int) + 2 * (x.ds.length : Int))⟩
  | [], _, i, x, h => by simp at h
  | l :: ls, k, 0, x, h => by
    simp at h
    subst h
    simp [upLs, mwL]
  | l :: ls, k, i + 1, x, h => by
    have := upLs_get ls (k + (2 * (l.ds.length : Int) + 4 * (T.sizeL l.ts : Int))) i x (by simpa using h)
    simp only [upLs, List.getElem?_cons_succ, List.take_succ_cons, mwL]
    rw [this]
    have e : k + (2 * (l.ds.length : Int) + 4 * (T.sizeL l.ts : Int)) + (mwL (ls.take i) : Int) = k + ((2 * l.ds.length + 4 * T.sizeL l.ts + mwL (ls.take i) : Nat) : Int) := by push_cast; omega
    rw [e]
/-- A layer that is marked from K on. -/
def PM (K : Int) : LyF := fun w S E vd vt l => ∃ (Fd Ft : Nat → Prop) (Ad : Option Addr) (cd : Nat) (At : Option Addr) (ct : Nat), vd = .slice Ad l.ds.length cd ∧ vt = .slice At l.ts.length ct ∧ l.ds.length ≤ cd ∧ l.ts.length ≤ ct ∧ (∀ b, Fd b → Cp S E w b) ∧ (∀ b, Ft b → Cp S E w b) ∧ Lay.decl.Sl w Fd Ad (upD l.ds.length K) ∧ Lay.term.Sl w Ft At (upTL l.ts (K + 2 * (l.ds.length : Int)))
theorem stay_PM (K : Int) : StayP (PM K) := by
  rintro w w' S E vd vt l ⟨Fd, Ft, Ad, cd, At, ct, e1, e2, h1, h2, h3, h4, h6, h7⟩ hs hb
  have hk : ∀ b, Cp S E w b → w'.heap[b]? = w.heap[b]? := fun b h9 => hb b h9.1 h9.2.1
  exact ⟨Fd, Ft, Ad, cd, At, ct, e1, e2, h1, h2, fun b hb9 => stay_cp (h3 b hb9) hs (hk b (h3 b hb9)), fun b hb9 => stay_cp (h4 b hb9) hs (hk b (h4 b hb9)), h6.keep fun b hb9 => hk b (h3 b hb9), h7.keep fun b hb9 => hk b (h4 b hb9)⟩
theorem PM.layer {K : Int} {w : World} {S E lo hi : Nat} {vd vt : Value} {l : Ly} (h : PM K w S E vd vt l) (h1 : lo ≤ S) (h2 : E ≤ hi) (h3 : hi ≤ w.heap.size) : Lay.layer.R w (Cp lo hi w) ⟨upD l.ds.length K, upTL l.ts (K + 2 * (l.ds.length : Int))⟩ [vd, vt] := by
  obtain ⟨Fd, Ft, Ad, cd, At, ct, rfl, rfl, k1, k2, k3, k4, k6, k7⟩ := h
  refine ⟨Ad, cd, At, ct, ?_, ?_, ?_, k6.mono fun b hb => ⟨by have := (k3 b hb).1; omega, by have := (k3 b hb).2.1; omega, h3, (k3 b hb).2.2.2⟩, k7.mono fun b hb => ⟨by have := (k4 b hb).1; omega, by have := (k4 b hb).2.1; omega, h3, (k4 b hb).2.2.2⟩⟩
  · simp only [upD_len, upTL_len]
  · simp only [upD_len]; exact k1
  · simp only [upTL_len]; exact k2
/-- Marked as far as the layer j. -/
def PJ (k0 : Int) (ls : List Ly) (j k : Nat) : LyF := fun w S E vd vt l => (k < j → PM (k0 + (mwL (ls.take k) : Int)) w S E vd vt l) ∧ (j ≤ k → PP w S E vd vt l)
/-- One layer more is marked. -/
theorem TrG.next {k0 : Int} {ls : List Ly} {j lo hi : Nat} {w : World} {A : Option Addr} (h : TrG (PJ k0 ls j) lo hi w A ls) (hj : j < ls.length) :
    ∃ ad S E Fd Ft Ad cd At ct, A = some ad ∧ w.cell? (ad.add (j * 2)) = some (.slice Ad ls[j].ds.length cd) ∧ w.cell? (ad.add (j * 2 + 1)) = some (.slice At ls[j].ts.length ct) ∧ Lay.decl.Sl w Fd Ad ls[j].ds ∧ TrS w Ft At ls[j].ts ∧ (lo ≤ S ∧ E ≤ hi ∧ (∀ b, Fd b → Cp S E w b) ∧ (∀ b, Ft b → Cp S E w b) ∧ (∀ b, Fd b → ¬ Ft b)) ∧
      ∀ w', Dab (fun b => S ≤ b ∧ b < E) w w' → Lay.decl.Sl w' Fd Ad (upD ls[j].ds.length (k0 + (mwL (ls.take j) : Int))) → Lay.term.Sl w' Ft At (upTL ls[j].ts (k0 + (mwL (ls.take j) : Int) + 2 * (ls[j].ds.length : Int))) → TrG (PJ k0 ls (j + 1)) lo hi w' A ls := by
  obtain ⟨h0, h⟩ := h
  obtain ⟨ad, e, hf, S, E, Vd, Vt, h2, h3⟩ := h (by omega)
  obtain ⟨g1, g2, ⟨g3, g4, g5⟩, g6, ⟨_, g7⟩⟩ := h2 j _ (List.getElem?_eq_getElem hj)
  obtain ⟨Fd, Ft, Ad, cd, At, ct, e1, e2, k1, k2, k3, k4, k5, k6, k7⟩ := g7 (Nat.le_refl _)
  rw [e1] at g1
  rw [e2] at g2
  refine ⟨ad, S j, E j, Fd, Ft, Ad, cd, At, ct, e, g1, g2, k6, k7, ⟨g3, g5, k3, k4, k5⟩, fun w' hd hD hT => ⟨Nat.le_trans h0 hd.size, fun _ => ?_⟩⟩
  have hk := hd.block ad.block (by have := hf.2.1; omega) g6
  refine ⟨ad, e, stay_cp hf hd.size hk, S, E, Vd, Vt, fun k l hl => ?_, h3⟩
  obtain ⟨q1, q2, q3, q6, q7⟩ := h2 k l hl
  have hkl : k < ls.length := (List.getElem?_eq_some_iff.1 hl).1
  refine ⟨(World.cell?_of_block (w := w) (by rw [block_of_add]; exact hk)).trans q1, (World.cell?_of_block (w := w) (by rw [block_of_add]; exact hk)).trans q2, q3, q6, ?_⟩
  by_cases hkj : k = j
  · subst hkj
    rw [List.getElem?_eq_getElem hkl] at hl
    injection hl with hl
    subst hl
    exact ⟨fun _ => ⟨Fd, Ft, Ad, cd, At, ct, e1, e2, k1, k2, fun b hb => (k3 b hb).dab hd, fun b hb => (k4 b hb).dab hd, hD, hT⟩, fun h9 => absurd h9 (by omega)⟩
  · have hb : ∀ b, S k ≤ b → b < E k → w'.heap[b]? = w.heap[b]? := fun b h8 h9 => hd.block b (by have := q3.2.2; omega) (fun h10 => by
      rcases Nat.lt_or_gt_of_ne hkj with hlt | hlt
      · have := h3 k j hlt hj; omega
      · have := h3 j k hlt hkl; omega)
    exact ⟨fun h9 => stay_PM _ _ _ _ _ _ _ _ (q7.1 (by omega)) hd.size hb, fun h9 => stay_PP _ _ _ _ _ _ _ (q7.2 (by omega)) hd.size hb⟩
theorem TrG.marked {k0 : Int} {ls : List Ly} {lo hi : Nat} {w : World} {A : Option Addr} (h : TrG (PJ k0 ls ls.length) lo hi w A ls) : Lay.layer.Sl w (Cp lo hi w) A (upLs ls k0) := sl_two fun h0 => by
  rw [upLs_len] at h0
  obtain ⟨ad, e, hf, S, E, Vd, Vt, h2, h3⟩ := h.2 h0
  refine ⟨ad, e, hf, fun k l hl => ?_⟩
  have hk : k < ls.length := by have := (List.getElem?_eq_some_iff.1 hl).1; rwa [upLs_len] at this
  rw [upLs_get ls k0 k _ (List.getElem?_eq_getElem hk)] at hl
  injection hl with hl
  subst hl
  obtain ⟨g1, g2, ⟨g3, g4, g5⟩, g6, g7⟩ := h2 k _ (List.getElem?_eq_getElem hk)
  exact ⟨Vd k, Vt k, (g7.1 hk).layer g3 g5 h.1, g1, g2⟩
end Go.Proofs.YtiahmfpfimmbgaaGreatDoor

/-! The program's changed. -/
namespace Go.Proofs.YtiahmfpfimmbgaaGreatDoor
open Go Go.RowKit

/-- A stack of the context x; of no layers, whatever it holds. -/
def StkC (lo : Nat) (w : World) (p : Nat) (x : List Ly) : Prop := ∃ ds ts, StkE lo w p ds ts (msAll x) ∧ (x ≠ [] → ds = dsAll x ∧ ts = tsAll x)
theorem StkC.of {lo p : Nat} {w : World} {x : List Ly} (h : StkE lo w p (dsAll x) (tsAll x) (msAll x)) : StkC lo w p x := ⟨_, _, h, fun _ => ⟨rfl, rfl⟩⟩
/-- What a change hands back: layers of the call's own. -/
def RetCh (r : List Ly × Bool) (w : World) (e : Ending) (w' : World) : Prop := ∃ A c, e = .returned (.tuple #[.slice A r.1.length c, .bool r.2]) ∧ r.1.length ≤ c ∧ RowP PP w.heap.size w' (.slice A r.1.length c) r.1 ∧ Below w.heap.size w w'
end Go.Proofs.YtiahmfpfimmbgaaGreatDoor

/-! The reference's l10Copy. -/
namespace Go.Proofs.YtiahmfpfimmbgaaGreatDoor
open Go Go.RowKit

/-- The box of a layer that is being copied: its row of terms grows. -/
def BoxY (lo p n : Nat) (A : Option Addr) (c : Nat) (z : World) (ts : List T) : Prop :=
  ∃ B b, z.heap[p]? = some (.cells #[.slice A n c, .slice B ts.length b] 58 (0, 0)) ∧ RowTr lo z (.slice B ts.length b) ts
def Fact.boxY (lo p n : Nat) (A : Option Addr) (c : Nat) (W : World) (ts : List T) : Fact :=
  .of (fun _ z => BoxY lo p n A c z ts ∧ Gr (fun g => g = p ∨ lo ≤ g) W z ∧ p < W.heap.size) fun _ z z' ⟨⟨B, b, h1, h2⟩, h3, h4⟩ hb =>
    ⟨⟨B, b, (hb.block p (lt_of_block h1)).trans h1, h2.up hb⟩, h3.up hb, h4⟩
set_option maxRecDepth 100000 in
set_option maxHeartbeats 8000000 in
theorem l10Copy_any (A : Option Addr) (q : Nat) (c : List Ly) (w : World) (h : Lay.layer.Rd w A c) (hl : c.length ≤ 1048576) (ho : ∀ l ∈ c, okL2 l) :
    Calls Tryz.prog 52 #[.slice A c.length q] w fun e w' => ∃ A' c', e = .returned (.slice A' c.length c') ∧ RowP PR w.heap.size w' (.slice A' c.length c') c ∧ Below w.heap.size w w' := by
  have hal : Below w.heap.size w (w.alloc (.cells #[] 58)) := (Below.refl _ _).alloc (Nat.le_refl _) _
  have hlit := RowP.lit PR w
  have HH := Lib.hid h
  have HO := Lib.hid ho
  clear h ho
  go_enter Tryz.func52, Tryz.ntmps52
  go_wp2
  go_loopw [3, 4] (fun a i wr => ∃ (k : Nat) (xs : List Ly) (A' : Option Addr) (c' : Nat), k ≤ c.length ∧ a = .slice A' xs.length c' ∧ i = .int .i64 k ∧ Hid (RowP PR w.heap.size wr (.slice A' xs.length c') xs) ∧ Below w.heap.size w wr ∧ Hid (xs = c.take k)) (fun _ i _ => c.length - (intOf i).toNat)
  case atStart => exact ⟨0, [], _, _, Nat.zero_le _, rfl, rfl, Lib.hid hlit, hal, Lib.hid (by simp)⟩
  case round =>
    obtain ⟨k, xs, A', c', hk, rfl, rfl, HROW, hb, HX⟩ := hrel
    clear hal hlit
    by_cases hlt : k < c.length
    · have hk1 : (k : Int) < c.length := by omega
      obtain ⟨ad, A1, c1, A2, c2, rfl, hf, e1, e2, hc1, hc2, hds, hts⟩ := (Lay.Sl.below HH.out hb (fun _ h => h)).at_layer hlt
      obtain ⟨ys, hys⟩ : ∃ ys, ys = xs ++ [c[k]] := ⟨_, rfl⟩
      have HYE : Hid (ys = c.take (k + 1)) := Lib.hid (by rw [hys, HX.out, List.take_succ_eq_append_getElem hlt])
      have HYS := Lib.hid hys
      have HXL : Hid (xs.length ≤ 1048576) := Lib.hid (by rw [HX.out, List.length_take]; omega)
      obtain ⟨ol1, ol2, ol3⟩ := HO.out _ (List.getElem_mem hlt)
      have HO3 := Lib.hid ol3
      have hB : A1 = none → c[k].ds.length = 0 := fun e => by
        rcases Nat.eq_zero_or_pos c[k].ds.length with h9 | h9
        · exact h9
        · obtain ⟨a9, e9, _⟩ := hds h9
          rw [e] at e9; cases e9
      have HBN := Lib.hid hB
      have HTS := Lib.hid hts
      generalize hll : c[k] = l at *
      have HLL := Lib.hid hll
      generalize wr = V at *
      have hal1 : Below V.heap.size V (V.alloc (.cells #[] 39)) := (Below.refl _ _).alloc (Nat.le_refl _) _
      have hown := own_lit0D V
      have hbV := Nat.lt_of_lt_of_le hf hb.size
      have hb1 : (ad.add (k * 2)).block < V.heap.size := by rw [block_of_add]; exact hbV
      have f1 := (hal1.cell (p := ad.add (k * 2)) hb1).trans e1
      have HE2 := Lib.hid e2
      have HSR := Lib.hid (src_decls (hds.below hal1 (fun b hb9 => Nat.lt_of_lt_of_le hb9 hb.size)))
      have hsz1 := hal1.size
      have HAL1 := Lib.hid hal1
      have HB := Lib.hid hb
      have hz0 : ([] : List D).length ≤ 2000000 := by simp
      have hz1 : l.ds.length ≤ 2000000 := by omega
      clear hys hB hds hts hll e1 e2 ol3 hal1 hb hf
      go_wp2_with (at_builtin; refine wpList_append_decls (xs := []) (ys := l.ds) (by rfl) (.tmp 14) (.tmp 19) (by rfl) (by rfl) (by rfl) hown HSR.out HBN.out hz0 hz1 hsz1 rfl ?_; intro A3 c3 w3 hown3 hb3 hg3; have HOWN := Lib.hid hown3; have HB3 := Lib.hid hb3; have HSZ3 := Lib.hid (Nat.le_trans hsz1 hb3.size); clear hown hown3 hb3 hg3 f1 hsz1)
      have hnb := heap_alloc_new w3 (.cells #[.slice A3 l.ds.length c3, .slice none 0 0] 58)
      have hal5 : Below w3.heap.size w3 (w3.alloc (.cells #[.slice A3 l.ds.length c3, .slice none 0 0] 58)) := (Below.refl _ _).alloc (Nat.le_refl _) _
      have HSZ5 : Hid ((w3.alloc (.cells #[.slice A3 l.ds.length c3, .slice none 0 0] 58)).heap.size = w3.heap.size + 1) := Lib.hid (by simp)
      have HNB := Lib.hid hnb
      have HAL5 := Lib.hid hal5
      clear hnb hal5
      generalize w3.alloc (.cells #[.slice A3 l.ds.length c3, .slice none 0 0] 58) = W5 at *
      have HVW : Hid (Below V.heap.size V W5) := Lib.hid ((HAL1.out.trans HB3.out).trans (HAL5.out.mono HSZ3.out))
      have HDS : Hid (OwnDs W5 V.heap.size (.slice A3 l.ds.length c3) l.ds) := Lib.hid (HOWN.out.up HAL5.out)
      have HDB : Hid (∀ g, (Value.slice A3 l.ds.length c3).ownBlock = some g → g < w3.heap.size) := Lib.hid (fun g hg => (HOWN.out.lt g hg).2)
      obtain ⟨p, hp⟩ : ∃ p, p = w3.heap.size := ⟨_, rfl⟩
      rw [← hp] at HSZ5 HNB HSZ3 HDB ⊢
      clear hp HOWN HB3 HSR HBN HAL1 HAL5
      obtain ⟨M, hM⟩ : ∃ M, M = W5.heap.size := ⟨_, rfl⟩
      have HM := Lib.hid hM
      rw [← hM] at HSZ5
      clear hM hz0 hz1
      go_loopw [6] (fun j wr => ∃ m : Nat, m ≤ l.ts.length ∧ j = .int .i64 m ∧ Hid (BoxY M p l.ds.length A3 c3 wr (l.ts.take m)) ∧ Hid (Gr (fun g => g = p ∨ M ≤ g) W5 wr)) (fun j _ => l.ts.length - (intOf j).toNat)
      case atStart => exact ⟨0, Nat.zero_le _, rfl, Lib.hid ⟨none, 0, HNB.out, RowTr.nil _ _⟩, Lib.hid (Gr.refl _ _)⟩
      case round =>
        obtain ⟨m, hm, rfl, HBT, HGR⟩ := hrel
        have HPW : Hid (p < W5.heap.size) := Lib.hid (by have := HSZ5.out; have := HM.out; omega)
        have HMW : Hid (M ≤ wr.heap.size) := Lib.hid (by rw [HM.out]; exact HGR.out.size)
        have HVr : Hid (Below V.heap.size V wr) := Lib.hid (HVW.out.trans (HGR.out.to_below' HVW.out.size (fun x hx => by have := HSZ3.out; have := HSZ5.out; omega)))
        have hw2 := (HVr.out.cell (p := ⟨(ad.add (k * 2)).block, (ad.add (k * 2)).off + 1, none⟩) hb1).trans HE2.out
        by_cases hlm : m < l.ts.length
        · have hm1 : (m : Int) < l.ts.length := by omega
          obtain ⟨B, b, hbx, hrow⟩ := HBT.out
          have hFV : ∀ g, g < w.heap.size → g < V.heap.size := fun g hg => Nat.lt_of_lt_of_le hg HB.out.size
          obtain ⟨ad2, A5, c5, rfl, hf2, t1, t2, t3, t4, t5, hcc, hkk⟩ := (HTS.out.below HVr.out hFV).at_term hlm
          obtain ⟨zs, hzs⟩ : ∃ zs, zs = l.ts.take m ++ [l.ts[m]] := ⟨_, rfl⟩
          have HZE : Hid (zs = l.ts.take (m + 1)) := Lib.hid (by rw [hzs, List.take_succ_eq_append_getElem hlm])
          have HZS := Lib.hid hzs
          have hxl : (l.ts.take m).length ≤ 2000000 := by rw [List.length_take]; omega
          generalize l.ts.take m = ts at *
          have HCP := Lib.hid (l3Copy_any l.ts[m] (HO3.out _ (List.getElem_mem hlm)) A5 c5 (fun g => g < w.heap.size))
          generalize hx : l.ts[m] = x at *
          have HXX := Lib.hid hx
          have HRW := Lib.hid hrow
          have HBX := Lib.hid hbx
          have HKK := Lib.hid hkk
          have HFL : Hid (∀ g, g < w.heap.size → g < wr.heap.size) := Lib.hid (fun g hg => Nat.lt_of_lt_of_le (hFV g hg) HVr.out.size)
          have z0 := Later.cell (cell_of_block HBX.out 1).1
          have z1 := Later.cell hw2
          have y0 := Later.cell t1
          have y1 := Later.cell t2
          have y2 := Later.cell t3
          have y3 := Later.cell t4
          have y4 := Later.cell t5
          clear hzs hkk hrow hbx t1 t2 t3 t4 t5 hx hFV hf2
          go_wp2
          clear hw2
          generalize wr = W1 at *
          refine wp_region_shares [[], [(0, 32)], [], [], [(2, 34), (3, 35)], [(4, 36)], [(5, 37)], [], [(6, 38), (7, 39)], [(8, 40)], [(9, 41)], [(10, 42)], [(1, 33), (11, 43)], [], [(13, 45), (12, 44)]]
            [.eq (.pointer (some ⟨p, 1, none⟩)), .eq (.slice B ts.length b), .eq (.slice (some ad) c.length q), .eq (.int .i64 (k : Int)), .eq (.pointer (some (ad.add (k * 2)))), .eq (.pointer (some ⟨(ad.add (k * 2)).block, (ad.add (k * 2)).off + 1, none⟩)), .eq (.slice (some ad2) l.ts.length c2), .eq (.int .i64 (m : Int)), .eq (.pointer (some (ad2.add (m * 5)))), .eq (.agg #[.int .i64 x.op, .int .i64 x.a, .int .i64 x.b, .string x.name, .slice A5 x.kids.length c5]), Fact.treeV M W1.heap.size x, Fact.treeL M W1.heap.size x, Fact.rowT M W1 (.slice B ts.length b) zs, .eq (.pointer (some ⟨p, 1, none⟩)), Fact.boxY M p l.ds.length A3 c3 W1 zs]
            [12, 14] [12, 14] [13, 14] [14] [(0, 32), (1, 33), (2, 34), (3, 35), (4, 36), (5, 37), (6, 38), (7, 39), (8, 40), (9, 41), (10, 42), (11, 43), (12, 44), (13, 45)] (by kernel_rfl) (by kernel_rfl) (by kernel_rfl) (by kernel_rfl)
            ⟨?_, ?_, ?_, ?_, ?_, ?_, ?_, ?_, ?_, ?_, ?_, ?_, ?_, ?_, ?_, trivial⟩ ?_
          · intro vals z hC hF
            simp only [putsD, Act.put, List.setIfInBounds_toArray, List.set_cons_zero, List.set_cons_succ]
            go_wp2
            exact ⟨rfl, rfl, .inr (Below.refl _ _), .inr (.inl (by simp))⟩
          · intro vals z hC hF
            have hC := hC.resolve_left (by simp)
            have hsz := hC.size
            have e1 : z.cell? _ = _ := z0 ⟨z, hC⟩
            simp only [factsD, List.getD_cons_zero, List.getD_cons_succ, Fact.eq, Fact.row, Fact.lit, Fact.lit0, Fact.of, and_true, Fact.treeV, Fact.treeL, Fact.rowT, Fact.boxY] at hF
            simp only [putsD, Act.put, List.setIfInBounds_toArray, List.set_cons_zero, List.set_cons_succ]
            simp only [hF]
            go_wp2
            exact ⟨rfl, rfl, .inr (Below.refl _ _), .inr (.inl (by simp))⟩
          · intro vals z hC hF
            simp only [putsD, Act.put, List.setIfInBounds_toArray, List.set_cons_zero, List.set_cons_succ]
            go_wp2
            exact ⟨rfl, rfl, .inr (Below.refl _ _), .inr (.inl (by simp))⟩
          · intro vals z hC hF
            simp only [putsD, Act.put, List.setIfInBounds_toArray, List.set_cons_zero, List.set_cons_succ]
            go_wp2
            exact ⟨rfl, rfl, .inr (Below.refl _ _), .inr (.inl (by simp))⟩
          · intro vals z hC hF
            simp only [factsD, List.getD_cons_zero, List.getD_cons_succ, Fact.eq, Fact.row, Fact.lit, Fact.lit0, Fact.of, and_true, Fact.treeV, Fact.treeL, Fact.rowT, Fact.boxY] at hF
            obtain ⟨e1, e2⟩ := hF
            simp only [putsD, Act.put, List.setIfInBounds_toArray, List.set_cons_zero, List.set_cons_succ]
            simp only [e1, e2]
            go_wp2
            exact ⟨rfl, rfl, .inr (Below.refl _ _), .inr (.inl (by simp))⟩
          · intro vals z hC hF
            simp only [factsD, List.getD_cons_zero, List.getD_cons_succ, Fact.eq, Fact.row, Fact.lit, Fact.lit0, Fact.of, and_true, Fact.treeV, Fact.treeL, Fact.rowT, Fact.boxY] at hF
            simp only [putsD, Act.put, List.setIfInBounds_toArray, List.set_cons_zero, List.set_cons_succ]
            simp only [hF]
            go_wp2
            exact ⟨rfl, rfl, .inr (Below.refl _ _), .inr (.inl (by simp))⟩
          · intro vals z hC hF
            have hC := hC.resolve_left (by simp)
            have hsz := hC.size
            have e1 : z.cell? _ = _ := z1 ⟨z, hC⟩
            simp only [factsD, List.getD_cons_zero, List.getD_cons_succ, Fact.eq, Fact.row, Fact.lit, Fact.lit0, Fact.of, and_true, Fact.treeV, Fact.treeL, Fact.rowT, Fact.boxY] at hF
            simp only [putsD, Act.put, List.setIfInBounds_toArray, List.set_cons_zero, List.set_cons_succ]
            simp only [hF]
            go_wp2
            exact ⟨rfl, rfl, .inr (Below.refl _ _), .inr (.inl (by simp))⟩
          · intro vals z hC hF
            simp only [putsD, Act.put, List.setIfInBounds_toArray, List.set_cons_zero, List.set_cons_succ]
            go_wp2
            exact ⟨rfl, rfl, .inr (Below.refl _ _), .inr (.inl (by simp))⟩
          · intro vals z hC hF
            simp only [factsD, List.getD_cons_zero, List.getD_cons_succ, Fact.eq, Fact.row, Fact.lit, Fact.lit0, Fact.of, and_true, Fact.treeV, Fact.treeL, Fact.rowT, Fact.boxY] at hF
            obtain ⟨e1, e2⟩ := hF
            simp only [putsD, Act.put, List.setIfInBounds_toArray, List.set_cons_zero, List.set_cons_succ]
            simp only [e1, e2]
            go_wp2
            exact ⟨rfl, rfl, .inr (Below.refl _ _), .inr (.inl (by simp))⟩
          · intro vals z hC hF
            have hC := hC.resolve_left (by simp)
            have hsz := hC.size
            have e1 : z.cell? _ = _ := y0 ⟨z, hC⟩
            have e2 : z.cell? _ = _ := y1 ⟨z, hC⟩
            have e3 : z.cell? _ = _ := y2 ⟨z, hC⟩
            have e4 : z.cell? _ = _ := y3 ⟨z, hC⟩
            have e5 : z.cell? _ = _ := y4 ⟨z, hC⟩
            simp only [factsD, List.getD_cons_zero, List.getD_cons_succ, Fact.eq, Fact.row, Fact.lit, Fact.lit0, Fact.of, and_true, Fact.treeV, Fact.treeL, Fact.rowT, Fact.boxY] at hF
            have e9 := hF
            simp only [putsD, Act.put, List.setIfInBounds_toArray, List.set_cons_zero, List.set_cons_succ]
            simp only [e9]
            go_wp2
            exact ⟨rfl, rfl, .inr (Below.refl _ _), .inr (.inl (by simp))⟩
          · intro vals z hC hF
            have hC := hC.resolve_left (by simp)
            have hsz := hC.size
            simp only [factsD, List.getD_cons_zero, List.getD_cons_succ, Fact.eq, Fact.row, Fact.lit, Fact.lit0, Fact.of, and_true, Fact.treeV, Fact.treeL, Fact.rowT, Fact.boxY] at hF
            have e1 := hF
            simp only [putsD, Act.put, List.setIfInBounds_toArray, List.set_cons_zero, List.set_cons_succ]
            simp only [e1]
            have HC9 := Lib.hid (HCP.out z (HKK.out.below hC HFL.out) (fun g hg => Nat.lt_of_lt_of_le (HFL.out g hg) hsz))
            go_wp2_with fail
            refine HC9.out.mono ?_
            rintro e w9 ⟨A9, c9, rfl, hc9, ht9, hb9⟩
            have HT9 : Hid (TrS w9 (fun g => W1.heap.size ≤ g ∧ OwnB9 M w9 g) A9 x.kids) := Lib.hid (TrT.mono ht9 fun g hg => ⟨Nat.le_trans hsz hg.1, hg.le (Nat.le_trans HMW.out hsz)⟩)
            clear ht9
            go_wp2
            exact ⟨rfl, ⟨A9, c9, rfl, hc9, HT9.out⟩, .inr hb9, .inr (.inl (by simp))⟩
          · intro vals z hC hF
            have hC := hC.resolve_left (by simp)
            have hsz := hC.size
            simp only [factsD, List.getD_cons_zero, List.getD_cons_succ, Fact.eq, Fact.row, Fact.lit, Fact.lit0, Fact.of, and_true, Fact.treeV, Fact.treeL, Fact.rowT, Fact.boxY] at hF
            obtain ⟨A9, c9, e1, hc9, ht9⟩ := hF
            have e1 : vals 10 = .agg #[.int .i64 x.op, .int .i64 x.a, .int .i64 x.b, .string x.name, .slice A9 x.kids.length c9] := e1
            simp only [putsD, Act.put, List.setIfInBounds_toArray, List.set_cons_zero, List.set_cons_succ]
            simp only [e1]
            have hal9 : Below z.heap.size z (z.alloc (.cells (tcells x A9 c9).toArray 48)) := (Below.refl _ _).alloc (Nat.le_refl _) _
            go_wp2
            exact ⟨rfl, ⟨_, A9, c9, rfl, heap_alloc_new _ _, hc9, TrS.up (F := fun _ => True) ht9 hal9⟩, .inr hal9, .inr (.inl (by simp))⟩
          · intro vals z hC hF
            have hC := hC.resolve_left (by simp)
            have hsz := hC.size
            simp only [factsD, List.getD_cons_zero, List.getD_cons_succ, Fact.eq, Fact.row, Fact.lit, Fact.lit0, Fact.of, and_true, Fact.treeV, Fact.treeL, Fact.rowT, Fact.boxY] at hF
            obtain ⟨e5, b5, A9, c9, e7, hb5, hc9, ht9⟩ := hF
            have hrz := HRW.out.up hC
            simp only [putsD, Act.put, List.setIfInBounds_toArray, List.set_cons_zero, List.set_cons_succ]
            simp only [e5, e7]
            refine wpList_append_tree (ys := zs) (by rfl) (.tmp 33) (.tmp 43) (by rfl) (by rfl) (by rfl) hrz (Nat.le_trans HMW.out hsz) hxl ht9 hc9 hb5 (fun g hg e9 => by have := (HRW.out.lt g e9).2; omega) ⟨W1, Nat.le_refl _, hC, HRW.out⟩ HZS.out ?_
            intro A8 c8 w8 hown8 hg8
            exact ⟨rfl, ⟨A8, c8, rfl, hown8, below_grown hC hg8⟩, .inl (by simp), .inl (by simp)⟩
          · intro vals z hC hF
            simp only [putsD, Act.put, List.setIfInBounds_toArray, List.set_cons_zero, List.set_cons_succ]
            go_wp2
            exact ⟨rfl, rfl, .inr (Below.refl _ _), .inr (.inl (by simp))⟩
          · intro vals z hC hF
            simp only [factsD, List.getD_cons_zero, List.getD_cons_succ, Fact.eq, Fact.row, Fact.lit, Fact.lit0, Fact.of, and_true, Fact.treeV, Fact.treeL, Fact.rowT, Fact.boxY] at hF
            obtain ⟨e11, A8, c8, e8, hown8, hg8⟩ := hF
            have hpx := (hg8.block p (lt_of_block HBX.out) (fun e => by have := (HRW.out.lt p e.symm).1; have := HSZ5.out; omega)).trans HBX.out
            have x1 := (cell_of_block hpx 1).1
            have x2 := (cell_of_block hpx 1).2
            have HRF := Lib.hid (hown8.far ⟨p, 1, none⟩ (.slice A8 zs.length c8) (by show p < M; have := HSZ5.out; omega))
            have HPX := Lib.hid (heap_set_same z p 1 (.slice A8 zs.length c8) _ _ hpx)
            have HGN : Hid (Gr (fun g => g = p ∨ M ≤ g) W1 (z.setCell ⟨p, 1, none⟩ (.slice A8 zs.length c8))) := Lib.hid (Gr.set (Gr.mono (S := fun g => M ≤ g) ⟨hg8.os, hg8.tape, hg8.output, hg8.size, fun i hi hn => hg8.block i hi (fun e => hn (HRW.out.lt i e.symm).1)⟩ fun _ h => .inr h) p 1 _ (.inl (.inl rfl)))
            clear hpx
            simp only [putsD, Act.put, List.setIfInBounds_toArray, List.set_cons_zero, List.set_cons_succ]
            simp only [e11, e8]
            go_wp2
            exact ⟨rfl, ⟨⟨A8, c8, HPX.out, HRF.out⟩, HGN.out, lt_of_block HBX.out⟩, .inl (by simp), .inl (by simp)⟩
          · intro vals z hF
            simp only [facts, List.getD_cons_zero, List.getD_cons_succ, Fact.eq, Fact.row, Fact.lit, Fact.lit0, Fact.of, and_true, Fact.treeV, Fact.treeL, Fact.rowT, Fact.boxY] at hF
            obtain ⟨hbt, hgn, hpl⟩ := hF
            simp only [putsD, Act.put, List.setIfInBounds_toArray, List.set_cons_zero, List.set_cons_succ]
            have HGN := Lib.hid (HGR.out.trans hgn)
            have HBN := Lib.hid hbt
            clear hbt hgn hpl z0 z1 y0 y1 y2 y3 y4
            go_wp2
            go_roundw
            case rel => exact ⟨m + 1, by omega, by go_num, by rw [← HZE.out]; exact HBN, HGN⟩
            case measure => simp [intOf]; omega
        · have hme : m = l.ts.length := by omega
          subst hme
          have HBE := HBT.out
          rw [List.take_length] at HBE
          obtain ⟨B, b, hbx, hrow⟩ := HBE
          have v0 := (cell_of_block hbx 0).1
          have v1 := (cell_of_block hbx 1).1
          have HPR : Hid (PR wr V.heap.size wr.heap.size (.slice A3 l.ds.length c3) (.slice B l.ts.length b) l) := Lib.hid ⟨M, A3, c3, B, b, rfl, rfl, by have := HSZ3.out; have := HSZ5.out; omega, HMW.out, fun g hg => by have := HDB.out g hg; have := HSZ5.out; omega,
            own_of_heap HDS.out fun g hg => HGR.out.block g (by have := HDB.out g hg; have := HPW.out; omega) (fun e => by have := HDB.out g hg; have := HSZ5.out; omega), RowU.of hrow⟩
          have hal7 : Below wr.heap.size wr (wr.alloc (.cells #[.slice A3 l.ds.length c3, .slice B l.ts.length b] 58)) := (Below.refl _ _).alloc (Nat.le_refl _) _
          have hn7 := heap_alloc_new wr (.cells #[.slice A3 l.ds.length c3, .slice B l.ts.length b] 58)
          have HP7 : Hid (PR (wr.alloc (.cells #[.slice A3 l.ds.length c3, .slice B l.ts.length b] 58)) V.heap.size wr.heap.size (.slice A3 l.ds.length c3) (.slice B l.ts.length b) l) := Lib.hid (stay_PR _ _ _ _ _ _ _ HPR.out hal7.size fun g _ h9 => hal7.block g h9)
          have HB7 := Lib.hid (bthen HB.out (bthen HVr.out hal7))
          have HV7 := Lib.hid (bthen HVr.out hal7)
          have HS7 := Lib.hid hal7.size
          have HN7 := Lib.hid hn7
          clear hal7 hn7 hbx hrow
          go_wp2_with (at_builtin; refine wpList_append_layer stay_PR (ys := ys) (S0 := V.heap.size) (E0 := wr.heap.size) (l := l) (lo := w.heap.size) (vd := .slice A3 l.ds.length c3) (vt := .slice B l.ts.length b) (by rfl) (.tmp 46) (.tmp 48) (by rfl) (by rfl) (by rfl) HB.out.size HXL.out HP7.out HVr.out.size HS7.out rfl rfl HN7.out ⟨V, Nat.le_refl _, HV7.out, HROW.out⟩ (by rw [HYS.out]) ?_; intro A8 c8 w8 hr8 hg8; have HR8 := Lib.hid hr8; have HB8 : Hid (Below w.heap.size w w8) := Lib.hid (HB7.out.grown hg8 (Nat.le_trans HB.out.size (Nat.le_trans HVr.out.size HS7.out)) (fun g e => (HROW.out.lt g e).1)); clear hr8 hg8)
          go_roundw
          case rel => exact ⟨k + 1, ys, A8, c8, by omega, rfl, by go_num, HR8, HB8.out, HYE⟩
          case measure => simp [intOf]; omega
    · have hke : k = c.length := by omega
      subst hke
      have HE : Hid (xs = c) := Lib.hid (by rw [HX.out, List.take_length])
      go_wp2
      go_ret
      rw [← HE.out]
      exact ⟨_, _, rfl, HROW.out, hb⟩
end Go.Proofs.YtiahmfpfimmbgaaGreatDoor

/-! What the reference hands back is only read; the reference's CtxTerms. -/
namespace Go.Proofs.YtiahmfpfimmbgaaGreatDoor
open Go Go.RowKit Go.ChangeShapes Go.WideShapes Go.ChangeAt Go.Deep

/-- It may be read. -/
def RdO {α : Type} (L : Lay α) (w : World) (A : Option Addr) (xs : List α) : Prop := L.Rd w A xs
/-- It may be read, and lay there when the heap was hi long. -/
def RdB {α : Type} (L : Lay α) (hi : Nat) (w : World) (A : Option Addr) (xs : List α) : Prop := hi ≤ w.heap.size ∧ L.Sl w (fun b => b < hi) A xs
section
variable {α : Type} {L : Lay α} {w w' : World} {hi : Nat} {A : Option Addr} {xs : List α}
theorem RdO.cp_of (h : RdO L w A xs) : RdB L w.heap.size w A xs := ⟨Nat.le_refl _, h⟩
theorem RdO.nil (L : Lay α) (w : World) (A : Option Addr) : RdO L w A [] := by unfold RdO; exact Lay.Sl.nil _ _ _ _
theorem RdB.cp_rd (h : RdB L hi w A xs) : L.Rd w A xs := h.2.mono fun _ h9 => Nat.lt_of_lt_of_le h9 h.1
end
/-- A slice is handed back that may be read. -/
def RetRd {α : Type} (L : Lay α) (w : World) (xs : List α) (e : Ending) (w' : World) : Prop := ∃ A c, e = .returned (.slice A xs.length c) ∧ xs.length ≤ c ∧ RdO L w' A xs ∧ Below w.heap.size w w'
theorem RowP.map {P P' : LyF} (hP : ∀ w S E vd vt l, P w S E vd vt l → P' w S E vd vt l) {lo : Nat} {w : World} {v : Value} {ls : List Ly} (h : RowP P lo w v ls) : RowP P' lo w v ls := by
  obtain ⟨cs, h1, S, E, Vd, Vt, h2, h3⟩ := h
  exact ⟨cs, h1, S, E, Vd, Vt, fun k l hl => by
    obtain ⟨g1, g2, g3, g6, g7⟩ := h2 k l hl
    exact ⟨g1, g2, g3, g6, hP _ _ _ _ _ _ g7⟩, h3⟩
theorem RowP.rdR {lo c : Nat} {w : World} {A : Option Addr} {ls : List Ly} (h : RowP PR lo w (.slice A ls.length c) ls) : Lay.layer.Rd w A ls := TrG.cp_rd (RowP.cp_of (RowP.map (fun _ _ _ _ _ _ => PR.pp) h))
theorem RowP.cap {P : LyF} {lo c n : Nat} {w : World} {A : Option Addr} {ls : List Ly} (h : RowP P lo w (.slice A n c) ls) : n = ls.length ∧ ls.length ≤ c := by
  obtain ⟨A', c', e, hl⟩ := h.form
  injection e with e1 e2 e3
  exact ⟨e2, by omega⟩
set_option maxRecDepth 100000 in
set_option maxHeartbeats 2000000 in
theorem specCtxTerms_c (c : List Ly) (A : Option Addr) (q : Nat) (w : World) (h : Lay.layer.Rd w A c) (hq : c.length ≤ q) (hs : okC c) :
    Calls Tryz.prog 13 #[.slice A c.length q] w (RetRd Lay.term w (ctxTerms c)) := by
  have hc := hs
  have HO := Lib.hid (specCtxOk_any A q c w h hq hc)
  have HCP := Lib.hid (fun (z : World) (hz : Lay.layer.Rd z A c) => l10Copy_any A q c z hz hc.len (okC_l2 hs))
  have HL := Lib.hid (fun (z : World) (A : Option Addr) (q : Nat) (hz : Lay.layer.Rd z A c) => l10Terms_any A q c z hz hc.len hc.ts)
  obtain ⟨r, hr⟩ : ∃ r, r = ctxOk c := ⟨_, rfl⟩
  rw [← hr] at HO
  have HX : Hid (ctxTerms c = if r = true then tsAll c else []) := Lib.hid (by rw [hr]; rfl)
  have H := Lib.hid h
  clear hc hr hs h
  go_enter Tryz.func13, Tryz.ntmps13
  go_wp2_with fail
  refine HO.out.mono ?_
  rintro e w2 ⟨rfl, hb2⟩
  cases r
  · have hal := hb2.alloc hb2.size (.cells #[] 48)
    have HAL := Lib.hid hal
    clear hal
    go_wp2
    go_ret
    rw [show ctxTerms c = [] from by rw [HX.out]; rfl]
    exact ⟨_, _, rfl, Nat.zero_le _, RdO.nil _ _ _, HAL.out⟩
  · have HLC := Lib.hid (HCP.out w2 (H.out.up hb2))
    go_wp2_with fail
    refine HLC.out.mono ?_
    rintro e w3 ⟨A3, c3, rfl, ho, hb3⟩
    have HB3 := Lib.hid (bthen hb2 hb3)
    have HLT := Lib.hid (HL.out w3 A3 c3 ho.rdR)
    clear ho hb3 hb2
    go_wp2_with fail
    refine HLT.out.mono ?_
    rintro e w4 ⟨A4, c4, rfl, ho, hb4⟩
    have HO4 := Lib.hid ho
    have HB4 := Lib.hid (bthen HB3.out hb4)
    clear ho hb4
    go_wp2
    go_ret
    rw [show ctxTerms c = tsAll c from by rw [HX.out]; rfl]
    exact ⟨A4, c4, rfl, (OwnL.cap HO4.out).2, OwnL.rd HO4.out, HB4.out⟩
end Go.Proofs.YtiahmfpfimmbgaaGreatDoor
