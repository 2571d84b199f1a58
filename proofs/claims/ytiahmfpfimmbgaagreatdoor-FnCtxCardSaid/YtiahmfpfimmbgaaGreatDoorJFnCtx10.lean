/- A row of layers of the call's own that grows; what each layer leads to lies in a range of its own. Contexts that change. No program is named here. A drawn region by shares; an operation may look at a slot that a later one writes. No program is named here. -/
import Derived.Test.YtiahmfpfimmbgaaGreatDoorJFnCtx6
import Derived.Test.YtiahmfpfimmbgaaGreatDoorJFnCtx7
import Derived.Test.YtiahmfpfimmbgaaGreatDoorJFnCtx8
import Derived.Test.YtiahmfpfimmbgaaGreatDoorJFnCtx9
/-! A row of layers of the call's own that grows; what each layer leads to lies in a range of its own. -/
namespace Go.Proofs.YtiahmfpfimmbgaaGreatDoor
open Go Go.RowKit

/-- A fact of a layer whose rows lie between S and E. -/
abbrev LyF := World → Nat → Nat → Value → Value → Ly → Prop
/-- It hangs on those blocks alone. -/
def StayP (P : LyF) : Prop := ∀ w w' S E vd vt l, P w S E vd vt l → w.heap.size ≤ w'.heap.size → (∀ b, S ≤ b → b < E → w'.heap[b]? = w.heap[b]?) → P w' S E vd vt l
def RowP (P : LyF) (lo : Nat) (w : World) (v : Value) (ls : List Ly) : Prop :=
  ∃ cs, w.ownsRow lo 58 2 v ls.length cs ∧ ∃ (S E : Nat → Nat) (Vd Vt : Nat → Value),
    (∀ k l, ls[k]? = some l → cs[k * 2]? = some (Vd k) ∧ cs[k * 2 + 1]? = some (Vt k) ∧ (lo ≤ S k ∧ S k ≤ E k ∧ E k ≤ w.heap.size) ∧ (∀ g, v.ownBlock = some g → ¬ (S k ≤ g ∧ g < E k)) ∧ P w (S k) (E k) (Vd k) (Vt k) l) ∧
    ∀ i j, i < j → j < ls.length → E i ≤ S j
section
variable {P : LyF} {lo : Nat} {w w' : World} {v : Value} {ls : List Ly}
theorem RowP.nil (P : LyF) (w : World) (lo : Nat) : RowP P lo w (.slice none ([] : List Ly).length 0) [] :=
  ⟨[], World.ownsRow_nil _ _ _ _, fun _ => 0, fun _ => 0, fun _ => .bool true, fun _ => .bool true, fun k x h => by simp at h, fun i j _ h => by simp at h⟩
theorem RowP.lit (P : LyF) (w : World) : RowP P w.heap.size (w.alloc (.cells #[] 58)) (.slice (some ⟨w.heap.size, 0, none⟩) ([] : List Ly).length 0) [] :=
  ⟨[], own_lit0 rfl, fun _ => 0, fun _ => 0, fun _ => .bool true, fun _ => .bool true, fun k x h => by simp at h, fun i j _ h => by simp at h⟩
theorem RowP.keep (hP : StayP P) (h : RowP P lo w v ls) (hs : w.heap.size ≤ w'.heap.size) (hb : ∀ b, lo ≤ b → b < w.heap.size → w'.heap[b]? = w.heap[b]?) : RowP P lo w' v ls := by
  obtain ⟨cs, h1, S, E, Vd, Vt, h2, h3⟩ := h
  refine ⟨cs, own_of_heap h1 fun g hg => hb g (h1.lt g hg).1 (h1.lt g hg).2, S, E, Vd, Vt, fun k x hx => ?_, h3⟩
  obtain ⟨g1, g2, ⟨g3, g4, g5⟩, g6, g7⟩ := h2 k x hx
  exact ⟨g1, g2, ⟨g3, g4, Nat.le_trans g5 hs⟩, g6, hP _ _ _ _ _ _ _ g7 hs fun b h8 h9 => hb b (Nat.le_trans g3 h8) (by omega)⟩
theorem RowP.up (hP : StayP P) (h : RowP P lo w v ls) (hb : Below w.heap.size w w') : RowP P lo w' v ls := h.keep hP hb.size fun b _ h9 => hb.block b h9
theorem RowP.form (h : RowP P lo w v ls) : ∃ A c, v = .slice A ls.length c ∧ ls.length ≤ c := by
  obtain ⟨cs, h1, _⟩ := h
  rcases h1.2 with ⟨e1, e2⟩ | ⟨g, cap, cur, e1, _, _, h3, _⟩
  · exact ⟨none, 0, by rw [e1, e2], by rw [e2]; exact Nat.le_refl _⟩
  · exact ⟨_, cap, e1, h3⟩
theorem RowP.lt (h : RowP P lo w v ls) : ∀ g, v.ownBlock = some g → lo ≤ g ∧ g < w.heap.size := by
  obtain ⟨cs, h1, _⟩ := h
  exact fun g hg => h1.lt g hg
end
theorem layer_info : (Tryz.prog.info? 58).map (fun i => (i.zero, i.size, i.bytes)) = some (some ((.agg #[.slice none 0 0, .slice none 0 0])), 2, 48) := by kernel_rfl
/-- append of one layer, laid in a block of its own, whose rows lie in a new range. -/
theorem run_append_layer {P : LyF} (hP : StayP P) {w : World} {lo S0 E0 b : Nat} {A : Option Addr} {c d : Nat} {ls ys : List Ly} {l : Ly} {vd vt : Value} {ty e' : TypeId} (hlo : lo ≤ S0) (hn : ls.length ≤ 1048576)
    (hl : P w S0 E0 vd vt l) (hSE : S0 ≤ E0) (hE : E0 ≤ w.heap.size) (hvd : vd.oneCell' = true) (hvt : vt.oneCell' = true) (hb : w.heap[b]? = some (.cells #[vd, vt] e' (0, 0)))
    (hold : ∃ w0 : World, w0.heap.size ≤ S0 ∧ Below w0.heap.size w0 w ∧ RowP P lo w0 (.slice A ls.length c) ls) (hy : ys = ls ++ [l]) :
    ∃ A' c' w', (Builtin.append_ #[26, 26] ty #[.slice A ls.length c, .slice (some ⟨b, 0, none⟩) 1 d]).run Tryz.prog w = .ok (.slice A' ys.length c') w' ∧ RowP P lo w' (.slice A' ys.length c') ys ∧ w.grownBy w' (Value.slice A ls.length c).ownBlock ∧
      ((Value.slice A' ys.length c').ownBlock = (Value.slice A ls.length c).ownBlock ∨ ∃ g, (Value.slice A' ys.length c').ownBlock = some g ∧ w.heap.size ≤ g) := by
  obtain ⟨i0, hi0, hz0, hz1, hz2⟩ := info_parts layer_info
  obtain ⟨w0, hw0, hbw, cs, h1, S, E, Vd, Vt, h2, h3⟩ := hold
  have h1w : w.ownsRow lo 58 2 (.slice A ls.length c) ls.length cs := own_below h1 hbw (Nat.le_refl _)
  have hll : ls.length + 1 = ys.length := by rw [hy]; simp
  have hsrc : Src w 2 (some ⟨b, 0, none⟩) 1 [vd, vt] := by
    have := src_block (m := 1) (size := 2) hb rfl
    simpa using this
  have hbb : ys.length * 48 ≤ 140737488355328 := by omega
  have hlw : lo ≤ w.heap.size := by omega
  obtain ⟨A', c', w', hrun, ho', hg', hbk⟩ := run_append_src_at (P := Tryz.prog) w lo 26 ty 58 i0 _ 2 48 Tryz.underlying26 hi0 hz0 hz1 hz2 rfl (by omega) _ ls.length cs h1w (some ⟨b, 0, none⟩) 1 d [vd, vt] hsrc (by intro u hu; simp at hu; rcases hu with rfl | rfl <;> assumption) ys.length hll (by unfold maxLen; omega) hbb hlw (fun e => by cases e)
  have hgl : ∀ g, (Value.slice A ls.length c).ownBlock = some g → lo ≤ g ∧ g < w0.heap.size := fun g hg => h1.lt g hg
  refine ⟨A', c', w', hrun, ⟨cs ++ [vd, vt], ho', fun k => if k = ls.length then S0 else S k, fun k => if k = ls.length then E0 else E k, fun k => if k = ls.length then vd else Vd k, fun k => if k = ls.length then vt else Vt k, fun k y hky => ?_, fun i j hij hj => ?_⟩, hg', hbk⟩
  · have hcl : cs.length = ls.length * 2 := h1.1
    have hnew : ∀ (S9 E9 : Nat), E9 ≤ w.heap.size → (∀ g, (Value.slice A ls.length c).ownBlock = some g → ¬ (S9 ≤ g ∧ g < E9)) → ∀ g, (Value.slice A' ys.length c').ownBlock = some g → ¬ (S9 ≤ g ∧ g < E9) := fun S9 E9 hE9 h9 g hg => by
      rcases hbk with e | ⟨g2, e, hg2⟩
      · exact h9 g (e ▸ hg)
      · rw [e] at hg; injection hg with hg; omega
    rw [hy] at hky
    by_cases hk : k = ls.length
    · subst hk
      rw [List.getElem?_append_right (Nat.le_refl _), Nat.sub_self] at hky
      simp at hky
      subst hky
      simp only [if_true]
      refine ⟨by rw [List.getElem?_append_right (by omega), hcl, Nat.sub_self]; rfl, by rw [List.getElem?_append_right (by omega), hcl, show ls.length * 2 + 1 - ls.length * 2 = 1 by omega]; rfl, ⟨hlo, hSE, Nat.le_trans hE hg'.size⟩, hnew _ _ hE (fun g hg => by have := (hgl g hg).2; omega), ?_⟩
      exact hP _ _ _ _ _ _ _ hl hg'.size fun b h8 h9 => hg'.block b (by omega) (fun e => by have := (hgl b e.symm).2; omega)
    · have hkl : k < ls.length := by
        have := (List.getElem?_eq_some_iff.1 hky).1
        simp at this
        omega
      rw [List.getElem?_append_left hkl] at hky
      obtain ⟨g1, g2, ⟨g3, g4, g5⟩, g6, g7⟩ := h2 k y hky
      simp only [if_neg hk]
      have hs9 := hbw.size
      refine ⟨by rw [List.getElem?_append_left (by omega)]; exact g1, by rw [List.getElem?_append_left (by omega)]; exact g2, ⟨g3, g4, Nat.le_trans g5 (Nat.le_trans hbw.size hg'.size)⟩, hnew _ _ (by omega) g6, ?_⟩
      refine hP _ _ _ _ _ _ _ g7 (Nat.le_trans hbw.size hg'.size) fun b h8 h9 => (hg'.block b (by omega) (fun e => g6 b e.symm ⟨h8, h9⟩)).trans (hbw.block b (by omega))
  · have hj9 : j < ls.length + 1 := by omega
    have hil : i ≠ ls.length := by omega
    simp only [if_neg hil]
    by_cases hjl : j = ls.length
    · simp only [if_pos hjl]
      obtain ⟨_, _, ⟨_, _, g5⟩, _⟩ := h2 i ls[i] (List.getElem?_eq_getElem (by omega))
      omega
    · simp only [if_neg hjl]
      exact h3 i j hij (by omega)
theorem wpList_append_layer {Q' : Exit → Act → World → Prop} {ops : Array Oper} {rest : List Oper} {o : Oper} {a : Act} {P : LyF} (hP : StayP P) {w : World} {lo S0 E0 b : Nat} {A : Option Addr} {c d : Nat} {ls ys : List Ly} {l : Ly} {vd vt : Value} {e' : TypeId} (hgd : o.guard = none) (s y : Operand)
    (ho : o.op = .call { callee := .builtin .append, args := #[s, y], argTypes := #[26, 26] }) (hs : a.eval s = .slice A ls.length c) (hyv : a.eval y = .slice (some ⟨b, 0, none⟩) 1 d)
    (hlo : lo ≤ S0) (hn : ls.length ≤ 1048576)
    (hl : P w S0 E0 vd vt l) (hSE : S0 ≤ E0) (hE : E0 ≤ w.heap.size) (hvd : vd.oneCell' = true) (hvt : vt.oneCell' = true) (hb : w.heap[b]? = some (.cells #[vd, vt] e' (0, 0)))
    (hold : ∃ w0 : World, w0.heap.size ≤ S0 ∧ Below w0.heap.size w0 w ∧ RowP P lo w0 (.slice A ls.length c) ls) (hy : ys = ls ++ [l])
    (h : ∀ A' c' w', RowP P lo w' (.slice A' ys.length c') ys → w.grownBy w' (Value.slice A ls.length c).ownBlock → wpList Tryz.prog ops Q' rest (a.put o.dst (.slice A' ys.length c')) w') : wpList Tryz.prog ops Q' (o :: rest) a w := by
  obtain ⟨A', c', w', hrun, h1, h2, _⟩ := run_append_layer (d := d) (ty := o.type) hP hlo hn hl hSE hE hvd hvt hb hold hy
  refine wpList_plain hgd fun _ hK => ?_
  unfold Oper.wp execOp
  simp only [ho, resolve, invoke, builtin, Sem.run_bind, Sem.run_pure, Result.andThen_ok, List.map_toArray, List.map_cons, List.map_nil, hs, hyv, hrun]
  exact hK _ _ (h A' c' w' h1 h2)
/-- What is read: declarations and terms (trees), apart from each other, between S and E. -/
def PP : LyF := fun w S E vd vt l => ∃ (Fd Ft : Nat → Prop) (Ad : Option Addr) (cd : Nat) (At : Option Addr) (ct : Nat), vd = .slice Ad l.ds.length cd ∧ vt = .slice At l.ts.length ct ∧ l.ds.length ≤ cd ∧ l.ts.length ≤ ct ∧ (∀ b, Fd b → Cp S E w b) ∧ (∀ b, Ft b → Cp S E w b) ∧ (∀ b, Fd b → ¬ Ft b) ∧ Lay.decl.Sl w Fd Ad l.ds ∧ TrS w Ft At l.ts
theorem stay_cp {lo hi : Nat} {w w' : World} {b : Nat} (h : Cp lo hi w b) (hs : w.heap.size ≤ w'.heap.size) (hb : w'.heap[b]? = w.heap[b]?) : Cp lo hi w' b :=
  ⟨h.1, h.2.1, Nat.le_trans h.2.2.1 hs, fun o => (World.frozen?_of_block (a := ⟨b, o, none⟩) hb).trans (h.2.2.2 o)⟩
theorem stay_PP : StayP PP := by
  rintro w w' S E vd vt l ⟨Fd, Ft, Ad, cd, At, ct, e1, e2, h1, h2, h3, h4, h5, h6, h7⟩ hs hb
  have hk : ∀ b, Cp S E w b → w'.heap[b]? = w.heap[b]? := fun b h9 => hb b h9.1 h9.2.1
  exact ⟨Fd, Ft, Ad, cd, At, ct, e1, e2, h1, h2, fun b hb9 => stay_cp (h3 b hb9) hs (hk b (h3 b hb9)), fun b hb9 => stay_cp (h4 b hb9) hs (hk b (h4 b hb9)), h5, h6.keep fun b hb9 => hk b (h3 b hb9), TrT.keep h7 fun b hb9 => hk b (h4 b hb9)⟩
/-- A row of trees as it was made, unturned since. -/
def RowU (lo hi : Nat) (w : World) (v : Value) (ts : List T) : Prop := hi ≤ w.heap.size ∧ ∃ w0 : World, w0.heap.size = hi ∧ RowTr lo w0 v ts ∧ ∀ b, lo ≤ b → b < hi → w.heap[b]? = w0.heap[b]?
theorem RowU.row {lo hi : Nat} {w : World} {v : Value} {ts : List T} (h : RowU lo hi w v ts) : RowTr lo w v ts := by
  obtain ⟨h1, w0, rfl, h2, h3⟩ := h
  exact h2.keep h1 h3
theorem RowU.stay {lo hi : Nat} {w w' : World} {v : Value} {ts : List T} (h : RowU lo hi w v ts) (hs : w.heap.size ≤ w'.heap.size) (hb : ∀ b, lo ≤ b → b < hi → w'.heap[b]? = w.heap[b]?) : RowU lo hi w' v ts := by
  obtain ⟨h1, w0, h0, h2, h3⟩ := h
  exact ⟨Nat.le_trans h1 hs, w0, h0, h2, fun b h8 h9 => (hb b h8 h9).trans (h3 b h8 h9)⟩
theorem RowU.of {lo : Nat} {w : World} {v : Value} {ts : List T} (h : RowTr lo w v ts) : RowU lo w.heap.size w v ts := ⟨Nat.le_refl _, w, rfl, h, fun _ _ _ => rfl⟩
theorem RowU.tree {lo hi : Nat} {w : World} {A : Option Addr} {c : Nat} {ts : List T} (h : RowU lo hi w (.slice A ts.length c) ts) : TrS w (Cp lo hi w) A ts := by
  obtain ⟨h1, w0, rfl, h2, h3⟩ := h
  have h8 := TrS.cp_of h2.tree
  have hk : ∀ b, Cp lo w0.heap.size w0 b → w.heap[b]? = w0.heap[b]? := fun b h9 => h3 b h9.1 h9.2.1
  exact TrT.mono (TrT.keep h8 hk) fun b h9 => stay_cp h9 h1 (hk b h9)
/-- What may grow: a row of declarations between S and M, a row of trees between M and E. -/
def PR : LyF := fun w S E vd vt l => ∃ M Ad cd At ct, vd = .slice Ad l.ds.length cd ∧ vt = .slice At l.ts.length ct ∧ S ≤ M ∧ M ≤ E ∧ (∀ g, vd.ownBlock = some g → g < M) ∧ OwnDs w S (.slice Ad l.ds.length cd) l.ds ∧ RowU M E w (.slice At l.ts.length ct) l.ts
theorem stay_PR : StayP PR := by
  rintro w w' S E vd vt l ⟨M, Ad, cd, At, ct, e1, e2, h1, h2, h3, h4, h5⟩ hs hb
  refine ⟨M, Ad, cd, At, ct, e1, e2, h1, h2, h3, own_of_heap h4 fun g hg => hb g (h4.lt g hg).1 (by have := h3 g (by rw [e1]; exact hg); omega), h5.stay hs fun b h8 h9 => hb b (by omega) h9⟩
theorem PR.pp {w : World} {S E : Nat} {vd vt : Value} {l : Ly} (h : PR w S E vd vt l) : PP w S E vd vt l := by
  obtain ⟨M, Ad, cd, At, ct, e1, e2, h1, h2, h3, h4, h5⟩ := h
  obtain ⟨_, g1⟩ := OwnDs.cap h4
  have g2 : l.ts.length ≤ ct := by
    obtain ⟨A9, c9, e9, h9⟩ := h5.row.form
    injection e9 with _ _ e9
    omega
  have h51 := h5.1
  refine ⟨Cp S M w, Cp M E w, Ad, cd, At, ct, e1, e2, g1, g2, fun b hb => ⟨hb.1, by have := hb.2.1; omega, h51, hb.2.2.2⟩, fun b hb => ⟨by have := hb.1; omega, hb.2.1, h51, hb.2.2.2⟩, fun b hb hb2 => by have := hb.2.1; have := hb2.1; omega, ?_, h5.tree⟩
  intro h0
  obtain ⟨ad, e, hf, hc⟩ := (Lay.Sl.decl_own h4) h0
  have hm := h3 ad.block (by rw [e1, e]; rfl)
  exact ⟨ad, e, ⟨hf.1, hm, by omega, hf.2.2⟩, fun k x hx => by
    obtain ⟨vs, hr, hcell⟩ := hc k x hx
    exact ⟨vs, hr, hcell⟩⟩
end Go.Proofs.YtiahmfpfimmbgaaGreatDoor

/-! Contexts that change. No program is named here. -/
namespace Go.Proofs.YtiahmfpfimmbgaaGreatDoor
open Go Go.RowKit

/-- The last layer turned. -/
def onLast (f : Ly → Ly) : List Ly → List Ly
  | [] => []
  | [l] => [f l]
  | l :: l2 :: ls => l :: onLast f (l2 :: ls)
theorem onLast_app (f : Ly → Ly) : ∀ (xs : List Ly) (l : Ly), onLast f (xs ++ [l]) = xs ++ [f l]
  | [], l => rfl
  | [x], l => rfl
  | x :: y :: xs, l => by
    show x :: onLast f (y :: (xs ++ [l])) = _
    have := onLast_app f (y :: xs) l
    rw [List.cons_append] at this
    rw [this]; rfl
def addD (c : List Ly) (d : D) : List Ly := onLast (fun l => ⟨l.ds ++ [d], l.ts⟩) c
def addT (c : List Ly) (t : T) : List Ly := onLast (fun l => ⟨l.ds, l.ts ++ [t]⟩) c
/-- What comes of a change: that, if it is right; else what was; of a wrong context nothing. -/
def ctxCh (c x : List Ly) : List Ly × Bool := if ctxOk c = true then (if ctxOk x = true then (x, true) else (c, false)) else ([], false)
theorem dsAll_app (xs ys : List Ly) : dsAll (xs ++ ys) = dsAll xs ++ dsAll ys := by unfold dsAll; rw [List.flatMap_append]
theorem tsAll_app (xs ys : List Ly) : tsAll (xs ++ ys) = tsAll xs ++ tsAll ys := by unfold tsAll; rw [List.flatMap_append]
theorem dsAll_one (l : Ly) : dsAll [l] = l.ds := by simp [dsAll]
theorem tsAll_one (l : Ly) : tsAll [l] = l.ts := by simp [tsAll]
theorem last_of {c : List Ly} (h : 1 ≤ c.length) : ∃ xs l, c = xs ++ [l] := by
  rcases List.eq_nil_or_concat c with rfl | ⟨xs, l, rfl⟩
  · simp at h
  · exact ⟨xs, l, by simp⟩
theorem msAll_app (xs : List Ly) (l : Ly) : msAll (xs ++ [l]) = msAll xs ++ [(((dsAll (xs ++ [l])).length : Int), ((tsAll (xs ++ [l])).length : Int))] := by
  unfold msAll
  rw [List.length_append, List.length_singleton, List.range_succ, List.map_append]
  congr 1
  · refine List.map_congr_left fun k hk => ?_
    have hk : k < xs.length := List.mem_range.1 hk
    rw [List.take_append_of_le_length (by omega)]
  · simp only [List.map_cons, List.map_nil]
    rw [List.take_of_length_le (by simp)]
theorem ctxGo_app : ∀ (xs seen : List Ly) (l : Ly), ctxGo seen (xs ++ [l]) = (ctxGo seen xs && lyOk (seen ++ xs) l)
  | [], seen, l => by simp [ctxGo]
  | x :: xs, seen, l => by
    simp only [List.cons_append, ctxGo]
    rw [ctxGo_app xs (seen ++ [x]) l, Bool.and_assoc, List.append_assoc]
    rfl
theorem ctxOk_parts {c : List Ly} (h : ctxOk c = true) : 1 ≤ c.length ∧ c.length ≤ 6 ∧ declOk (dsAll c) = true ∧ (tsAll c).length ≤ 8 ∧ ctxGo [] c = true := by
  unfold ctxOk at h
  simp only [Bool.and_eq_true, decide_eq_true_eq] at h
  obtain ⟨⟨⟨⟨h1, h2⟩, h3⟩, h4⟩, h5⟩ := h
  exact ⟨h1, h2, h3, h4, h5⟩
theorem declOk_len {ds : List D} (h : declOk ds = true) : ds.length ≤ 4 := by
  unfold declOk at h
  simp only [Bool.and_eq_true, decide_eq_true_eq] at h
  exact h.1
/-- A right context with one term more is right if the term is of sort 0 and there were fewer than 8. -/
theorem ctxOk_addT {xs : List Ly} {l : Ly} (t : T) (h : ctxOk (xs ++ [l]) = true) : ctxOk (xs ++ [⟨l.ds, l.ts ++ [t]⟩]) = (sort0 (dsAll (xs ++ [l])) t && decide ((tsAll (xs ++ [l])).length < 8)) := by
  obtain ⟨h1, h2, h3, h4, h5⟩ := ctxOk_parts h
  have e1 : dsAll (xs ++ [⟨l.ds, l.ts ++ [t]⟩]) = dsAll (xs ++ [l]) := by rw [dsAll_app, dsAll_app, dsAll_one, dsAll_one]
  have e2 : (tsAll (xs ++ [⟨l.ds, l.ts ++ [t]⟩])).length = (tsAll (xs ++ [l])).length + 1 := by rw [tsAll_app, tsAll_app, tsAll_one, tsAll_one]; simp; omega
  have e3 : (xs ++ [(⟨l.ds, l.ts ++ [t]⟩ : Ly)]).length = (xs ++ [l]).length := by simp
  rw [ctxGo_app] at h5
  simp only [Bool.and_eq_true] at h5
  have e4 : ctxGo [] (xs ++ [⟨l.ds, l.ts ++ [t]⟩]) = sort0 (dsAll (xs ++ [l])) t := by
    rw [ctxGo_app, h5.1, Bool.true_and]
    have h6 := h5.2
    unfold lyOk at h6 ⊢
    simp only [List.nil_append] at h6 ⊢
    rw [e1, List.all_append, h6, Bool.true_and]
    simp
  unfold ctxOk
  rw [e1, e2, e3, e4, h3, decide_eq_true h1, decide_eq_true h2]
  by_cases h9 : (tsAll (xs ++ [l])).length < 8
  · rw [decide_eq_true h9, decide_eq_true (by omega : (tsAll (xs ++ [l])).length + 1 ≤ 8)]; simp
  · rw [decide_eq_false h9, decide_eq_false (by omega : ¬ (tsAll (xs ++ [l])).length + 1 ≤ 8)]; simp
/-- What is asked of the context that a change gives. -/
theorem okC.addD {xs : List Ly} {l : Ly} {d : D} (h : okC (xs ++ [l])) (hk : ctxOk (xs ++ [l]) = true) (hd : d.name.size ≤ 9223372036854775807) : okC (xs ++ [⟨l.ds ++ [d], l.ts⟩]) := by
  have e1 : dsAll (xs ++ [⟨l.ds ++ [d], l.ts⟩]) = dsAll (xs ++ [l]) ++ [d] := by rw [dsAll_app, dsAll_app, dsAll_one, dsAll_one, List.append_assoc]
  have e2 : tsAll (xs ++ [⟨l.ds ++ [d], l.ts⟩]) = tsAll (xs ++ [l]) := by rw [tsAll_app, tsAll_app, tsAll_one, tsAll_one]
  have h4 := declOk_len (ctxOk_parts hk).2.2.1
  refine ⟨by have := h.len; simpa using this, by rw [e1, List.length_append, List.length_singleton]; omega, by rw [e2]; exact h.ts, fun x hx => ?_, fun t ht => h.terms t (by rw [e2] at ht; exact ht)⟩
  rw [e1] at hx
  rcases List.mem_append.1 hx with hx | hx
  · exact h.names x hx
  · simp at hx; subst hx; exact hd
theorem okC.addT {xs : List Ly} {l : Ly} {t : T} (h : okC (xs ++ [l])) (hk : ctxOk (xs ++ [l]) = true) (ht : T.All okT3 t) : okC (xs ++ [⟨l.ds, l.ts ++ [t]⟩]) := by
  have e1 : dsAll (xs ++ [⟨l.ds, l.ts ++ [t]⟩]) = dsAll (xs ++ [l]) := by rw [dsAll_app, dsAll_app, dsAll_one, dsAll_one]
  have e2 : tsAll (xs ++ [⟨l.ds, l.ts ++ [t]⟩]) = tsAll (xs ++ [l]) ++ [t] := by rw [tsAll_app, tsAll_app, tsAll_one, tsAll_one, List.append_assoc]
  have h4 := (ctxOk_parts hk).2.2.2.1
  refine ⟨by have := h.len; simpa using this, by rw [e1]; exact h.ds, by rw [e2, List.length_append, List.length_singleton]; omega, fun x hx => h.names x (by rw [e1] at hx; exact hx), fun x hx => ?_⟩
  rw [e2] at hx
  rcases List.mem_append.1 hx with hx | hx
  · exact h.terms x hx
  · simp at hx; subst hx; exact ht
theorem okC.push {c : List Ly} (h : okC c) (hk : ctxOk c = true) : okC (c ++ [⟨[], []⟩]) := by
  have e1 : dsAll (c ++ [⟨[], []⟩]) = dsAll c := by rw [dsAll_app, dsAll_one]; simp
  have e2 : tsAll (c ++ [⟨[], []⟩]) = tsAll c := by rw [tsAll_app, tsAll_one]; simp
  have := (ctxOk_parts hk).2.1
  exact ⟨by rw [List.length_append, List.length_singleton]; omega, by rw [e1]; exact h.ds, by rw [e2]; exact h.ts, by rw [e1]; exact h.names, by rw [e2]; exact h.terms⟩
theorem okC.pop {xs : List Ly} {l : Ly} (h : okC (xs ++ [l])) : okC xs := by
  have h1 := h.ds
  have h2 := h.ts
  rw [dsAll_app, List.length_append] at h1
  rw [tsAll_app, List.length_append] at h2
  exact ⟨by have := h.len; rw [List.length_append] at this; omega, by omega, by omega, fun d hd => h.names d (by rw [dsAll_app]; exact List.mem_append_left _ hd), fun t ht => h.terms t (by rw [tsAll_app]; exact List.mem_append_left _ ht)⟩
end Go.Proofs.YtiahmfpfimmbgaaGreatDoor

/-! A drawn region by shares; an operation may look at a slot that a later one writes. No program is named here. -/
namespace Go.Proofs.YtiahmfpfimmbgaaGreatDoor
open Go Go.RowKit
variable {P : Program} {Q : Exit → Act → World → Prop}
def softOk3 (ops : List Oper) (D : List (List Nat)) (L : List Fact) (hard wild plain keep : List Nat) (size : Nat) : Bool :=
  (keep.all fun j => decide (j < ops.length)) && (List.range ops.length).all fun k =>
    (match ops[k]? with
      | some o => o.guard.isNone && (match o.op with | .select .. => false | _ => true) && (o.after.all fun e => !Region.binds .any e || decide (e.on < k)) && (match o.dst with | some d => decide (d < size) | none => true)
      | none => false) &&
    ((D.getD k []).all fun j => waits ops k j && decide (j < ops.length)) &&
    (decide ((D.getD k []).Nodup)) &&
    (List.range ops.length).all fun j =>
      (!looks ops k j || (D.getD k []).contains j || reach ops ops.length j k) &&
      (decide (j = k) || (match dstOf ops j, dstOf ops k with | some d, some e => d != e | _, _ => true)) &&
      (decide (j = k) ||
        ((!hard.contains k || reach ops ops.length j k || (!(keep.contains j || (List.range ops.length).any fun r => (D.getD r []).contains j && r != k && !reach ops ops.length k r) || (L.getD j .any).flat)) &&
          (!wild.contains k || reach ops ops.length k j || plain.contains j)))

theorem softOk_spec3 {ops : List Oper} {D : List (List Nat)} {L : List Fact} {hard wild plain keep : List Nat} {size : Nat} (h : softOk3 ops D L hard wild plain keep size = true) (k : Nat) (o : Oper) (hk : ops[k]? = some o) :
    o.guard = none ∧ (∀ cs b, o.op ≠ .select cs b) ∧ (∀ e ∈ o.after, Region.binds .any e = true → e.on < k) ∧ (∀ d, o.dst = some d → d < size) ∧
    (∀ j ∈ D.getD k [], waits ops k j = true ∧ j < ops.length) ∧ (∀ j, j < ops.length → looks ops k j = true → j ∈ D.getD k [] ∨ reach ops ops.length j k = true) ∧
    (∀ j d, j < ops.length → dstOf ops j = some d → o.dst = some d → j = k) ∧
    (∀ j, j < ops.length → j ≠ k → (k ∈ hard → reach ops ops.length j k = false → (j ∈ keep ∨ ∃ r, r < ops.length ∧ j ∈ D.getD r [] ∧ r ≠ k ∧ reach ops ops.length k r = false) → (L.getD j .any).flat = true) ∧ (k ∈ wild → reach ops ops.length k j = false → j ∈ plain)) := by
  have hlt : k < ops.length := (List.getElem?_eq_some_iff.1 hk).1
  unfold softOk3 at h
  rw [Bool.and_eq_true] at h
  have h := List.all_eq_true.1 h.2 k (List.mem_range.2 hlt)
  have hdk : dstOf ops k = o.dst := by simp [dstOf, hk]
  simp only [hk, Bool.and_eq_true, hdk] at h
  obtain ⟨⟨⟨⟨⟨⟨h1, h2⟩, h3⟩, h4⟩, h5⟩, _⟩, h6⟩ := h
  have h6 : ∀ j, j < ops.length → _ := fun j hj => List.all_eq_true.1 h6 j (List.mem_range.2 hj)
  refine ⟨by simpa using h1, fun cs b e => (by rw [e] at h2; cases h2), fun e he hb => ?_, fun d hd => by rw [hd] at h4; simpa using h4, fun j hj => ?_, fun j hj hl => ?_, fun j d hj hd hd' => ?_, fun j hj hne => ?_⟩
  · have := (Array.all_eq_true_iff_forall_mem.1 h3) e he
    simpa [hb] using this
  · have := List.all_eq_true.1 h5 j hj
    simpa using this
  · have := h6 j hj
    simp only [Bool.and_eq_true, hl] at this
    simpa using this.1.1
  · have := h6 j hj
    simp only [Bool.and_eq_true, hd, hd'] at this
    simpa using this.1.2
  · have := h6 j hj
    simp only [Bool.and_eq_true] at this
    have this := this.2
    simp only [hne, decide_false, Bool.false_or, Bool.and_eq_true] at this
    obtain ⟨t1, t2⟩ := this
    refine ⟨fun hh hjk hr => ?_, fun hh hr => ?_⟩
    · have hh' : hard.contains k = true := by simpa using hh
      simp only [hh', hjk, Bool.not_true, Bool.false_or, Bool.or_eq_true, Bool.not_eq_true'] at t1
      rcases t1 with t1 | t1
      · exfalso
        rw [Bool.or_eq_false_iff] at t1
        rcases hr with hr | ⟨r, hr, hjr, hrk, hn⟩
        · have := t1.1; simp [hr] at this
        · have := List.any_eq_false.1 t1.2 r (List.mem_range.2 hr)
          simp [hrk, hn] at this
          exact this hjr
      · exact t1
    · have hh' : wild.contains k = true := by simpa using hh
      simp only [hh', Bool.not_true, Bool.false_or, Bool.or_eq_true, hr] at t2
      simpa using t2

theorem soft_any3 {ops : List Oper} {D : List (List Nat)} {L : List Fact} {hard wild plain keep : List Nat} {a : Act} {w : World} (hB : softOk3 ops D L hard wild plain keep a.tmps.size = true)
    (hs : ∀ k o, ops[k]? = some o → oblig P ops D L hard wild plain a w k o)
    (hfin : ∀ vals x, facts L vals x keep → Q .normal (puts ops vals (List.range ops.length) a) x) :
    ∀ (fuel : Nat) (listed : Array Bool) (a' : Act) (x : World) (vals : Nat → Value), cnt (fun i => listed.getD i false) ops.length ≤ fuel →
      SoftInv ops D L plain keep a w listed a' x vals → wpAny P .any ops.toArray Q fuel listed a' x := by
  have hdd : ∀ i j t, dstOf ops i = some t → dstOf ops j = some t → i = j := fun i j t hi hj => by
    have hjl : j < ops.length := dst_lt hj
    have ho : ops[j]? = some ops[j] := List.getElem?_eq_getElem hjl
    exact (softOk_spec3 hB j _ ho).2.2.2.2.2.2.1 i t (dst_lt hi) hi (by simpa [dstOf, ho] using hj)
  have hds : ∀ j t, dstOf ops j = some t → t < a.tmps.size := fun j t hj => by
    have hjl : j < ops.length := dst_lt hj
    have ho : ops[j]? = some ops[j] := List.getElem?_eq_getElem hjl
    exact (softOk_spec3 hB j _ ho).2.2.2.1 t (by simpa [dstOf, ho] using hj)
  have hdone : ∀ (listed : Array Bool) (a' : Act) (x : World) (vals : Nat → Value), (∀ i, i < ops.length → listed.getD i false = true) → SoftInv ops D L plain keep a w listed a' x vals → Q .normal a' x := by
    intro listed a' x vals hall inv
    have ha : a' = puts ops vals (List.range ops.length) a := by
      have ht : a'.tmps = (puts ops vals (List.range ops.length) a).tmps := by
        apply Array.ext_getElem?
        intro t
        by_cases h : ∃ j, dstOf ops j = some t
        · obtain ⟨j, hj⟩ := h
          rw [inv.new j t (hall j (dst_lt hj)) hj, puts_get (fun i j => hdd i j t) _ _ j (List.mem_range.2 (dst_lt hj)) hj (hds j t hj)]
        · rw [inv.old t (fun j _ e => h ⟨j, e⟩), puts_ne _ _ (fun i _ e => h ⟨i, e⟩)]
      have hdf : a'.defers = (puts ops vals (List.range ops.length) a).defers := by rw [puts_defers]; exact inv.defers
      cases a'
      cases hp : puts ops vals (List.range ops.length) a
      rw [hp] at ht hdf
      simp only at ht hdf
      rw [ht, hdf]
    rw [ha]
    refine hfin vals x (facts_iff.2 fun i hi => ?_)
    have hk : i < ops.length := by
      unfold softOk3 at hB
      rw [Bool.and_eq_true] at hB
      simpa using List.all_eq_true.1 hB.1 i hi
    exact inv.fact i (hall i hk) (.inl hi)
  have hmin : ∀ (listed : Array Bool), listed.size = ops.length → ∀ i, i < ops.length → listed.getD i false = false → Region.ready .any ops.toArray listed ≠ [] := by
    intro listed hsz i
    induction i using Nat.strongRecOn with
    | _ i ih =>
      intro hi hun hr
      have ho : ops[i]? = some ops[i] := List.getElem?_eq_getElem hi
      by_cases h : ∀ e ∈ ops[i].after, Region.binds .any e = true → listed.getD e.on false = true
      · have : i ∈ Region.ready .any ops.toArray listed := mem_ready.2 ⟨getD_in (by omega) hun, ops[i], by simp [ho], h⟩
        rw [hr] at this; cases this
      · simp only [Classical.not_forall] at h
        obtain ⟨e, he, hb, hl⟩ := h
        have hlt := (softOk_spec3 hB i _ ho).2.2.1 e he hb
        exact ih e.on hlt (by omega) (by simpa using hl) hr
  intro fuel
  induction fuel with
  | zero =>
    intro listed a' x vals hc inv
    have hall := cnt_zero (f := fun i => listed.getD i false) (Nat.le_zero.1 hc)
    refine ⟨?_, hdone _ _ _ _ hall inv⟩
    cases hr : Region.ready .any ops.toArray listed with
    | nil => rfl
    | cons k rs =>
      exfalso
      have hk : k ∈ Region.ready .any ops.toArray listed := by rw [hr]; simp
      obtain ⟨h0, o, ho, _⟩ := mem_ready.1 hk
      have hlt : k < ops.length := by
        have := (Array.getElem?_eq_some_iff.1 ho).1; simpa using this
      have h1 : listed.getD k false = true := hall k hlt
      rw [getD_both h0] at h1; cases h1
  | succ fuel ih =>
    intro listed a' x vals hc inv
    refine ⟨fun hr => ?_, fun k hk => ?_⟩
    · refine hdone _ _ _ _ (fun i hi => ?_) inv
      cases h : listed.getD i false with
      | true => rfl
      | false => exact absurd hr (hmin listed inv.size i hi h)
    · obtain ⟨h0, o, hoA, hwait⟩ := mem_ready.1 hk
      have ho : ops[k]? = some o := by simpa using hoA
      have hkl : k < ops.length := (List.getElem?_eq_some_iff.1 ho).1
      have h0f : listed.getD k false = false := getD_both h0
      have hsz : k < listed.size := by rw [inv.size]; exact hkl
      obtain ⟨hg, hsel, _, hdsz, hD, hlook, hdist, hhard⟩ := softOk_spec3 hB k o ho
      have hw : ∀ m, waits ops k m = true → listed.getD m false = true := fun m hm => by
        obtain ⟨o', ho', e, he, hb, rfl⟩ := waits_spec.1 hm
        have : o' = o := Option.some.inj (ho'.symm.trans ho)
        subst this
        exact hwait e he hb
      have hDl : ∀ j ∈ D.getD k [], listed.getD j false = true := fun j hj => hw j (hD j hj).1
      have hdk : dstOf ops k = o.dst := by simp [dstOf, ho]
      -- the operation runs as it does in the small state
      have hexec : execOp a'.eval o = execOp (puts ops vals (D.getD k []) a).eval o := execOp_congr o hsel fun y hy => by
        cases y with
        | tmp t =>
          have ht : a'.tmps[t]? = (puts ops vals (D.getD k []) a).tmps[t]? := by
            by_cases h : ∃ j, dstOf ops j = some t
            · obtain ⟨j, hj⟩ := h
              rcases hlook j (dst_lt hj) (looks_spec ho hj hy) with hm | hm
              · rw [inv.new j t (hDl j hm) hj, puts_get (fun i j => hdd i j t) _ _ j hm hj (hds j t hj)]
              · have hjf : listed.getD j false = true → False := fun hjl => by
                  have := reach_listed inv.closed _ j k (fun m hm => inv.closed m j hm hjl) hm
                  rw [this] at h0f; cases h0f
                rw [inv.old t (fun i hi e => by have := hdd i j t e hj; subst this; exact hjf hi), puts_ne _ _ (fun i hi e => by have := hdd i j t e hj; subst this; exact hjf (hDl i hi))]
            · rw [inv.old t (fun j _ e => h ⟨j, e⟩), puts_ne _ _ (fun i _ e => h ⟨i, e⟩)]
          show a'.tmps.getD t undef = (puts ops vals (D.getD k []) a).tmps.getD t undef
          rw [Array.getD_eq_getD_getElem?, Array.getD_eq_getD_getElem?, ht]
        | _ => rfl
      have hob := hs k o ho vals x
        (by
          by_cases hp : k ∈ plain
          · exact .inl hp
          · exact .inr (inv.cond ⟨k, hkl, h0f, hp⟩))
        (facts_iff.2 fun j hj => inv.fact j (hDl j hj) (.inr ⟨k, hkl, h0f, hj⟩))
      have hbs : (puts ops vals (D.getD k []) a).tmps.size = a.tmps.size := puts_size _ _
      have hbd : (puts ops vals (D.getD k []) a).defers = a.defers := puts_defers _ _
      have next : ∀ v x', softQ L hard wild w.heap.size k o (puts ops vals (D.getD k []) a) x .normal ((puts ops vals (D.getD k []) a).put o.dst v) x' →
          wpAny P .any ops.toArray Q fuel (listed.setIfInBounds k true) (a'.put o.dst v) x' := by
        intro v x' hq
        obtain ⟨_, hV, hbel, hbel2⟩ := hq
        have hgs := getD_set (listed := listed) hsz
        have hold : ∀ j, (listed.setIfInBounds k true).getD j false = true → j ≠ k → listed.getD j false = true := fun j hj hne => by
          rw [hgs, if_neg hne] at hj; exact hj
        have hun : ∀ r, (listed.setIfInBounds k true).getD r false = false → r ≠ k ∧ listed.getD r false = false := fun r hr => by
          rw [hgs] at hr
          by_cases e : r = k
          · rw [if_pos e] at hr; cases hr
          · rw [if_neg e] at hr; exact ⟨e, hr⟩
        have hnr : ∀ r, listed.getD r false = false → reach ops ops.length k r = false := fun r hr => by
          cases h : reach ops ops.length k r with
          | false => rfl
          | true => rw [reach_listed inv.closed _ k r hw h] at hr; cases hr
        refine ih _ _ x' (fun j => if j = k then got o ((puts ops vals (D.getD k []) a).put o.dst v) else vals j) ?_ ⟨by simp [inv.size], fun j m hm hl => ?_, by rw [put_size]; exact inv.tsize, by rw [put_defers]; exact inv.defers, fun t ht => ?_, fun j t hj hdj => ?_, fun hr => ?_, fun j hj hr => ?_⟩
        · have := (cnt_set (f := fun i => listed.getD i false) (g := fun i => (listed.setIfInBounds k true).getD i false) h0f hgs (n := ops.length)).2 hkl
          omega
        · rw [hgs]
          by_cases e : j = k
          · rw [if_pos e]
          · rw [if_neg e]
            by_cases e' : m = k
            · subst e'; exact hw j hm
            · exact inv.closed j m hm (hold m hl e')
        · rw [put_get_ne _ _ _ _ (by
            have := ht k (by rw [hgs, if_pos rfl])
            rwa [hdk] at this)]
          refine inv.old t fun j hj => ht j ?_
          rw [hgs]; split <;> first | rfl | exact hj
        · by_cases e : j = k
          · subst e
            rw [hdk] at hdj
            have htl := hdsz t hdj
            rw [if_pos rfl, hdj, put_get _ _ _ (by rw [inv.tsize]; exact htl)]
            simp only [got, hdj]
            rw [Array.getD_eq_getD_getElem?, put_get _ _ _ (by rw [hbs]; exact htl)]
            rfl
          · rw [if_neg e, put_get_ne _ _ _ _ (fun e' => e (hdist j t (dst_lt hdj) hdj e'))]
            exact inv.new j t (hold j hj e) hdj
        · obtain ⟨r, hrl, hru, hrp⟩ := hr
          obtain ⟨hrk, hru'⟩ := hun r hru
          have hcd := inv.cond ⟨r, hrl, hru', hrp⟩
          rcases hbel2 with hh | hh | hb
          · exact absurd ((hhard r hrl hrk).2 hh (hnr r hru')) hrp
          · rcases hbel with hb | hb
            · exact absurd hb hh
            · exact hcd.trans (hb.mono hcd.size)
          · exact hcd.trans hb
        · by_cases e : j = k
          · subst e; rw [if_pos rfl]; exact hV
          · rw [if_neg e]
            have hjl := hold j hj e
            have hjlt : j < ops.length := listed_lt inv.size hjl
            have hold' : j ∈ keep ∨ ∃ r, r < ops.length ∧ listed.getD r false = false ∧ j ∈ D.getD r [] := by
              rcases hr with hr | ⟨r, hrl, hru, hjr⟩
              · exact .inl hr
              · exact .inr ⟨r, hrl, (hun r hru).2, hjr⟩
            have hVj := inv.fact j hjl hold'
            rcases hbel with hh | hb
            · have hjk : reach ops ops.length j k = false := by
                cases h : reach ops ops.length j k with
                | false => rfl
                | true => rw [reach_listed inv.closed _ j k (fun m hm => inv.closed m j hm hjl) h] at h0f; cases h0f
              refine (L.getD j .any).hflat ((hhard j hjlt e).1 hh hjk ?_) _ _ _ hVj
              rcases hr with hr | ⟨r, hrl, hru, hjr⟩
              · exact .inl hr
              · exact .inr ⟨r, hrl, hjr, (hun r hru).1, hnr r (hun r hru).2⟩
            · exact (L.getD j .any).stab _ _ _ hVj hb
      unfold wpOp
      rw [hoA]
      have hwant : Region.wanted o (yielded ops.toArray a'.tmps) = true := by unfold Region.wanted; rw [hg]
      simp only [hwant, if_true]
      refine .inl ?_
      unfold Oper.wp at hob ⊢
      rw [hexec]
      generalize (execOp (puts ops vals (D.getD k []) a).eval o).run P x = r at hob ⊢
      cases r with
      | ok n w' =>
        cases n <;> simp only [Oper.upon] at hob ⊢
        case value v => exact next v w' hob
        case skip => exact next _ w' hob
        case defer d =>
          have := hob.1
          rw [put_defers] at this
          exact absurd (congrArg List.length this) (by simp)
        case enter f args =>
          refine Calls.mono hob fun e w'' he => ?_
          cases e with
          | returned u => exact next u w'' he
          | panicked c => exact he.elim
          | outgrown => obtain ⟨_, _, h⟩ := he; exact h.elim
        case row row args => exact Rows.mono hob fun u w'' he => next u w'' he
      | halt e w' =>
        cases e <;> simp only [Oper.upon] at hob ⊢ <;> exact hob.elim

theorem wp_region_soft3 {id : Nat} {ops : List Oper} {a : Act} {w : World} (D : List (List Nat)) (L : List Fact) (hard wild plain keep : List Nat) (hm : P.follows .mixedOrders = true)
    (hB : softOk3 ops D L hard wild plain keep a.tmps.size = true)
    (hs : ∀ k o, ops[k]? = some o → oblig P ops D L hard wild plain a w k o)
    (hfin : ∀ vals x, facts L vals x keep → Q .normal (puts ops vals (List.range ops.length) a) x) : (Code.region id ops.toArray true).wp P Q a w := by
  refine wp_region_any hm ?_
  have h0 : ∀ j, (Array.replicate ops.toArray.size false).getD j false = false := fun j => getD_replicate_false _ _
  refine soft_any3 hB hs hfin _ _ _ _ (fun _ => undef) ?_ ⟨by simp, fun j k _ hl => ?_, rfl, rfl, fun _ _ => rfl, fun j t hj => ?_, fun _ => below_drewN (Below.refl _ _) 1, fun j hj => ?_⟩
  · have hle : ∀ (f : Nat → Bool) (n : Nat), cnt f n ≤ n := fun f n => by
      induction n with
      | zero => exact Nat.le_refl _
      | succ n ih => simp only [cnt]; split <;> omega
    exact Nat.le_trans (hle _ _) (by simp)
  · rw [h0] at hl; cases hl
  · rw [h0] at hj; cases hj
  · rw [h0] at hj; cases hj

theorem wp_region_shares3 {id : Nat} {ops : List Oper} {a : Act} {w : World} (D : List (List (Nat × Tmp))) (L : List Fact) (hard wild plain keep : List Nat) (all : List (Nat × Tmp)) (hm : P.follows .mixedOrders = true)
    (hB : softOk3 ops (D.map (·.map (·.1))) L hard wild plain keep a.tmps.size = true) (hD : D.all (fitsD ops) = true)
    (hall : (List.range ops.length).filterMap (fun i => (dstOf ops i).map fun t => (i, t)) = all)
    (hs : shares P L hard wild plain a w 0 ops D)
    (hfin : ∀ vals x, facts L vals x keep → Q .normal (putsD vals all a) x) : (Code.region id ops.toArray true).wp P Q a w := by
  refine wp_region_soft3 (D.map (·.map (·.1))) L hard wild plain keep hm hB (fun k o hk => ?_) (fun vals x hf => by rw [puts_all, hall]; exact hfin vals x hf)
  have hg := (softOk_spec3 hB k o hk).1
  have hsh := shares_get hs k o hk
  rw [Nat.zero_add] at hsh
  have hfit : fitsD ops (D.getD k []) = true := by
    rcases Nat.lt_or_ge k D.length with h | h
    · rw [show D.getD k [] = D[k] by simp [h]]; exact List.all_eq_true.1 hD _ (List.getElem_mem h)
    · rw [show D.getD k [] = [] by simp [h]]; rfl
  have hDk : (D.map (·.map (·.1))).getD k [] = (D.getD k []).map (·.1) := by
    rcases Nat.lt_or_ge k D.length with h | h
    · simp [h]
    · simp [h]
  intro vals x hc hf
  rw [hDk, facts_factsD] at hf
  have h := hsh vals x hc hf
  rw [hDk, puts_putsD hfit]
  unfold wpList at h
  rw [if_pos (by unfold Region.wanted; rw [hg])] at h
  rcases h with h | ⟨_, _, _, h⟩
  · exact h
  · exact h.elim

end Go.Proofs.YtiahmfpfimmbgaaGreatDoor
