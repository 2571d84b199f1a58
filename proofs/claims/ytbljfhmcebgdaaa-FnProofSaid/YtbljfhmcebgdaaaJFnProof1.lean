/- append of a whole slice onto a row of the call's own. No program is named here. A drawn region whose operations but the last ones are quiet in every later world, and whose last ones come in one forced order. No program is named here. Contracts of the laws' sizes, copies and comparisons of clauses; the reference's CnfOk. The reference's absolute value. Contracts of the reference's clauses and unit propagation: l4Clause, CnfOk, l5Sign, l5Look, l5Find. -/
import Derived.Deep.RegionHeld3
import Derived.Handy
import Derived.StillTail
import Derived.Test.YtbljfhmcebgdaaaJFnProof0
/-! append of a whole slice onto a row of the call's own. No program is named here. -/
namespace Go.Proofs.Ytbljfhmcebgdaaa
open Go Go.RowKit

/-- The slice '.slice A m c' has the cells xs, in the world w. -/
def Src (w : World) (size : Nat) (A : Option Addr) (m : Nat) (xs : List Value) : Prop :=
  xs.length = m * size ∧ (0 < m → ∃ ad, A = some ad ∧ ∀ j u, xs[j]? = some u → w.cell? (ad.add j) = some u)

section
variable {P : Program} (w : World)

theorem run_append_of_nil (base : Nat) (t ty e : TypeId) (i : TypeInfo) (size : Nat) (ht : P.underlying t = some (.slice e)) (hi : P.info? e = some i)
    (v : Value) (n : Nat) (xs : List Value) (hown : w.ownsRow base e size v n xs) (c : Nat) : (Builtin.append_ #[t, t] ty #[v, .slice none 0 c]).run P w = .ok v w := by
  rcases hown.2 with ⟨rfl, rfl⟩ | ⟨g, cap, cur, rfl, _, _, hnc, _⟩
  · simp [Builtin.append_, run_underlying ht, sizeOf, typeInfo, hi, Builtin.lenOf, Builtin.firstCells]
  · simp [Builtin.append_, run_underlying ht, sizeOf, typeInfo, hi, Builtin.lenOf, Builtin.firstCells, hnc, storeCells]

theorem run_append_src (base : Nat) (t ty e : TypeId) (i : TypeInfo) (z : Value) (size bytes : Nat) (ht : P.underlying t = some (.slice e)) (hi : P.info? e = some i) (hz : i.zero = some z)
    (hsize : i.size = size) (hby : i.bytes = bytes) (hzs : z.cells.size = size) (hsz : 0 < size)
    (v : Value) (n : Nat) (xs : List Value) (hown : w.ownsRow base e size v n xs)
    (A : Option Addr) (m c : Nat) (news : List Value) (hr : Src w size A m news) (h1 : ∀ u ∈ news, u.oneCell' = true)
    (nm : Nat) (hnm : n + m = nm) (h63 : nm ≤ maxLen) (hbytes : nm * bytes ≤ 140737488355328) (hbase : base ≤ w.heap.size) (hA : A = none → m = 0) :
    ∃ A' c' w', (Builtin.append_ #[t, t] ty #[v, .slice A m c]).run P w = .ok (.slice A' nm c') w' ∧ w'.ownsRow base e size (.slice A' nm c') nm (xs ++ news) ∧ w.grownBy w' v.ownBlock := by
  subst hnm
  suffices H : ∃ v' w', (Builtin.append_ #[t, t] ty #[v, .slice A m c]).run P w = .ok v' w' ∧ w'.ownsRow base e size v' (n + m) (xs ++ news) ∧ w.grownBy w' v.ownBlock by
    obtain ⟨v', w', h1, h2, h3⟩ := H
    rcases h2.2 with ⟨e1, e2⟩ | ⟨g, cap, cur, e1, _⟩
    · exact ⟨none, 0, w', by rw [h1, e1, e2], by rw [e1] at h2; rw [e2] at h2 ⊢; exact h2, h3⟩
    · exact ⟨_, cap, w', by rw [h1, e1], by rw [e1] at h2; exact h2, h3⟩
  rcases A with _ | ad
  · have hm : m = 0 := hA rfl
    subst hm
    have hn : news = [] := List.eq_nil_of_length_eq_zero (by simpa using hr.1)
    subst hn
    exact ⟨v, w, run_append_of_nil w base t ty e i size ht hi v n xs hown c, by simpa using hown, World.grownBy.refl _ _⟩
  · have hcells : ∀ j u, news[j]? = some u → w.cell? (ad.add j) = some u := by
      intro j u hu
      rcases Nat.eq_zero_or_pos m with h0 | h0
      · subst h0
        have hn : news = [] := List.eq_nil_of_length_eq_zero (by simpa using hr.1)
        subst hn
        simp at hu
      · obtain ⟨ad', h, hc⟩ := hr.2 h0
        injection h with h
        subst h
        exact hc j u hu
    obtain ⟨v', w', hrun, h2, h3, _, _⟩ := run_append_own_at (P := P) w base t ty e i z size bytes ht hi hz hsize hby hzs hsz v n xs hown ad m c news hr.1 hcells h1 h63 hbytes hbase
    exact ⟨v', w', hrun, h2, h3⟩

theorem wp_append_src {o : Oper} {a : Act} {K : Act → World → Prop} {Q : Exit → Act → World → Prop} (s x : Operand) (t : TypeId)
    (ho : o.op = .call { callee := .builtin .append, args := #[s, x], argTypes := #[t, t] })
    (base : Nat) (e : TypeId) (i : TypeInfo) (z : Value) (size bytes : Nat) (ht : P.underlying t = some (.slice e)) (hi : P.info? e = some i) (hz : i.zero = some z)
    (hsize : i.size = size) (hby : i.bytes = bytes) (hzs : z.cells.size = size) (hsz : 0 < size)
    (v : Value) (n : Nat) (xs : List Value) (hs : a.eval s = v) (hown : w.ownsRow base e size v n xs)
    (A : Option Addr) (m c : Nat) (news : List Value) (hx : a.eval x = .slice A m c) (hr : Src w size A m news) (h1 : ∀ u ∈ news, u.oneCell' = true)
    (nm : Nat) (hnm : n + m = nm) (h63 : nm ≤ maxLen) (hbytes : nm * bytes ≤ 140737488355328) (hbase : base ≤ w.heap.size) (hA : A = none → m = 0)
    (h : ∀ A' c' w', w'.ownsRow base e size (.slice A' nm c') nm (xs ++ news) → Below base w w' → w.grownBy w' v.ownBlock → K (a.put o.dst (.slice A' nm c')) w') : o.wp P a w K Q := by
  obtain ⟨A', c', w', hrun, h2, h3⟩ := run_append_src (P := P) w base t o.type e i z size bytes ht hi hz hsize hby hzs hsz v n xs hown A m c news hr h1 nm hnm h63 hbytes hbase hA
  unfold Oper.wp execOp
  simp only [ho, resolve, invoke, builtin, Sem.run_bind, Sem.run_pure, Result.andThen_ok, List.map_toArray, List.map_cons, List.map_nil, hs, hx, hrun]
  exact h A' c' w' h2 ((Below.refl _ _).grown h3 hbase (fun k hk => (hown.lt k hk).1)) h3

theorem wpList_append_src {ops : Array Oper} {rest : List Oper} {o : Oper} {a : Act} {Q : Exit → Act → World → Prop} (hgd : o.guard = none) (s x : Operand) (t : TypeId)
    (ho : o.op = .call { callee := .builtin .append, args := #[s, x], argTypes := #[t, t] })
    (base : Nat) (e : TypeId) (i : TypeInfo) (z : Value) (size bytes : Nat) (ht : P.underlying t = some (.slice e)) (hi : P.info? e = some i) (hz : i.zero = some z)
    (hsize : i.size = size) (hby : i.bytes = bytes) (hzs : z.cells.size = size) (hsz : 0 < size)
    (v : Value) (n : Nat) (xs : List Value) (hs : a.eval s = v) (hown : w.ownsRow base e size v n xs)
    (A : Option Addr) (m c : Nat) (news : List Value) (hx : a.eval x = .slice A m c) (hr : Src w size A m news) (h1 : ∀ u ∈ news, u.oneCell' = true)
    (nm : Nat) (hnm : n + m = nm) (h63 : nm ≤ maxLen) (hbytes : nm * bytes ≤ 140737488355328) (hbase : base ≤ w.heap.size) (hA : A = none → m = 0)
    (h : ∀ A' c' w', w'.ownsRow base e size (.slice A' nm c') nm (xs ++ news) → Below base w w' → w.grownBy w' v.ownBlock → wpList P ops Q rest (a.put o.dst (.slice A' nm c')) w') : wpList P ops Q (o :: rest) a w :=
  wpList_plain hgd fun _ hK => wp_append_src w s x t ho base e i z size bytes ht hi hz hsize hby hzs hsz v n xs hs hown A m c news hx hr h1 nm hnm h63 hbytes hbase hA fun A' c' w' h2 h3 h4 => hK _ _ (h A' c' w' h2 h3 h4)

end
theorem src_block {W : World} {B : Nat} {e : TypeId} {cs : Array Value} {fr : Nat × Nat} {size m : Nat} (hb : W.heap[B]? = some (.cells cs e fr)) (hm : cs.size = m * size) : Src W size (some ⟨B, 0, none⟩) m cs.toList :=
  ⟨by simpa using hm, fun _ => ⟨_, rfl, World.news_of_block hb⟩⟩
theorem own_lit0 {W : World} {S : Nat} {e : TypeId} {size : Nat} (hS : W.heap.size = S) : (W.alloc (.cells #[] e)).ownsRow S e size (.slice (some ⟨S, 0, none⟩) 0 0) 0 [] := by
  subst hS; exact World.ownsRow_lit W #[] 0 (Nat.le_refl _) (by unfold maxLen; omega) (by simp)
end Go.Proofs.Ytbljfhmcebgdaaa

/-! A drawn region whose operations but the last ones are quiet in every later world, and whose last ones come in one forced order. No program is named here. -/
namespace Go.Proofs.Ytbljfhmcebgdaaa
open Go Go.RowKit

section
variable {P : Program} {ops : Array Oper} {md : Region.Mode} {C : World → Prop}

/-- Whatever order is picked among the first n, till the list says that they are done. -/
def anyHead (P : Program) (md : Region.Mode) (ops : Array Oper) (C : World → Prop) (n : Nat) (L : Array Bool → Act → Prop) : Nat → Array Bool → Act → Prop
  | 0, listed, a => L listed a
  | f + 1, listed, a => Region.ready md ops listed ≠ [] ∧ ∀ i ∈ Region.ready md ops listed, i < n ∧ qOp P ops C i (anyHead P md ops C n L f (listed.setIfInBounds i true)) a

theorem any_of_head {n g : Nat} {L : Array Bool → Act → Prop} {Q' : Exit → Act → World → Prop} (hL : ∀ listed a w, C w → L listed a → wpAny P md ops Q' g listed a w) :
    ∀ (f : Nat) (listed : Array Bool) (a : Act) (w : World), C w → anyHead P md ops C n L f listed a → wpAny P md ops Q' (f + g) listed a w
  | 0, listed, a, w, hw, h => by rw [Nat.zero_add]; exact hL _ _ _ hw h
  | f + 1, listed, a, w, hw, h => by
    rw [show f + 1 + g = (f + g) + 1 by omega]
    exact ⟨fun h0 => absurd h0 h.1, fun i hi => wpOp_of_qOp hw (fun a' w' hw' h' => any_of_head hL f _ a' w' hw' h') (h.2 i hi).2⟩

theorem head_first {n i : Nat} {oi : Oper} {v : Value} {L : Array Bool → Act → Prop} (hi : ops[i]? = some oi) (hsel : ∀ (j : Nat) (o : Oper) cs b, ops[j]? = some o → o.op ≠ .select cs b)
    (hs : Region.sinkB md ops n = true) (hc : Region.chainB md ops n = true) (hn : n < ops.size) (hin : i < n) (hdone : ∀ listed a, L listed a → ∀ j ∈ Region.ready md ops listed, n ≤ j) :
    ∀ (f : Nat) (listed : Array Bool) (a : Act), HeadInv md ops n listed →
      (∀ j oj, ops[j]? = some oj → j ≠ i → listed.getD j true = false → (∀ e ∈ oj.after, Region.binds md e = true → e.on ≠ i) → oi.apart ops oj = true) →
      i ∈ Region.ready md ops listed → YieldsIn P ops C oi v a →
      anyHead P md ops C n L f (listed.setIfInBounds i true) (a.put oi.dst v) → anyHead P md ops C n L (f + 1) listed a := by
  intro f
  induction f with
  | zero =>
    intro listed a inv _ hr hy H
    have hun := (mem_ready.1 hr).1
    refine ⟨fun h => (by rw [h] at hr; cases hr), fun j hj => ?_⟩
    have hjn : j < n := Nat.lt_of_not_le fun h => tail_waits hs hc hn inv _ i rfl hin hun j h hj
    refine ⟨hjn, ?_⟩
    by_cases hji : j = i
    · subst hji; exact hy.qOp hi H
    · have := hdone _ _ H j (ready_mono hj hji)
      omega
  | succ f ih =>
    intro listed a inv hfree hr hy H
    have hun := (mem_ready.1 hr).1
    refine ⟨fun h => (by rw [h] at hr; cases hr), fun j hj => ?_⟩
    have hjn : j < n := Nat.lt_of_not_le fun h => tail_waits hs hc hn inv _ i rfl hin hun j h hj
    refine ⟨hjn, ?_⟩
    by_cases hji : j = i
    · subst hji; exact hy.qOp hi H
    · have h1 := (H.2 j (ready_mono hj hji)).2
      obtain ⟨hjun, oj, hoj, hall⟩ := mem_ready.1 hj
      have hnot : ∀ e ∈ oj.after, Region.binds md e = true → e.on ≠ i := fun e he hb heq => by
        have h1 := hall e he hb
        rw [heq, getD_both hun] at h1
        cases h1
      have h2 := qOp_put hoj (hfree j oj hoj hji hjun hnot) (fun cs b => hsel i oi cs b hi) (fun cs b => hsel j oj cs b hoj) hy h1
      refine qOp_mono (fun a' h3 => ih (listed.setIfInBounds j true) a' (inv.set hj hjn) (fun k ok hk hki hku hno => hfree k ok hk hki ?_ hno) (ready_mono hr (Ne.symm hji)) h3.1 ?_) h2
      · by_cases hjk : j = k
        · subst hjk; exact hjun
        · rw [getD_set_ne true hjk] at hku; exact hku
      · rw [Array.setIfInBounds_comm _ _ hji]
        exact h3.2

theorem head_lex {n g : Nat} {Lq : Act → Prop} (hsel : Region.noSelect ops = true) (hs : Region.sinkB md ops n = true) (hc : Region.chainB md ops n = true) (hn : n < ops.size) :
    ∀ (l : List Oper) (k : Nat) (listed : Array Bool) (a : Act), (∀ j, j < l.length → l[j]? = ops[k + j]?) → k + l.length = n → HeadInv md ops n listed →
    Region.lexHead md ops g l.length k listed = true → wpQuiet P ops C Lq l a →
    anyHead P md ops C n (fun listed' a' => Region.seqB md ops g n listed' = true ∧ Lq a') l.length listed a
  | [], k, listed, a, _, hk, _, hB, h => by
    have : k = n := by simpa using hk
    subst this
    exact ⟨by simpa [Region.lexHead] using hB, h⟩
  | o :: l, k, listed, a, hl, hk, inv, hB, h => by
    have h0 : ops[k]? = some o := by simpa using (hl 0 (by simp)).symm
    simp only [List.length_cons, Region.lexHead, Bool.and_eq_true] at hB
    obtain ⟨⟨hr, hf⟩, hB'⟩ := hB
    have hkn : k < n := by simp only [List.length_cons] at hk; omega
    have hr' : k ∈ Region.ready md ops listed := by simpa using hr
    obtain ⟨v, hy, hK⟩ := yieldsIn_of_qOp (P := P) (C := C) (K := wpQuiet P ops C Lq l) h0 (by unfold qOp; simp only [h0]; exact h)
    exact head_first h0 (Region.noSelect_spec hsel) hs hc hn hkn (fun listed' a' hL => seqB_ready hL.1) l.length listed a inv (Region.free_spec h0 hf) hr' hy
      (head_lex hsel hs hc hn l (k + 1) _ _ (fun j hj => by have := hl (j + 1) (by simp; omega); simpa [Nat.add_assoc, Nat.add_comm 1 j] using this) (by simp only [List.length_cons] at hk; omega) (inv.set hr' hkn) hB' hK)

/-- n quiet operations, in whatever order, in the class C; then the others, one behind the other. -/
theorem wp_region_quiet_tail {id : Nat} {Q : Exit → Act → World → Prop} {a : Act} {w : World} {l : List Oper} (n : Nat) (hm : P.follows .mixedOrders = true) (hB : Region.lexTailB .any l.toArray n = true)
    (hC : C { w with drawn := w.drawn + 1 }) (h : wpQuiet P l.toArray C (fun a' => ∀ w', C w' → wpList P l.toArray Q (l.drop n) a' w') (l.take n) a) : (Code.region id l.toArray true).wp P Q a w := by
  simp only [Region.lexTailB, Bool.and_eq_true, decide_eq_true_eq] at hB
  obtain ⟨⟨⟨⟨hsel, hn⟩, hs⟩, hc⟩, hlex⟩ := hB
  have hn' : n < l.length := by simpa using hn
  have htl : (l.take n).length = n := by simp; omega
  have hdl : (l.drop n).length = l.toArray.size - n := by simp
  have inv0 : HeadInv .any l.toArray n (Array.replicate l.toArray.size false) :=
    ⟨by simp, fun j oj _ hl => (by rw [getD_replicate_false] at hl; cases hl), fun t _ ht => getD_in (by simpa using ht) (getD_replicate_false _ _)⟩
  have H := head_lex (C := C) (md := .any) (g := l.toArray.size - n) hsel hs hc hn (l.take n) 0 _ a (fun j hj => by
    have hj' : j < n := by rw [htl] at hj; exact hj
    simp [hj']) (by simpa using htl) inv0 (by rw [htl]; exact hlex) h
  refine wp_region_any hm ?_
  have := any_of_head (Q' := Q) (g := l.toArray.size - n) (fun listed a' w' hw' hL => by
    have := wpAny_of_seq (md := .any) (Q' := Q) (l.drop n) n listed a' w' (fun j => by simp [List.getElem?_drop]) (by rw [hdl]; exact hL.1) (hL.2 w' hw')
    rwa [hdl] at this) _ _ _ _ hC H
  rw [htl, show n + (l.toArray.size - n) = l.toArray.size by omega] at this
  exact this
end

/-- The same in every later world. -/
theorem wp_region_later_tail {P : Program} {id : Nat} {Q : Exit → Act → World → Prop} {a : Act} {w : World} {l : List Oper} (n : Nat) (hm : P.follows .mixedOrders = true) (hB : Region.lexTailB .any l.toArray n = true)
    (h : wpQuiet P l.toArray (fun w' => ∃ x : Later w, w' = x.W) (fun a' => ∀ w', (∃ x : Later w, w' = x.W) → wpList P l.toArray Q (l.drop n) a' w') (l.take n) a) : (Code.region id l.toArray true).wp P Q a w :=
  wp_region_quiet_tail (C := fun w' => ∃ x : Later w, w' = x.W) n hm hB ⟨⟨w.drewN 1, below_drewN (Below.refl _ _) 1⟩, rfl⟩ h
end Go.Proofs.Ytbljfhmcebgdaaa

/-! Contracts of the laws' sizes, copies and comparisons of clauses; the reference's CnfOk. -/
namespace Go.Proofs.Ytbljfhmcebgdaaa
open Go Go.RowKit

theorem toIntSS_info : (Try.prog.info? 26).map (fun i => (i.zero, i.size, i.bytes)) = some (some ((.slice none 0 0)), 1, 24) := by kernel_rfl
end Go.Proofs.Ytbljfhmcebgdaaa

/-! The reference's absolute value. -/
namespace Go.Proofs.Ytbljfhmcebgdaaa
open Go Go.RowKit

theorem l4Abs_any (n : Int) (w : World) (h0 : -9223372036854775808 < n) (h1 : n ≤ 9223372036854775807) :
    Calls Try.prog 75 #[.int .i64 n] w fun e w' => e = .returned (.int .i64 n.natAbs) ∧ w = w' := by
  by_cases h : n < 0
  all_goals
    go_enter Try.func75, Try.ntmps75
    go_wp2
    go_ret
    exact ⟨ret_int (by omega), rfl⟩
end Go.Proofs.Ytbljfhmcebgdaaa

/-! Contracts of the reference's clauses and unit propagation: l4Clause, CnfOk, l5Sign, l5Look, l5Find. -/
namespace Go.Proofs.Ytbljfhmcebgdaaa
open Go Go.RowKit

theorem cOk_no {many last : Int} {cl : List Int} {k : Nat} (h : k < cl.length) (hn : cl[k] < -many ∨ many < cl[k] ∨ (cl[k].natAbs : Int) ≤ last) : cOk many last (cl.drop k) = false := by
  rw [cOk_drop h, Bool.eq_false_iff]
  intro e
  simp only [Bool.and_eq_true, decide_eq_true_eq] at e
  omega
theorem cOk_yes {many last : Int} {cl : List Int} {k : Nat} (h : k < cl.length) (h1 : -many ≤ cl[k]) (h2 : cl[k] ≤ many) (h3 : last < (cl[k].natAbs : Int)) : cOk many last (cl.drop k) = cOk many (cl[k].natAbs) (cl.drop (k + 1)) := by
  rw [cOk_drop h]; simp [h1, h2, h3]
set_option maxHeartbeats 1000000 in
theorem l4Clause_any (A : Option Addr) (c : Nat) (cl : List Int) (many : Int) (F : Nat → Prop) (w : World) (h : Lay.int.Sl w F A cl) (hn : cl.length ≤ 1048576) (m0 : 0 ≤ many) (m1 : many ≤ 700) :
    Calls Try.prog 45 #[.slice A cl.length c, .int .i64 many] w fun e w' => e = .returned (.bool (clOk many cl)) ∧ w = w' := by
  unfold clOk
  have em : IntKind.i64.wrap (-many) = -many := IntWalk.i64_in _ (by omega)
  go_enter Try.func45, Try.ntmps45
  go_wp2
  go_loop [5, 6] (fun l i => ∃ (k : Nat) (last : Int), k ≤ cl.length ∧ i = .int .i64 k ∧ l = .int .i64 last ∧ cOk many 0 cl = cOk many last (cl.drop k)) (fun _ i => cl.length - (intOf i).toNat)
  case atStart => exact ⟨0, 0, Nat.zero_le _, rfl, rfl, by simp⟩
  case round =>
    obtain ⟨k, last, hk, rfl, rfl, ht⟩ := hrel
    have HT := Lib.hid ht
    clear ht
    by_cases hlt : k < cl.length
    · obtain ⟨ad, rfl, hf, hc⟩ := h.at_int hlt
      have hk1 : (k : Int) < cl.length := by omega
      have hno := fun hn => cOk_no (many := many) (last := last) hlt hn
      have hyes := cOk_yes (many := many) (last := last) hlt
      generalize cl[k] = a at *
      have HNO := Lib.hid hno
      have HYES := Lib.hid hyes
      clear hno hyes
      by_cases q0 : a < -many
      · have HE := Lib.hid (HNO.out (.inl q0))
        go_wp2
        go_ret
        exact ⟨ret_bool (by rw [HT.out, HE.out]), rfl⟩
      by_cases q1 : many < a
      · have HE := Lib.hid (HNO.out (.inr (.inl q1)))
        go_wp2
        go_ret
        exact ⟨ret_bool (by rw [HT.out, HE.out]), rfl⟩
      have qa : ∀ W : World, Calls Try.prog 75 #[.int .i64 a] W fun e w' => e = .returned (.int .i64 a.natAbs) ∧ W = w' := fun W => l4Abs_any a W (by omega) (by omega)
      generalize hna : (a.natAbs : Int) = na at *
      have Qa := Lib.hid qa
      clear qa hna
      by_cases q2 : na ≤ last
      · have HE := Lib.hid (HNO.out (.inr (.inr q2)))
        go_wp2_with fail
        refine (Qa.out _).mono ?_
        rintro e w' ⟨rfl, rfl⟩
        go_wp2
        go_ret
        exact ⟨ret_bool (by rw [HT.out, HE.out]), rfl⟩
      have HE := Lib.hid (HYES.out (by omega) (by omega) (by omega))
      go_wp2_with fail
      refine (Qa.out _).mono ?_
      rintro e w' ⟨rfl, rfl⟩
      go_wp2_with fail
      refine (Qa.out _).mono ?_
      rintro e w' ⟨rfl, rfl⟩
      go_wp2
      go_round
      case rel => exact ⟨k + 1, na, by omega, by go_num, rfl, by rw [HT.out, HE.out]⟩
      case measure => simp [intOf]; omega
    · have hke : k = cl.length := by omega
      subst hke
      have HE := Lib.hid (show cOk many last (cl.drop cl.length) = true by rw [List.drop_length]; rfl)
      go_wp2
      go_ret
      exact ⟨ret_bool (by rw [HT.out, HE.out]), rfl⟩

theorem cnfOk_iff (c : C) : cnfOk c = true ↔ 0 ≤ c.many ∧ c.many ≤ 700 ∧ c.list.length ≤ 2500 ∧ ∀ k (h : k < c.list.length), clOk c.many c.list[k] = true := by
  simp only [cnfOk, Bool.and_eq_true, decide_eq_true_eq, List.all_eq_true, and_assoc]
  constructor
  · rintro ⟨h1, h2, h3, h4⟩
    exact ⟨h1, h2, h3, fun k hk => h4 _ (List.getElem_mem hk)⟩
  · rintro ⟨h1, h2, h3, h4⟩
    refine ⟨h1, h2, h3, fun x hx => ?_⟩
    obtain ⟨k, hk, rfl⟩ := List.getElem_of_mem hx
    exact h4 k hk
theorem cnfOk_no {c : C} (h : c.many < 0 ∨ 700 < c.many ∨ 2500 < c.list.length ∨ ∃ k, ∃ h : k < c.list.length, clOk c.many c.list[k] = false) : cnfOk c = false := by
  rw [Bool.eq_false_iff]
  intro e
  obtain ⟨h1, h2, h3, h4⟩ := (cnfOk_iff c).1 e
  rcases h with h | h | h | ⟨k, hk, h⟩
  · omega
  · omega
  · omega
  · rw [h4 k hk] at h; cases h
/-- All lists of a formula are short. -/
def shortC (c : C) : Prop := c.list.length ≤ 1048576 ∧ ∀ l ∈ c.list, l.length ≤ 1048576
set_option maxHeartbeats 1000000 in
theorem specCnfOk_any (A : Option Addr) (p : Nat) (c : C) (F : Nat → Prop) (w : World) (h : Lay.int.slice.Sl w F A c.list) (hF : ∀ b, F b → b < w.heap.size) (hn : shortC c) :
    Calls Try.prog 44 #[.agg #[.int .i64 c.many, .slice A c.list.length p]] w fun e w' => e = .returned (.bool (cnfOk c)) ∧ Below w.heap.size w w' := by
  obtain ⟨hn1, hn2⟩ := hn
  have hw : Below w.heap.size w (w.alloc (.cells #[.int .i64 c.many, .slice A c.list.length p] 25)) := (Below.refl _ _).alloc (Nat.le_refl _) _
  have H := h.below hw hF
  have hFW : ∀ b, F b → b < (w.alloc (.cells #[.int .i64 c.many, .slice A c.list.length p] 25)).heap.size := fun b hb => Nat.lt_of_lt_of_le (hF b hb) hw.size
  by_cases h0 : c.many < 0
  · have HN := Lib.hid (cnfOk_no (.inl h0))
    go_enter Try.func44, Try.ntmps44
    go_wp2
    go_ret
    exact ⟨ret_bool (by rw [HN.out]), hw⟩
  by_cases h1 : 700 < c.many
  · have HN := Lib.hid (cnfOk_no (.inr (.inl h1)))
    go_enter Try.func44, Try.ntmps44
    go_wp2
    go_ret
    exact ⟨ret_bool (by rw [HN.out]), hw⟩
  by_cases h2 : 2500 < c.list.length
  · have HN := Lib.hid (cnfOk_no (.inr (.inr (.inl h2))))
    go_enter Try.func44, Try.ntmps44
    go_wp2
    go_ret
    exact ⟨ret_bool (by rw [HN.out]), hw⟩
  have v0 : (w.alloc (.cells #[.int .i64 c.many, .slice A c.list.length p] 25)).cell? ⟨w.heap.size, 0, none⟩ = some (.int .i64 c.many) := by simp [go_sem]
  have v1 : (w.alloc (.cells #[.int .i64 c.many, .slice A c.list.length p] 25)).cell? ⟨w.heap.size, 1, none⟩ = some (.slice A c.list.length p) := by simp [go_sem]
  go_enter Try.func44, Try.ntmps44
  go_wp2
  generalize w.alloc (.cells #[.int .i64 c.many, .slice A c.list.length p] 25) = W at *
  go_loopw [3] (fun i wr => ∃ j : Nat, j ≤ c.list.length ∧ i = .int .i64 j ∧ Below W.heap.size W wr ∧ ∀ k (h : k < c.list.length), k < j → clOk c.many c.list[k] = true) (fun i _ => c.list.length - (intOf i).toNat)
  case atStart => exact ⟨0, Nat.zero_le _, rfl, Below.refl _ _, fun k _ h => absurd h (by omega)⟩
  case round =>
    obtain ⟨j, hj, rfl, hb, hg⟩ := hrel
    have HG := Lib.hid hg
    clear hg
    have c0 := (hb.cell (World.block_lt_of_cell? W _ v0)).trans v0
    have c1 := (hb.cell (World.block_lt_of_cell? W _ v1)).trans v1
    by_cases hlt : j < c.list.length
    · obtain ⟨ad, A', c', rfl, hf, k1, hl1, s1⟩ := (H.below hb hFW).at_slice hlt
      have d0 := Later.cell c0
      have d1 := Later.cell c1
      have d2 := Later.cell k1
      have hFr : ∀ b, F b → b < wr.heap.size := fun b hb' => Nat.lt_of_lt_of_le (hFW b hb') hb.size
      have hj0 : (0 : Int) ≤ j := by omega
      have hj1 : (j : Int) < c.list.length := by omega
      generalize hq : clOk c.many c.list[j] = q at *
      have HQ := Lib.hid hq
      have hsh := hn2 _ (List.getElem_mem hlt)
      clear hq
      go_wp2
      refine wp_region_later (by kernel_rfl) (by kernel_rfl) ?_
      repeat (go_big_quiet_step ((go_at_call 45; with_reducible exact later_of_same (l4Clause_any A' c' c.list[j] c.many F _ (s1.below (Later.le _) hFr) hsh (by omega) (by omega)))))
      refine wpQuiet_nil ?_
      rintro _ ⟨x, rfl⟩
      rw [HQ.out]
      cases q
      · have HN := Lib.hid (cnfOk_no (.inr (.inr (.inr ⟨j, hlt, HQ.out⟩))))
        go_wp2
        go_ret
        exact ⟨ret_bool (by rw [HN.out]), bthen (bthen hw hb) x.le⟩
      · go_wp2
        go_roundw
        case rel => exact ⟨j + 1, by omega, by go_num, bthen hb x.le, fun k h9 hk9 => by
          rcases Nat.lt_or_ge k j with h' | h'
          · exact HG.out k h9 h'
          · have : k = j := by omega
            subst this; exact HQ.out⟩
        case measure => simp [intOf]; omega
    · have hje : j = c.list.length := by omega
      subst hje
      have HN := Lib.hid ((cnfOk_iff c).2 ⟨by omega, by omega, by omega, fun k h9 => HG.out k h9 h9⟩)
      go_wp2
      go_ret
      exact ⟨ret_bool (by rw [HN.out]), bthen hw hb⟩

/-- The list says of each mark how it is. -/
def Vals (many : Nat) (put : List Int) (vs : List Int) : Prop := vs.length = many + 1 ∧ ∀ v : Nat, 1 ≤ v → v ≤ many → vs[v]? = some (sg put v)
theorem sg_neg {many : Int} {put : List Int} (h : Good many put) {m : Int} (hm : m ≠ 0) : sg put (-m) = -sg put m := by
  unfold sg
  by_cases h1 : m ∈ put
  · have h2 : -m ∉ put := fun h2 => h.apart h1 h2
    rw [if_neg h2, if_pos h1, if_pos (by simpa using h1)]
  · by_cases h2 : -m ∈ put
    · rw [if_pos h2, if_neg h1, if_pos h2]; rfl
    · rw [if_neg h2, if_neg h1, if_neg h2, if_neg (by simpa using h1)]; rfl
theorem sg_rng (put : List Int) (m : Int) : sg put m = 1 ∨ sg put m = -1 ∨ sg put m = 0 := by
  unfold sg
  split
  · exact .inl rfl
  · split
    · exact .inr (.inl rfl)
    · exact .inr (.inr rfl)
theorem l5Sign_any (A : Option Addr) (c : Nat) (many : Nat) (put vs : List Int) (m : Int) (F : Nat → Prop) (w : World) (h : Lay.int.Sl w F A vs) (hg : Good many put) (hv : Vals many put vs) (h0 : m ≠ 0) (h1 : -(many : Int) ≤ m) (h2 : m ≤ many) (hmany : many ≤ 1048576) :
    Calls Try.prog 114 #[.slice A vs.length c, .int .i64 m] w fun e w' => e = .returned (.int .i64 (sg put m)) ∧ w = w' := by
  obtain ⟨hl, hv⟩ := hv
  have hneg := sg_neg hg h0
  have hr := sg_rng put m
  by_cases hp : 0 < m
  · have hk : m.toNat < vs.length := by omega
    obtain ⟨ad, rfl, hf, hc⟩ := h.at_int hk
    have hx := hv m.toNat (by omega) (by omega)
    rw [List.getElem?_eq_getElem hk] at hx
    injection hx with hx
    rw [hx, show ((m.toNat : Nat) : Int) = m by omega] at hc
    have hm1 : m < vs.length := by omega
    clear hx hneg hl
    go_enter Try.func114, Try.ntmps114
    go_wp2
    go_ret
    exact ⟨rfl, rfl⟩
  · have hk : (-m).toNat < vs.length := by omega
    obtain ⟨ad, rfl, hf, hc⟩ := h.at_int hk
    have hx := hv (-m).toNat (by omega) (by omega)
    rw [List.getElem?_eq_getElem hk] at hx
    injection hx with hx
    rw [hx, show (((-m).toNat : Nat) : Int) = -m by omega, hneg] at hc
    have hm1 : -m < vs.length := by omega
    have hm0 : 0 ≤ -m := by omega
    generalize sg put m = s at *
    have e1 : IntKind.i64.wrap (-m) = -m := IntWalk.i64_in _ (by omega)
    have e2 : IntKind.i64.wrap (- -s) = s := by rw [Int.neg_neg]; exact IntWalk.i64_in _ (by omega)
    clear hx hneg hl
    go_enter Try.func114, Try.ntmps114
    go_wp2
    go_ret
    exact ⟨ret_int (by simp), rfl⟩

theorem ret_two {k : IntKind} {a b c d : Int} (h1 : a = c) (h2 : b = d) : Ending.returned (.tuple #[.int k a, .int k b]) = .returned (.tuple #[.int k c, .int k d]) := by rw [h1, h2]
theorem ret_three {k : IntKind} {a b c d e f : Int} (h1 : a = d) (h2 : b = e) (h3 : c = f) : Ending.returned (.tuple #[.int k a, .int k b, .int k c]) = .returned (.tuple #[.int k d, .int k e, .int k f]) := by rw [h1, h2, h3]
/-- What the look gives. -/
def lkI (put cl : List Int) : Int × Int := match lk put cl 0 0 with | none => (-1, 0) | some p => p
set_option maxHeartbeats 1000000 in
theorem l5Look_any (A B : Option Addr) (c d : Nat) (many : Nat) (put vs cl : List Int) (F G : Nat → Prop) (w : World) (h : Lay.int.Sl w F A vs) (hcl : Lay.int.Sl w G B cl) (hg : Good many put) (hv : Vals many put vs) (hmany : many ≤ 1048576)
    (hr : ∀ l ∈ cl, l ≠ 0 ∧ -(many : Int) ≤ l ∧ l ≤ many) (hn : cl.length ≤ 1048576) :
    Calls Try.prog 119 #[.slice A vs.length c, .slice B cl.length d] w fun e w' => e = .returned (.tuple #[.int .i64 (lkI put cl).1, .int .i64 (lkI put cl).2]) ∧ w = w' := by
  go_enter Try.func119, Try.ntmps119
  go_wp2
  go_loop [6, 7, 8] (fun x y i => ∃ (k : Nat) (n f : Int), k ≤ cl.length ∧ i = .int .i64 k ∧ x = .int .i64 n ∧ y = .int .i64 f ∧ 0 ≤ n ∧ n ≤ k ∧ lk put cl 0 0 = lk put (cl.drop k) n f) (fun _ _ i => cl.length - (intOf i).toNat)
  case atStart => exact ⟨0, 0, 0, Nat.zero_le _, rfl, rfl, rfl, by omega, by simp, by simp⟩
  case round =>
    obtain ⟨k, n, f, hk, rfl, rfl, rfl, n0, n1, ht⟩ := hrel
    have HT := Lib.hid ht
    clear ht
    by_cases hlt : k < cl.length
    · obtain ⟨ad, rfl, hf, hc⟩ := hcl.at_int hlt
      have hk1 : (k : Int) < cl.length := by omega
      obtain ⟨r0, r1, r2⟩ := hr _ (List.getElem_mem hlt)
      have hd := lk_drop (put := put) (n := n) (f := f) hlt
      generalize cl[k] = a at *
      have hs := l5Sign_any A c many put vs a F w h hg hv r0 r1 r2 hmany
      unfold sg at hs
      by_cases h1 : a ∈ put
      · rw [if_pos h1] at hd hs
        have HD := Lib.hid (show lkI put cl = (-1, 0) by unfold lkI; rw [HT.out, hd])
        have HS := Lib.hid hs
        clear hd hs
        go_wp2_with fail
        refine HS.out.mono ?_
        rintro e w' ⟨rfl, rfl⟩
        go_wp2
        go_ret2
        exact ⟨ret_two (by rw [HD.out]) (by rw [HD.out]), rfl⟩
      by_cases h2 : -a ∈ put
      · rw [if_neg h1, if_pos h2] at hd hs
        have HD := Lib.hid hd
        have HS := Lib.hid hs
        clear hd hs
        go_wp2_with fail
        refine HS.out.mono ?_
        rintro e w' ⟨rfl, rfl⟩
        go_wp2
        go_round
        case rel => exact ⟨k + 1, n, f, by omega, by go_num, rfl, rfl, n0, by omega, by rw [HT.out, HD.out]⟩
        case measure => simp [intOf]; omega
      · rw [if_neg h1, if_neg h2] at hd hs
        have HD := Lib.hid hd
        have HS := Lib.hid hs
        clear hd hs
        go_wp2_with fail
        refine HS.out.mono ?_
        rintro e w' ⟨rfl, rfl⟩
        go_wp2
        go_round
        case rel => exact ⟨k + 1, n + 1, a, by omega, by go_num, rfl, rfl, by omega, by omega, by rw [HT.out, HD.out]⟩
        case measure => simp [intOf]; omega
    · have hke : k = cl.length := by omega
      subst hke
      have HE := Lib.hid (show lkI put cl = (n, f) by unfold lkI; rw [HT.out, List.drop_length]; rfl)
      go_wp2
      go_ret2
      exact ⟨ret_two (by rw [HE.out]) (by rw [HE.out]), rfl⟩

end Go.Proofs.Ytbljfhmcebgdaaa
