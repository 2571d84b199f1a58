/- A drawn region whose operations but the last ones are quiet in every later world, and whose last ones come in one forced order. No program is named here. Contracts of the laws' sizes, copies and comparisons of clauses; the reference's CnfOk. The reference's absolute value. Contracts of the reference's clauses and unit propagation: l4Clause, CnfOk, l5Sign, l5Look, l5Find. A drawn region by facts: each operation once, in whatever world its turn comes; what it leaves is said by a fact that lives on. No program is named here. -/
import Derived.StillTail
import Derived.Test.YtbljfhmcebgdaaaJFnSatBent0
/-! A drawn region whose operations but the last ones are quiet in every later world, and whose last ones come in one forced order. No program is named here. -/
namespace Go.Proofs.Ytbljfhmcebgdaaa
open Go Go.RowKit

section
variable {P : Program} {ops : Array Oper} {md : Region.Mode} {C : World → Prop}

/-- Whatever order is picked among the first n, till the list says that they are done. -/
def anyHead (P : Program) (md : Region.Mode) (ops : Array Oper) (C : World → Prop) (n : Nat) (L : Array Bool → Act → Prop) : Nat → Array Bool → Act → Prop
  | 0, listed, a => L listed a
  | f + 1, listed, a => Region.ready md ops listed ≠ [] ∧ ∀ i ∈ Region.ready md ops listed, i < n ∧ qOp P ops C i (anyHead P md ops C n L f (listed.setIfInBounds i true)) a

theorem any_of_head {n g : Nat} {L : Array Bool → Act → Prop} {Q' : Exit → Act → World → Prop} (hL : ∀ listed a w, C w → L listed a → wpAny P md ops Q' g listed a w) :
    ∀ (f : Nat) (listed : Array Bool) (a : Act) (w : World), C w → anyHead P md ops C n L f listed a → wpAny P md ops Q' (f + g) listed a w
  | 0, listed, a, w, hw, h => by rw [Nat.zero_add]; exact hL _ _ _ hw h
  | f + 1, listed, a, w, hw, h => by
    rw [show f + 1 + g = (f + g) + 1 by omega]
    exact ⟨fun h0 => absurd h0 h.1, fun i hi => wpOp_of_qOp hw (fun a' w' hw' h' => any_of_head hL f _ a' w' hw' h') (h.2 i hi).2⟩

theorem head_first {n i : Nat} {oi : Oper} {v : Value} {L : Array Bool → Act → Prop} (hi : ops[i]? = some oi) (hsel : ∀ (j : Nat) (o : Oper) cs b, ops[j]? = some o → o.op ≠ .select cs b)
    (hs : Region.sinkB md ops n = true) (hc : Region.chainB md ops n = true) (hn : n < ops.size) (hin : i < n) (hdone : ∀ listed a, L listed a → ∀ j ∈ Region.ready md ops listed, n ≤ j) :
    ∀ (f : Nat) (listed : Array Bool) (a : Act), HeadInv md ops n listed →
      (∀ j oj, ops[j]? = some oj → j ≠ i → listed.getD j true = false → (∀ e ∈ oj.after, Region.binds md e = true → e.on ≠ i) → oi.apart ops oj = true) →
      i ∈ Region.ready md ops listed → YieldsIn P ops C oi v a →
      anyHead P md ops C n L f (listed.setIfInBounds i true) (a.put oi.dst v) → anyHead P md ops C n L (f + 1) listed a := by
  intro f
  induction f with
  | zero =>
    intro listed a inv _ hr hy H
    have hun := (mem_ready.1 hr).1
    refine ⟨fun h => (by rw [h] at hr; cases hr), fun j hj => ?_⟩
    have hjn : j < n := Nat.lt_of_not_le fun h => tail_waits hs hc hn inv _ i rfl hin hun j h hj
    refine ⟨hjn, ?_⟩
    by_cases hji : j = i
    · subst hji; exact hy.qOp hi H
    · have := hdone _ _ H j (ready_mono hj hji)
      omega
  | succ f ih =>
    intro listed a inv hfree hr hy H
    have hun := (mem_ready.1 hr).1
    refine ⟨fun h => (by rw [h] at hr; cases hr), fun j hj => ?_⟩
    have hjn : j < n := Nat.lt_of_not_le fun h => tail_waits hs hc hn inv _ i rfl hin hun j h hj
    refine ⟨hjn, ?_⟩
    by_cases hji : j = i
    · subst hji; exact hy.qOp hi H
    · have h1 := (H.2 j (ready_mono hj hji)).2
      obtain ⟨hjun, oj, hoj, hall⟩ := mem_ready.1 hj
      have hnot : ∀ e ∈ oj.after, Region.binds md e = true → e.on ≠ i := fun e he hb heq => by
        have h1 := hall e he hb
        rw [heq, getD_both hun] at h1
        cases h1
      have h2 := qOp_put hoj (hfree j oj hoj hji hjun hnot) (fun cs b => hsel i oi cs b hi) (fun cs b => hsel j oj cs b hoj) hy h1
      refine qOp_mono (fun a' h3 => ih (listed.setIfInBounds j true) a' (inv.set hj hjn) (fun k ok hk hki hku hno => hfree k ok hk hki ?_ hno) (ready_mono hr (Ne.symm hji)) h3.1 ?_) h2
      · by_cases hjk : j = k
        · subst hjk; exact hjun
        · rw [getD_set_ne true hjk] at hku; exact hku
      · rw [Array.setIfInBounds_comm _ _ hji]
        exact h3.2

theorem head_lex {n g : Nat} {Lq : Act → Prop} (hsel : Region.noSelect ops = true) (hs : Region.sinkB md ops n = true) (hc : Region.chainB md ops n = true) (hn : n < ops.size) :
    ∀ (l : List Oper) (k : Nat) (listed : Array Bool) (a : Act), (∀ j, j < l.length → l[j]? = ops[k + j]?) → k + l.length = n → HeadInv md ops n listed →
    Region.lexHead md ops g l.length k listed = true → wpQuiet P ops C Lq l a →
    anyHead P md ops C n (fun listed' a' => Region.seqB md ops g n listed' = true ∧ Lq a') l.length listed a
  | [], k, listed, a, _, hk, _, hB, h => by
    have : k = n := by simpa using hk
    subst this
    exact ⟨by simpa [Region.lexHead] using hB, h⟩
  | o :: l, k, listed, a, hl, hk, inv, hB, h => by
    have h0 : ops[k]? = some o := by simpa using (hl 0 (by simp)).symm
    simp only [List.length_cons, Region.lexHead, Bool.and_eq_true] at hB
    obtain ⟨⟨hr, hf⟩, hB'⟩ := hB
    have hkn : k < n := by simp only [List.length_cons] at hk; omega
    have hr' : k ∈ Region.ready md ops listed := by simpa using hr
    obtain ⟨v, hy, hK⟩ := yieldsIn_of_qOp (P := P) (C := C) (K := wpQuiet P ops C Lq l) h0 (by unfold qOp; simp only [h0]; exact h)
    exact head_first h0 (Region.noSelect_spec hsel) hs hc hn hkn (fun listed' a' hL => seqB_ready hL.1) l.length listed a inv (Region.free_spec h0 hf) hr' hy
      (head_lex hsel hs hc hn l (k + 1) _ _ (fun j hj => by have := hl (j + 1) (by simp; omega); simpa [Nat.add_assoc, Nat.add_comm 1 j] using this) (by simp only [List.length_cons] at hk; omega) (inv.set hr' hkn) hB' hK)

/-- n quiet operations, in whatever order, in the class C; then the others, one behind the other. -/
theorem wp_region_quiet_tail {id : Nat} {Q : Exit → Act → World → Prop} {a : Act} {w : World} {l : List Oper} (n : Nat) (hm : P.follows .mixedOrders = true) (hB : Region.lexTailB .any l.toArray n = true)
    (hC : C { w with drawn := w.drawn + 1 }) (h : wpQuiet P l.toArray C (fun a' => ∀ w', C w' → wpList P l.toArray Q (l.drop n) a' w') (l.take n) a) : (Code.region id l.toArray true).wp P Q a w := by
  simp only [Region.lexTailB, Bool.and_eq_true, decide_eq_true_eq] at hB
  obtain ⟨⟨⟨⟨hsel, hn⟩, hs⟩, hc⟩, hlex⟩ := hB
  have hn' : n < l.length := by simpa using hn
  have htl : (l.take n).length = n := by simp; omega
  have hdl : (l.drop n).length = l.toArray.size - n := by simp
  have inv0 : HeadInv .any l.toArray n (Array.replicate l.toArray.size false) :=
    ⟨by simp, fun j oj _ hl => (by rw [getD_replicate_false] at hl; cases hl), fun t _ ht => getD_in (by simpa using ht) (getD_replicate_false _ _)⟩
  have H := head_lex (C := C) (md := .any) (g := l.toArray.size - n) hsel hs hc hn (l.take n) 0 _ a (fun j hj => by
    have hj' : j < n := by rw [htl] at hj; exact hj
    simp [hj']) (by simpa using htl) inv0 (by rw [htl]; exact hlex) h
  refine wp_region_any hm ?_
  have := any_of_head (Q' := Q) (g := l.toArray.size - n) (fun listed a' w' hw' hL => by
    have := wpAny_of_seq (md := .any) (Q' := Q) (l.drop n) n listed a' w' (fun j => by simp [List.getElem?_drop]) (by rw [hdl]; exact hL.1) (hL.2 w' hw')
    rwa [hdl] at this) _ _ _ _ hC H
  rw [htl, show n + (l.toArray.size - n) = l.toArray.size by omega] at this
  exact this
end

/-- The same in every later world. -/
theorem wp_region_later_tail {P : Program} {id : Nat} {Q : Exit → Act → World → Prop} {a : Act} {w : World} {l : List Oper} (n : Nat) (hm : P.follows .mixedOrders = true) (hB : Region.lexTailB .any l.toArray n = true)
    (h : wpQuiet P l.toArray (fun w' => ∃ x : Later w, w' = x.W) (fun a' => ∀ w', (∃ x : Later w, w' = x.W) → wpList P l.toArray Q (l.drop n) a' w') (l.take n) a) : (Code.region id l.toArray true).wp P Q a w :=
  wp_region_quiet_tail (C := fun w' => ∃ x : Later w, w' = x.W) n hm hB ⟨⟨w.drewN 1, below_drewN (Below.refl _ _) 1⟩, rfl⟩ h
end Go.Proofs.Ytbljfhmcebgdaaa

/-! Contracts of the laws' sizes, copies and comparisons of clauses; the reference's CnfOk. -/
namespace Go.Proofs.Ytbljfhmcebgdaaa
open Go Go.RowKit

theorem toIntSS_info : (Try.prog.info? 26).map (fun i => (i.zero, i.size, i.bytes)) = some (some ((.slice none 0 0)), 1, 24) := by kernel_rfl
end Go.Proofs.Ytbljfhmcebgdaaa

/-! The reference's absolute value. -/
namespace Go.Proofs.Ytbljfhmcebgdaaa
open Go Go.RowKit

theorem l4Abs_any (n : Int) (w : World) (h0 : -9223372036854775808 < n) (h1 : n ≤ 9223372036854775807) :
    Calls Try.prog 75 #[.int .i64 n] w fun e w' => e = .returned (.int .i64 n.natAbs) ∧ w = w' := by
  by_cases h : n < 0
  all_goals
    go_enter Try.func75, Try.ntmps75
    go_wp2
    go_ret
    exact ⟨ret_int (by omega), rfl⟩
end Go.Proofs.Ytbljfhmcebgdaaa

/-! Contracts of the reference's clauses and unit propagation: l4Clause, CnfOk, l5Sign, l5Look, l5Find. -/
namespace Go.Proofs.Ytbljfhmcebgdaaa
open Go Go.RowKit

theorem cOk_no {many last : Int} {cl : List Int} {k : Nat} (h : k < cl.length) (hn : cl[k] < -many ∨ many < cl[k] ∨ (cl[k].natAbs : Int) ≤ last) : cOk many last (cl.drop k) = false := by
  rw [cOk_drop h, Bool.eq_false_iff]
  intro e
  simp only [Bool.and_eq_true, decide_eq_true_eq] at e
  omega
theorem cOk_yes {many last : Int} {cl : List Int} {k : Nat} (h : k < cl.length) (h1 : -many ≤ cl[k]) (h2 : cl[k] ≤ many) (h3 : last < (cl[k].natAbs : Int)) : cOk many last (cl.drop k) = cOk many (cl[k].natAbs) (cl.drop (k + 1)) := by
  rw [cOk_drop h]; simp [h1, h2, h3]
set_option maxHeartbeats 1000000 in
theorem l4Clause_any (A : Option Addr) (c : Nat) (cl : List Int) (many : Int) (F : Nat → Prop) (w : World) (h : Lay.int.Sl w F A cl) (hn : cl.length ≤ 1048576) (m0 : 0 ≤ many) (m1 : many ≤ 700) :
    Calls Try.prog 45 #[.slice A cl.length c, .int .i64 many] w fun e w' => e = .returned (.bool (clOk many cl)) ∧ w = w' := by
  unfold clOk
  have em : IntKind.i64.wrap (-many) = -many := IntWalk.i64_in _ (by omega)
  go_enter Try.func45, Try.ntmps45
  go_wp2
  go_loop [5, 6] (fun l i => ∃ (k : Nat) (last : Int), k ≤ cl.length ∧ i = .int .i64 k ∧ l = .int .i64 last ∧ cOk many 0 cl = cOk many last (cl.drop k)) (fun _ i => cl.length - (intOf i).toNat)
  case atStart => exact ⟨0, 0, Nat.zero_le _, rfl, rfl, by simp⟩
  case round =>
    obtain ⟨k, last, hk, rfl, rfl, ht⟩ := hrel
    have HT := Lib.hid ht
    clear ht
    by_cases hlt : k < cl.length
    · obtain ⟨ad, rfl, hf, hc⟩ := h.at_int hlt
      have hk1 : (k : Int) < cl.length := by omega
      have hno := fun hn => cOk_no (many := many) (last := last) hlt hn
      have hyes := cOk_yes (many := many) (last := last) hlt
      generalize cl[k] = a at *
      have HNO := Lib.hid hno
      have HYES := Lib.hid hyes
      clear hno hyes
      by_cases q0 : a < -many
      · have HE := Lib.hid (HNO.out (.inl q0))
        go_wp2
        go_ret
        exact ⟨ret_bool (by rw [HT.out, HE.out]), rfl⟩
      by_cases q1 : many < a
      · have HE := Lib.hid (HNO.out (.inr (.inl q1)))
        go_wp2
        go_ret
        exact ⟨ret_bool (by rw [HT.out, HE.out]), rfl⟩
      have qa : ∀ W : World, Calls Try.prog 75 #[.int .i64 a] W fun e w' => e = .returned (.int .i64 a.natAbs) ∧ W = w' := fun W => l4Abs_any a W (by omega) (by omega)
      generalize hna : (a.natAbs : Int) = na at *
      have Qa := Lib.hid qa
      clear qa hna
      by_cases q2 : na ≤ last
      · have HE := Lib.hid (HNO.out (.inr (.inr q2)))
        go_wp2_with fail
        refine (Qa.out _).mono ?_
        rintro e w' ⟨rfl, rfl⟩
        go_wp2
        go_ret
        exact ⟨ret_bool (by rw [HT.out, HE.out]), rfl⟩
      have HE := Lib.hid (HYES.out (by omega) (by omega) (by omega))
      go_wp2_with fail
      refine (Qa.out _).mono ?_
      rintro e w' ⟨rfl, rfl⟩
      go_wp2_with fail
      refine (Qa.out _).mono ?_
      rintro e w' ⟨rfl, rfl⟩
      go_wp2
      go_round
      case rel => exact ⟨k + 1, na, by omega, by go_num, rfl, by rw [HT.out, HE.out]⟩
      case measure => simp [intOf]; omega
    · have hke : k = cl.length := by omega
      subst hke
      have HE := Lib.hid (show cOk many last (cl.drop cl.length) = true by rw [List.drop_length]; rfl)
      go_wp2
      go_ret
      exact ⟨ret_bool (by rw [HT.out, HE.out]), rfl⟩

theorem cnfOk_iff (c : C) : cnfOk c = true ↔ 0 ≤ c.many ∧ c.many ≤ 700 ∧ c.list.length ≤ 2500 ∧ ∀ k (h : k < c.list.length), clOk c.many c.list[k] = true := by
  simp only [cnfOk, Bool.and_eq_true, decide_eq_true_eq, List.all_eq_true, and_assoc]
  constructor
  · rintro ⟨h1, h2, h3, h4⟩
    exact ⟨h1, h2, h3, fun k hk => h4 _ (List.getElem_mem hk)⟩
  · rintro ⟨h1, h2, h3, h4⟩
    refine ⟨h1, h2, h3, fun x hx => ?_⟩
    obtain ⟨k, hk, rfl⟩ := List.getElem_of_mem hx
    exact h4 k hk
theorem cnfOk_no {c : C} (h : c.many < 0 ∨ 700 < c.many ∨ 2500 < c.list.length ∨ ∃ k, ∃ h : k < c.list.length, clOk c.many c.list[k] = false) : cnfOk c = false := by
  rw [Bool.eq_false_iff]
  intro e
  obtain ⟨h1, h2, h3, h4⟩ := (cnfOk_iff c).1 e
  rcases h with h | h | h | ⟨k, hk, h⟩
  · omega
  · omega
  · omega
  · rw [h4 k hk] at h; cases h
/-- All lists of a formula are short. -/
def shortC (c : C) : Prop := c.list.length ≤ 1048576 ∧ ∀ l ∈ c.list, l.length ≤ 1048576
set_option maxHeartbeats 1000000 in
theorem specCnfOk_any (A : Option Addr) (p : Nat) (c : C) (F : Nat → Prop) (w : World) (h : Lay.int.slice.Sl w F A c.list) (hF : ∀ b, F b → b < w.heap.size) (hn : shortC c) :
    Calls Try.prog 44 #[.agg #[.int .i64 c.many, .slice A c.list.length p]] w fun e w' => e = .returned (.bool (cnfOk c)) ∧ Below w.heap.size w w' := by
  obtain ⟨hn1, hn2⟩ := hn
  have hw : Below w.heap.size w (w.alloc (.cells #[.int .i64 c.many, .slice A c.list.length p] 25)) := (Below.refl _ _).alloc (Nat.le_refl _) _
  have H := h.below hw hF
  have hFW : ∀ b, F b → b < (w.alloc (.cells #[.int .i64 c.many, .slice A c.list.length p] 25)).heap.size := fun b hb => Nat.lt_of_lt_of_le (hF b hb) hw.size
  by_cases h0 : c.many < 0
  · have HN := Lib.hid (cnfOk_no (.inl h0))
    go_enter Try.func44, Try.ntmps44
    go_wp2
    go_ret
    exact ⟨ret_bool (by rw [HN.out]), hw⟩
  by_cases h1 : 700 < c.many
  · have HN := Lib.hid (cnfOk_no (.inr (.inl h1)))
    go_enter Try.func44, Try.ntmps44
    go_wp2
    go_ret
    exact ⟨ret_bool (by rw [HN.out]), hw⟩
  by_cases h2 : 2500 < c.list.length
  · have HN := Lib.hid (cnfOk_no (.inr (.inr (.inl h2))))
    go_enter Try.func44, Try.ntmps44
    go_wp2
    go_ret
    exact ⟨ret_bool (by rw [HN.out]), hw⟩
  have v0 : (w.alloc (.cells #[.int .i64 c.many, .slice A c.list.length p] 25)).cell? ⟨w.heap.size, 0, none⟩ = some (.int .i64 c.many) := by simp [go_sem]
  have v1 : (w.alloc (.cells #[.int .i64 c.many, .slice A c.list.length p] 25)).cell? ⟨w.heap.size, 1, none⟩ = some (.slice A c.list.length p) := by simp [go_sem]
  go_enter Try.func44, Try.ntmps44
  go_wp2
  generalize w.alloc (.cells #[.int .i64 c.many, .slice A c.list.length p] 25) = W at *
  go_loopw [3] (fun i wr => ∃ j : Nat, j ≤ c.list.length ∧ i = .int .i64 j ∧ Below W.heap.size W wr ∧ ∀ k (h : k < c.list.length), k < j → clOk c.many c.list[k] = true) (fun i _ => c.list.length - (intOf i).toNat)
  case atStart => exact ⟨0, Nat.zero_le _, rfl, Below.refl _ _, fun k _ h => absurd h (by omega)⟩
  case round =>
    obtain ⟨j, hj, rfl, hb, hg⟩ := hrel
    have HG := Lib.hid hg
    clear hg
    have c0 := (hb.cell (World.block_lt_of_cell? W _ v0)).trans v0
    have c1 := (hb.cell (World.block_lt_of_cell? W _ v1)).trans v1
    by_cases hlt : j < c.list.length
    · obtain ⟨ad, A', c', rfl, hf, k1, hl1, s1⟩ := (H.below hb hFW).at_slice hlt
      have d0 := Later.cell c0
      have d1 := Later.cell c1
      have d2 := Later.cell k1
      have hFr : ∀ b, F b → b < wr.heap.size := fun b hb' => Nat.lt_of_lt_of_le (hFW b hb') hb.size
      have hj0 : (0 : Int) ≤ j := by omega
      have hj1 : (j : Int) < c.list.length := by omega
      generalize hq : clOk c.many c.list[j] = q at *
      have HQ := Lib.hid hq
      have hsh := hn2 _ (List.getElem_mem hlt)
      clear hq
      go_wp2
      refine wp_region_later (by kernel_rfl) (by kernel_rfl) ?_
      repeat (go_big_quiet_step ((go_at_call 45; with_reducible exact later_of_same (l4Clause_any A' c' c.list[j] c.many F _ (s1.below (Later.le _) hFr) hsh (by omega) (by omega)))))
      refine wpQuiet_nil ?_
      rintro _ ⟨x, rfl⟩
      rw [HQ.out]
      cases q
      · have HN := Lib.hid (cnfOk_no (.inr (.inr (.inr ⟨j, hlt, HQ.out⟩))))
        go_wp2
        go_ret
        exact ⟨ret_bool (by rw [HN.out]), bthen (bthen hw hb) x.le⟩
      · go_wp2
        go_roundw
        case rel => exact ⟨j + 1, by omega, by go_num, bthen hb x.le, fun k h9 hk9 => by
          rcases Nat.lt_or_ge k j with h' | h'
          · exact HG.out k h9 h'
          · have : k = j := by omega
            subst this; exact HQ.out⟩
        case measure => simp [intOf]; omega
    · have hje : j = c.list.length := by omega
      subst hje
      have HN := Lib.hid ((cnfOk_iff c).2 ⟨by omega, by omega, by omega, fun k h9 => HG.out k h9 h9⟩)
      go_wp2
      go_ret
      exact ⟨ret_bool (by rw [HN.out]), bthen hw hb⟩

/-- The list says of each mark how it is. -/
def Vals (many : Nat) (put : List Int) (vs : List Int) : Prop := vs.length = many + 1 ∧ ∀ v : Nat, 1 ≤ v → v ≤ many → vs[v]? = some (sg put v)
theorem sg_neg {many : Int} {put : List Int} (h : Good many put) {m : Int} (hm : m ≠ 0) : sg put (-m) = -sg put m := by
  unfold sg
  by_cases h1 : m ∈ put
  · have h2 : -m ∉ put := fun h2 => h.apart h1 h2
    rw [if_neg h2, if_pos h1, if_pos (by simpa using h1)]
  · by_cases h2 : -m ∈ put
    · rw [if_pos h2, if_neg h1, if_pos h2]; rfl
    · rw [if_neg h2, if_neg h1, if_neg h2, if_neg (by simpa using h1)]; rfl
theorem sg_rng (put : List Int) (m : Int) : sg put m = 1 ∨ sg put m = -1 ∨ sg put m = 0 := by
  unfold sg
  split
  · exact .inl rfl
  · split
    · exact .inr (.inl rfl)
    · exact .inr (.inr rfl)
theorem l5Sign_any (A : Option Addr) (c : Nat) (many : Nat) (put vs : List Int) (m : Int) (F : Nat → Prop) (w : World) (h : Lay.int.Sl w F A vs) (hg : Good many put) (hv : Vals many put vs) (h0 : m ≠ 0) (h1 : -(many : Int) ≤ m) (h2 : m ≤ many) (hmany : many ≤ 1048576) :
    Calls Try.prog 114 #[.slice A vs.length c, .int .i64 m] w fun e w' => e = .returned (.int .i64 (sg put m)) ∧ w = w' := by
  obtain ⟨hl, hv⟩ := hv
  have hneg := sg_neg hg h0
  have hr := sg_rng put m
  by_cases hp : 0 < m
  · have hk : m.toNat < vs.length := by omega
    obtain ⟨ad, rfl, hf, hc⟩ := h.at_int hk
    have hx := hv m.toNat (by omega) (by omega)
    rw [List.getElem?_eq_getElem hk] at hx
    injection hx with hx
    rw [hx, show ((m.toNat : Nat) : Int) = m by omega] at hc
    have hm1 : m < vs.length := by omega
    clear hx hneg hl
    go_enter Try.func114, Try.ntmps114
    go_wp2
    go_ret
    exact ⟨rfl, rfl⟩
  · have hk : (-m).toNat < vs.length := by omega
    obtain ⟨ad, rfl, hf, hc⟩ := h.at_int hk
    have hx := hv (-m).toNat (by omega) (by omega)
    rw [List.getElem?_eq_getElem hk] at hx
    injection hx with hx
    rw [hx, show (((-m).toNat : Nat) : Int) = -m by omega, hneg] at hc
    have hm1 : -m < vs.length := by omega
    have hm0 : 0 ≤ -m := by omega
    generalize sg put m = s at *
    have e1 : IntKind.i64.wrap (-m) = -m := IntWalk.i64_in _ (by omega)
    have e2 : IntKind.i64.wrap (- -s) = s := by rw [Int.neg_neg]; exact IntWalk.i64_in _ (by omega)
    clear hx hneg hl
    go_enter Try.func114, Try.ntmps114
    go_wp2
    go_ret
    exact ⟨ret_int (by simp), rfl⟩

theorem ret_two {k : IntKind} {a b c d : Int} (h1 : a = c) (h2 : b = d) : Ending.returned (.tuple #[.int k a, .int k b]) = .returned (.tuple #[.int k c, .int k d]) := by rw [h1, h2]
theorem ret_three {k : IntKind} {a b c d e f : Int} (h1 : a = d) (h2 : b = e) (h3 : c = f) : Ending.returned (.tuple #[.int k a, .int k b, .int k c]) = .returned (.tuple #[.int k d, .int k e, .int k f]) := by rw [h1, h2, h3]
/-- What the look gives. -/
def lkI (put cl : List Int) : Int × Int := match lk put cl 0 0 with | none => (-1, 0) | some p => p
set_option maxHeartbeats 1000000 in
theorem l5Look_any (A B : Option Addr) (c d : Nat) (many : Nat) (put vs cl : List Int) (F G : Nat → Prop) (w : World) (h : Lay.int.Sl w F A vs) (hcl : Lay.int.Sl w G B cl) (hg : Good many put) (hv : Vals many put vs) (hmany : many ≤ 1048576)
    (hr : ∀ l ∈ cl, l ≠ 0 ∧ -(many : Int) ≤ l ∧ l ≤ many) (hn : cl.length ≤ 1048576) :
    Calls Try.prog 119 #[.slice A vs.length c, .slice B cl.length d] w fun e w' => e = .returned (.tuple #[.int .i64 (lkI put cl).1, .int .i64 (lkI put cl).2]) ∧ w = w' := by
  go_enter Try.func119, Try.ntmps119
  go_wp2
  go_loop [6, 7, 8] (fun x y i => ∃ (k : Nat) (n f : Int), k ≤ cl.length ∧ i = .int .i64 k ∧ x = .int .i64 n ∧ y = .int .i64 f ∧ 0 ≤ n ∧ n ≤ k ∧ lk put cl 0 0 = lk put (cl.drop k) n f) (fun _ _ i => cl.length - (intOf i).toNat)
  case atStart => exact ⟨0, 0, 0, Nat.zero_le _, rfl, rfl, rfl, by omega, by simp, by simp⟩
  case round =>
    obtain ⟨k, n, f, hk, rfl, rfl, rfl, n0, n1, ht⟩ := hrel
    have HT := Lib.hid ht
    clear ht
    by_cases hlt : k < cl.length
    · obtain ⟨ad, rfl, hf, hc⟩ := hcl.at_int hlt
      have hk1 : (k : Int) < cl.length := by omega
      obtain ⟨r0, r1, r2⟩ := hr _ (List.getElem_mem hlt)
      have hd := lk_drop (put := put) (n := n) (f := f) hlt
      generalize cl[k] = a at *
      have hs := l5Sign_any A c many put vs a F w h hg hv r0 r1 r2 hmany
      unfold sg at hs
      by_cases h1 : a ∈ put
      · rw [if_pos h1] at hd hs
        have HD := Lib.hid (show lkI put cl = (-1, 0) by unfold lkI; rw [HT.out, hd])
        have HS := Lib.hid hs
        clear hd hs
        go_wp2_with fail
        refine HS.out.mono ?_
        rintro e w' ⟨rfl, rfl⟩
        go_wp2
        go_ret2
        exact ⟨ret_two (by rw [HD.out]) (by rw [HD.out]), rfl⟩
      by_cases h2 : -a ∈ put
      · rw [if_neg h1, if_pos h2] at hd hs
        have HD := Lib.hid hd
        have HS := Lib.hid hs
        clear hd hs
        go_wp2_with fail
        refine HS.out.mono ?_
        rintro e w' ⟨rfl, rfl⟩
        go_wp2
        go_round
        case rel => exact ⟨k + 1, n, f, by omega, by go_num, rfl, rfl, n0, by omega, by rw [HT.out, HD.out]⟩
        case measure => simp [intOf]; omega
      · rw [if_neg h1, if_neg h2] at hd hs
        have HD := Lib.hid hd
        have HS := Lib.hid hs
        clear hd hs
        go_wp2_with fail
        refine HS.out.mono ?_
        rintro e w' ⟨rfl, rfl⟩
        go_wp2
        go_round
        case rel => exact ⟨k + 1, n + 1, a, by omega, by go_num, rfl, rfl, by omega, by omega, by rw [HT.out, HD.out]⟩
        case measure => simp [intOf]; omega
    · have hke : k = cl.length := by omega
      subst hke
      have HE := Lib.hid (show lkI put cl = (n, f) by unfold lkI; rw [HT.out, List.drop_length]; rfl)
      go_wp2
      go_ret2
      exact ⟨ret_two (by rw [HE.out]) (by rw [HE.out]), rfl⟩

end Go.Proofs.Ytbljfhmcebgdaaa

/-! A drawn region by facts: each operation once, in whatever world its turn comes; what it leaves is said by a fact that lives on. No program is named here. -/
namespace Go.Proofs.Ytbljfhmcebgdaaa
open Go Go.RowKit

/-- What is said of an operation's value. -/
structure Fact where
  V : Value → World → Prop
  stab : ∀ v w w', V v w → Below w.heap.size w w' → V v w'
  flat : Bool
  hflat : flat = true → ∀ v w w', V v w → V v w'
def Fact.any : Fact := ⟨fun _ _ => True, fun _ _ _ _ _ => trivial, true, fun _ _ _ _ _ => trivial⟩
def Fact.eq (u : Value) : Fact := ⟨fun v _ => v = u, fun _ _ _ h _ => h, true, fun _ _ _ _ h => h⟩
def Fact.of (V : Value → World → Prop) (h : ∀ v w w', V v w → Below w.heap.size w w' → V v w') : Fact := ⟨V, h, false, fun h => by cases h⟩

def dstOf (ops : List Oper) (i : Nat) : Option Tmp := (ops[i]?).bind Oper.dst
def puts (ops : List Oper) (vals : Nat → Value) : List Nat → Act → Act
  | [], a => a
  | i :: l, a => puts ops vals l (a.put (dstOf ops i) (vals i))
def facts (L : List Fact) (vals : Nat → Value) (x : World) : List Nat → Prop
  | [] => True
  | i :: l => (L.getD i .any).V (vals i) x ∧ facts L vals x l
/-- What the operation has left. -/
def got (o : Oper) (a : Act) : Value := match o.dst with | some d => a.tmps.getD d undef | none => undef
def softQ (L : List Fact) (hard wild : List Nat) (B : Nat) (k : Nat) (o : Oper) (a : Act) (x : World) : Exit → Act → World → Prop
  | .normal, a', x' => a'.defers = a.defers ∧ (L.getD k .any).V (got o a') x' ∧ (k ∈ hard ∨ Below x.heap.size x x') ∧ (k ∈ wild ∨ k ∉ hard ∨ Below B x x')
  | _, _, _ => False

def waits (ops : List Oper) (k j : Nat) : Bool := match ops[k]? with | some o => o.after.any fun e => Region.binds .any e && e.on == j | none => false
def reach (ops : List Oper) : Nat → Nat → Nat → Bool
  | 0, k, j => waits ops k j
  | n + 1, k, j => waits ops k j || (List.range ops.length).any fun m => waits ops k m && reach ops n m j
def looks (ops : List Oper) (k j : Nat) : Bool := match ops[k]?, dstOf ops j with | some o, some d => (o.op.operands.toList.filterMap fun | .tmp t => some t | _ => none).contains d | _, _ => false
def softOk (ops : List Oper) (D : List (List Nat)) (L : List Fact) (hard wild plain keep : List Nat) (size : Nat) : Bool :=
  (keep.all fun j => decide (j < ops.length)) && (List.range ops.length).all fun k =>
    (match ops[k]? with
      | some o => o.guard.isNone && (match o.op with | .select .. => false | _ => true) && (o.after.all fun e => !Region.binds .any e || decide (e.on < k)) && (match o.dst with | some d => decide (d < size) | none => true)
      | none => false) &&
    ((D.getD k []).all fun j => waits ops k j && decide (j < ops.length)) &&
    (decide ((D.getD k []).Nodup)) &&
    (List.range ops.length).all fun j =>
      (!looks ops k j || (D.getD k []).contains j) &&
      (decide (j = k) || (match dstOf ops j, dstOf ops k with | some d, some e => d != e | _, _ => true)) &&
      (decide (j = k) ||
        ((!hard.contains k || reach ops ops.length j k || (!(keep.contains j || (List.range ops.length).any fun r => (D.getD r []).contains j && r != k && !reach ops ops.length k r) || (L.getD j .any).flat)) &&
          (!wild.contains k || reach ops ops.length k j || plain.contains j)))

variable {P : Program} {Q : Exit → Act → World → Prop}

def oblig (P : Program) (ops : List Oper) (D : List (List Nat)) (L : List Fact) (hard wild plain : List Nat) (a : Act) (w : World) (k : Nat) (o : Oper) : Prop :=
  ∀ (vals : Nat → Value) (x : World), (k ∈ plain ∨ Below w.heap.size w x) → facts L vals x (D.getD k []) →
    o.wp P (puts ops vals (D.getD k []) a) x (softQ L hard wild w.heap.size k o (puts ops vals (D.getD k []) a) x .normal) (softQ L hard wild w.heap.size k o (puts ops vals (D.getD k []) a) x)

theorem facts_iff {L : List Fact} {vals : Nat → Value} {x : World} : ∀ {l : List Nat}, facts L vals x l ↔ ∀ i ∈ l, (L.getD i .any).V (vals i) x
  | [] => by simp [facts]
  | i :: l => by simp [facts, facts_iff (l := l)]

theorem put_size (a : Act) (d : Option Tmp) (v : Value) : (a.put d v).tmps.size = a.tmps.size := by cases d <;> simp [Act.put]
theorem put_defers (a : Act) (d : Option Tmp) (v : Value) : (a.put d v).defers = a.defers := by cases d <;> rfl
theorem put_get_ne (a : Act) (d : Option Tmp) (v : Value) (t : Nat) (h : d ≠ some t) : (a.put d v).tmps[t]? = a.tmps[t]? := by
  cases d with
  | none => rfl
  | some d => simp only [Act.put]; exact Array.getElem?_setIfInBounds_ne (fun e => h (congrArg some e))
theorem put_get (a : Act) (v : Value) (t : Nat) (h : t < a.tmps.size) : (a.put (some t) v).tmps[t]? = some v := by
  simp [Act.put, h]

theorem puts_size {ops : List Oper} {vals : Nat → Value} : ∀ (l : List Nat) (a : Act), (puts ops vals l a).tmps.size = a.tmps.size
  | [], _ => rfl
  | i :: l, a => by rw [puts, puts_size l, put_size]
theorem puts_defers {ops : List Oper} {vals : Nat → Value} : ∀ (l : List Nat) (a : Act), (puts ops vals l a).defers = a.defers
  | [], _ => rfl
  | i :: l, a => by rw [puts, puts_defers l, put_defers]
theorem puts_ne {ops : List Oper} {vals : Nat → Value} {t : Nat} : ∀ (l : List Nat) (a : Act), (∀ i ∈ l, dstOf ops i ≠ some t) → (puts ops vals l a).tmps[t]? = a.tmps[t]?
  | [], _, _ => rfl
  | i :: l, a, h => by rw [puts, puts_ne l _ (fun j hj => h j (by simp [hj])), put_get_ne _ _ _ _ (h i (by simp))]
theorem puts_get {ops : List Oper} {vals : Nat → Value} {t : Nat} (hd : ∀ i j, dstOf ops i = some t → dstOf ops j = some t → i = j) :
    ∀ (l : List Nat) (a : Act) (i : Nat), i ∈ l → dstOf ops i = some t → t < a.tmps.size → (puts ops vals l a).tmps[t]? = some (vals i)
  | [], _, _, h, _, _ => by cases h
  | j :: l, a, i, h, hi, ht => by
    rw [puts]
    by_cases hl : i ∈ l
    · exact puts_get hd l _ i hl hi (by rw [put_size]; exact ht)
    · have hij : i = j := by simpa [hl] using h
      subst hij
      rw [puts_ne l _ (fun m hm e => hl (hd i m hi e ▸ hm)), hi, put_get _ _ _ ht]

/-- Listed is closed: what an operation waits for is listed ahead of it. -/
structure SoftInv (ops : List Oper) (D : List (List Nat)) (L : List Fact) (plain keep : List Nat) (a : Act) (w : World) (listed : Array Bool) (a' : Act) (x : World) (vals : Nat → Value) : Prop where
  size : listed.size = ops.length
  closed : ∀ j k, waits ops k j = true → listed.getD k false = true → listed.getD j false = true
  tsize : a'.tmps.size = a.tmps.size
  defers : a'.defers = a.defers
  old : ∀ t, (∀ j, listed.getD j false = true → dstOf ops j ≠ some t) → a'.tmps[t]? = a.tmps[t]?
  new : ∀ j t, listed.getD j false = true → dstOf ops j = some t → a'.tmps[t]? = some (vals j)
  cond : (∃ r, r < ops.length ∧ listed.getD r false = false ∧ r ∉ plain) → Below w.heap.size w x
  fact : ∀ j, listed.getD j false = true → (j ∈ keep ∨ ∃ r, r < ops.length ∧ listed.getD r false = false ∧ j ∈ D.getD r []) → (L.getD j .any).V (vals j) x

def cnt (f : Nat → Bool) : Nat → Nat
  | 0 => 0
  | n + 1 => cnt f n + (if f n then 0 else 1)
theorem cnt_zero {f : Nat → Bool} : ∀ {n : Nat}, cnt f n = 0 → ∀ i, i < n → f i = true
  | 0, _, i, hi => absurd hi (by omega)
  | n + 1, h, i, hi => by
    simp only [cnt] at h
    rcases Nat.lt_or_ge i n with h' | h'
    · exact cnt_zero (by omega) i h'
    · have : i = n := by omega
      subst this
      cases hf : f i with
      | true => rfl
      | false => simp [hf] at h
theorem cnt_set {f g : Nat → Bool} {k : Nat} (hf : f k = false) (hg : ∀ i, g i = if i = k then true else f i) : ∀ {n : Nat}, (n ≤ k → cnt g n = cnt f n) ∧ (k < n → cnt g n + 1 = cnt f n)
  | 0 => ⟨fun _ => rfl, fun h => absurd h (by omega)⟩
  | n + 1 => by
    obtain ⟨h1, h2⟩ := cnt_set hf hg (n := n)
    refine ⟨fun h => ?_, fun h => ?_⟩
    · have hn : g n = f n := by rw [hg n]; exact if_neg (by omega)
      simp only [cnt]; rw [h1 (by omega), hn]
    · simp only [cnt]
      rcases Nat.lt_or_ge k n with h' | h'
      · have := h2 h'
        have hn : g n = f n := by rw [hg n]; exact if_neg (by omega)
        rw [hn]; omega
      · have : k = n := by omega
        subst this
        have hn : g k = true := by rw [hg k]; exact if_pos rfl
        rw [h1 (Nat.le_refl _), hn, hf]; simp

theorem getD_set {listed : Array Bool} {k : Nat} (hk : k < listed.size) (i : Nat) : (listed.setIfInBounds k true).getD i false = if i = k then true else listed.getD i false := by
  by_cases h : i = k
  · subst h; simp [hk]
  · rw [if_neg h]; exact getD_set_ne false (fun e => h e.symm)

theorem waits_spec {ops : List Oper} {k j : Nat} : waits ops k j = true ↔ ∃ o, ops[k]? = some o ∧ ∃ e ∈ o.after, Region.binds .any e = true ∧ e.on = j := by
  unfold waits
  cases h : ops[k]? with
  | none => simp
  | some o =>
    simp only [Option.some.injEq, exists_eq_left']
    rw [Array.any_eq_true']
    simp only [Bool.and_eq_true, beq_iff_eq]

theorem reach_listed {ops : List Oper} {listed : Array Bool} (hc : ∀ j k, waits ops k j = true → listed.getD k false = true → listed.getD j false = true) :
    ∀ (n k j : Nat), (∀ m, waits ops k m = true → listed.getD m false = true) → reach ops n k j = true → listed.getD j false = true
  | 0, k, j, hk, h => hk j h
  | n + 1, k, j, hk, h => by
    simp only [reach, Bool.or_eq_true, List.any_eq_true, Bool.and_eq_true] at h
    rcases h with h | ⟨m, _, hm, hr⟩
    · exact hk j h
    · exact reach_listed hc n m j (fun m' hm' => hc m' m hm' (hk m hm)) hr

theorem softOk_spec {ops : List Oper} {D : List (List Nat)} {L : List Fact} {hard wild plain keep : List Nat} {size : Nat} (h : softOk ops D L hard wild plain keep size = true) (k : Nat) (o : Oper) (hk : ops[k]? = some o) :
    o.guard = none ∧ (∀ cs b, o.op ≠ .select cs b) ∧ (∀ e ∈ o.after, Region.binds .any e = true → e.on < k) ∧ (∀ d, o.dst = some d → d < size) ∧
    (∀ j ∈ D.getD k [], waits ops k j = true ∧ j < ops.length) ∧ (∀ j, j < ops.length → looks ops k j = true → j ∈ D.getD k []) ∧
    (∀ j d, j < ops.length → dstOf ops j = some d → o.dst = some d → j = k) ∧
    (∀ j, j < ops.length → j ≠ k → (k ∈ hard → reach ops ops.length j k = false → (j ∈ keep ∨ ∃ r, r < ops.length ∧ j ∈ D.getD r [] ∧ r ≠ k ∧ reach ops ops.length k r = false) → (L.getD j .any).flat = true) ∧ (k ∈ wild → reach ops ops.length k j = false → j ∈ plain)) := by
  have hlt : k < ops.length := (List.getElem?_eq_some_iff.1 hk).1
  unfold softOk at h
  rw [Bool.and_eq_true] at h
  have h := List.all_eq_true.1 h.2 k (List.mem_range.2 hlt)
  have hdk : dstOf ops k = o.dst := by simp [dstOf, hk]
  simp only [hk, Bool.and_eq_true, hdk] at h
  obtain ⟨⟨⟨⟨⟨⟨h1, h2⟩, h3⟩, h4⟩, h5⟩, _⟩, h6⟩ := h
  have h6 : ∀ j, j < ops.length → _ := fun j hj => List.all_eq_true.1 h6 j (List.mem_range.2 hj)
  refine ⟨by simpa using h1, fun cs b e => (by rw [e] at h2; cases h2), fun e he hb => ?_, fun d hd => by rw [hd] at h4; simpa using h4, fun j hj => ?_, fun j hj hl => ?_, fun j d hj hd hd' => ?_, fun j hj hne => ?_⟩
  · have := (Array.all_eq_true_iff_forall_mem.1 h3) e he
    simpa [hb] using this
  · have := List.all_eq_true.1 h5 j hj
    simpa using this
  · have := h6 j hj
    simp only [Bool.and_eq_true, hl] at this
    simpa using this.1.1
  · have := h6 j hj
    simp only [Bool.and_eq_true, hd, hd'] at this
    simpa using this.1.2
  · have := h6 j hj
    simp only [Bool.and_eq_true] at this
    have this := this.2
    simp only [hne, decide_false, Bool.false_or, Bool.and_eq_true] at this
    obtain ⟨t1, t2⟩ := this
    refine ⟨fun hh hjk hr => ?_, fun hh hr => ?_⟩
    · have hh' : hard.contains k = true := by simpa using hh
      simp only [hh', hjk, Bool.not_true, Bool.false_or, Bool.or_eq_true, Bool.not_eq_true'] at t1
      rcases t1 with t1 | t1
      · exfalso
        rw [Bool.or_eq_false_iff] at t1
        rcases hr with hr | ⟨r, hr, hjr, hrk, hn⟩
        · have := t1.1; simp [hr] at this
        · have := List.any_eq_false.1 t1.2 r (List.mem_range.2 hr)
          simp [hrk, hn] at this
          exact this hjr
      · exact t1
    · have hh' : wild.contains k = true := by simpa using hh
      simp only [hh', Bool.not_true, Bool.false_or, Bool.or_eq_true, hr] at t2
      simpa using t2

theorem looks_spec {ops : List Oper} {k j : Nat} {o : Oper} {t : Tmp} (hk : ops[k]? = some o) (hj : dstOf ops j = some t) (ht : Operand.tmp t ∈ o.op.operands) : looks ops k j = true := by
  unfold looks
  rw [hk, hj]
  simp only [List.contains_iff_mem]
  exact List.mem_filterMap.2 ⟨.tmp t, by simpa using ht, rfl⟩

theorem dst_lt {ops : List Oper} {j : Nat} {t : Tmp} (h : dstOf ops j = some t) : j < ops.length := by
  unfold dstOf at h
  cases hj : ops[j]? with
  | none => rw [hj] at h; cases h
  | some o => exact (List.getElem?_eq_some_iff.1 hj).1

theorem listed_lt {ops : List Oper} {listed : Array Bool} {j : Nat} (hs : listed.size = ops.length) (h : listed.getD j false = true) : j < ops.length := by
  rcases Nat.lt_or_ge j listed.size with h' | h'
  · omega
  · simp [Array.getElem?_eq_none h'] at h

theorem soft_any {ops : List Oper} {D : List (List Nat)} {L : List Fact} {hard wild plain keep : List Nat} {a : Act} {w : World} (hB : softOk ops D L hard wild plain keep a.tmps.size = true)
    (hs : ∀ k o, ops[k]? = some o → oblig P ops D L hard wild plain a w k o)
    (hfin : ∀ vals x, facts L vals x keep → Q .normal (puts ops vals (List.range ops.length) a) x) :
    ∀ (fuel : Nat) (listed : Array Bool) (a' : Act) (x : World) (vals : Nat → Value), cnt (fun i => listed.getD i false) ops.length ≤ fuel →
      SoftInv ops D L plain keep a w listed a' x vals → wpAny P .any ops.toArray Q fuel listed a' x := by
  have hdd : ∀ i j t, dstOf ops i = some t → dstOf ops j = some t → i = j := fun i j t hi hj => by
    have hjl : j < ops.length := dst_lt hj
    have ho : ops[j]? = some ops[j] := List.getElem?_eq_getElem hjl
    exact (softOk_spec hB j _ ho).2.2.2.2.2.2.1 i t (dst_lt hi) hi (by simpa [dstOf, ho] using hj)
  have hds : ∀ j t, dstOf ops j = some t → t < a.tmps.size := fun j t hj => by
    have hjl : j < ops.length := dst_lt hj
    have ho : ops[j]? = some ops[j] := List.getElem?_eq_getElem hjl
    exact (softOk_spec hB j _ ho).2.2.2.1 t (by simpa [dstOf, ho] using hj)
  have hdone : ∀ (listed : Array Bool) (a' : Act) (x : World) (vals : Nat → Value), (∀ i, i < ops.length → listed.getD i false = true) → SoftInv ops D L plain keep a w listed a' x vals → Q .normal a' x := by
    intro listed a' x vals hall inv
    have ha : a' = puts ops vals (List.range ops.length) a := by
      have ht : a'.tmps = (puts ops vals (List.range ops.length) a).tmps := by
        apply Array.ext_getElem?
        intro t
        by_cases h : ∃ j, dstOf ops j = some t
        · obtain ⟨j, hj⟩ := h
          rw [inv.new j t (hall j (dst_lt hj)) hj, puts_get (fun i j => hdd i j t) _ _ j (List.mem_range.2 (dst_lt hj)) hj (hds j t hj)]
        · rw [inv.old t (fun j _ e => h ⟨j, e⟩), puts_ne _ _ (fun i _ e => h ⟨i, e⟩)]
      have hdf : a'.defers = (puts ops vals (List.range ops.length) a).defers := by rw [puts_defers]; exact inv.defers
      cases a'
      cases hp : puts ops vals (List.range ops.length) a
      rw [hp] at ht hdf
      simp only at ht hdf
      rw [ht, hdf]
    rw [ha]
    refine hfin vals x (facts_iff.2 fun i hi => ?_)
    have hk : i < ops.length := by
      unfold softOk at hB
      rw [Bool.and_eq_true] at hB
      simpa using List.all_eq_true.1 hB.1 i hi
    exact inv.fact i (hall i hk) (.inl hi)
  have hmin : ∀ (listed : Array Bool), listed.size = ops.length → ∀ i, i < ops.length → listed.getD i false = false → Region.ready .any ops.toArray listed ≠ [] := by
    intro listed hsz i
    induction i using Nat.strongRecOn with
    | _ i ih =>
      intro hi hun hr
      have ho : ops[i]? = some ops[i] := List.getElem?_eq_getElem hi
      by_cases h : ∀ e ∈ ops[i].after, Region.binds .any e = true → listed.getD e.on false = true
      · have : i ∈ Region.ready .any ops.toArray listed := mem_ready.2 ⟨getD_in (by omega) hun, ops[i], by simp [ho], h⟩
        rw [hr] at this; cases this
      · simp only [Classical.not_forall] at h
        obtain ⟨e, he, hb, hl⟩ := h
        have hlt := (softOk_spec hB i _ ho).2.2.1 e he hb
        exact ih e.on hlt (by omega) (by simpa using hl) hr
  intro fuel
  induction fuel with
  | zero =>
    intro listed a' x vals hc inv
    have hall := cnt_zero (f := fun i => listed.getD i false) (Nat.le_zero.1 hc)
    refine ⟨?_, hdone _ _ _ _ hall inv⟩
    cases hr : Region.ready .any ops.toArray listed with
    | nil => rfl
    | cons k rs =>
      exfalso
      have hk : k ∈ Region.ready .any ops.toArray listed := by rw [hr]; simp
      obtain ⟨h0, o, ho, _⟩ := mem_ready.1 hk
      have hlt : k < ops.length := by
        have := (Array.getElem?_eq_some_iff.1 ho).1; simpa using this
      have h1 : listed.getD k false = true := hall k hlt
      rw [getD_both h0] at h1; cases h1
  | succ fuel ih =>
    intro listed a' x vals hc inv
    refine ⟨fun hr => ?_, fun k hk => ?_⟩
    · refine hdone _ _ _ _ (fun i hi => ?_) inv
      cases h : listed.getD i false with
      | true => rfl
      | false => exact absurd hr (hmin listed inv.size i hi h)
    · obtain ⟨h0, o, hoA, hwait⟩ := mem_ready.1 hk
      have ho : ops[k]? = some o := by simpa using hoA
      have hkl : k < ops.length := (List.getElem?_eq_some_iff.1 ho).1
      have h0f : listed.getD k false = false := getD_both h0
      have hsz : k < listed.size := by rw [inv.size]; exact hkl
      obtain ⟨hg, hsel, _, hdsz, hD, hlook, hdist, hhard⟩ := softOk_spec hB k o ho
      have hw : ∀ m, waits ops k m = true → listed.getD m false = true := fun m hm => by
        obtain ⟨o', ho', e, he, hb, rfl⟩ := waits_spec.1 hm
        have : o' = o := Option.some.inj (ho'.symm.trans ho)
        subst this
        exact hwait e he hb
      have hDl : ∀ j ∈ D.getD k [], listed.getD j false = true := fun j hj => hw j (hD j hj).1
      have hdk : dstOf ops k = o.dst := by simp [dstOf, ho]
      -- the operation runs as it does in the small state
      have hexec : execOp a'.eval o = execOp (puts ops vals (D.getD k []) a).eval o := execOp_congr o hsel fun y hy => by
        cases y with
        | tmp t =>
          have ht : a'.tmps[t]? = (puts ops vals (D.getD k []) a).tmps[t]? := by
            by_cases h : ∃ j, dstOf ops j = some t
            · obtain ⟨j, hj⟩ := h
              have hm := hlook j (dst_lt hj) (looks_spec ho hj hy)
              rw [inv.new j t (hDl j hm) hj, puts_get (fun i j => hdd i j t) _ _ j hm hj (hds j t hj)]
            · rw [inv.old t (fun j _ e => h ⟨j, e⟩), puts_ne _ _ (fun i _ e => h ⟨i, e⟩)]
          show a'.tmps.getD t undef = (puts ops vals (D.getD k []) a).tmps.getD t undef
          rw [Array.getD_eq_getD_getElem?, Array.getD_eq_getD_getElem?, ht]
        | _ => rfl
      have hob := hs k o ho vals x
        (by
          by_cases hp : k ∈ plain
          · exact .inl hp
          · exact .inr (inv.cond ⟨k, hkl, h0f, hp⟩))
        (facts_iff.2 fun j hj => inv.fact j (hDl j hj) (.inr ⟨k, hkl, h0f, hj⟩))
      have hbs : (puts ops vals (D.getD k []) a).tmps.size = a.tmps.size := puts_size _ _
      have hbd : (puts ops vals (D.getD k []) a).defers = a.defers := puts_defers _ _
      have next : ∀ v x', softQ L hard wild w.heap.size k o (puts ops vals (D.getD k []) a) x .normal ((puts ops vals (D.getD k []) a).put o.dst v) x' →
          wpAny P .any ops.toArray Q fuel (listed.setIfInBounds k true) (a'.put o.dst v) x' := by
        intro v x' hq
        obtain ⟨_, hV, hbel, hbel2⟩ := hq
        have hgs := getD_set (listed := listed) hsz
        have hold : ∀ j, (listed.setIfInBounds k true).getD j false = true → j ≠ k → listed.getD j false = true := fun j hj hne => by
          rw [hgs, if_neg hne] at hj; exact hj
        have hun : ∀ r, (listed.setIfInBounds k true).getD r false = false → r ≠ k ∧ listed.getD r false = false := fun r hr => by
          rw [hgs] at hr
          by_cases e : r = k
          · rw [if_pos e] at hr; cases hr
          · rw [if_neg e] at hr; exact ⟨e, hr⟩
        have hnr : ∀ r, listed.getD r false = false → reach ops ops.length k r = false := fun r hr => by
          cases h : reach ops ops.length k r with
          | false => rfl
          | true => rw [reach_listed inv.closed _ k r hw h] at hr; cases hr
        refine ih _ _ x' (fun j => if j = k then got o ((puts ops vals (D.getD k []) a).put o.dst v) else vals j) ?_ ⟨by simp [inv.size], fun j m hm hl => ?_, by rw [put_size]; exact inv.tsize, by rw [put_defers]; exact inv.defers, fun t ht => ?_, fun j t hj hdj => ?_, fun hr => ?_, fun j hj hr => ?_⟩
        · have := (cnt_set (f := fun i => listed.getD i false) (g := fun i => (listed.setIfInBounds k true).getD i false) h0f hgs (n := ops.length)).2 hkl
          omega
        · rw [hgs]
          by_cases e : j = k
          · rw [if_pos e]
          · rw [if_neg e]
            by_cases e' : m = k
            · subst e'; exact hw j hm
            · exact inv.closed j m hm (hold m hl e')
        · rw [put_get_ne _ _ _ _ (by
            have := ht k (by rw [hgs, if_pos rfl])
            rwa [hdk] at this)]
          refine inv.old t fun j hj => ht j ?_
          rw [hgs]; split <;> first | rfl | exact hj
        · by_cases e : j = k
          · subst e
            rw [hdk] at hdj
            have htl := hdsz t hdj
            rw [if_pos rfl, hdj, put_get _ _ _ (by rw [inv.tsize]; exact htl)]
            simp only [got, hdj]
            rw [Array.getD_eq_getD_getElem?, put_get _ _ _ (by rw [hbs]; exact htl)]
            rfl
          · rw [if_neg e, put_get_ne _ _ _ _ (fun e' => e (hdist j t (dst_lt hdj) hdj e'))]
            exact inv.new j t (hold j hj e) hdj
        · obtain ⟨r, hrl, hru, hrp⟩ := hr
          obtain ⟨hrk, hru'⟩ := hun r hru
          have hcd := inv.cond ⟨r, hrl, hru', hrp⟩
          rcases hbel2 with hh | hh | hb
          · exact absurd ((hhard r hrl hrk).2 hh (hnr r hru')) hrp
          · rcases hbel with hb | hb
            · exact absurd hb hh
            · exact hcd.trans (hb.mono hcd.size)
          · exact hcd.trans hb
        · by_cases e : j = k
          · subst e; rw [if_pos rfl]; exact hV
          · rw [if_neg e]
            have hjl := hold j hj e
            have hjlt : j < ops.length := listed_lt inv.size hjl
            have hold' : j ∈ keep ∨ ∃ r, r < ops.length ∧ listed.getD r false = false ∧ j ∈ D.getD r [] := by
              rcases hr with hr | ⟨r, hrl, hru, hjr⟩
              · exact .inl hr
              · exact .inr ⟨r, hrl, (hun r hru).2, hjr⟩
            have hVj := inv.fact j hjl hold'
            rcases hbel with hh | hb
            · have hjk : reach ops ops.length j k = false := by
                cases h : reach ops ops.length j k with
                | false => rfl
                | true => rw [reach_listed inv.closed _ j k (fun m hm => inv.closed m j hm hjl) h] at h0f; cases h0f
              refine (L.getD j .any).hflat ((hhard j hjlt e).1 hh hjk ?_) _ _ _ hVj
              rcases hr with hr | ⟨r, hrl, hru, hjr⟩
              · exact .inl hr
              · exact .inr ⟨r, hrl, hjr, (hun r hru).1, hnr r (hun r hru).2⟩
            · exact (L.getD j .any).stab _ _ _ hVj hb
      unfold wpOp
      rw [hoA]
      have hwant : Region.wanted o (yielded ops.toArray a'.tmps) = true := by unfold Region.wanted; rw [hg]
      simp only [hwant, if_true]
      refine .inl ?_
      unfold Oper.wp at hob ⊢
      rw [hexec]
      generalize (execOp (puts ops vals (D.getD k []) a).eval o).run P x = r at hob ⊢
      cases r with
      | ok n w' =>
        cases n <;> simp only [Oper.upon] at hob ⊢
        case value v => exact next v w' hob
        case skip => exact next _ w' hob
        case defer d =>
          have := hob.1
          rw [put_defers] at this
          exact absurd (congrArg List.length this) (by simp)
        case enter f args =>
          refine Calls.mono hob fun e w'' he => ?_
          cases e with
          | returned u => exact next u w'' he
          | panicked c => exact he.elim
          | outgrown => obtain ⟨_, _, h⟩ := he; exact h.elim
        case row row args => exact Rows.mono hob fun u w'' he => next u w'' he
      | halt e w' =>
        cases e <;> simp only [Oper.upon] at hob ⊢ <;> exact hob.elim

/-- A drawn region, each operation once. -/
theorem wp_region_soft {id : Nat} {ops : List Oper} {a : Act} {w : World} (D : List (List Nat)) (L : List Fact) (hard wild plain keep : List Nat) (hm : P.follows .mixedOrders = true)
    (hB : softOk ops D L hard wild plain keep a.tmps.size = true)
    (hs : ∀ k o, ops[k]? = some o → oblig P ops D L hard wild plain a w k o)
    (hfin : ∀ vals x, facts L vals x keep → Q .normal (puts ops vals (List.range ops.length) a) x) : (Code.region id ops.toArray true).wp P Q a w := by
  refine wp_region_any hm ?_
  have h0 : ∀ j, (Array.replicate ops.toArray.size false).getD j false = false := fun j => getD_replicate_false _ _
  refine soft_any hB hs hfin _ _ _ _ (fun _ => undef) ?_ ⟨by simp, fun j k _ hl => ?_, rfl, rfl, fun _ _ => rfl, fun j t hj => ?_, fun _ => below_drewN (Below.refl _ _) 1, fun j hj => ?_⟩
  · have hle : ∀ (f : Nat → Bool) (n : Nat), cnt f n ≤ n := fun f n => by
      induction n with
      | zero => exact Nat.le_refl _
      | succ n ih => simp only [cnt]; split <;> omega
    exact Nat.le_trans (hle _ _) (by simp)
  · rw [h0] at hl; cases hl
  · rw [h0] at hj; cases hj
  · rw [h0] at hj; cases hj

def putsD (vals : Nat → Value) : List (Nat × Tmp) → Act → Act
  | [], a => a
  | (i, t) :: l, a => putsD vals l (a.put (some t) (vals i))
def factsD (L : List Fact) (vals : Nat → Value) (x : World) : List (Nat × Tmp) → Prop
  | [] => True
  | (i, _) :: l => (L.getD i .any).V (vals i) x ∧ factsD L vals x l
def fitsD (ops : List Oper) (l : List (Nat × Tmp)) : Bool := l.all fun p => dstOf ops p.1 == some p.2
theorem puts_putsD {ops : List Oper} {vals : Nat → Value} : ∀ {l : List (Nat × Tmp)} {a : Act}, fitsD ops l = true → puts ops vals (l.map (·.1)) a = putsD vals l a
  | [], _, _ => rfl
  | (i, t) :: l, a, h => by
    simp only [fitsD, List.all_cons, Bool.and_eq_true, beq_iff_eq] at h
    simp only [List.map_cons, puts, putsD, h.1]
    exact puts_putsD h.2
theorem facts_factsD {L : List Fact} {vals : Nat → Value} {x : World} : ∀ {l : List (Nat × Tmp)}, facts L vals x (l.map (·.1)) = factsD L vals x l
  | [] => rfl
  | (i, t) :: l => by simp only [List.map_cons, facts, factsD, facts_factsD (l := l)]
theorem puts_all {ops : List Oper} {vals : Nat → Value} : ∀ (l : List Nat) (a : Act), puts ops vals l a = putsD vals (l.filterMap fun i => (dstOf ops i).map fun t => (i, t)) a
  | [], _ => rfl
  | i :: l, a => by
    cases h : dstOf ops i with
    | none => simp only [puts, h, List.filterMap_cons, Option.map_none]; exact puts_all l a
    | some t => simp only [puts, h, List.filterMap_cons, Option.map_some, putsD]; exact puts_all l _

/-- One operation's share: in whatever later world, from the state that holds what it looks at. -/
def share (P : Program) (L : List Fact) (hard wild plain : List Nat) (a : Act) (w : World) (k : Nat) (o : Oper) (d : List (Nat × Tmp)) : Prop :=
  ∀ (vals : Nat → Value) (x : World), (k ∈ plain ∨ Below w.heap.size w x) → factsD L vals x d →
    wpList P #[] (softQ L hard wild w.heap.size k o (putsD vals d a) x) [o] (putsD vals d a) x
def shares (P : Program) (L : List Fact) (hard wild plain : List Nat) (a : Act) (w : World) : Nat → List Oper → List (List (Nat × Tmp)) → Prop
  | _, [], _ => True
  | _, _ :: _, [] => False
  | k, o :: l, d :: ds => share P L hard wild plain a w k o d ∧ shares P L hard wild plain a w (k + 1) l ds
theorem shares_get {L : List Fact} {hard wild plain : List Nat} {a : Act} {w : World} : ∀ {l : List Oper} {ds : List (List (Nat × Tmp))} {k : Nat}, shares P L hard wild plain a w k l ds →
    ∀ i o, l[i]? = some o → share P L hard wild plain a w (k + i) o (ds.getD i [])
  | [], _, _, _, i, o, h => by simp at h
  | _ :: _, [], _, h, _, _, _ => h.elim
  | o' :: l, d :: ds, k, h, 0, o, ho => by
    simp only [List.getElem?_cons_zero, Option.some.injEq] at ho
    subst ho; exact h.1
  | o' :: l, d :: ds, k, h, i + 1, o, ho => by
    simp only [List.getElem?_cons_succ] at ho
    have := shares_get h.2 i o ho
    rw [show k + (i + 1) = k + 1 + i by omega]
    simpa using this

/-- A drawn region, each operation once: D: of each operation the ones that it looks at, with their slots; L: what is said of each one's value; hard: those that write old memory; plain: those that want nothing of the world ahead; keep: whose facts the end wants; all: all slots. -/
theorem wp_region_shares {id : Nat} {ops : List Oper} {a : Act} {w : World} (D : List (List (Nat × Tmp))) (L : List Fact) (hard wild plain keep : List Nat) (all : List (Nat × Tmp)) (hm : P.follows .mixedOrders = true)
    (hB : softOk ops (D.map (·.map (·.1))) L hard wild plain keep a.tmps.size = true) (hD : D.all (fitsD ops) = true)
    (hall : (List.range ops.length).filterMap (fun i => (dstOf ops i).map fun t => (i, t)) = all)
    (hs : shares P L hard wild plain a w 0 ops D)
    (hfin : ∀ vals x, facts L vals x keep → Q .normal (putsD vals all a) x) : (Code.region id ops.toArray true).wp P Q a w := by
  refine wp_region_soft (D.map (·.map (·.1))) L hard wild plain keep hm hB (fun k o hk => ?_) (fun vals x hf => by rw [puts_all, hall]; exact hfin vals x hf)
  have hg := (softOk_spec hB k o hk).1
  have hsh := shares_get hs k o hk
  rw [Nat.zero_add] at hsh
  have hfit : fitsD ops (D.getD k []) = true := by
    rcases Nat.lt_or_ge k D.length with h | h
    · rw [show D.getD k [] = D[k] by simp [h]]; exact List.all_eq_true.1 hD _ (List.getElem_mem h)
    · rw [show D.getD k [] = [] by simp [h]]; rfl
  have hDk : (D.map (·.map (·.1))).getD k [] = (D.getD k []).map (·.1) := by
    rcases Nat.lt_or_ge k D.length with h | h
    · simp [h]
    · simp [h]
  intro vals x hc hf
  rw [hDk, facts_factsD] at hf
  have h := hsh vals x hc hf
  rw [hDk, puts_putsD hfit]
  unfold wpList at h
  rw [if_pos (by unfold Region.wanted; rw [hg])] at h
  rcases h with h | ⟨_, _, _, h⟩
  · exact h
  · exact h.elim

/-- A row of the call's own. -/
def Fact.row (base : Nat) (e : TypeId) (size n : Nat) (cs : List Value) : Fact :=
  .of (fun v x => ∃ A c, v = .slice A n c ∧ x.ownsRow base e size (.slice A n c) n cs) fun _ _ _ ⟨A, c, h, ho⟩ hb => ⟨A, c, h, own_below ho hb (Nat.le_refl _)⟩
/-- The slice of a new block of m elements. -/
def Fact.lit (e : TypeId) (m : Nat) (cs : Array Value) : Fact :=
  .of (fun v x => ∃ b, v = .slice (some ⟨b, 0, none⟩) m m ∧ b < x.heap.size ∧ ∃ fr, x.heap[b]? = some (.cells cs e fr)) fun _ _ _ ⟨b, h, hlt, fr, hh⟩ hb => ⟨b, h, Nat.lt_of_lt_of_le hlt hb.size, fr, (hb.block b hlt).trans hh⟩

/-- append onto the empty slice of a block of its own writes no old block. -/
theorem run_append_lit (w : World) (base : Nat) (t ty e : TypeId) (i : TypeInfo) (z : Value) (size bytes : Nat) (ht : P.underlying t = some (.slice e)) (hi : P.info? e = some i) (hz : i.zero = some z)
    (hsize : i.size = size) (hby : i.bytes = bytes) (hzs : z.cells.size = size) (hsz : 0 < size)
    (p : Addr) (hown : w.ownsRow base e size (.slice (some p) 0 0) 0 [])
    (A : Option Addr) (m c : Nat) (news : List Value) (hr : Src w size A m news) (h1 : ∀ u ∈ news, u.oneCell' = true)
    (h63 : m ≤ maxLen) (hbytes : m * bytes ≤ 140737488355328) (hbase : base ≤ w.heap.size) (hA : A = none → m = 0) :
    ∃ A' c' w', (Builtin.append_ #[t, t] ty #[.slice (some p) 0 0, .slice A m c]).run P w = .ok (.slice A' m c') w' ∧ w'.ownsRow base e size (.slice A' m c') m news ∧ Below w.heap.size w w' := by
  by_cases hm : m = 0
  · subst hm
    have hn : news = [] := List.eq_nil_of_length_eq_zero (by simpa using hr.1)
    subst hn
    refine ⟨some p, 0, w, ?_, hown, Below.refl _ _⟩
    rcases A with _ | ad
    · exact run_append_of_nil w base t ty e i size ht hi _ 0 [] hown c
    · simp [Builtin.append_, run_underlying ht, sizeOf, typeInfo, hi, Builtin.lenOf, Builtin.firstCells, loadCells, loadCellsFrom, storeCells]
  · obtain ⟨A', c', w', hrun, h2, _⟩ := run_append_src (P := P) w base t ty e i z size bytes ht hi hz hsize hby hzs hsz _ 0 [] hown A m c news hr h1 m (by omega) h63 hbytes hbase hA
    refine ⟨A', c', w', hrun, by simpa using h2, ?_⟩
    obtain ⟨ad, rfl, hc⟩ := hr.2 (by omega)
    subst hsize hby
    have hg := run_append_grow (P := P) w t ty e i z ht hi hz p 0 0 [] (by simp) (by simp) ad m c news hr.1 hc (by omega) (by unfold maxLen at h63; omega) (growslice_fits (by omega) (by simpa using hbytes))
    rw [hg] at hrun
    injection hrun with _ hw
    rw [← hw]
    exact (below_drewN (Below.refl _ _) 1).alloc (Nat.le_refl _) _

/-- The empty slice of a block of its own. -/
def Fact.lit0 (base : Nat) (e : TypeId) (size : Nat) : Fact :=
  .of (fun v x => ∃ p, v = .slice (some p) 0 0 ∧ x.ownsRow base e size (.slice (some p) 0 0) 0 []) fun _ _ _ ⟨p, h, ho⟩ hb => ⟨p, h, own_below ho hb (Nat.le_refl _)⟩
end Go.Proofs.Ytbljfhmcebgdaaa
