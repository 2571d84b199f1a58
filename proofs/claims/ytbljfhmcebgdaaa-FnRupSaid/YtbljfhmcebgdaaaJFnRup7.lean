/- A drawn region whose operations write old memory: each operation once, in whatever world its turn comes; a relation that all keep, and an invariant. No program is named here. Drawn regions that draw from a reader; literals. The reference's SatOk. The reference's SatOk: the reasons; whole. The reference's SatOk, whole; SatVals. The reference's SatVals. Own rows of truth values; append. Counting through truth values: the program's countUp, CnfLeast; the laws' wpWay, wpFollows. The laws' own counting: wpWay, wpFollows. -/
import Derived.Test.YtbljfhmcebgdaaaJFnRup1
import Derived.Test.YtbljfhmcebgdaaaJFnRup2
import Derived.Test.YtbljfhmcebgdaaaJFnRup5
import Derived.Test.YtbljfhmcebgdaaaJFnRup6
/-! A drawn region whose operations write old memory: each operation once, in whatever world its turn comes; a relation that all keep, and an invariant. No program is named here. -/
namespace Go.Proofs.Ytbljfhmcebgdaaa
open Go Go.RowKit

/-- The operation without its guard. -/
def bare (o : Oper) : Oper := { o with guard := none }
def relOk (ops : List Oper) (D : List (List Nat)) (size : Nat) : Bool :=
  (List.range ops.length).all fun k =>
    (match ops[k]? with
      | some o => (match o.guard with | none => true | some (g, _) => (D.getD k []).contains g && (dstOf ops g).isSome) && (match o.op with | .select .. => false | _ => true) && (o.after.all fun e => !Region.binds .any e || decide (e.on < k)) && (match o.dst with | some d => decide (d < size) | none => true)
      | none => false) &&
    ((D.getD k []).all fun j => waits ops k j && decide (j < ops.length)) &&
    (decide ((D.getD k []).Nodup)) &&
    (List.range ops.length).all fun j =>
      (!looks ops k j || (D.getD k []).contains j) &&
      (decide (j = k) || (match dstOf ops j, dstOf ops k with | some d, some e => d != e | _, _ => true))
theorem relOk_spec {ops : List Oper} {D : List (List Nat)} {size : Nat} (h : relOk ops D size = true) (k : Nat) (o : Oper) (hk : ops[k]? = some o) :
    (∀ g b, o.guard = some (g, b) → g ∈ D.getD k [] ∧ ∃ d, dstOf ops g = some d) ∧ (∀ cs b, o.op ≠ .select cs b) ∧ (∀ e ∈ o.after, Region.binds .any e = true → e.on < k) ∧ (∀ d, o.dst = some d → d < size) ∧
    (∀ j ∈ D.getD k [], waits ops k j = true ∧ j < ops.length) ∧ (∀ j, j < ops.length → looks ops k j = true → j ∈ D.getD k []) ∧
    (∀ j d, j < ops.length → dstOf ops j = some d → o.dst = some d → j = k) := by
  have hlt : k < ops.length := (List.getElem?_eq_some_iff.1 hk).1
  unfold relOk at h
  have h := List.all_eq_true.1 h k (List.mem_range.2 hlt)
  have hdk : dstOf ops k = o.dst := by simp [dstOf, hk]
  simp only [hk, Bool.and_eq_true, hdk] at h
  obtain ⟨⟨⟨⟨⟨⟨h1, h2⟩, h3⟩, h4⟩, h5⟩, _⟩, h6⟩ := h
  have h6 : ∀ j, j < ops.length → _ := fun j hj => List.all_eq_true.1 h6 j (List.mem_range.2 hj)
  refine ⟨fun g b hg => ?_, fun cs b e => (by rw [e] at h2; cases h2), fun e he hb => ?_, fun d hd => by rw [hd] at h4; simpa using h4, fun j hj => ?_, fun j hj hl => ?_, fun j d hj hd hd' => ?_⟩
  · rw [hg] at h1
    simp only [Bool.and_eq_true, List.contains_iff_mem] at h1
    exact ⟨h1.1, Option.isSome_iff_exists.1 h1.2⟩
  · have := (Array.all_eq_true_iff_forall_mem.1 h3) e he
    simpa [hb] using this
  · have := List.all_eq_true.1 h5 j hj
    simpa using this
  · have := h6 j hj
    simp only [Bool.and_eq_true, hl] at this
    simpa using this.1
  · have := h6 j hj
    simp only [Bool.and_eq_true, hd, hd'] at this
    simpa using this.2
abbrev Say := (Nat → Value) → World → Prop
def says (L : List Say) (vals : Nat → Value) (x : World) : List Nat → Prop
  | [] => True
  | i :: l => L.getD i (fun _ _ => True) vals x ∧ says L vals x l
/-- It waits for all others. -/
def isLast (ops : List Oper) (k : Nat) : Bool := (List.range ops.length).all fun r => r == k || reach ops ops.length k r
def cntT (g : Nat → Bool) : Nat → Nat
  | 0 => 0
  | n + 1 => cntT g n + if g n then 1 else 0
/-- How many it waits for, and how many wait for it. -/
def lows (ops : List Oper) (k : Nat) : Nat := cntT (fun r => r != k && reach ops ops.length k r) ops.length
def ups (ops : List Oper) (k : Nat) : Nat := cntT (fun r => r != k && reach ops ops.length r k) ops.length
theorem cntT_in {f g : Nat → Bool} : ∀ {n : Nat}, (∀ i, i < n → g i = true → f i = true) → cntT g n + cnt f n ≤ n
  | 0, _ => Nat.le_refl _
  | n + 1, h => by
    have ih := cntT_in (f := f) (g := g) (n := n) fun i hi => h i (by omega)
    have hn := h n (by omega)
    simp only [cntT, cnt]
    cases hg : g n
    · simp; split <;> omega
    · rw [hn hg]; simp; omega
theorem cntT_out {f g : Nat → Bool} {k : Nat} (hf : f k = false) (hg : g k = false) : ∀ {n : Nat}, (∀ i, i < n → g i = true → f i = false) → cntT g n + (if k < n then 1 else 0) ≤ cnt f n
  | 0, _ => by simp [cntT, cnt]
  | n + 1, h => by
    have ih := cntT_out hf hg (n := n) fun i hi => h i (by omega)
    have hn := h n (by omega)
    simp only [cntT, cnt]
    by_cases e : n = k
    · subst e
      rw [hf, hg]
      simp at ih ⊢
      omega
    · have hite : (if k < n + 1 then 1 else 0) = (if k < n then 1 else 0) := by
        by_cases h9 : k < n
        · rw [if_pos h9, if_pos (by omega)]
        · rw [if_neg h9, if_neg (by omega)]
      rw [hite]
      generalize (if k < n then 1 else 0) = z at *
      cases hgn : g n
      · rw [if_neg (by simp)]
        have : cnt f n ≤ cnt f n + (if f n = true then 0 else 1) := Nat.le_add_right _ _
        omega
      · rw [if_pos rfl, hn hgn, if_neg (by simp)]
        omega
/-- Each stays over the relation, or is the last. -/
def Stabs (ops : List Oper) (R : World → World → Prop) : Nat → List Say → Prop
  | _, [] => True
  | k, V :: l => (isLast ops k = true ∨ ∀ vs x x', V vs x → R x x' → V vs x') ∧ Stabs ops R (k + 1) l
theorem Stabs.get {ops : List Oper} {R : World → World → Prop} : ∀ {L : List Say} {k : Nat}, Stabs ops R k L → ∀ i vs x x', isLast ops (k + i) = false → L.getD i (fun _ _ => True) vs x → R x x' → L.getD i (fun _ _ => True) vs x'
  | [], _, _, i, vs, x, x', _, _, _ => by simp
  | V :: l, k, h, 0, vs, x, x', hl, hv, hr => by
    rcases h.1 with h1 | h1
    · rw [Nat.add_zero] at hl; rw [hl] at h1; cases h1
    · simpa using h1 vs x x' (by simpa using hv) hr
  | V :: l, k, h, i + 1, vs, x, x', hl, hv, hr => by simpa using Stabs.get h.2 i vs x x' (by rw [← hl]; congr 1; omega) (by simpa using hv) hr
/-- Each looks at its own value and those of the ones that it looks at. -/
def Locals (D : List (List Nat)) : Nat → List Say → Prop
  | _, [] => True
  | k, V :: l => (∀ vs vs' x, vs k = vs' k → (∀ i ∈ D.getD k [], vs i = vs' i) → V vs x → V vs' x) ∧ Locals D (k + 1) l
theorem Locals.get {D : List (List Nat)} : ∀ {L : List Say} {k : Nat}, Locals D k L → ∀ i vs vs' x, vs (k + i) = vs' (k + i) → (∀ m ∈ D.getD (k + i) [], vs m = vs' m) → L.getD i (fun _ _ => True) vs x → L.getD i (fun _ _ => True) vs' x
  | [], _, _, i, vs, vs', x, _, _, _ => by simp
  | V :: l, k, h, 0, vs, vs', x, h1, h2, hv => by simpa using h.1 vs vs' x (by simpa using h1) (by simpa using h2) (by simpa using hv)
  | V :: l, k, h, i + 1, vs, vs', x, h1, h2, hv => by
    have e : k + (i + 1) = k + 1 + i := by omega
    rw [e] at h1 h2
    simpa using Locals.get h.2 i vs vs' x h1 h2 (by simpa using hv)
def upd (vs : Nat → Value) (k : Nat) (v : Value) : Nat → Value := fun j => if j = k then v else vs j
def relQ (R : World → World → Prop) (I : Nat → World → Prop) (L : List Say) (vals : Nat → Value) (n k : Nat) (o : Oper) (a : Act) (x : World) : Exit → Act → World → Prop
  | .normal, a', x' => a'.defers = a.defers ∧ L.getD k (fun _ _ => True) (upd vals k (got o a')) x' ∧ R x x' ∧ I (n + 1) x'
  | _, _, _ => False
variable {P : Program} {Q : Exit → Act → World → Prop}
def obligR (P : Program) (ops : List Oper) (D : List (List Nat)) (R : World → World → Prop) (I : Nat → World → Prop) (L : List Say) (a : Act) (k : Nat) (o : Oper) : Prop :=
  ∀ (vals : Nat → Value) (x : World) (n : Nat), n < ops.length → lows ops k ≤ n ∧ n + 1 + ups ops k ≤ ops.length → I n x → says L vals x (D.getD k []) →
    ((∀ g b, o.guard = some (g, b) → vals g = .bool b) → o.wp P (puts ops vals (D.getD k []) a) x (relQ R I L vals n k o (puts ops vals (D.getD k []) a) x .normal) (relQ R I L vals n k o (puts ops vals (D.getD k []) a) x)) ∧
    (∀ g b, o.guard = some (g, b) → vals g ≠ .bool b → L.getD k (fun _ _ => True) (upd vals k undef) x ∧ I (n + 1) x)
theorem says_iff {L : List Say} {vals : Nat → Value} {x : World} : ∀ {l : List Nat}, says L vals x l ↔ ∀ i ∈ l, L.getD i (fun _ _ => True) vals x
  | [] => by simp [says]
  | i :: l => by simp [says, says_iff (l := l)]
structure RelInv (ops : List Oper) (I : Nat → World → Prop) (L : List Say) (a : Act) (listed : Array Bool) (a' : Act) (x : World) (vals : Nat → Value) : Prop where
  size : listed.size = ops.length
  closed : ∀ j k, waits ops k j = true → listed.getD k false = true → listed.getD j false = true
  tsize : a'.tmps.size = a.tmps.size
  defers : a'.defers = a.defers
  old : ∀ t, (∀ j, listed.getD j false = true → dstOf ops j ≠ some t) → a'.tmps[t]? = a.tmps[t]?
  new : ∀ j t, listed.getD j false = true → dstOf ops j = some t → a'.tmps[t]? = some (vals j)
  inv : ∃ n, n + cnt (fun i => listed.getD i false) ops.length = ops.length ∧ I n x
  fact : ∀ j, listed.getD j false = true → L.getD j (fun _ _ => True) vals x

theorem rel_any {ops : List Oper} {D : List (List Nat)} {R : World → World → Prop} {I : Nat → World → Prop} {L : List Say} {a : Act} (hRr : ∀ x, R x x) (hL : Stabs ops R 0 L) (hLo : Locals D 0 L) (hB : relOk ops D a.tmps.size = true)
    (hs : ∀ k o, ops[k]? = some o → obligR P ops D R I L a k o)
    (hfin : ∀ vals x n, n ≤ ops.length → I n x → says L vals x (List.range ops.length) → Q .normal (puts ops vals (List.range ops.length) a) x) :
    ∀ (fuel : Nat) (listed : Array Bool) (a' : Act) (x : World) (vals : Nat → Value), cnt (fun i => listed.getD i false) ops.length ≤ fuel →
      RelInv ops I L a listed a' x vals → wpAny P .any ops.toArray Q fuel listed a' x := by
  have hdd : ∀ i j t, dstOf ops i = some t → dstOf ops j = some t → i = j := fun i j t hi hj => by
    have hjl : j < ops.length := dst_lt hj
    have ho : ops[j]? = some ops[j] := List.getElem?_eq_getElem hjl
    exact (relOk_spec hB j _ ho).2.2.2.2.2.2 i t (dst_lt hi) hi (by simpa [dstOf, ho] using hj)
  have hds : ∀ j t, dstOf ops j = some t → t < a.tmps.size := fun j t hj => by
    have hjl : j < ops.length := dst_lt hj
    have ho : ops[j]? = some ops[j] := List.getElem?_eq_getElem hjl
    exact (relOk_spec hB j _ ho).2.2.2.1 t (by simpa [dstOf, ho] using hj)
  have hdone : ∀ (listed : Array Bool) (a' : Act) (x : World) (vals : Nat → Value), (∀ i, i < ops.length → listed.getD i false = true) → RelInv ops I L a listed a' x vals → Q .normal a' x := by
    intro listed a' x vals hall inv
    have ha : a' = puts ops vals (List.range ops.length) a := by
      have ht : a'.tmps = (puts ops vals (List.range ops.length) a).tmps := by
        apply Array.ext_getElem?
        intro t
        by_cases h : ∃ j, dstOf ops j = some t
        · obtain ⟨j, hj⟩ := h
          rw [inv.new j t (hall j (dst_lt hj)) hj, puts_get (fun i j => hdd i j t) _ _ j (List.mem_range.2 (dst_lt hj)) hj (hds j t hj)]
        · rw [inv.old t (fun j _ e => h ⟨j, e⟩), puts_ne _ _ (fun i _ e => h ⟨i, e⟩)]
      have hdf : a'.defers = (puts ops vals (List.range ops.length) a).defers := by rw [puts_defers]; exact inv.defers
      cases a'
      cases hp : puts ops vals (List.range ops.length) a
      rw [hp] at ht hdf
      simp only at ht hdf
      rw [ht, hdf]
    rw [ha]
    obtain ⟨n, hn, hI⟩ := inv.inv
    exact hfin vals x n (by omega) hI (says_iff.2 fun i hi => inv.fact i (hall i (List.mem_range.1 hi)))
  have hmin : ∀ (listed : Array Bool), listed.size = ops.length → ∀ i, i < ops.length → listed.getD i false = false → Region.ready .any ops.toArray listed ≠ [] := by
    intro listed hsz i
    induction i using Nat.strongRecOn with
    | _ i ih =>
      intro hi hun hr
      have ho : ops[i]? = some ops[i] := List.getElem?_eq_getElem hi
      by_cases h : ∀ e ∈ ops[i].after, Region.binds .any e = true → listed.getD e.on false = true
      · have : i ∈ Region.ready .any ops.toArray listed := mem_ready.2 ⟨getD_in (by omega) hun, ops[i], by simp [ho], h⟩
        rw [hr] at this; cases this
      · simp only [Classical.not_forall] at h
        obtain ⟨e, he, hb, hl⟩ := h
        have hlt := (relOk_spec hB i _ ho).2.2.1 e he hb
        exact ih e.on hlt (by omega) (by simpa using hl) hr
  intro fuel
  induction fuel with
  | zero =>
    intro listed a' x vals hc inv
    have hall := cnt_zero (f := fun i => listed.getD i false) (Nat.le_zero.1 hc)
    refine ⟨?_, hdone _ _ _ _ hall inv⟩
    cases hr : Region.ready .any ops.toArray listed with
    | nil => rfl
    | cons k rs =>
      exfalso
      have hk : k ∈ Region.ready .any ops.toArray listed := by rw [hr]; simp
      obtain ⟨h0, o, ho, _⟩ := mem_ready.1 hk
      have hlt : k < ops.length := by
        have := (Array.getElem?_eq_some_iff.1 ho).1; simpa using this
      have h1 : listed.getD k false = true := hall k hlt
      rw [getD_both h0] at h1; cases h1
  | succ fuel ih =>
    intro listed a' x vals hc inv
    refine ⟨fun hr => ?_, fun k hk => ?_⟩
    · refine hdone _ _ _ _ (fun i hi => ?_) inv
      cases h : listed.getD i false with
      | true => rfl
      | false => exact absurd hr (hmin listed inv.size i hi h)
    · obtain ⟨h0, o, hoA, hwait⟩ := mem_ready.1 hk
      have ho : ops[k]? = some o := by simpa using hoA
      have hkl : k < ops.length := (List.getElem?_eq_some_iff.1 ho).1
      have h0f : listed.getD k false = false := getD_both h0
      have hsz : k < listed.size := by rw [inv.size]; exact hkl
      obtain ⟨hg, hsel, _, hdsz, hD, hlook, hdist⟩ := relOk_spec hB k o ho
      have hw : ∀ m, waits ops k m = true → listed.getD m false = true := fun m hm => by
        obtain ⟨o', ho', e, he, hb, rfl⟩ := waits_spec.1 hm
        have : o' = o := Option.some.inj (ho'.symm.trans ho)
        subst this
        exact hwait e he hb
      have hDl : ∀ j ∈ D.getD k [], listed.getD j false = true := fun j hj => hw j (hD j hj).1
      have hdk : dstOf ops k = o.dst := by simp [dstOf, ho]
      -- the operation runs as it does in the small state
      have hexec : execOp a'.eval o = execOp (puts ops vals (D.getD k []) a).eval o := execOp_congr o hsel fun y hy => by
        cases y with
        | tmp t =>
          have ht : a'.tmps[t]? = (puts ops vals (D.getD k []) a).tmps[t]? := by
            by_cases h : ∃ j, dstOf ops j = some t
            · obtain ⟨j, hj⟩ := h
              have hm := hlook j (dst_lt hj) (looks_spec ho hj hy)
              rw [inv.new j t (hDl j hm) hj, puts_get (fun i j => hdd i j t) _ _ j hm hj (hds j t hj)]
            · rw [inv.old t (fun j _ e => h ⟨j, e⟩), puts_ne _ _ (fun i _ e => h ⟨i, e⟩)]
          show a'.tmps.getD t undef = (puts ops vals (D.getD k []) a).tmps.getD t undef
          rw [Array.getD_eq_getD_getElem?, Array.getD_eq_getD_getElem?, ht]
        | _ => rfl
      obtain ⟨n, hn, hI⟩ := inv.inv
      have hcs := (cnt_set (f := fun i => listed.getD i false) (g := fun i => (listed.setIfInBounds k true).getD i false) h0f (getD_set (listed := listed) hsz) (n := ops.length)).2 hkl
      have hlast1 : lows ops k ≤ n ∧ n + 1 + ups ops k ≤ ops.length := by
        have h1 := cntT_in (f := fun i => listed.getD i false) (g := fun r => r != k && reach ops ops.length k r) (n := ops.length) fun r hr hg => by
          simp only [Bool.and_eq_true] at hg
          exact reach_listed inv.closed _ k r (fun m hm => hw m hm) hg.2
        have h2 := cntT_out (f := fun i => listed.getD i false) (g := fun r => r != k && reach ops ops.length r k) h0f (by simp) (n := ops.length) fun r hr hg => by
          simp only [Bool.and_eq_true] at hg
          cases h : listed.getD r false with
          | false => rfl
          | true =>
            exfalso
            have := reach_listed inv.closed _ r k (fun m hm => inv.closed m r hm h) hg.2
            rw [this] at h0f; cases h0f
        rw [if_pos hkl] at h2
        unfold lows ups
        omega
      have hob := hs k o ho vals x n (by omega) hlast1 hI (says_iff.2 fun j hj => inv.fact j (hDl j hj))
      have hbs : (puts ops vals (D.getD k []) a).tmps.size = a.tmps.size := puts_size _ _
      have hbd : (puts ops vals (D.getD k []) a).defers = a.defers := puts_defers _ _
      have next : ∀ v x', (L.getD k (fun _ _ => True) (upd vals k (got o ((puts ops vals (D.getD k []) a).put o.dst v))) x' ∧ R x x' ∧ I (n + 1) x') →
          wpAny P .any ops.toArray Q fuel (listed.setIfInBounds k true) (a'.put o.dst v) x' := by
        intro v x' hq
        obtain ⟨hV, hR, hI'⟩ := hq
        have hgs := getD_set (listed := listed) hsz
        have hold : ∀ j, (listed.setIfInBounds k true).getD j false = true → j ≠ k → listed.getD j false = true := fun j hj hne => by
          rw [hgs, if_neg hne] at hj; exact hj
        refine ih _ _ x' (fun j => if j = k then got o ((puts ops vals (D.getD k []) a).put o.dst v) else vals j) ?_ ⟨by simp [inv.size], fun j m hm hl => ?_, by rw [put_size]; exact inv.tsize, by rw [put_defers]; exact inv.defers, fun t ht => ?_, fun j t hj hdj => ?_, ⟨n + 1, by omega, hI'⟩, fun j hj => ?_⟩
        · omega
        · rw [hgs]
          by_cases e : j = k
          · rw [if_pos e]
          · rw [if_neg e]
            by_cases e' : m = k
            · subst e'; exact hw j hm
            · exact inv.closed j m hm (hold m hl e')
        · rw [put_get_ne _ _ _ _ (by
            have := ht k (by rw [hgs, if_pos rfl])
            rwa [hdk] at this)]
          refine inv.old t fun j hj => ht j ?_
          rw [hgs]; split <;> first | rfl | exact hj
        · by_cases e : j = k
          · subst e
            rw [hdk] at hdj
            have htl := hdsz t hdj
            rw [if_pos rfl, hdj, put_get _ _ _ (by rw [inv.tsize]; exact htl)]
            simp only [got, hdj]
            rw [Array.getD_eq_getD_getElem?, put_get _ _ _ (by rw [hbs]; exact htl)]
            rfl
          · rw [if_neg e, put_get_ne _ _ _ _ (fun e' => e (hdist j t (dst_lt hdj) hdj e'))]
            exact inv.new j t (hold j hj e) hdj
        · by_cases e : j = k
          · subst e; exact hV
          · have hjl := hold j hj e
            have hlast : isLast ops j = false := by
              cases h : isLast ops j with
              | false => rfl
              | true =>
                unfold isLast at h
                have h1 := List.all_eq_true.1 h k (List.mem_range.2 hkl)
                rw [Bool.or_eq_true] at h1
                rcases h1 with h1 | h1
                · exact absurd (by simpa using h1) (fun e' => e (Eq.symm e'))
                · rw [reach_listed inv.closed _ j k (fun m hm => inv.closed m j hm hjl) h1] at h0f; cases h0f
            have hfj := hL.get j vals x x' (by simpa using hlast) (inv.fact j hjl) hR
            refine hLo.get j vals _ x' (by simp [upd, e]) (fun m hm => ?_) hfj
            have hmk : m ≠ k := fun e' => by
              have hjlt := listed_lt inv.size hjl
              have hw' := ((relOk_spec hB j ops[j] (List.getElem?_eq_getElem hjlt)).2.2.2.2.1 m (by simpa using hm)).1
              rw [e'] at hw'
              rw [inv.closed k j hw' hjl] at h0f; cases h0f
            simp [upd, hmk]
      unfold wpOp
      rw [hoA]
      dsimp only
      have hgv : ∀ g b, o.guard = some (g, b) → ∃ d, dstOf ops g = some d ∧ a'.tmps[d]? = some (vals g) := fun g b hgb => by
        obtain ⟨h1, d, h2⟩ := hg g b hgb
        exact ⟨d, h2, inv.new g d (hDl g h1) h2⟩
      have hyield : ∀ g b, o.guard = some (g, b) → (Region.wanted o (yielded ops.toArray a'.tmps) = true ↔ vals g = .bool b) := fun g b hgb => by
        obtain ⟨d, h1, h2⟩ := hgv g b hgb
        have hy : yielded ops.toArray a'.tmps g = match some (vals g) with | some (.bool b) => some b | _ => none := by
          unfold yielded
          rw [show (ops.toArray[g]?).bind (·.dst) = some d from by simpa [dstOf] using h1]
          simp only [Option.bind_some, h2]
          cases vals g <;> rfl
        unfold Region.wanted
        rw [hgb]
        simp only [hy]
        constructor
        · intro h
          split at h
          · rename_i b' he
            injection he with he
            rw [he]
            have : b' = b := by simpa using h
            rw [this]
          · cases h
        · intro h
          rw [h]; simp
      have hskip : Region.wanted o (yielded ops.toArray a'.tmps) = false → wpAny P .any ops.toArray Q fuel (listed.setIfInBounds k true) (a'.put o.dst undef) x := fun hw0 => by
        cases hgd : o.guard with
        | none => unfold Region.wanted at hw0; rw [hgd] at hw0; cases hw0
        | some p =>
          obtain ⟨g, b⟩ := p
          have hne : vals g ≠ .bool b := fun e => by rw [(hyield g b hgd).2 e] at hw0; cases hw0
          obtain ⟨h1, h2⟩ := hob.2 g b hgd hne
          refine next undef x ⟨?_, hRr x, h2⟩
          have : got o ((puts ops vals (D.getD k []) a).put o.dst undef) = undef := by
            unfold got
            cases hd : o.dst with
            | none => rfl
            | some d =>
              simp only
              rw [Array.getD_eq_getD_getElem?, put_get _ _ _ (by rw [hbs]; exact hdsz d hd)]
              rfl
          rw [this]; exact h1
      by_cases hwant : Region.wanted o (yielded ops.toArray a'.tmps) = true
      rotate_left
      · rw [if_neg hwant]
        exact hskip (by simpa using hwant)
      rw [if_pos hwant]
      have hob := hob.1 fun g b hgd => (hyield g b hgd).1 hwant
      refine .inl ?_
      unfold Oper.wp at hob ⊢
      rw [hexec]
      generalize (execOp (puts ops vals (D.getD k []) a).eval o).run P x = r at hob ⊢
      cases r with
      | ok n w' =>
        cases n <;> simp only [Oper.upon] at hob ⊢
        case value v => exact next v w' hob.2
        case skip => exact next _ w' hob.2
        case defer d =>
          have := hob.1
          rw [put_defers] at this
          exact absurd (congrArg List.length this) (by simp)
        case enter f args =>
          refine Calls.mono hob fun e w'' he => ?_
          cases e with
          | returned u => exact next u w'' he.2
          | panicked c => exact he.elim
          | outgrown => obtain ⟨_, _, h⟩ := he; exact h.elim
        case row row args => exact Rows.mono hob fun u w'' he => next u w'' he.2
      | halt e w' =>
        cases e <;> simp only [Oper.upon] at hob ⊢ <;> exact hob.elim


def idxs (D : List (List (Nat × Tmp))) : List (List Nat) := D.map fun l => l.map fun p => p.1
def saysD (L : List Say) (vals : Nat → Value) (x : World) : List (Nat × Tmp) → Prop
  | [] => True
  | (i, _) :: l => L.getD i (fun _ _ => True) vals x ∧ saysD L vals x l
theorem says_saysD {L : List Say} {vals : Nat → Value} {x : World} : ∀ {l : List (Nat × Tmp)}, says L vals x (l.map (·.1)) = saysD L vals x l
  | [] => rfl
  | (i, t) :: l => by simp only [List.map_cons, says, saysD, says_saysD (l := l)]
/-- What an operation owes. -/
def owes (P : Program) (R : World → World → Prop) (I : Nat → World → Prop) (L : List Say) (vals : Nat → Value) (a : Act) (x : World) (n k : Nat) (o : Oper) (gd : Option (Nat × Bool)) : Prop :=
  match gd with
  | none => wpList P #[] (relQ R I L vals n k o a x) [bare o] a x
  | some (g, b) => (vals g = .bool b → wpList P #[] (relQ R I L vals n k o a x) [bare o] a x) ∧ (vals g ≠ .bool b → L.getD k (fun _ _ => True) (upd vals k undef) x ∧ I (n + 1) x)
def shareR (P : Program) (R : World → World → Prop) (I : Nat → World → Prop) (L : List Say) (a : Act) (N k : Nat) (o : Oper) (d : List (Nat × Tmp)) : Prop :=
  ∀ (vals : Nat → Value) (x : World) (n : Nat), n < N → I n x → saysD L vals x d →
    owes P R I L vals (putsD vals d a) x n k o o.guard
def shareR2 (P : Program) (ops : List Oper) (R : World → World → Prop) (I : Nat → World → Prop) (L : List Say) (a : Act) (N k : Nat) (o : Oper) (d : List (Nat × Tmp)) : Prop :=
  ∀ (vals : Nat → Value) (x : World) (n : Nat), n < N → lows ops k ≤ n ∧ n + 1 + ups ops k ≤ N → I n x → saysD L vals x d →
    owes P R I L vals (putsD vals d a) x n k o o.guard
theorem bare_wp (o : Oper) (a : Act) (w : World) (K : Act → World → Prop) : Oper.wp P (bare o) a w K Q = Oper.wp P o a w K Q := by cases o; rfl
theorem wpList_bare {o : Oper} {a : Act} {w : World} (h : wpList P #[] Q [bare o] a w) : Oper.wp P o a w (Q .normal) Q ∨ LetsOut Q := by
  have hg : (bare o).guard = none := rfl
  unfold wpList at h
  rw [if_pos (by unfold Region.wanted; rw [hg])] at h
  rcases h with h | ⟨_, h⟩
  · rw [← bare_wp]; exact .inl h
  · exact .inr h
def sharesR (P : Program) (R : World → World → Prop) (I : Nat → World → Prop) (L : List Say) (a : Act) (N : Nat) : Nat → List Oper → List (List (Nat × Tmp)) → Prop
  | _, [], _ => True
  | _, _ :: _, [] => False
  | k, o :: l, d :: ds => shareR P R I L a N k o d ∧ sharesR P R I L a N (k + 1) l ds
def sharesR2 (P : Program) (ops : List Oper) (R : World → World → Prop) (I : Nat → World → Prop) (L : List Say) (a : Act) (N : Nat) : Nat → List Oper → List (List (Nat × Tmp)) → Prop
  | _, [], _ => True
  | _, _ :: _, [] => False
  | k, o :: l, d :: ds => shareR2 P ops R I L a N k o d ∧ sharesR2 P ops R I L a N (k + 1) l ds
theorem sharesR2_of {ops : List Oper} {R : World → World → Prop} {I : Nat → World → Prop} {L : List Say} {a : Act} {N : Nat} : ∀ {l : List Oper} {ds : List (List (Nat × Tmp))} {k : Nat}, sharesR P R I L a N k l ds → sharesR2 P ops R I L a N k l ds
  | [], _, _, _ => trivial
  | _ :: _, [], _, h => h
  | _ :: _, _ :: _, _, h => ⟨fun vals x n hn _ => h.1 vals x n hn, sharesR2_of h.2⟩
theorem sharesR2_get {ops : List Oper} {R : World → World → Prop} {I : Nat → World → Prop} {L : List Say} {a : Act} {N : Nat} : ∀ {l : List Oper} {ds : List (List (Nat × Tmp))} {k : Nat}, sharesR2 P ops R I L a N k l ds →
    ∀ i o, l[i]? = some o → shareR2 P ops R I L a N (k + i) o (ds.getD i [])
  | [], _, _, _, i, o, h => by simp at h
  | _ :: _, [], _, h, _, _, _ => h.elim
  | o' :: l, d :: ds, k, h, 0, o, ho => by
    simp only [List.getElem?_cons_zero, Option.some.injEq] at ho
    subst ho; exact h.1
  | o' :: l, d :: ds, k, h, i + 1, o, ho => by
    simp only [List.getElem?_cons_succ] at ho
    have := sharesR2_get h.2 i o ho
    rw [show k + (i + 1) = k + 1 + i by omega]
    simpa using this
/-- A drawn region, each operation once. D: of each operation the ones that it looks at, with their slots; L: what is said of each one's value; R: what every operation does to memory; I: what is so all along, by how many have been done. -/
theorem wp_region_rel2 {id : Nat} {ops : List Oper} {a : Act} {w : World} (D : List (List (Nat × Tmp))) (R : World → World → Prop) (I : Nat → World → Prop) (L : List Say) (all : List (Nat × Tmp)) (hm : P.follows .mixedOrders = true)
    (hB : relOk ops (idxs D) a.tmps.size = true) (hD : D.all (fitsD ops) = true)
    (hall : (List.range ops.length).filterMap (fun i => (dstOf ops i).map fun t => (i, t)) = all)
    (hRr : ∀ x, R x x) (hL : Stabs ops R 0 L) (hLo : Locals (idxs D) 0 L) (h0 : I 0 (w.drewN 1))
    (hs : sharesR2 P ops R I L a ops.length 0 ops D)
    (hfin : ∀ vals x n, n ≤ ops.length → I n x → says L vals x (List.range ops.length) → Q .normal (putsD vals all a) x) : (Code.region id ops.toArray true).wp P Q a w := by
  refine wp_region_any hm ?_
  have z0 : ∀ j, (Array.replicate ops.toArray.size false).getD j false = false := fun j => getD_replicate_false _ _
  have hle : ∀ (f : Nat → Bool) (n : Nat), cnt f n ≤ n := fun f n => by
    induction n with
    | zero => exact Nat.le_refl _
    | succ n ih => simp only [cnt]; split <;> omega
  have hcnt : cnt (fun i => (Array.replicate ops.toArray.size false).getD i false) ops.length = ops.length := by
    have : ∀ n, cnt (fun i => (Array.replicate ops.toArray.size false).getD i false) n = n := fun n => by
      induction n with
      | zero => rfl
      | succ n ih => simp only [cnt, z0] at ih ⊢; rw [ih]; rfl
    exact this _
  have hrel := rel_any (P := P) (Q := Q) (ops := ops) (a := a) (D := idxs D) (R := R) (I := I) (L := L) hRr hL hLo hB
  refine hrel (fun k o hk => ?_) (fun vals x n hn hI hf => ?_) _ _ _ _ (fun _ => undef) (Nat.le_trans (hle _ _) (by simp)) ?_
  rotate_left
  · rw [puts_all, hall]; exact hfin vals x n hn hI hf
  · exact ⟨by simp, fun j k _ hl => (by rw [z0] at hl; cases hl), rfl, rfl, fun _ _ => rfl, fun j t hj => (by rw [z0] at hj; cases hj), ⟨0, by rw [hcnt, Nat.zero_add], h0⟩, fun j hj => (by rw [z0] at hj; cases hj)⟩
  · have hsh := sharesR2_get hs k o hk
    rw [Nat.zero_add] at hsh
    have hfit : fitsD ops (D.getD k []) = true := by
      rcases Nat.lt_or_ge k D.length with h | h
      · rw [show D.getD k [] = D[k] by simp [h]]; exact List.all_eq_true.1 hD _ (List.getElem_mem h)
      · rw [show D.getD k [] = [] by simp [h]]; rfl
    have hDk : (idxs D).getD k [] = (D.getD k []).map (·.1) := by
      unfold idxs
      rcases Nat.lt_or_ge k D.length with h | h
      · simp [h]
      · simp [h]
    intro vals x n hn hl hI hf
    rw [hDk, says_saysD] at hf
    have h := hsh vals x n hn hl hI hf
    rw [hDk, puts_putsD hfit]
    have hun : wpList P #[] (relQ R I L vals n k o (putsD vals (D.getD k []) a) x) [bare o] (putsD vals (D.getD k []) a) x → o.wp P (putsD vals (D.getD k []) a) x (relQ R I L vals n k o (putsD vals (D.getD k []) a) x .normal) (relQ R I L vals n k o (putsD vals (D.getD k []) a) x) := fun h => by
      rcases wpList_bare h with h | ⟨_, _, h⟩
      · exact h
      · exact h.elim
    generalize o.guard = gd at h ⊢
    cases gd with
    | none => exact ⟨fun _ => hun h, fun g b e => by cases e⟩
    | some p =>
      obtain ⟨g, b⟩ := p
      exact ⟨fun e => hun (h.1 (e g b rfl)), fun g' b' e hne => by injection e with e; injection e with e1 e2; subst e1; subst e2; exact h.2 hne⟩
/-- The same, without what is known of the last one. -/
theorem wp_region_rel {id : Nat} {ops : List Oper} {a : Act} {w : World} (D : List (List (Nat × Tmp))) (R : World → World → Prop) (I : Nat → World → Prop) (L : List Say) (all : List (Nat × Tmp)) (hm : P.follows .mixedOrders = true)
    (hB : relOk ops (idxs D) a.tmps.size = true) (hD : D.all (fitsD ops) = true)
    (hall : (List.range ops.length).filterMap (fun i => (dstOf ops i).map fun t => (i, t)) = all)
    (hRr : ∀ x, R x x) (hL : Stabs ops R 0 L) (hLo : Locals (idxs D) 0 L) (h0 : I 0 (w.drewN 1))
    (hs : sharesR P R I L a ops.length 0 ops D)
    (hfin : ∀ vals x n, n ≤ ops.length → I n x → says L vals x (List.range ops.length) → Q .normal (putsD vals all a) x) : (Code.region id ops.toArray true).wp P Q a w :=
  wp_region_rel2 D R I L all hm hB hD hall hRr hL hLo h0 (sharesR2_of hs) hfin
end Go.Proofs.Ytbljfhmcebgdaaa

/-! Drawn regions that draw from a reader; literals. -/
namespace Go.Proofs.Ytbljfhmcebgdaaa
open Go Go.RowKit

abbrev IsR (r : Nat) : Nat → Prop := fun b => b = r
theorem sl_none {α : Type} {L : Lay α} {w : World} {F : Nat → Prop} {A : Option Addr} {xs : List α} (h : L.Sl w F A xs) : A = none → xs.length = 0 := fun e => by
  rcases Nat.eq_zero_or_pos xs.length with h0 | h0
  · exact h0
  · obtain ⟨ad, e', _⟩ := h h0; rw [e] at e'; cases e'
theorem two_boxes (w : World) (o o' : Obj) : Below w.heap.size w ((w.alloc o).alloc o') ∧ ((w.alloc o).alloc o').heap[w.heap.size]? = some o ∧ ((w.alloc o).alloc o').heap[w.heap.size + 1]? = some o' ∧ ((w.alloc o).alloc o').heap.size = w.heap.size + 1 + 1 := by
  have h1 := heap_alloc_new w o
  have h2 := heap_alloc_new (w.alloc o) o'
  exact ⟨((Below.refl _ _).alloc (Nat.le_refl _) _).alloc (by simp) _, (((Below.refl _ _).alloc (Nat.le_refl _) _).block _ (by simp)).trans h1, by simpa using h2, by simp⟩
theorem mem_lit {xs : List Int} {x : Int} (h : x ∈ xs) (hx : ∀ y ∈ xs, okInt y) : okInt x := hx x h
/-- A row that was just written down. -/
theorem lit_sl {S : Nat → Prop} (w : World) (xs : List Int) (cs : Array Value) (t : TypeId) (hc : cs = (xs.map (Value.int .i64)).toArray) (hS : ¬ S w.heap.size) : Lay.int.Sl (w.alloc (.cells cs t)) (Ab S (w.alloc (.cells cs t))) (some ⟨w.heap.size, 0, none⟩) xs := by
  intro _
  refine ⟨_, rfl, ⟨by simp, hS⟩, fun k x hx => ⟨[.int .i64 x], rfl, fun j u hu => ?_⟩⟩
  rcases j with _ | j
  · injection hu with hu
    subst hu
    have hb := (cell_of_block (heap_alloc_new w (.cells cs t)) k).1
    have ha : (⟨w.heap.size, 0, none⟩ : Addr).add (k * Lay.int.size + 0) = ⟨w.heap.size, k, none⟩ := by
      show (⟨w.heap.size, 0, none⟩ : Addr).add (k * 1 + 0) = _
      rw [Nat.mul_one, Nat.add_zero]; unfold Addr.add; split
      · rename_i h; rw [h]
      · simp
    rw [ha, hb, hc]
    simp [hx]
  · simp at hu
/-- A block without bytes may turn: the reader stays. -/
theorem Rdr.far {w w' : World} {r b : Nat} {p : Int} (h : Rdr w r p) (hg : Gr (fun y => y = b) w w') (hbr : b ≠ r) (hk : ∃ cs t fr, w.heap[b]? = some (.cells cs t fr) ∧ ∀ u ∈ cs.toList, ∀ z, u ≠ .int .u8 z) : Rdr w' r p := by
  obtain ⟨A, c, bs, hb, hl, hs⟩ := h
  obtain ⟨cs, t, fr, hkb, hku⟩ := hk
  refine ⟨A, c, bs, hg.heap (fun e => hbr e.symm) hb, hl, fun hn => ?_⟩
  obtain ⟨ad, e, hf, hc⟩ := hs hn
  have hne : ad.block ≠ b := fun e9 => by
    obtain ⟨vs, hr, hcell⟩ := hc 0 bs[0] (List.getElem?_eq_getElem hn)
    have h0 := hcell 0 (.int .u8 (bs[0].toNat : Int)) (by rw [hr]; rfl)
    unfold World.cell? at h0
    rw [block_of_add, e9, hkb] at h0
    dsimp only at h0
    split at h0
    · cases h0
    · exact hku _ (by rw [Array.mem_toList_iff]; exact Array.mem_of_getElem? h0) _ rfl
  refine ⟨ad, e, hf, fun k x hx => ?_⟩
  obtain ⟨vs, hr, hcell⟩ := hc k x hx
  refine ⟨vs, hr, fun j u hu => ?_⟩
  have h9 := hcell j u hu
  exact (World.cell?_of_block (hg.block _ (by have := World.block_lt_of_cell? w _ h9; exact this) (by rw [block_of_add]; exact hne))).trans h9
end Go.Proofs.Ytbljfhmcebgdaaa

/-! The reference's SatOk. -/
namespace Go.Proofs.Ytbljfhmcebgdaaa
open Go Go.RowKit

set_option maxHeartbeats 400000 in
theorem l5At_any (x : C) (s : S) (A P Q D : Option Addr) (a p q d k : Nat) (V : Value) (w : World) (hx : x.list.length ≤ 1048576)
    (h : (k < x.list.length ∧ ∃ ad, A = some ad ∧ w.cell? (ad.add k) = some V) ∨ (x.list.length ≤ k ∧ ∃ ad, D = some ad ∧ w.cell? (ad.add (k - x.list.length)) = some V)) (hk : k < x.list.length + s.learned.length) (hl : s.learned.length ≤ 1048576) :
    Calls Try.prog 95 #[.agg #[.int .i64 x.many, .slice A x.list.length a], .agg #[.slice P s.put.length p, .slice Q s.why.length q, .slice D s.learned.length d, .int .i64 s.code], .int .i64 k] w fun e w' => e = .returned V ∧ Below w.heap.size w w' := by
  have hw : Below w.heap.size w ((w.alloc (.cells #[.int .i64 x.many, .slice A x.list.length a] 25)).alloc (.cells #[.slice P s.put.length p, .slice Q s.why.length q, .slice D s.learned.length d, .int .i64 s.code] 35)) :=
    ((Below.refl _ _).alloc (Nat.le_refl _) _).alloc (by simp) _
  rcases h with ⟨h1, ad, rfl, hc⟩ | ⟨h1, ad, rfl, hc⟩
  · have h1i : (k : Int) < x.list.length := by omega
    have hlt := World.block_lt_of_cell? w _ hc
    rw [block_of_add] at hlt
    go_enter Try.func95, Try.ntmps95
    have hc2 := (hw.cell (p := ad.add k) (by rw [block_of_add]; exact hlt)).trans hc
    clear hc
    go_wp2
    go_ret
    exact ⟨rfl, hw⟩
  · have h1i : (x.list.length : Int) ≤ k := by omega
    have h2 : ((k : Int) - x.list.length).toNat = k - x.list.length := by omega
    have h3 : (0 : Int) ≤ (k : Int) - x.list.length := by omega
    have h4 : (k : Int) - x.list.length < s.learned.length := by omega
    have hlt := World.block_lt_of_cell? w _ hc
    rw [block_of_add] at hlt
    go_enter Try.func95, Try.ntmps95
    have hc2 := (hw.cell (p := ad.add (k - x.list.length)) (by rw [block_of_add]; exact hlt)).trans hc
    clear hc
    go_wp2
    go_ret
    exact ⟨rfl, hw⟩
end Go.Proofs.Ytbljfhmcebgdaaa

/-! The reference's SatOk: the reasons; whole. -/
namespace Go.Proofs.Ytbljfhmcebgdaaa
open Go Go.RowKit

theorem Vals.put {M : Nat} {pre vs : List Int} {l : Int} (h : Vals M pre vs) (h0 : l ≠ 0) (h1 : l ∉ pre) (h2 : -l ∉ pre) (h3 : l.natAbs ≤ M) : Vals M (pre ++ [l]) (vs.set l.natAbs (if l < 0 then -1 else 1)) := by
  refine ⟨by rw [List.length_set]; exact h.1, fun v hv1 hv2 => ?_⟩
  rw [sg_snoc h1 h2 (by omega), List.getElem?_set]
  by_cases e : l.natAbs = v
  · rw [if_pos e, if_pos (by rw [h.1]; omega)]
    by_cases hn : l < 0
    · rw [if_pos hn, if_neg (by omega), if_pos (by omega)]
    · rw [if_neg hn, if_pos (by omega)]
  · rw [if_neg e, h.2 v hv1 hv2, if_neg (by omega), if_neg (by omega)]
end Go.Proofs.Ytbljfhmcebgdaaa

/-! The reference's SatOk, whole; SatVals. -/
namespace Go.Proofs.Ytbljfhmcebgdaaa
open Go Go.RowKit

end Go.Proofs.Ytbljfhmcebgdaaa

/-! The reference's SatVals. -/
namespace Go.Proofs.Ytbljfhmcebgdaaa
open Go Go.RowKit

end Go.Proofs.Ytbljfhmcebgdaaa

/-! Own rows of truth values; append. -/
namespace Go.Proofs.Ytbljfhmcebgdaaa
open Go Go.RowKit

theorem src_bools {w : World} {F : Nat → Prop} {A : Option Addr} {xs : List Bool} (h : Lay.bool.Sl w F A xs) : Src w 1 A xs.length (xs.map Value.bool) := by
  refine ⟨by simp, fun h0 => ?_⟩
  obtain ⟨ad, rfl, _, hc⟩ := h h0
  refine ⟨ad, rfl, fun j u hu => ?_⟩
  rw [List.getElem?_map] at hu
  cases hx : xs[j]? with
  | none => rw [hx] at hu; cases hu
  | some x =>
    rw [hx] at hu
    injection hu with hu
    subst hu
    obtain ⟨vs, rfl, hcell⟩ := hc j x hx
    have := hcell 0 _ rfl
    rw [show Lay.bool.size = 1 from rfl, Nat.mul_one, Nat.add_zero] at this
    exact this
theorem bools_one (xs : List Bool) : ∀ u ∈ xs.map Value.bool, u.oneCell' = true := by
  intro u hu
  obtain ⟨b, _, rfl⟩ := List.mem_map.1 hu
  rfl
theorem sl_noneB {w : World} {F : Nat → Prop} {A : Option Addr} {xs : List Bool} (h : Lay.bool.Sl w F A xs) : A = none → xs.length = 0 := fun e => by
  rcases Nat.eq_zero_or_pos xs.length with h0 | h0
  · exact h0
  · obtain ⟨ad, e', _⟩ := h h0; rw [e] at e'; cases e'
def OwnB (w : World) (lo : Nat) (v : Value) (bs : List Bool) : Prop := w.ownsRow lo 4 1 v bs.length (bs.map Value.bool)
theorem OwnB.rd {w : World} {lo c : Nat} {A : Option Addr} {bs : List Bool} (h : OwnB w lo (.slice A bs.length c) bs) : Lay.bool.Rd w A bs := (sl_bools_of_own h (fun g _ hg => hg)).1
theorem OwnB.gr {S : Nat → Prop} {w w' : World} {lo : Nat} {v : Value} {bs : List Bool} (h : OwnB w lo v bs) (hg : Gr S w w') (hr : ∀ b, S b → b < lo) : OwnB w' lo v bs :=
  own_of_heap h fun g hg' => hg.block g (h.lt g hg').2 (fun e => by have := hr g e; have := (h.lt g hg').1; omega)
theorem OwnB.up {w w' : World} {lo : Nat} {v : Value} {bs : List Bool} (h : OwnB w lo v bs) (hb : Below w.heap.size w w') : OwnB w' lo v bs := own_below h hb (Nat.le_refl _)
theorem OwnB.set {w : World} {lo g c k : Nat} {bs : List Bool} (h : OwnB w lo (.slice (some ⟨g, 0, none⟩) bs.length c) bs) (b : Bool) : OwnB (w.setCell ⟨g, k, none⟩ (.bool b)) lo (.slice (some ⟨g, 0, none⟩) bs.length c) (bs.set k b) := by
  have := (h.stored k (.bool b)).1
  unfold OwnB
  rw [List.length_set, List.map_set]
  exact this
theorem OwnB.cell {w : World} {lo g c k : Nat} {bs : List Bool} (h : OwnB w lo (.slice (some ⟨g, 0, none⟩) bs.length c) bs) (hk : k < bs.length) : w.cell? ⟨g, k, none⟩ = some (.bool bs[k]) ∧ w.frozen? ⟨g, k, none⟩ = false := by
  refine ⟨?_, h.frozenAt k⟩
  have hc := h.2
  rcases hc with ⟨e, _⟩ | ⟨g', cap, cur, e, _, _, h3, _⟩
  · cases e
  · have hx := h.cellAt k (by simp; omega)
    rw [hx, List.getElem?_map, List.getElem?_eq_getElem hk]; rfl
theorem OwnB.form {w : World} {lo : Nat} {v : Value} {bs : List Bool} (h : OwnB w lo v bs) : ∃ A c, v = .slice A bs.length c ∧ bs.length ≤ c := by
  rcases h.2 with ⟨h1, h2⟩ | ⟨g, cap, cur, h1, _, _, h3, _⟩
  · exact ⟨none, 0, by rw [h1, h2], by rw [h2]; exact Nat.le_refl _⟩
  · exact ⟨_, cap, h1, h3⟩
theorem OwnB.cap {w : World} {lo c n : Nat} {A : Option Addr} {bs : List Bool} (h : OwnB w lo (.slice A n c) bs) : n = bs.length ∧ bs.length ≤ c := by
  obtain ⟨A', c', e, hl⟩ := h.form
  injection e with e1 e2 e3
  exact ⟨e2, by omega⟩
end Go.Proofs.Ytbljfhmcebgdaaa

/-! Counting through truth values: the program's countUp, CnfLeast; the laws' wpWay, wpFollows. -/
namespace Go.Proofs.Ytbljfhmcebgdaaa
open Go Go.RowKit

def Next (bs bs' : List Bool) : Prop := ∃ pre m, bs = pre ++ false :: List.replicate m true ∧ bs' = pre ++ true :: List.replicate m false
theorem Next.length {bs bs' : List Bool} (h : Next bs bs') : bs'.length = bs.length := by
  obtain ⟨pre, m, rfl, rfl⟩ := h; simp
theorem Next.val {bs bs' : List Bool} (h : Next bs bs') : bval bs' 0 = bval bs 0 + 1 := by
  obtain ⟨pre, m, rfl, rfl⟩ := h; exact bval_next pre m
/-- Where counting stands: from place m on all were true, and are false. -/
def CountAt (bs cur : List Bool) (m : Nat) : Prop := m ≤ bs.length ∧ bs.drop m = List.replicate (bs.length - m) true ∧ cur = bs.take m ++ List.replicate (bs.length - m) false
theorem CountAt.start (bs : List Bool) : CountAt bs bs bs.length := ⟨Nat.le_refl _, by simp, by simp⟩
theorem CountAt.len {bs cur : List Bool} {m : Nat} (h : CountAt bs cur m) : cur.length = bs.length := by
  obtain ⟨h1, _, h3⟩ := h
  rw [h3]; simp; omega
theorem CountAt.get {bs cur : List Bool} {k : Nat} (h : CountAt bs cur (k + 1)) (hk : k < cur.length) (hk' : k < bs.length) : cur[k] = bs[k] := by
  obtain ⟨h1, _, h3⟩ := h
  subst h3
  rw [List.getElem_append_left (by simp; omega), List.getElem_take]
theorem CountAt.tail {bs cur : List Bool} {k : Nat} (h : CountAt bs cur (k + 1)) (b : Bool) : cur.set k b = bs.take k ++ b :: List.replicate (bs.length - (k + 1)) false := by
  obtain ⟨h1, _, h3⟩ := h
  subst h3
  rw [List.set_append_left _ _ (by simp; omega), List.take_succ_eq_append_getElem (by omega), List.set_append_right _ _ (by simp; omega)]
  simp [Nat.min_eq_left (show k ≤ bs.length by omega)]
theorem CountAt.go {bs cur : List Bool} {k : Nat} (h : CountAt bs cur (k + 1)) (hk : k < bs.length) (hb : bs[k] = true) : CountAt bs (cur.set k false) k := by
  refine ⟨by omega, ?_, ?_⟩
  · rw [List.drop_eq_getElem_cons hk, hb, h.2.1, ← List.replicate_succ]; congr 1; omega
  · rw [h.tail, ← List.replicate_succ]; congr 2; omega
theorem CountAt.stop {bs cur : List Bool} {k : Nat} (h : CountAt bs cur (k + 1)) (hk : k < bs.length) (hb : bs[k] = false) : Next bs (cur.set k true) := by
  refine ⟨bs.take k, bs.length - (k + 1), ?_, h.tail true⟩
  rw [← h.2.1, ← hb, ← List.drop_eq_getElem_cons hk, List.take_append_drop]
theorem CountAt.all {bs cur : List Bool} (h : CountAt bs cur 0) : bs = List.replicate bs.length true ∧ cur = List.replicate bs.length false := by
  obtain ⟨_, h2, h3⟩ := h
  exact ⟨by simpa using h2, by simpa using h3⟩
/-- What lies in a row of bools. -/
def bitsIn (w : World) : Value → List Bool
  | .slice (some a) n _ => (List.range n).map fun i => match w.cell? (a.add i) with | some (.bool b) => b | _ => false
  | _ => []
theorem bitsIn_rd {w : World} {F : Nat → Prop} {A : Option Addr} {c : Nat} {bs : List Bool} (h : Lay.bool.Sl w F A bs) : bitsIn w (.slice A bs.length c) = bs := by
  rcases Nat.eq_zero_or_pos bs.length with h0 | h0
  · have : bs = [] := List.eq_nil_of_length_eq_zero h0
    subst this
    cases A <;> rfl
  · obtain ⟨ad, rfl, _⟩ := h h0
    refine List.ext_getElem (by simp [bitsIn]) fun i h1 h2 => ?_
    obtain ⟨ad', e, _, hc⟩ := h.at_bool h2
    injection e with e; subst e
    simp only [bitsIn, List.getElem_map, List.getElem_range]
    rw [hc]
end Go.Proofs.Ytbljfhmcebgdaaa

/-! The laws' own counting: wpWay, wpFollows. -/
namespace Go.Proofs.Ytbljfhmcebgdaaa
open Go Go.RowKit

def RetWay (vs : List Bool) (w : World) (e : Ending) (w' : World) : Prop :=
  ∃ A' c' out b, e = .returned (.tuple #[.slice A' (List.length out) c', .bool b]) ∧ out.length = vs.length ∧ Lay.bool.Rd w' A' out ∧ Below w.heap.size w w' ∧ (b = true → Next vs out) ∧ (b = false → vs = List.replicate vs.length true)
set_option maxRecDepth 100000 in
set_option maxHeartbeats 1000000 in
theorem wpWay_any (vs : List Bool) (A : Option Addr) (c : Nat) (w : World) (h : Lay.bool.Rd w A vs) (hn : vs.length ≤ 1048576) :
    Calls Try.prog 49 #[.slice A vs.length c] w (RetWay vs w) := by
  obtain ⟨i0, hi0, hz0, hz1, hz2⟩ := info_parts bool_info
  have hA := sl_noneB h
  have hsrc := src_bools (h.up ((Below.refl _ _).alloc (Nat.le_refl _) (.cells #[] 4)))
  have e0 : IntKind.i64.wrap ((vs.length : Int) - 1) = (vs.length : Int) - 1 := IntWalk.i64_in _ (by omega)
  go_enter Try.func49, Try.ntmps49
  go_wp2_with (at_builtin; refine wpList_append_src _ (by rfl) (.tmp 6) (.tmp 7) _ (by rfl) w.heap.size 4 i0 _ 1 1 Try.underlying38 hi0 hz0 hz1 hz2 (by rfl) (by omega) (.slice (some ⟨w.heap.size, 0, none⟩) 0 0) 0 [] (by rfl) (own_lit0 rfl) A vs.length c (vs.map Value.bool) (by rfl) hsrc (bools_one _) vs.length (by omega) (by unfold maxLen; omega) (by omega) (by simp) hA ?_; intro A1 c1 w1 hown1 hb1 _)
  have hbw : Below w.heap.size w w1 := ((Below.refl _ _).alloc (Nat.le_refl _) _).trans hb1
  have hown : OwnB w1 w.heap.size (.slice A1 vs.length c1) vs := by unfold OwnB; simpa using hown1
  clear hsrc hb1 hown1 hi0 hz0 hz1 hz2 hA h
  go_loopw [5] (fun i wr => ∃ (j : Int) (cur : List Bool), -1 ≤ j ∧ j < vs.length ∧ i = .int .i64 j ∧ CountAt vs cur (j + 1).toNat ∧ OwnB wr w.heap.size (.slice A1 cur.length c1) cur ∧ Below w.heap.size w wr) (fun i _ => (intOf i + 1).toNat)
  case atStart => exact ⟨(vs.length : Int) - 1, vs, by omega, by omega, rfl, by rw [show ((vs.length : Int) - 1 + 1).toNat = vs.length by omega]; exact CountAt.start vs, hown, hbw⟩
  case round =>
    obtain ⟨j, cur, j0, j1, rfl, hca, hown, hb⟩ := hrel
    have HCA := Lib.hid hca
    have HCL := Lib.hid hca.len
    clear hca
    by_cases hge : 0 ≤ j
    · obtain ⟨k, rfl⟩ := Int.eq_ofNat_of_zero_le hge
      have hk : k < vs.length := by omega
      have hkc : k < cur.length := by rw [HCL.out]; exact hk
      obtain ⟨g, rfl, hgw⟩ : ∃ g, A1 = some ⟨g, 0, none⟩ ∧ w.heap.size ≤ g := by
        rcases hown.2 with ⟨_, e2⟩ | ⟨g, cap, cu, e1, hg, _⟩
        · omega
        · injection e1 with e1; exact ⟨g, e1, hg⟩
      rw [show ((k : Int) + 1).toNat = k + 1 by omega] at HCA
      obtain ⟨hc0, hf0⟩ := hown.cell hkc
      rw [HCA.out.get hkc hk] at hc0
      have hkb : (k : Int) < vs.length := by omega
      cases hbk : vs[k]
      · rw [hbk] at hc0
        have HN := Lib.hid (HCA.out.stop hk hbk)
        have HO := Lib.hid (hown.set (k := k) true)
        have HB := Lib.hid (hb.setCell (p := ⟨g, k, none⟩) hgw (.bool true))
        have hki : ¬ ((k : Int) < 0) := by omega
        clear hown hb hbk
        go_wp2
        go_ret2
        refine ⟨some ⟨g, 0, none⟩, c1, cur.set k true, true, by rw [List.length_set, HCL.out]; rfl, by rw [List.length_set, HCL.out], ?_, HB.out, fun _ => HN.out, fun e => (by cases e)⟩
        have h9 := HO.out
        rw [show cur.length = (cur.set k true).length by simp] at h9
        exact h9.rd
      · rw [hbk] at hc0
        have HN := Lib.hid (HCA.out.go hk hbk)
        have HO := Lib.hid (hown.set (k := k) false)
        have HB := Lib.hid (hb.setCell (p := ⟨g, k, none⟩) hgw (.bool false))
        clear hown hb hbk
        go_wp2
        go_roundw
        case rel => exact ⟨(k : Int) - 1, _, by omega, by omega, by first | rfl | go_num, by rw [show ((k : Int) - 1 + 1).toNat = k by omega]; exact HN.out, by rw [List.length_set]; exact HO.out, HB.out⟩
        case measure => first | (simp [intOf]; done) | (simp [intOf]; omega)
    · have hj : j = -1 := by omega
      subst hj
      have HA := Lib.hid (HCA.out.all)
      have HB := Lib.hid hb
      have HR := Lib.hid hown.rd
      clear hown hb
      go_wp2
      go_ret2
      exact ⟨A1, c1, cur, false, by rw [HCL.out]; rfl, HCL.out, HR.out, HB.out, fun e => (by cases e), fun _ => HA.out.1⟩
set_option maxRecDepth 100000 in
set_option maxHeartbeats 1000000 in
theorem wpFollows_any (x : C) (cl : List Int) (A B : Option Addr) (c d M : Nat) (w : World) (h : Lay.int.slice.Rd w A x.list) (sx : smCnf x) (hcl : Lay.int.Rd w B cl) (hn : cl.length ≤ 1048576) (hi : i64s cl) (hM : x.many = (M : Int)) (hM7 : M ≤ 20)
    (hf : ∀ vs, cnfHas x vs = true → clHas vs cl = true) :
    Calls Try.prog 12 #[.agg #[.int .i64 x.many, .slice A x.list.length c], .slice B cl.length d] w (RetB w true) := by
  obtain ⟨i0, hi0, hz0, hz1, hz2⟩ := info_parts bool_info
  have hw : Below w.heap.size w (w.alloc (.cells #[.int .i64 (M : Int), .slice A x.list.length c] 25)) := (Below.refl _ _).alloc (Nat.le_refl _) _
  have hb0 : (w.alloc (.cells #[.int .i64 (M : Int), .slice A x.list.length c] 25)).heap[w.heap.size]? = some (.cells #[.int .i64 (M : Int), .slice A x.list.length c] 25 (0, 0)) := heap_alloc_new _ _
  have HX := Lib.hid (h.up hw)
  have HCL := Lib.hid (hcl.up hw)
  have HW := Lib.hid hw
  have HB0 := Lib.hid hb0
  have HF := Lib.hid hf
  have SX := Lib.hid sx
  have HI := Lib.hid hi
  have HMM := Lib.hid hM
  rw [hM]
  have c0 : (w.alloc (.cells #[.int .i64 (M : Int), .slice A x.list.length c] 25)).cell? ⟨w.heap.size, 0, none⟩ = some (.int .i64 (M : Int)) := (cell_of_block hb0 0).1
  have hlt0 := lt_of_block hb0
  clear h hcl hw hb0 hf sx hi hM
  generalize hW : w.alloc (.cells #[.int .i64 (M : Int), .slice A x.list.length c] 25) = W at *
  go_enter Try.func12, Try.ntmps12
  go_wp2_with (at_make; refine wpList_make_full W rfl _ _ 38 rfl W.heap.size 4 i0 _ 1 Try.underlying38 hi0 hz0 hz1 .i64 .i64 _ _ M rfl rfl rfl rfl (by rw [hz2]; omega) (by unfold maxLen; omega) (Nat.le_refl _) ?_; intro w2 hown hg1)
  have hb2 : Below W.heap.size W w2 := (Below.refl _ _).grown hg1 (Nat.le_refl _) (by simp)
  rw [show (madeCells (Value.bool false).cells (M * 1)).toList = (List.replicate M false).map Value.bool from by
    rw [show (Value.bool false).cells = #[Value.bool false] from rfl, toList_madeCells_one]; simp] at hown
  have hown0 : OwnB w2 W.heap.size (.slice (some ⟨W.heap.size, 0, none⟩) (List.replicate M false).length M) (List.replicate M false) := by unfold OwnB; simpa using hown
  have hrd0 := hown0.rd
  clear c0 hg1 hi0 hz0 hz1 hz2 hown hown0 hW
  go_loopw [5, 6] (fun v b wr => ∃ (A1 : Option Addr) (c1 : Nat) (cur : List Bool) (ok : Bool), v = .slice A1 M c1 ∧ b = .bool ok ∧ cur.length = M ∧ Lay.bool.Rd wr A1 cur ∧ Below W.heap.size W wr) (fun v b wr => match b with | .bool true => 2 ^ M + 1 - bval (bitsIn wr v) 0 | _ => 0)
  case atStart => exact ⟨_, M, _, true, by rfl, rfl, by simp, hrd0, hb2⟩
  case round =>
    obtain ⟨A1, c1, cur, ok, rfl, rfl, hcl, hrd, hB⟩ := hrel
    cases ok
    · have HB := Lib.hid (bthen HW.out hB)
      go_wp2
      go_ret
      exact ⟨rfl, HB.out⟩
    have HXr := Lib.hid (HX.out.up hB)
    have HCr := Lib.hid (HCL.out.up hB)
    have HB0r := Lib.hid ((hB.block _ hlt0).trans HB0.out)
    have c0 : wr.cell? ⟨w.heap.size, 0, none⟩ = some (.int .i64 (M : Int)) := (cell_of_block HB0r.out 0).1
    have c1' : wr.cell? ⟨w.heap.size, 1, none⟩ = some (.slice A x.list.length c) := (cell_of_block HB0r.out 1).1
    have HBIT : Hid (bitsIn wr (.slice A1 M c1) = cur) := Lib.hid (by rw [← hcl]; exact bitsIn_rd hrd)
    have hca := cnfHas_any x cur A A1 c c1 wr HXr.out SX.out hrd (by omega)
    rw [hcl, HMM.out] at hca
    have HCA := Lib.hid hca
    have HFC := Lib.hid (HF.out cur)
    have HB := Lib.hid hB
    have HRD := Lib.hid hrd
    have HLEN := Lib.hid hcl
    clear hca hB hrd hcl
    go_wp2_with fail
    clear c0 c1'
    refine HCA.out.mono ?_
    clear HCA
    cases hhas : cnfHas x cur
    · clear hhas
      rintro e w3 ⟨rfl, hb3⟩
      have hway := wpWay_any cur A1 c1 w3 (HRD.out.up hb3) (by have := HLEN.out; omega)
      rw [HLEN.out] at hway
      have HWAY := Lib.hid hway
      have HB3 := Lib.hid (HB.out.trans (hb3.mono HB.out.size))
      clear hway hb3
      go_wp2_with fail
      refine HWAY.out.mono ?_
      clear HWAY
      rintro e w4 ⟨A4, c4, o4, b4, rfl, hl4, hr4, hb4, hn4, _⟩
      rw [HLEN.out] at hl4
      have HB4 := Lib.hid (HB3.out.trans (hb4.mono HB3.out.size))
      have HN4 := Lib.hid hn4
      have HL4 := Lib.hid hl4
      have HR4 := Lib.hid hr4
      have HBIT4 : Hid (bitsIn w4 (.slice A4 M c4) = o4) := Lib.hid (by rw [← hl4]; exact bitsIn_rd hr4)
      rw [hl4]
      clear hb4 hn4 hr4 hl4
      go_wp2
      go_roundw
      case rel => exact ⟨A4, c4, o4, b4, rfl, rfl, HL4.out, HR4.out, HB4.out⟩
      case measure =>
        rw [HBIT.out, HBIT4.out]
        have h1 := bval_lt o4
        have h2 := bval_lt cur
        rw [HL4.out] at h1
        rw [HLEN.out] at h2
        cases b4
        · simp; omega
        · have := (HN4.out rfl).val
          simp; omega
    · have HCH := Lib.hid (HFC.out hhas)
      clear hhas
      rintro e w3 ⟨rfl, hb3⟩
      have hch := clauseHas_any cl cur B A1 d c1 w3 (HCr.out.up hb3) hn HI.out (HRD.out.up hb3) (by have := HLEN.out; omega)
      rw [HCH.out, HLEN.out] at hch
      have HH := Lib.hid hch
      have HB3 := Lib.hid (HB.out.trans (hb3.mono HB.out.size))
      have HRD3 := Lib.hid (HRD.out.up hb3)
      clear hch hb3
      go_wp2_with fail
      refine HH.out.mono ?_
      clear HH
      rintro e w5 ⟨rfl, hb5⟩
      have hway := wpWay_any cur A1 c1 w5 (HRD3.out.up hb5) (by have := HLEN.out; omega)
      rw [HLEN.out] at hway
      have HWAY := Lib.hid hway
      have HB5 := Lib.hid (HB3.out.trans (hb5.mono HB3.out.size))
      clear hway hb5
      go_wp2_with fail
      refine HWAY.out.mono ?_
      clear HWAY
      rintro e w4 ⟨A4, c4, o4, b4, rfl, hl4, hr4, hb4, hn4, _⟩
      rw [HLEN.out] at hl4
      have HB4 := Lib.hid (HB5.out.trans (hb4.mono HB5.out.size))
      have HN4 := Lib.hid hn4
      have HL4 := Lib.hid hl4
      have HR4 := Lib.hid hr4
      have HBIT4 : Hid (bitsIn w4 (.slice A4 M c4) = o4) := Lib.hid (by rw [← hl4]; exact bitsIn_rd hr4)
      rw [hl4]
      clear hb4 hn4 hr4 hl4
      go_wp2
      go_roundw
      case rel => exact ⟨A4, c4, o4, b4, rfl, rfl, HL4.out, HR4.out, HB4.out⟩
      case measure =>
        rw [HBIT.out, HBIT4.out]
        have h1 := bval_lt o4
        have h2 := bval_lt cur
        rw [HL4.out] at h1
        rw [HLEN.out] at h2
        cases b4
        · simp; omega
        · have := (HN4.out rfl).val
          simp; omega
end Go.Proofs.Ytbljfhmcebgdaaa
