/- A drawn region, each operation once, what memory does told of each. No program is named here. A drawn region, each operation once: what is so all along may look at which operations have been done. No program is named here. The reference's search: l5Learn. -/
import Derived.Test.YtbljfhmcebgdaaaJFnSatBent5
import Derived.Test.YtbljfhmcebgdaaaJFnSatBent8
/-! A drawn region, each operation once, what memory does told of each. No program is named here. -/
namespace Go.Proofs.Ytbljfhmcebgdaaa
open Go Go.RowKit
variable {P : Program} {Q : Exit → Act → World → Prop}

/-- What the operation does to memory: R0, or what is told of it. -/
def relOf (R0 : World → World → Prop) : List (Nat × (World → World → Prop)) → Nat → World → World → Prop
  | [], _ => R0
  | p :: l, k => fun x x' => (k = p.1 → p.2 x x') ∧ (k ≠ p.1 → relOf R0 l k x x')
def Refls : List (Nat × (World → World → Prop)) → Prop
  | [] => True
  | p :: l => (∀ x, p.2 x x) ∧ Refls l
theorem relOf_refl {R0 : World → World → Prop} (h0 : ∀ x, R0 x x) : ∀ {l : List (Nat × (World → World → Prop))}, Refls l → ∀ k x, relOf R0 l k x x
  | [], _, _, x => h0 x
  | _ :: _, h, k, x => ⟨fun _ => h.1 x, fun _ => relOf_refl h0 h.2 k x⟩
def StabS (ops : List Oper) (V : Say) (i : Nat) : List (Nat × (World → World → Prop)) → Prop
  | [] => True
  | p :: l => (reach ops ops.length i p.1 = true ∨ i = p.1 ∨ ∀ vs x x', V vs x → p.2 x x' → V vs x') ∧ StabS ops V i l
def Stabs3 (ops : List Oper) (R0 : World → World → Prop) (Rs : List (Nat × (World → World → Prop))) : Nat → List Say → Prop
  | _, [] => True
  | i, V :: l => ((isLast ops i = true ∨ ∀ vs x x', V vs x → R0 x x' → V vs x') ∧ StabS ops V i Rs) ∧ Stabs3 ops R0 Rs (i + 1) l
theorem relOf_stab {ops : List Oper} {R0 : World → World → Prop} {V : Say} {i k : Nat} (hik : i ≠ k) (hr : reach ops ops.length i k = false) (h0 : ∀ vs x x', V vs x → R0 x x' → V vs x') : ∀ {l : List (Nat × (World → World → Prop))}, StabS ops V i l → ∀ vs x x', V vs x → relOf R0 l k x x' → V vs x'
  | [], _, vs, x, x', hv, h => h0 vs x x' hv h
  | p :: l, hs, vs, x, x', hv, h => by
    by_cases e : k = p.1
    · rcases hs.1 with h1 | h1 | h1
      · rw [e, h1] at hr; cases hr
      · exact absurd (h1.trans e.symm) hik
      · exact h1 vs x x' hv (h.1 e)
    · exact relOf_stab hik hr h0 hs.2 vs x x' hv (h.2 e)
theorem relOf_last {ops : List Oper} {R0 : World → World → Prop} {V : Say} {i k : Nat} (hik : i ≠ k) (hr : reach ops ops.length i k = false) (hk : k < ops.length) (hl : isLast ops i = true) : False := by
  unfold isLast at hl
  have h1 := List.all_eq_true.1 hl k (List.mem_range.2 hk)
  rw [Bool.or_eq_true, hr] at h1
  rcases h1 with h1 | h1
  · exact hik (by simpa using Eq.symm (by simpa using h1 : k = i))
  · cases h1
theorem Stabs3.get {ops : List Oper} {R0 : World → World → Prop} {Rs : List (Nat × (World → World → Prop))} {k : Nat} (hk : k < ops.length) : ∀ {L : List Say} {m : Nat}, Stabs3 ops R0 Rs m L → ∀ i, m + i ≠ k → reach ops ops.length (m + i) k = false → ∀ vs x x', L.getD i (fun _ _ => True) vs x → relOf R0 Rs k x x' → L.getD i (fun _ _ => True) vs x'
  | [], _, _, i, _, _, vs, x, x', _, _ => by simp
  | V :: l, m, h, 0, hik, hr, vs, x, x', hv, hR => by
    rcases h.1.1 with h1 | h1
    · exact (relOf_last (R0 := R0) (V := V) hik hr hk h1).elim
    · simpa using relOf_stab hik hr h1 h.1.2 vs x x' (by simpa using hv) hR
  | V :: l, m, h, i + 1, hik, hr, vs, x, x', hv, hR => by
    have e : m + (i + 1) = m + 1 + i := by omega
    rw [e] at hik hr
    simpa using Stabs3.get hk h.2 i hik hr vs x x' (by simpa using hv) hR
end Go.Proofs.Ytbljfhmcebgdaaa

/-! A drawn region, each operation once: what is so all along may look at which operations have been done. No program is named here. -/
namespace Go.Proofs.Ytbljfhmcebgdaaa
open Go Go.RowKit
variable {P : Program} {Q : Exit → Act → World → Prop}

/-- It has been done too. -/
def did (f : Nat → Bool) (k : Nat) : Nat → Bool := fun j => if j = k then true else f j
def relQ4 (R : World → World → Prop) (I : (Nat → Bool) → World → Prop) (L : List Say) (vals : Nat → Value) (f : Nat → Bool) (k : Nat) (o : Oper) (a : Act) (x : World) : Exit → Act → World → Prop
  | .normal, a', x' => a'.defers = a.defers ∧ L.getD k (fun _ _ => True) (upd vals k (got o a')) x' ∧ R x x' ∧ I (did f k) x'
  | _, _, _ => False
def obligR4 (P : Program) (ops : List Oper) (D : List (List Nat)) (R : World → World → Prop) (I : (Nat → Bool) → World → Prop) (L : List Say) (a : Act) (k : Nat) (o : Oper) : Prop :=
  ∀ (vals : Nat → Value) (x : World) (f : Nat → Bool), f k = false → (∀ j, reach ops ops.length k j = true → f j = true) → (∀ j, reach ops ops.length j k = true → f j = false) → I f x → says L vals x (D.getD k []) →
    ((∀ g b, o.guard = some (g, b) → vals g = .bool b) → o.wp P (puts ops vals (D.getD k []) a) x (relQ4 R I L vals f k o (puts ops vals (D.getD k []) a) x .normal) (relQ4 R I L vals f k o (puts ops vals (D.getD k []) a) x)) ∧
    (∀ g b, o.guard = some (g, b) → vals g ≠ .bool b → L.getD k (fun _ _ => True) (upd vals k undef) x ∧ I (did f k) x)
structure RelInv4 (ops : List Oper) (I : (Nat → Bool) → World → Prop) (L : List Say) (a : Act) (listed : Array Bool) (a' : Act) (x : World) (vals : Nat → Value) : Prop where
  size : listed.size = ops.length
  closed : ∀ j k, waits ops k j = true → listed.getD k false = true → listed.getD j false = true
  tsize : a'.tmps.size = a.tmps.size
  defers : a'.defers = a.defers
  old : ∀ t, (∀ j, listed.getD j false = true → dstOf ops j ≠ some t) → a'.tmps[t]? = a.tmps[t]?
  new : ∀ j t, listed.getD j false = true → dstOf ops j = some t → a'.tmps[t]? = some (vals j)
  inv : I (fun i => listed.getD i false) x
  fact : ∀ j, listed.getD j false = true → L.getD j (fun _ _ => True) vals x
def owes4 (P : Program) (R : World → World → Prop) (I : (Nat → Bool) → World → Prop) (L : List Say) (vals : Nat → Value) (a : Act) (x : World) (f : Nat → Bool) (k : Nat) (o : Oper) (gd : Option (Nat × Bool)) : Prop :=
  match gd with
  | none => wpList P #[] (relQ4 R I L vals f k o a x) [bare o] a x
  | some (g, b) => (vals g = .bool b → wpList P #[] (relQ4 R I L vals f k o a x) [bare o] a x) ∧ (vals g ≠ .bool b → L.getD k (fun _ _ => True) (upd vals k undef) x ∧ I (did f k) x)
/-- As 'relOk'; an operation may look at a slot that a later one writes, if that one waits for it. -/
def relOk4 (ops : List Oper) (D : List (List Nat)) (size : Nat) : Bool :=
  (List.range ops.length).all fun k =>
    (match ops[k]? with
      | some o => (match o.guard with | none => true | some (g, _) => (D.getD k []).contains g && (dstOf ops g).isSome) && (match o.op with | .select .. => false | _ => true) && (o.after.all fun e => !Region.binds .any e || decide (e.on < k)) && (match o.dst with | some d => decide (d < size) | none => true)
      | none => false) &&
    ((D.getD k []).all fun j => waits ops k j && decide (j < ops.length)) &&
    (decide ((D.getD k []).Nodup)) &&
    (List.range ops.length).all fun j =>
      (!looks ops k j || (D.getD k []).contains j || reach ops ops.length j k) &&
      (decide (j = k) || (match dstOf ops j, dstOf ops k with | some d, some e => d != e | _, _ => true))
theorem relOk4_spec {ops : List Oper} {D : List (List Nat)} {size : Nat} (h : relOk4 ops D size = true) (k : Nat) (o : Oper) (hk : ops[k]? = some o) :
    (∀ g b, o.guard = some (g, b) → g ∈ D.getD k [] ∧ ∃ d, dstOf ops g = some d) ∧ (∀ cs b, o.op ≠ .select cs b) ∧ (∀ e ∈ o.after, Region.binds .any e = true → e.on < k) ∧ (∀ d, o.dst = some d → d < size) ∧
    (∀ j ∈ D.getD k [], waits ops k j = true ∧ j < ops.length) ∧ (∀ j, j < ops.length → looks ops k j = true → j ∈ D.getD k [] ∨ reach ops ops.length j k = true) ∧
    (∀ j d, j < ops.length → dstOf ops j = some d → o.dst = some d → j = k) := by
  have hlt : k < ops.length := (List.getElem?_eq_some_iff.1 hk).1
  unfold relOk4 at h
  have h := List.all_eq_true.1 h k (List.mem_range.2 hlt)
  have hdk : dstOf ops k = o.dst := by simp [dstOf, hk]
  simp only [hk, Bool.and_eq_true, hdk] at h
  obtain ⟨⟨⟨⟨⟨⟨h1, h2⟩, h3⟩, h4⟩, h5⟩, _⟩, h6⟩ := h
  have h6 : ∀ j, j < ops.length → _ := fun j hj => List.all_eq_true.1 h6 j (List.mem_range.2 hj)
  refine ⟨fun g b hg => ?_, fun cs b e => (by rw [e] at h2; cases h2), fun e he hb => ?_, fun d hd => by rw [hd] at h4; simpa using h4, fun j hj => ?_, fun j hj hl => ?_, fun j d hj hd hd' => ?_⟩
  · rw [hg] at h1
    simp only [Bool.and_eq_true, List.contains_iff_mem] at h1
    exact ⟨h1.1, Option.isSome_iff_exists.1 h1.2⟩
  · have := (Array.all_eq_true_iff_forall_mem.1 h3) e he
    simpa [hb] using this
  · have := List.all_eq_true.1 h5 j hj
    simpa using this
  · have := h6 j hj
    simp only [Bool.and_eq_true, hl] at this
    simpa using this.1
  · have := h6 j hj
    simp only [Bool.and_eq_true, hd, hd'] at this
    simpa using this.2
theorem rel4_any {ops : List Oper} {D : List (List Nat)} {R : Nat → World → World → Prop} {I : (Nat → Bool) → World → Prop} {L : List Say} {a : Act} (hRr : ∀ k x, R k x x) (hL : ∀ j k, k < ops.length → j ≠ k → reach ops ops.length j k = false → ∀ vs x x', L.getD j (fun _ _ => True) vs x → R k x x' → L.getD j (fun _ _ => True) vs x') (hLo : Locals D 0 L) (hB : relOk4 ops D a.tmps.size = true)
    (hs : ∀ k o, ops[k]? = some o → obligR4 P ops D (R k) I L a k o)
    (hfin : ∀ vals x f, (∀ i, i < ops.length → f i = true) → I f x → says L vals x (List.range ops.length) → Q .normal (puts ops vals (List.range ops.length) a) x) :
    ∀ (fuel : Nat) (listed : Array Bool) (a' : Act) (x : World) (vals : Nat → Value), cnt (fun i => listed.getD i false) ops.length ≤ fuel →
      RelInv4 ops I L a listed a' x vals → wpAny P .any ops.toArray Q fuel listed a' x := by
  have hdd : ∀ i j t, dstOf ops i = some t → dstOf ops j = some t → i = j := fun i j t hi hj => by
    have hjl : j < ops.length := dst_lt hj
    have ho : ops[j]? = some ops[j] := List.getElem?_eq_getElem hjl
    exact (relOk4_spec hB j _ ho).2.2.2.2.2.2 i t (dst_lt hi) hi (by simpa [dstOf, ho] using hj)
  have hds : ∀ j t, dstOf ops j = some t → t < a.tmps.size := fun j t hj => by
    have hjl : j < ops.length := dst_lt hj
    have ho : ops[j]? = some ops[j] := List.getElem?_eq_getElem hjl
    exact (relOk4_spec hB j _ ho).2.2.2.1 t (by simpa [dstOf, ho] using hj)
  have hdone : ∀ (listed : Array Bool) (a' : Act) (x : World) (vals : Nat → Value), (∀ i, i < ops.length → listed.getD i false = true) → RelInv4 ops I L a listed a' x vals → Q .normal a' x := by
    intro listed a' x vals hall inv
    have ha : a' = puts ops vals (List.range ops.length) a := by
      have ht : a'.tmps = (puts ops vals (List.range ops.length) a).tmps := by
        apply Array.ext_getElem?
        intro t
        by_cases h : ∃ j, dstOf ops j = some t
        · obtain ⟨j, hj⟩ := h
          rw [inv.new j t (hall j (dst_lt hj)) hj, puts_get (fun i j => hdd i j t) _ _ j (List.mem_range.2 (dst_lt hj)) hj (hds j t hj)]
        · rw [inv.old t (fun j _ e => h ⟨j, e⟩), puts_ne _ _ (fun i _ e => h ⟨i, e⟩)]
      have hdf : a'.defers = (puts ops vals (List.range ops.length) a).defers := by rw [puts_defers]; exact inv.defers
      cases a'
      cases hp : puts ops vals (List.range ops.length) a
      rw [hp] at ht hdf
      simp only at ht hdf
      rw [ht, hdf]
    rw [ha]
    exact hfin vals x _ hall inv.inv (says_iff.2 fun i hi => inv.fact i (hall i (List.mem_range.1 hi)))
  have hmin : ∀ (listed : Array Bool), listed.size = ops.length → ∀ i, i < ops.length → listed.getD i false = false → Region.ready .any ops.toArray listed ≠ [] := by
    intro listed hsz i
    induction i using Nat.strongRecOn with
    | _ i ih =>
      intro hi hun hr
      have ho : ops[i]? = some ops[i] := List.getElem?_eq_getElem hi
      by_cases h : ∀ e ∈ ops[i].after, Region.binds .any e = true → listed.getD e.on false = true
      · have : i ∈ Region.ready .any ops.toArray listed := mem_ready.2 ⟨getD_in (by omega) hun, ops[i], by simp [ho], h⟩
        rw [hr] at this; cases this
      · simp only [Classical.not_forall] at h
        obtain ⟨e, he, hb, hl⟩ := h
        have hlt := (relOk4_spec hB i _ ho).2.2.1 e he hb
        exact ih e.on hlt (by omega) (by simpa using hl) hr
  intro fuel
  induction fuel with
  | zero =>
    intro listed a' x vals hc inv
    have hall := cnt_zero (f := fun i => listed.getD i false) (Nat.le_zero.1 hc)
    refine ⟨?_, hdone _ _ _ _ hall inv⟩
    cases hr : Region.ready .any ops.toArray listed with
    | nil => rfl
    | cons k rs =>
      exfalso
      have hk : k ∈ Region.ready .any ops.toArray listed := by rw [hr]; simp
      obtain ⟨h0, o, ho, _⟩ := mem_ready.1 hk
      have hlt : k < ops.length := by
        have := (Array.getElem?_eq_some_iff.1 ho).1; simpa using this
      have h1 : listed.getD k false = true := hall k hlt
      rw [getD_both h0] at h1; cases h1
  | succ fuel ih =>
    intro listed a' x vals hc inv
    refine ⟨fun hr => ?_, fun k hk => ?_⟩
    · refine hdone _ _ _ _ (fun i hi => ?_) inv
      cases h : listed.getD i false with
      | true => rfl
      | false => exact absurd hr (hmin listed inv.size i hi h)
    · obtain ⟨h0, o, hoA, hwait⟩ := mem_ready.1 hk
      have ho : ops[k]? = some o := by simpa using hoA
      have hkl : k < ops.length := (List.getElem?_eq_some_iff.1 ho).1
      have h0f : listed.getD k false = false := getD_both h0
      have hsz : k < listed.size := by rw [inv.size]; exact hkl
      obtain ⟨hg, hsel, _, hdsz, hD, hlook, hdist⟩ := relOk4_spec hB k o ho
      have hw : ∀ m, waits ops k m = true → listed.getD m false = true := fun m hm => by
        obtain ⟨o', ho', e, he, hb, rfl⟩ := waits_spec.1 hm
        have : o' = o := Option.some.inj (ho'.symm.trans ho)
        subst this
        exact hwait e he hb
      have hDl : ∀ j ∈ D.getD k [], listed.getD j false = true := fun j hj => hw j (hD j hj).1
      have hdk : dstOf ops k = o.dst := by simp [dstOf, ho]
      -- the operation runs as it does in the small state
      have hexec : execOp a'.eval o = execOp (puts ops vals (D.getD k []) a).eval o := execOp_congr o hsel fun y hy => by
        cases y with
        | tmp t =>
          have ht : a'.tmps[t]? = (puts ops vals (D.getD k []) a).tmps[t]? := by
            by_cases h : ∃ j, dstOf ops j = some t
            · obtain ⟨j, hj⟩ := h
              rcases hlook j (dst_lt hj) (looks_spec ho hj hy) with hm | hm
              · rw [inv.new j t (hDl j hm) hj, puts_get (fun i j => hdd i j t) _ _ j hm hj (hds j t hj)]
              · have hjf : listed.getD j false = true → False := fun hjl => by
                  have := reach_listed inv.closed _ j k (fun m hm => inv.closed m j hm hjl) hm
                  rw [this] at h0f; cases h0f
                rw [inv.old t (fun i hi e => by have := hdd i j t e hj; subst this; exact hjf hi), puts_ne _ _ (fun i hi e => by have := hdd i j t e hj; subst this; exact hjf (hDl i hi))]
            · rw [inv.old t (fun j _ e => h ⟨j, e⟩), puts_ne _ _ (fun i _ e => h ⟨i, e⟩)]
          show a'.tmps.getD t undef = (puts ops vals (D.getD k []) a).tmps.getD t undef
          rw [Array.getD_eq_getD_getElem?, Array.getD_eq_getD_getElem?, ht]
        | _ => rfl
      have hcs := (cnt_set (f := fun i => listed.getD i false) (g := fun i => (listed.setIfInBounds k true).getD i false) h0f (getD_set (listed := listed) hsz) (n := ops.length)).2 hkl
      have hob := hs k o ho vals x (fun i => listed.getD i false) h0f (fun r h => reach_listed inv.closed _ k r (fun m hm => hw m hm) h) (fun r hr => by
        cases h : listed.getD r false with
        | false => rfl
        | true => exact absurd ((reach_listed inv.closed _ r k (fun m hm => inv.closed m r hm h) hr).symm.trans h0f) (by simp)) inv.inv (says_iff.2 fun j hj => inv.fact j (hDl j hj))
      have hbs : (puts ops vals (D.getD k []) a).tmps.size = a.tmps.size := puts_size _ _
      have hbd : (puts ops vals (D.getD k []) a).defers = a.defers := puts_defers _ _
      have next : ∀ v x', (L.getD k (fun _ _ => True) (upd vals k (got o ((puts ops vals (D.getD k []) a).put o.dst v))) x' ∧ R k x x' ∧ I (did (fun i => listed.getD i false) k) x') →
          wpAny P .any ops.toArray Q fuel (listed.setIfInBounds k true) (a'.put o.dst v) x' := by
        intro v x' hq
        obtain ⟨hV, hR, hI'⟩ := hq
        have hgs := getD_set (listed := listed) hsz
        have hold : ∀ j, (listed.setIfInBounds k true).getD j false = true → j ≠ k → listed.getD j false = true := fun j hj hne => by
          rw [hgs, if_neg hne] at hj; exact hj
        refine ih _ _ x' (fun j => if j = k then got o ((puts ops vals (D.getD k []) a).put o.dst v) else vals j) ?_ ⟨by simp [inv.size], fun j m hm hl => ?_, by rw [put_size]; exact inv.tsize, by rw [put_defers]; exact inv.defers, fun t ht => ?_, fun j t hj hdj => ?_, by rw [show (fun i => (listed.setIfInBounds k true).getD i false) = fun j => if j = k then true else listed.getD j false from funext hgs]; exact hI', fun j hj => ?_⟩
        · omega
        · rw [hgs]
          by_cases e : j = k
          · rw [if_pos e]
          · rw [if_neg e]
            by_cases e' : m = k
            · subst e'; exact hw j hm
            · exact inv.closed j m hm (hold m hl e')
        · rw [put_get_ne _ _ _ _ (by
            have := ht k (by rw [hgs, if_pos rfl])
            rwa [hdk] at this)]
          refine inv.old t fun j hj => ht j ?_
          rw [hgs]; split <;> first | rfl | exact hj
        · by_cases e : j = k
          · subst e
            rw [hdk] at hdj
            have htl := hdsz t hdj
            rw [if_pos rfl, hdj, put_get _ _ _ (by rw [inv.tsize]; exact htl)]
            simp only [got, hdj]
            rw [Array.getD_eq_getD_getElem?, put_get _ _ _ (by rw [hbs]; exact htl)]
            rfl
          · rw [if_neg e, put_get_ne _ _ _ _ (fun e' => e (hdist j t (dst_lt hdj) hdj e'))]
            exact inv.new j t (hold j hj e) hdj
        · by_cases e : j = k
          · subst e; exact hV
          · have hjl := hold j hj e
            have hrj : reach ops ops.length j k = false := by
              cases h : reach ops ops.length j k with
              | false => rfl
              | true => rw [reach_listed inv.closed _ j k (fun m hm => inv.closed m j hm hjl) h] at h0f; cases h0f
            have hfj := hL j k hkl e hrj vals x x' (inv.fact j hjl) hR
            refine hLo.get j vals _ x' (by simp [upd, e]) (fun m hm => ?_) hfj
            have hmk : m ≠ k := fun e' => by
              have hjlt := listed_lt inv.size hjl
              have hw' := ((relOk4_spec hB j ops[j] (List.getElem?_eq_getElem hjlt)).2.2.2.2.1 m (by simpa using hm)).1
              rw [e'] at hw'
              rw [inv.closed k j hw' hjl] at h0f; cases h0f
            simp [upd, hmk]
      unfold wpOp
      rw [hoA]
      dsimp only
      have hgv : ∀ g b, o.guard = some (g, b) → ∃ d, dstOf ops g = some d ∧ a'.tmps[d]? = some (vals g) := fun g b hgb => by
        obtain ⟨h1, d, h2⟩ := hg g b hgb
        exact ⟨d, h2, inv.new g d (hDl g h1) h2⟩
      have hyield : ∀ g b, o.guard = some (g, b) → (Region.wanted o (yielded ops.toArray a'.tmps) = true ↔ vals g = .bool b) := fun g b hgb => by
        obtain ⟨d, h1, h2⟩ := hgv g b hgb
        have hy : yielded ops.toArray a'.tmps g = match some (vals g) with | some (.bool b) => some b | _ => none := by
          unfold yielded
          rw [show (ops.toArray[g]?).bind (·.dst) = some d from by simpa [dstOf] using h1]
          simp only [Option.bind_some, h2]
          cases vals g <;> rfl
        unfold Region.wanted
        rw [hgb]
        simp only [hy]
        constructor
        · intro h
          split at h
          · rename_i b' he
            injection he with he
            rw [he]
            have : b' = b := by simpa using h
            rw [this]
          · cases h
        · intro h
          rw [h]; simp
      have hskip : Region.wanted o (yielded ops.toArray a'.tmps) = false → wpAny P .any ops.toArray Q fuel (listed.setIfInBounds k true) (a'.put o.dst undef) x := fun hw0 => by
        cases hgd : o.guard with
        | none => unfold Region.wanted at hw0; rw [hgd] at hw0; cases hw0
        | some p =>
          obtain ⟨g, b⟩ := p
          have hne : vals g ≠ .bool b := fun e => by rw [(hyield g b hgd).2 e] at hw0; cases hw0
          obtain ⟨h1, h2⟩ := hob.2 g b hgd hne
          refine next undef x ⟨?_, hRr k x, h2⟩
          have : got o ((puts ops vals (D.getD k []) a).put o.dst undef) = undef := by
            unfold got
            cases hd : o.dst with
            | none => rfl
            | some d =>
              simp only
              rw [Array.getD_eq_getD_getElem?, put_get _ _ _ (by rw [hbs]; exact hdsz d hd)]
              rfl
          rw [this]; exact h1
      by_cases hwant : Region.wanted o (yielded ops.toArray a'.tmps) = true
      rotate_left
      · rw [if_neg hwant]
        exact hskip (by simpa using hwant)
      rw [if_pos hwant]
      have hob := hob.1 fun g b hgd => (hyield g b hgd).1 hwant
      refine .inl ?_
      unfold Oper.wp at hob ⊢
      rw [hexec]
      generalize (execOp (puts ops vals (D.getD k []) a).eval o).run P x = r at hob ⊢
      cases r with
      | ok n w' =>
        cases n <;> simp only [Oper.upon] at hob ⊢
        case value v => exact next v w' hob.2
        case skip => exact next _ w' hob.2
        case defer d =>
          have := hob.1
          rw [put_defers] at this
          exact absurd (congrArg List.length this) (by simp)
        case enter f args =>
          refine Calls.mono hob fun e w'' he => ?_
          cases e with
          | returned u => exact next u w'' he.2
          | panicked c => exact he.elim
          | outgrown => obtain ⟨_, _, h⟩ := he; exact h.elim
        case row row args => exact Rows.mono hob fun u w'' he => next u w'' he.2
      | halt e w' =>
        cases e <;> simp only [Oper.upon] at hob ⊢ <;> exact hob.elim


def shareR4 (P : Program) (ops : List Oper) (R : World → World → Prop) (I : (Nat → Bool) → World → Prop) (L : List Say) (a : Act) (k : Nat) (o : Oper) (d : List (Nat × Tmp)) : Prop :=
  ∀ (vals : Nat → Value) (x : World) (f : Nat → Bool), f k = false → (∀ j, reach ops ops.length k j = true → f j = true) → (∀ j, reach ops ops.length j k = true → f j = false) → I f x → saysD L vals x d →
    owes4 P R I L vals (putsD vals d a) x f k o o.guard
def sharesR4 (P : Program) (ops : List Oper) (R : Nat → World → World → Prop) (I : (Nat → Bool) → World → Prop) (L : List Say) (a : Act) : Nat → List Oper → List (List (Nat × Tmp)) → Prop
  | _, [], _ => True
  | _, _ :: _, [] => False
  | k, o :: l, d :: ds => shareR4 P ops (R k) I L a k o d ∧ sharesR4 P ops R I L a (k + 1) l ds
theorem sharesR4_get {ops : List Oper} {R : Nat → World → World → Prop} {I : (Nat → Bool) → World → Prop} {L : List Say} {a : Act} : ∀ {l : List Oper} {ds : List (List (Nat × Tmp))} {k : Nat}, sharesR4 P ops R I L a k l ds →
    ∀ i o, l[i]? = some o → shareR4 P ops (R (k + i)) I L a (k + i) o (ds.getD i [])
  | [], _, _, _, i, o, h => by simp at h
  | _ :: _, [], _, h, _, _, _ => h.elim
  | o' :: l, d :: ds, k, h, 0, o, ho => by
    simp only [List.getElem?_cons_zero, Option.some.injEq] at ho
    subst ho; exact h.1
  | o' :: l, d :: ds, k, h, i + 1, o, ho => by
    simp only [List.getElem?_cons_succ] at ho
    have := sharesR4_get h.2 i o ho
    rw [show k + (i + 1) = k + 1 + i by omega]
    simpa using this
/-- A drawn region, each operation once. D: of each operation the ones that it looks at, with their slots; L: what is said of each one's value; R: what every operation does to memory; I: what is so all along, by which have been done. -/
theorem wp_region_rel4 {id : Nat} {ops : List Oper} {a : Act} {w : World} (D : List (List (Nat × Tmp))) (R0 : World → World → Prop) (Rs : List (Nat × (World → World → Prop))) (I : (Nat → Bool) → World → Prop) (L : List Say) (all : List (Nat × Tmp)) (hm : P.follows .mixedOrders = true)
    (hB : relOk4 ops (idxs D) a.tmps.size = true) (hD : D.all (fitsD ops) = true)
    (hall : (List.range ops.length).filterMap (fun i => (dstOf ops i).map fun t => (i, t)) = all)
    (hRr : ∀ x, R0 x x) (hRs : Refls Rs) (hL : Stabs3 ops R0 Rs 0 L) (hLo : Locals (idxs D) 0 L) (h0 : I (fun _ => false) (w.drewN 1))
    (hs : sharesR4 P ops (relOf R0 Rs) I L a 0 ops D)
    (hfin : ∀ vals x f, (∀ i, i < ops.length → f i = true) → I f x → says L vals x (List.range ops.length) → Q .normal (putsD vals all a) x) : (Code.region id ops.toArray true).wp P Q a w := by
  refine wp_region_any hm ?_
  have z0 : ∀ j, (Array.replicate ops.toArray.size false).getD j false = false := fun j => getD_replicate_false _ _
  have hle : ∀ (f : Nat → Bool) (n : Nat), cnt f n ≤ n := fun f n => by
    induction n with
    | zero => exact Nat.le_refl _
    | succ n ih => simp only [cnt]; split <;> omega
  have hrel := rel4_any (P := P) (Q := Q) (ops := ops) (a := a) (D := idxs D) (R := relOf R0 Rs) (I := I) (L := L) (relOf_refl hRr hRs) (fun j k hk hjk hr vs x x' => Stabs3.get hk hL j (by rw [Nat.zero_add]; exact hjk) (by rw [Nat.zero_add]; exact hr) vs x x') hLo hB
  refine hrel (fun k o hk => ?_) (fun vals x f hn hI hf => ?_) _ _ _ _ (fun _ => undef) (Nat.le_trans (hle _ _) (by simp)) ?_
  rotate_left
  · rw [puts_all, hall]; exact hfin vals x f hn hI hf
  · exact ⟨by simp, fun j k _ hl => (by rw [z0] at hl; cases hl), rfl, rfl, fun _ _ => rfl, fun j t hj => (by rw [z0] at hj; cases hj), by rw [show (fun i => (Array.replicate ops.toArray.size false).getD i false) = fun _ => false from funext z0]; exact h0, fun j hj => (by rw [z0] at hj; cases hj)⟩
  · have hsh := sharesR4_get hs k o hk
    rw [Nat.zero_add] at hsh
    have hfit : fitsD ops (D.getD k []) = true := by
      rcases Nat.lt_or_ge k D.length with h | h
      · rw [show D.getD k [] = D[k] by simp [h]]; exact List.all_eq_true.1 hD _ (List.getElem_mem h)
      · rw [show D.getD k [] = [] by simp [h]]; rfl
    have hDk : (idxs D).getD k [] = (D.getD k []).map (·.1) := by
      unfold idxs
      rcases Nat.lt_or_ge k D.length with h | h
      · simp [h]
      · simp [h]
    intro vals x f hn hl hl2 hI hf
    rw [hDk, says_saysD] at hf
    have h := hsh vals x f hn hl hl2 hI hf
    rw [hDk, puts_putsD hfit]
    have hun : wpList P #[] (relQ4 (relOf R0 Rs k) I L vals f k o (putsD vals (D.getD k []) a) x) [bare o] (putsD vals (D.getD k []) a) x → o.wp P (putsD vals (D.getD k []) a) x (relQ4 (relOf R0 Rs k) I L vals f k o (putsD vals (D.getD k []) a) x .normal) (relQ4 (relOf R0 Rs k) I L vals f k o (putsD vals (D.getD k []) a) x) := fun h => by
      rcases wpList_bare h with h | ⟨_, _, h⟩
      · exact h
      · exact h.elim
    generalize o.guard = gd at h ⊢
    cases gd with
    | none => exact ⟨fun _ => hun h, fun g b e => by cases e⟩
    | some p =>
      obtain ⟨g, b⟩ := p
      exact ⟨fun e => hun (h.1 (e g b rfl)), fun g' b' e hne => by injection e with e; injection e with e1 e2; subst e1; subst e2; exact h.2 hne⟩
end Go.Proofs.Ytbljfhmcebgdaaa

/-! The reference's search: l5Learn. -/
namespace Go.Proofs.Ytbljfhmcebgdaaa
open Go Go.RowKit

/-- A search in memory, read: the clauses and where it is. -/
structure SRd (w : World) (x : C) (s : S) (A P Q D : Option Addr) : Prop where
  cl : Lay.int.slice.Rd w A x.list
  put : Lay.int.Rd w P s.put
  why : Lay.int.Rd w Q s.why
  lrn : Lay.int.slice.Rd w D s.learned
theorem SRd.up {w w' : World} {x : C} {s : S} {A P Q D : Option Addr} (h : SRd w x s A P Q D) (hb : Below w.heap.size w w') : SRd w' x s A P Q D := ⟨Lay.Sl.below h.cl hb (fun _ h => h) |>.mono fun _ h => Nat.lt_of_lt_of_le h hb.size, h.put.up hb, h.why.up hb, Lay.Sl.below h.lrn hb (fun _ h => h) |>.mono fun _ h => Nat.lt_of_lt_of_le h hb.size⟩
theorem least {p : Nat → Prop} (h : ∃ k, p k) : ∃ k, p k ∧ ∀ j, j < k → ¬ p j := by
  obtain ⟨n, hn⟩ := h
  induction n using Nat.strongRecOn with
  | ind n ih =>
    by_cases h9 : ∃ j, j < n ∧ p j
    · obtain ⟨j, h1, h2⟩ := h9
      exact ih j h1 h2
    · exact ⟨n, hn, fun j hj h8 => h9 ⟨j, hj, h8⟩⟩
open Classical in
/-- The least number of which something is so. -/
noncomputable def minK (p : Nat → Prop) : Nat := if h : ∃ k, p k then Classical.choose (least h) else 0
theorem minK_spec {p : Nat → Prop} (h : ∃ k, p k) : ∃ k, p k ∧ minK p = k := by
  refine ⟨minK p, ?_, rfl⟩
  unfold minK
  rw [dif_pos h]
  exact (Classical.choose_spec (least h)).1
theorem minK_lt {p p' : Nat → Prop} {k : Nat} (h : p' k) (hk : k < minK p) : minK p' < minK p := by
  have h' : ∃ k, p' k := ⟨k, h⟩
  have := (Classical.choose_spec (least h')).2
  unfold minK at hk ⊢
  rw [dif_pos h']
  rcases Nat.lt_or_ge k (Classical.choose (least h')) with h9 | h9
  · exact absurd h (this k h9)
  · exact Nat.lt_of_le_of_lt h9 hk
/-- What was read, or new. -/
def Nw (F : Nat → Prop) (lo : Nat) (w : World) (b : Nat) : Prop := F b ∨ (lo ≤ b ∧ b < w.heap.size)
/-- The learned clause is handed back: what came in, or a new row. -/
def RetLn (F : Nat → Prop) (r : List Int) (w : World) (e : Ending) (w' : World) : Prop := ∃ B c, e = .returned (.slice B r.length c) ∧ Lay.int.Sl w' (Nw F w.heap.size w') B r ∧ r.length ≤ c ∧ Below w.heap.size w w'
theorem clOk_len {M : Nat} {cl : List Int} (h : clOk (M : Int) cl = true) : cl.length ≤ M := by
  have := (cOk_good (Int.le_refl 0) h).1.length
  simpa using this
set_option maxRecDepth 100000 in
set_option maxHeartbeats 16000000 in
theorem l5Learn_any (x : C) (s : S) (A P Q D L B : Option Addr) (a p q d l c M : Nat) (vs cl : List Int) (F : Nat → Prop) (w : World) (hM : x.many = (M : Int)) (hM2 : M ≤ 1000) (h : SRd w x s A P Q D) (hg : SatGood x s) (hlv : Lay.int.Rd w L vs) (hv : LvR M (lev s.put s.why 0) vs) (hcl : Lay.int.Sl w F B cl) (hcc : cl.length ≤ c) (hF : ∀ b, F b → b < w.heap.size) (hc : clOk (M : Int) cl = true) (hf : ∀ y ∈ cl, -y ∈ s.put) :
    Calls Try.prog 123 #[.agg #[.int .i64 x.many, .slice A x.list.length a], .agg #[.slice P s.put.length p, .slice Q s.why.length q, .slice D s.learned.length d, .int .i64 s.code], .slice L vs.length l, .slice B cl.length c] w (RetLn F (learnP M (allC x s) s.put s.why s.put.length cl) w) := by
  have HMM := Lib.hid hM
  rw [hM]
  have hgd : Good M s.put := by rw [← hM]; exact hg.good
  have hxl : x.list.length ≤ 1048576 := by
    have := hg.cnf
    simp only [cnfOk, Bool.and_eq_true, decide_eq_true_eq] at this
    omega
  have hll : s.learned.length ≤ 1048576 := by have := hg.learned; omega
  have hal1 : Below w.heap.size w (w.alloc (.cells #[.int .i64 (M : Int), .slice A x.list.length a] 25)) := (Below.refl _ _).alloc (Nat.le_refl _) _
  have hs1 : (w.alloc (.cells #[.int .i64 (M : Int), .slice A x.list.length a] 25)).heap.size = w.heap.size + 1 := by simp
  have hb1 := heap_alloc_new w (.cells #[.int .i64 (M : Int), .slice A x.list.length a] 25)
  obtain ⟨w1, hw1⟩ : ∃ w1, w1 = w.alloc (.cells #[.int .i64 (M : Int), .slice A x.list.length a] 25) := ⟨_, rfl⟩
  rw [← hw1] at hal1 hs1 hb1
  have hal2 : Below w1.heap.size w1 (w1.alloc (.cells #[.slice P s.put.length p, .slice Q s.why.length q, .slice D s.learned.length d, .int .i64 s.code] 35)) := (Below.refl _ _).alloc (Nat.le_refl _) _
  have hb2 := heap_alloc_new w1 (.cells #[.slice P s.put.length p, .slice Q s.why.length q, .slice D s.learned.length d, .int .i64 s.code] 35)
  rw [hs1] at hb2
  obtain ⟨w2, hw2⟩ : ∃ w2, w2 = w1.alloc (.cells #[.slice P s.put.length p, .slice Q s.why.length q, .slice D s.learned.length d, .int .i64 s.code] 35) := ⟨_, rfl⟩
  rw [← hw2] at hal2 hb2
  have HB1 := Lib.hid ((hal2.block _ (lt_of_block hb1)).trans hb1)
  have HB2 := Lib.hid hb2
  have HS := Lib.hid ((h.up hal1).up hal2)
  have HLV := Lib.hid ((hlv.up hal1).up hal2)
  have hb12 := bthen hal1 hal2
  have HAL := Lib.hid hb12
  have HCL := Lib.hid ((Lay.Sl.below hcl hb12 hF).mono fun b hb => show Nw F w.heap.size w2 b from .inl hb)
  have HFF := Lib.hid hF
  have HCC := Lib.hid hcc
  have HV := Lib.hid hv
  have HG := Lib.hid hg
  have HGD := Lib.hid hgd
  have HC := Lib.hid hc
  have HFS := Lib.hid (show ∀ y ∈ cl, -y ∈ s.put.take s.put.length from by rw [List.take_length]; exact hf)
  have HW1 := Lib.hid hw1
  have HW2 := Lib.hid hw2
  obtain ⟨R, hR⟩ : ∃ R, R = learnP M (allC x s) s.put s.why s.put.length cl := ⟨_, rfl⟩
  rw [← hR]
  have HR := Lib.hid hR.symm
  have HRL : Hid (R.length ≤ 1048576) := Lib.hid (by
    have := clOk_len (learnP_ok hgd hg.len (cs := allC x s) hg.whys s.put.length cl hc (by rw [List.take_length]; exact hf)).1
    rw [← hR] at this; omega)
  obtain ⟨lv, hlve⟩ : ∃ lv, lv = lev s.put s.why 0 := ⟨_, rfl⟩
  rw [← hlve] at HV
  have HLE := Lib.hid hlve
  have HT := Lib.hid (fun (z : World) (B : Option Addr) (c : Nat) (F : Nat → Prop) (y : List Int) (hz : Lay.int.Rd z L vs) (hy : Lay.int.Sl z F B y) (hc : clOk (M : Int) y = true) => l5Top_any L B l c M lv vs y _ F z hz HV.out hy (fun k hk => (clOk_rng hc k hk).2) (by omega) (by have := clOk_len hc; omega))
  clear h hg hgd hlv hv hcl hcc hF hc hf hal1 hs1 hb1 hal2 hb2 hb12 hw1 hw2 hM hR hlve
  go_enter Try.func123, Try.ntmps123
  go_wp2_with fail
  rw [← HW1.out, ← HW2.out]
  refine (HT.out w2 B c _ cl HLV.out HCL.out HC.out).mono ?_
  rintro e w3 ⟨rfl, rfl⟩
  obtain ⟨nn, hnn⟩ : ∃ nn, nn = (topP lv cl 0 0).2 := ⟨_, rfl⟩
  rw [← hnn]
  have HNN := Lib.hid hnn
  clear hnn HW1 HW2
  obtain ⟨rel, hrelE⟩ : ∃ rel : Nat → Value → Value → World → Prop, rel = fun k o i wr => ∃ (y : List Int) (B : Option Addr) (c : Nat) (n : Int), o = .slice B y.length c ∧ i = .int .i64 n ∧ k ≤ s.put.length ∧ Hid (n = (topP lv y 0 0).2) ∧ Hid (clOk (M : Int) y = true) ∧ Hid (∀ u ∈ y, -u ∈ s.put.take k) ∧ Hid (learnP M (allC x s) s.put s.why k y = R) ∧ Hid (Lay.int.Sl wr (Nw F w.heap.size wr) B y) ∧ Hid (Below w2.heap.size w2 wr) ∧ Hid (y.length ≤ c) := ⟨_, rfl⟩
  have HRELE := Lib.hid hrelE
  have h00 : rel s.put.length (.slice B cl.length c) (.int .i64 nn) w2 := by
    rw [hrelE]
    exact ⟨cl, B, c, nn, rfl, rfl, Nat.le_refl _, HNN, HC, HFS, HR, HCL, Lib.hid (Below.refl _ _), HCC⟩
  have H00 := Lib.hid h00
  clear hrelE h00
  go_wp2
  go_loopw [3, 10] (fun o i wr => ∃ k, rel k o i wr) (fun o i wr => minK (fun k => rel k o i wr))
  case atStart => exact ⟨_, H00.out⟩
  case round =>
    clear HNN HC HFS HR HCL H00 HCC
    obtain ⟨k, hk9, hmin⟩ := minK_spec hrel
    have hrk := hk9
    rw [HRELE.out] at hk9
    obtain ⟨y, B, c, n, rfl, rfl, hk, HN, HC, HFS, HR, HY, HB, HYC⟩ := hk9
    have HMIN := Lib.hid hmin
    clear hmin hrk hrel
    by_cases hn1 : 1 < n
    · have hn2 : decide (1 < n) = true := decide_eq_true hn1
      obtain ⟨i, m, r, e1, e2, e3, e4, e5, e6, e7, e8, e9, e10⟩ := learnP_more HGD.out HG.out.len HG.out.whys (cs := allC x s) HC.out HFS.out (by rw [← HLE.out, ← HN.out]; exact hn1)
      have hsr := HS.out.up HB.out
      obtain ⟨ap, hP, _, hm⟩ : ∃ ad, P = some ad ∧ True ∧ wr.cell? (ad.add i) = some (.int .i64 m) := by
        obtain ⟨h1, h2⟩ := List.getElem?_eq_some_iff.1 e3
        obtain ⟨ad, a1, _, a2⟩ := hsr.put.at_int h1
        exact ⟨ad, a1, trivial, by rw [h2] at a2; exact a2⟩
      obtain ⟨aw, hQ, _, hr⟩ : ∃ ad, Q = some ad ∧ True ∧ wr.cell? (ad.add i) = some (.int .i64 r) := by
        obtain ⟨h1, h2⟩ := List.getElem?_eq_some_iff.1 e4
        obtain ⟨ad, a1, _, a2⟩ := hsr.why.at_int h1
        exact ⟨ad, a1, trivial, by rw [h2] at a2; exact a2⟩
      obtain ⟨kr, rfl⟩ := Int.eq_ofNat_of_zero_le e5
      rw [Int.toNat_natCast] at e7 e8 e9 e10
      have hkr : kr < x.list.length + s.learned.length := by have e6 : ((kr : Nat) : Int) < (x.list ++ s.learned).length := e6; rw [List.length_append] at e6; omega
      obtain ⟨Ar, cr, hcs, hcr, hat⟩ := clause_at hsr.cl hsr.lrn hkr
      have hrm := (HGD.out.rng m (List.mem_of_getElem? e3)).2
      have hil : (i : Int) < s.put.length := by have := (List.getElem?_eq_some_iff.1 e3).1; omega
      have hiw : (i : Int) < s.why.length := by have := (List.getElem?_eq_some_iff.1 e4).1; omega
      have e9 : ∀ l ∈ (x.list ++ s.learned).getD kr [], -(M : Int) ≤ l ∧ l ≤ M := e9
      have e7 : clOk (M : Int) (joinP M y ((x.list ++ s.learned).getD kr []) m.natAbs) = true := e7
      have e8 : ∀ l ∈ joinP M y ((x.list ++ s.learned).getD kr []) m.natAbs, -l ∈ s.put.take (k - 1) := e8
      have e10 : _ = learnP M (allC x s) s.put s.why (k - 1) (joinP M y ((x.list ++ s.learned).getD kr []) m.natAbs) := e10
      have hrl : ((x.list ++ s.learned).getD kr []).length ≤ 1048576 := by
        have h9 : (x.list ++ s.learned).getD kr [] ∈ allC x s := by
          have h8 : kr < (x.list ++ s.learned).length := by rw [List.length_append]; exact hkr
          rw [List.getD_eq_getElem?_getD, List.getElem?_eq_getElem h8]
          exact List.getElem_mem h8
        have h7 := allC_clOk HG.out _ h9
        have h6 := (cOk_good (Int.le_refl 0) h7).1.length
        rw [List.length_map] at h6
        have h5 := HG.out.cnf
        simp only [cnfOk, Bool.and_eq_true, decide_eq_true_eq] at h5
        omega
      generalize (x.list ++ s.learned).getD kr [] = rc at *
      obtain ⟨z, hz⟩ : ∃ z, z = joinP M y rc m.natAbs := ⟨_, rfl⟩
      have HJ := Lib.hid (fun (w9 : World) (hb : Below wr.heap.size wr w9) => l5Join_any B Ar c cr M m.natAbs y rc _ _ w9 ((HY.out.keep fun b hb9 => hb.block b (by rcases hb9 with h9 | h9; exact Nat.lt_of_lt_of_le (HFF.out b h9) (Nat.le_trans HAL.out.size HB.out.size); exact h9.2)).mono fun b hb9 => hb9) (Lay.Sl.below hcs hb (fun _ h => h)) (fun b hb9 => by rcases hb9 with h9 | h9; exact Nat.lt_of_lt_of_le (HFF.out b h9) (Nat.le_trans HAL.out.size (Nat.le_trans HB.out.size hb.size)); exact Nat.lt_of_lt_of_le h9.2 hb.size) (fun b hb9 => Nat.lt_of_lt_of_le hb9 hb.size) (fun l hl => (clOk_rng HC.out l hl).2) e9 (by omega) (by omega) (by have := clOk_len HC.out; omega) hrl)
      rw [← hz] at HJ e7 e8 e10
      have HAT := Lib.hid (fun (w9 : World) (hb : Below wr.heap.size wr w9) => l5At_any x s A P Q D a p q d kr (.slice Ar rc.length cr) w9 hxl (hat.imp (fun ⟨h1, ad, h2, h3⟩ => ⟨h1, ad, h2, Later.cell h3 ⟨w9, hb⟩⟩) (fun ⟨h1, ad, h2, h3⟩ => ⟨h1, ad, h2, Later.cell h3 ⟨w9, hb⟩⟩)) hkr hll)
      rw [show x.many = (M : Int) from HMM.out] at HAT
      have HABS := Lib.hid (fun (w9 : World) => l4Abs_any m w9 (by omega) (by omega))
      have HLAST := Lib.hid (l5Last_any s P Q D B p q d c M y _ wr hsr.put HY.out (fun b hb9 => by rcases hb9 with h9 | h9; exact Nat.lt_of_lt_of_le (HFF.out b h9) (Nat.le_trans HAL.out.size HB.out.size); exact h9.2) HGD.out (fun l hl => (clOk_rng HC.out l hl).2) (by omega) (by have := clOk_len HC.out; omega))
      rw [e1] at HLAST
      have HE7 := Lib.hid e7
      have HE8 := Lib.hid e8
      have HE10 := Lib.hid (e10.symm.trans HR.out)
      have hik : i < k := e2
      have hbx1 := (HB.out.block _ (lt_of_block HB1.out)).trans HB1.out
      have hbx2 := (HB.out.block _ (lt_of_block HB2.out)).trans HB2.out
      have HBX1 := Lib.hid hbx1
      have HBX2 := Lib.hid hbx2
      have HM9 := Lib.hid (And.intro hm hr)
      clear e1 e2 e3 e4 e5 e6 e7 e8 e9 e10 hsr hm hr hkr hcs hcr hat hrm hrl hz hbx1 hbx2 HR HN
      subst hP hQ
      obtain ⟨u0, _⟩ := cell_of_block HBX2.out 0
      obtain ⟨u1, _⟩ := cell_of_block HBX2.out 1
      obtain ⟨u2, _⟩ := cell_of_block HBX2.out 2
      obtain ⟨u3, _⟩ := cell_of_block HBX2.out 3
      go_wp2_with fail
      refine HLAST.out.mono ?_
      rintro e w4 ⟨rfl, hb4⟩
      have HB4 := Lib.hid hb4
      have k0 := Later.cell (show w4.cell? ⟨w.heap.size, 0, none⟩ = _ from (cell_of_block ((hb4.block _ (lt_of_block HBX1.out)).trans HBX1.out) 0).1)
      have k1 := Later.cell (show w4.cell? ⟨w.heap.size, 1, none⟩ = _ from (cell_of_block ((hb4.block _ (lt_of_block HBX1.out)).trans HBX1.out) 1).1)
      have s0 := Later.cell (show w4.cell? ⟨w.heap.size + 1, 0, none⟩ = _ from (cell_of_block ((hb4.block _ (lt_of_block HBX2.out)).trans HBX2.out) 0).1)
      have s1 := Later.cell (show w4.cell? ⟨w.heap.size + 1, 1, none⟩ = _ from (cell_of_block ((hb4.block _ (lt_of_block HBX2.out)).trans HBX2.out) 1).1)
      have s2 := Later.cell (show w4.cell? ⟨w.heap.size + 1, 2, none⟩ = _ from (cell_of_block ((hb4.block _ (lt_of_block HBX2.out)).trans HBX2.out) 2).1)
      have s3 := Later.cell (show w4.cell? ⟨w.heap.size + 1, 3, none⟩ = _ from (cell_of_block ((hb4.block _ (lt_of_block HBX2.out)).trans HBX2.out) 3).1)
      have pm := Later.cell (show w4.cell? (ap.add i) = some (.int .i64 m) from Later.cell HM9.out.1 ⟨w4, HB4.out⟩)
      have pr := Later.cell (show w4.cell? (aw.add i) = some (.int .i64 (kr : Int)) from Later.cell HM9.out.2 ⟨w4, HB4.out⟩)
      clear hb4 u0 u1 u2 u3
      go_wp2
      refine wp_region_rel4 [[], [(0, 23)], [], [], [], [], [(5, 28)], [], [(6, 29), (7, 30)], [(8, 31)], [(3, 26), (4, 27), (9, 32)], [], [(11, 34)], [], [(12, 35), (13, 36)], [(14, 37)], [(15, 38)], [(1, 24), (2, 25), (10, 33), (16, 39)], [(17, 40)]]
        (fun y y' => Below y.heap.size y y')
        []
        (fun _ yy => Below w4.heap.size w4 yy)
        [fun vs9 _ => vs9 0 = (.pointer (some ⟨w.heap.size, 0, none⟩)),
    fun vs9 _ => vs9 1 = (.int .i64 (M : Int)),
    fun vs9 _ => vs9 2 = (.slice B y.length c),
    fun vs9 _ => vs9 3 = (.agg #[.int .i64 (M : Int), .slice A x.list.length a]),
    fun vs9 _ => vs9 4 = (.agg #[.slice (some ap) s.put.length p, .slice (some aw) s.why.length q, .slice D s.learned.length d, .int .i64 s.code]),
    fun vs9 _ => vs9 5 = (.pointer (some ⟨w.heap.size + 1, 1, none⟩)),
    fun vs9 _ => vs9 6 = (.slice (some aw) s.why.length q),
    fun vs9 _ => vs9 7 = (.int .i64 (i : Int)),
    fun vs9 _ => vs9 8 = (.pointer (some (aw.add i))),
    fun vs9 _ => vs9 9 = (.int .i64 (kr : Int)),
    fun vs9 _ => vs9 10 = (.slice Ar rc.length cr),
    fun vs9 _ => vs9 11 = (.pointer (some ⟨w.heap.size + 1, 0, none⟩)),
    fun vs9 _ => vs9 12 = (.slice (some ap) s.put.length p),
    fun vs9 _ => vs9 13 = (.int .i64 (i : Int)),
    fun vs9 _ => vs9 14 = (.pointer (some (ap.add i))),
    fun vs9 _ => vs9 15 = (.int .i64 m),
    fun vs9 _ => vs9 16 = (.int .i64 (m.natAbs : Int)),
    fun vs9 y9 => (fun v y9 => ∃ (A9 : Option Addr) (c9 : Nat), v = .slice A9 z.length c9 ∧ z.length ≤ c9 ∧ Lay.int.Sl y9 (fun b => w4.heap.size ≤ b ∧ b < y9.heap.size) A9 z) (vs9 17) y9,
    fun vs9 y9 => (fun v y9 => ∃ (A9 : Option Addr) (c9 : Nat), v = .slice A9 z.length c9 ∧ z.length ≤ c9 ∧ Lay.int.Sl y9 (fun b => w4.heap.size ≤ b ∧ b < y9.heap.size) A9 z) (vs9 18) y9]
        [(0, 23), (1, 24), (2, 25), (3, 26), (4, 27), (5, 28), (6, 29), (7, 30), (8, 31), (9, 32), (10, 33), (11, 34), (12, 35), (13, 36), (14, 37), (15, 38), (16, 39), (17, 40), (18, 3)] (by kernel_rfl) (by kernel_rfl) (by kernel_rfl) (by kernel_rfl)
        (fun _ => Below.refl _ _) trivial
        ⟨⟨.inr (fun vs9 _ _ (h9 : vs9 0 = (.pointer (some ⟨w.heap.size, 0, none⟩))) _ => h9), trivial⟩,
    ⟨.inr (fun vs9 _ _ (h9 : vs9 1 = (.int .i64 (M : Int))) _ => h9), trivial⟩,
    ⟨.inr (fun vs9 _ _ (h9 : vs9 2 = (.slice B y.length c)) _ => h9), trivial⟩,
    ⟨.inr (fun vs9 _ _ (h9 : vs9 3 = (.agg #[.int .i64 (M : Int), .slice A x.list.length a])) _ => h9), trivial⟩,
    ⟨.inr (fun vs9 _ _ (h9 : vs9 4 = (.agg #[.slice (some ap) s.put.length p, .slice (some aw) s.why.length q, .slice D s.learned.length d, .int .i64 s.code])) _ => h9), trivial⟩,
    ⟨.inr (fun vs9 _ _ (h9 : vs9 5 = (.pointer (some ⟨w.heap.size + 1, 1, none⟩))) _ => h9), trivial⟩,
    ⟨.inr (fun vs9 _ _ (h9 : vs9 6 = (.slice (some aw) s.why.length q)) _ => h9), trivial⟩,
    ⟨.inr (fun vs9 _ _ (h9 : vs9 7 = (.int .i64 (i : Int))) _ => h9), trivial⟩,
    ⟨.inr (fun vs9 _ _ (h9 : vs9 8 = (.pointer (some (aw.add i)))) _ => h9), trivial⟩,
    ⟨.inr (fun vs9 _ _ (h9 : vs9 9 = (.int .i64 (kr : Int))) _ => h9), trivial⟩,
    ⟨.inr (fun vs9 _ _ (h9 : vs9 10 = (.slice Ar rc.length cr)) _ => h9), trivial⟩,
    ⟨.inr (fun vs9 _ _ (h9 : vs9 11 = (.pointer (some ⟨w.heap.size + 1, 0, none⟩))) _ => h9), trivial⟩,
    ⟨.inr (fun vs9 _ _ (h9 : vs9 12 = (.slice (some ap) s.put.length p)) _ => h9), trivial⟩,
    ⟨.inr (fun vs9 _ _ (h9 : vs9 13 = (.int .i64 (i : Int))) _ => h9), trivial⟩,
    ⟨.inr (fun vs9 _ _ (h9 : vs9 14 = (.pointer (some (ap.add i)))) _ => h9), trivial⟩,
    ⟨.inr (fun vs9 _ _ (h9 : vs9 15 = (.int .i64 m)) _ => h9), trivial⟩,
    ⟨.inr (fun vs9 _ _ (h9 : vs9 16 = (.int .i64 (m.natAbs : Int))) _ => h9), trivial⟩,
    ⟨.inr (fun vs9 x9 y9 h9 hR9 => (show ∀ v9 y8 y7, (fun v y9 => ∃ (A9 : Option Addr) (c9 : Nat), v = .slice A9 z.length c9 ∧ z.length ≤ c9 ∧ Lay.int.Sl y9 (fun b => w4.heap.size ≤ b ∧ b < y9.heap.size) A9 z) v9 y8 → (fun y y' => Below y.heap.size y y') y8 y7 → (fun v y9 => ∃ (A9 : Option Addr) (c9 : Nat), v = .slice A9 z.length c9 ∧ z.length ≤ c9 ∧ Lay.int.Sl y9 (fun b => w4.heap.size ≤ b ∧ b < y9.heap.size) A9 z) v9 y7 from fun _ y8 y7 ⟨A9, c9, h1, h0, h2⟩ hR => ⟨A9, c9, h1, h0, (h2.keep fun b hb => hR.block b hb.2).mono fun b hb => ⟨hb.1, Nat.lt_of_lt_of_le hb.2 hR.size⟩⟩) (vs9 17) x9 y9 h9 hR9), trivial⟩,
    ⟨.inr (fun vs9 x9 y9 h9 hR9 => (show ∀ v9 y8 y7, (fun v y9 => ∃ (A9 : Option Addr) (c9 : Nat), v = .slice A9 z.length c9 ∧ z.length ≤ c9 ∧ Lay.int.Sl y9 (fun b => w4.heap.size ≤ b ∧ b < y9.heap.size) A9 z) v9 y8 → (fun y y' => Below y.heap.size y y') y8 y7 → (fun v y9 => ∃ (A9 : Option Addr) (c9 : Nat), v = .slice A9 z.length c9 ∧ z.length ≤ c9 ∧ Lay.int.Sl y9 (fun b => w4.heap.size ≤ b ∧ b < y9.heap.size) A9 z) v9 y7 from fun _ y8 y7 ⟨A9, c9, h1, h0, h2⟩ hR => ⟨A9, c9, h1, h0, (h2.keep fun b hb => hR.block b hb.2).mono fun b hb => ⟨hb.1, Nat.lt_of_lt_of_le hb.2 hR.size⟩⟩) (vs9 18) x9 y9 h9 hR9), trivial⟩, trivial⟩ ⟨fun vs vs' x h _ hv => (by dsimp only at hv ⊢; first | (rw [← h]; exact hv) | exact hv),
    fun vs vs' x h _ hv => (by dsimp only at hv ⊢; first | (rw [← h]; exact hv) | exact hv),
    fun vs vs' x h _ hv => (by dsimp only at hv ⊢; first | (rw [← h]; exact hv) | exact hv),
    fun vs vs' x h _ hv => (by dsimp only at hv ⊢; first | (rw [← h]; exact hv) | exact hv),
    fun vs vs' x h _ hv => (by dsimp only at hv ⊢; first | (rw [← h]; exact hv) | exact hv),
    fun vs vs' x h _ hv => (by dsimp only at hv ⊢; first | (rw [← h]; exact hv) | exact hv),
    fun vs vs' x h _ hv => (by dsimp only at hv ⊢; first | (rw [← h]; exact hv) | exact hv),
    fun vs vs' x h _ hv => (by dsimp only at hv ⊢; first | (rw [← h]; exact hv) | exact hv),
    fun vs vs' x h _ hv => (by dsimp only at hv ⊢; first | (rw [← h]; exact hv) | exact hv),
    fun vs vs' x h _ hv => (by dsimp only at hv ⊢; first | (rw [← h]; exact hv) | exact hv),
    fun vs vs' x h _ hv => (by dsimp only at hv ⊢; first | (rw [← h]; exact hv) | exact hv),
    fun vs vs' x h _ hv => (by dsimp only at hv ⊢; first | (rw [← h]; exact hv) | exact hv),
    fun vs vs' x h _ hv => (by dsimp only at hv ⊢; first | (rw [← h]; exact hv) | exact hv),
    fun vs vs' x h _ hv => (by dsimp only at hv ⊢; first | (rw [← h]; exact hv) | exact hv),
    fun vs vs' x h _ hv => (by dsimp only at hv ⊢; first | (rw [← h]; exact hv) | exact hv),
    fun vs vs' x h _ hv => (by dsimp only at hv ⊢; first | (rw [← h]; exact hv) | exact hv),
    fun vs vs' x h _ hv => (by dsimp only at hv ⊢; first | (rw [← h]; exact hv) | exact hv),
    fun vs vs' x h _ hv => (by dsimp only at hv ⊢; first | (rw [← h]; exact hv) | exact hv),
    fun vs vs' x h _ hv => (by dsimp only at hv ⊢; first | (rw [← h]; exact hv) | exact hv), trivial⟩ (below_drewN (Below.refl _ _) 1) ⟨?_, ?_, ?_, ?_, ?_, ?_, ?_, ?_, ?_, ?_, ?_, ?_, ?_, ?_, ?_, ?_, ?_, ?_, ?_, trivial⟩ ?_
      · intro vals xw f hf1 hf2 hf3 hI hF
        clear hf2 hf3
        dsimp only [owes4, bare]
        simp only [putsD, Act.put, List.setIfInBounds_toArray, List.set_cons_zero, List.set_cons_succ]
        go_wp2
        exact ⟨rfl, rfl, Below.refl _ _, hI⟩
      · intro vals xw f hf1 hf2 hf3 hI hF
        clear hf2 hf3
        simp only [saysD, List.getD_cons_zero, List.getD_cons_succ, and_true] at hF
        have e23 := hF
        dsimp only [owes4, bare]
        simp only [putsD, Act.put, List.setIfInBounds_toArray, List.set_cons_zero, List.set_cons_succ]
        simp only [e23]
        have c90 : xw.cell? _ = _ := k0 ⟨xw, hI⟩
        go_wp2
        exact ⟨rfl, rfl, Below.refl _ _, hI⟩
      · intro vals xw f hf1 hf2 hf3 hI hF
        clear hf2 hf3
        dsimp only [owes4, bare]
        simp only [putsD, Act.put, List.setIfInBounds_toArray, List.set_cons_zero, List.set_cons_succ]
        go_wp2
        exact ⟨rfl, rfl, Below.refl _ _, hI⟩
      · intro vals xw f hf1 hf2 hf3 hI hF
        clear hf2 hf3
        dsimp only [owes4, bare]
        simp only [putsD, Act.put, List.setIfInBounds_toArray, List.set_cons_zero, List.set_cons_succ]
        have c90 : xw.cell? _ = _ := k0 ⟨xw, hI⟩
        have c91 : xw.cell? _ = _ := k1 ⟨xw, hI⟩
        go_wp2
        exact ⟨rfl, rfl, Below.refl _ _, hI⟩
      · intro vals xw f hf1 hf2 hf3 hI hF
        clear hf2 hf3
        dsimp only [owes4, bare]
        simp only [putsD, Act.put, List.setIfInBounds_toArray, List.set_cons_zero, List.set_cons_succ]
        have c90 : xw.cell? _ = _ := s0 ⟨xw, hI⟩
        have c91 : xw.cell? _ = _ := s1 ⟨xw, hI⟩
        have c92 : xw.cell? _ = _ := s2 ⟨xw, hI⟩
        have c93 : xw.cell? _ = _ := s3 ⟨xw, hI⟩
        go_wp2
        exact ⟨rfl, rfl, Below.refl _ _, hI⟩
      · intro vals xw f hf1 hf2 hf3 hI hF
        clear hf2 hf3
        dsimp only [owes4, bare]
        simp only [putsD, Act.put, List.setIfInBounds_toArray, List.set_cons_zero, List.set_cons_succ]
        go_wp2
        exact ⟨rfl, rfl, Below.refl _ _, hI⟩
      · intro vals xw f hf1 hf2 hf3 hI hF
        clear hf2 hf3
        simp only [saysD, List.getD_cons_zero, List.getD_cons_succ, and_true] at hF
        have e28 := hF
        dsimp only [owes4, bare]
        simp only [putsD, Act.put, List.setIfInBounds_toArray, List.set_cons_zero, List.set_cons_succ]
        simp only [e28]
        have c90 : xw.cell? _ = _ := s1 ⟨xw, hI⟩
        go_wp2
        exact ⟨rfl, rfl, Below.refl _ _, hI⟩
      · intro vals xw f hf1 hf2 hf3 hI hF
        clear hf2 hf3
        dsimp only [owes4, bare]
        simp only [putsD, Act.put, List.setIfInBounds_toArray, List.set_cons_zero, List.set_cons_succ]
        go_wp2
        exact ⟨rfl, rfl, Below.refl _ _, hI⟩
      · intro vals xw f hf1 hf2 hf3 hI hF
        clear hf2 hf3
        simp only [saysD, List.getD_cons_zero, List.getD_cons_succ, and_true] at hF
        obtain ⟨e29, e30⟩ := hF
        dsimp only [owes4, bare]
        simp only [putsD, Act.put, List.setIfInBounds_toArray, List.set_cons_zero, List.set_cons_succ]
        simp only [e29, e30]
        go_wp2
        exact ⟨rfl, rfl, Below.refl _ _, hI⟩
      · intro vals xw f hf1 hf2 hf3 hI hF
        clear hf2 hf3
        simp only [saysD, List.getD_cons_zero, List.getD_cons_succ, and_true] at hF
        have e31 := hF
        dsimp only [owes4, bare]
        simp only [putsD, Act.put, List.setIfInBounds_toArray, List.set_cons_zero, List.set_cons_succ]
        simp only [e31]
        have c90 : xw.cell? _ = _ := pr ⟨xw, hI⟩
        go_wp2
        exact ⟨rfl, rfl, Below.refl _ _, hI⟩
      · intro vals xw f hf1 hf2 hf3 hI hF
        clear hf2 hf3
        simp only [saysD, List.getD_cons_zero, List.getD_cons_succ, and_true] at hF
        obtain ⟨e26, e27, e32⟩ := hF
        dsimp only [owes4, bare]
        simp only [putsD, Act.put, List.setIfInBounds_toArray, List.set_cons_zero, List.set_cons_succ]
        simp only [e26, e27, e32]
        have HWF := Lib.hid (HAT.out xw (HB4.out.trans (hI.mono HB4.out.size)))
        have HII := Lib.hid hI
        clear hI
        go_wp2_with fail
        refine HWF.out.mono ?_
        rintro e w9 ⟨rfl, hb9⟩
        have HB9 := Lib.hid hb9
        clear hb9
        go_wp2
        exact ⟨rfl, rfl, HB9.out, bthen HII.out HB9.out⟩
      · intro vals xw f hf1 hf2 hf3 hI hF
        clear hf2 hf3
        dsimp only [owes4, bare]
        simp only [putsD, Act.put, List.setIfInBounds_toArray, List.set_cons_zero, List.set_cons_succ]
        go_wp2
        exact ⟨rfl, rfl, Below.refl _ _, hI⟩
      · intro vals xw f hf1 hf2 hf3 hI hF
        clear hf2 hf3
        simp only [saysD, List.getD_cons_zero, List.getD_cons_succ, and_true] at hF
        have e34 := hF
        dsimp only [owes4, bare]
        simp only [putsD, Act.put, List.setIfInBounds_toArray, List.set_cons_zero, List.set_cons_succ]
        simp only [e34]
        have c90 : xw.cell? _ = _ := s0 ⟨xw, hI⟩
        go_wp2
        exact ⟨rfl, rfl, Below.refl _ _, hI⟩
      · intro vals xw f hf1 hf2 hf3 hI hF
        clear hf2 hf3
        dsimp only [owes4, bare]
        simp only [putsD, Act.put, List.setIfInBounds_toArray, List.set_cons_zero, List.set_cons_succ]
        go_wp2
        exact ⟨rfl, rfl, Below.refl _ _, hI⟩
      · intro vals xw f hf1 hf2 hf3 hI hF
        clear hf2 hf3
        simp only [saysD, List.getD_cons_zero, List.getD_cons_succ, and_true] at hF
        obtain ⟨e35, e36⟩ := hF
        dsimp only [owes4, bare]
        simp only [putsD, Act.put, List.setIfInBounds_toArray, List.set_cons_zero, List.set_cons_succ]
        simp only [e35, e36]
        go_wp2
        exact ⟨rfl, rfl, Below.refl _ _, hI⟩
      · intro vals xw f hf1 hf2 hf3 hI hF
        clear hf2 hf3
        simp only [saysD, List.getD_cons_zero, List.getD_cons_succ, and_true] at hF
        have e37 := hF
        dsimp only [owes4, bare]
        simp only [putsD, Act.put, List.setIfInBounds_toArray, List.set_cons_zero, List.set_cons_succ]
        simp only [e37]
        have c90 : xw.cell? _ = _ := pm ⟨xw, hI⟩
        go_wp2
        exact ⟨rfl, rfl, Below.refl _ _, hI⟩
      · intro vals xw f hf1 hf2 hf3 hI hF
        clear hf2 hf3
        simp only [saysD, List.getD_cons_zero, List.getD_cons_succ, and_true] at hF
        have e38 := hF
        dsimp only [owes4, bare]
        simp only [putsD, Act.put, List.setIfInBounds_toArray, List.set_cons_zero, List.set_cons_succ]
        simp only [e38]
        have HII := Lib.hid hI
        clear hI
        go_wp2_with fail
        refine (HABS.out xw).mono ?_
        rintro e w9 ⟨rfl, rfl⟩
        go_wp2
        exact ⟨rfl, rfl, Below.refl _ _, HII.out⟩
      · intro vals xw f hf1 hf2 hf3 hI hF
        clear hf2 hf3
        simp only [saysD, List.getD_cons_zero, List.getD_cons_succ, and_true] at hF
        obtain ⟨e24, e25, e33, e39⟩ := hF
        dsimp only [owes4, bare]
        simp only [putsD, Act.put, List.setIfInBounds_toArray, List.set_cons_zero, List.set_cons_succ]
        simp only [e24, e25, e33, e39]
        have HWF := Lib.hid (HJ.out xw (HB4.out.trans (hI.mono HB4.out.size)))
        have HII := Lib.hid hI
        clear hI
        go_wp2_with fail
        refine HWF.out.mono ?_
        rintro e w9 ⟨A9, c9, rfl, ho9, hb9⟩
        have HO9 : Hid (Lay.int.Sl w9 (fun b => w4.heap.size ≤ b ∧ b < w9.heap.size) A9 z) := Lib.hid (by
  obtain ⟨A8, c8, e8, _, h8⟩ := ho9.form
  injection e8 with e8
  rw [e8]
  exact h8.mono fun b hb => ⟨Nat.le_trans HII.out.size hb.1, hb.2⟩)
        have HB9 := Lib.hid hb9
        have HC9 := Lib.hid (OwnI.cap ho9)
        clear hb9 ho9
        go_wp2
        exact ⟨rfl, ⟨A9, c9, rfl, HC9.out, HO9.out⟩, HB9.out, bthen HII.out HB9.out⟩
      · intro vals xw f hf1 hf2 hf3 hI hF
        clear hf2 hf3
        simp only [saysD, List.getD_cons_zero, List.getD_cons_succ, and_true] at hF
        obtain ⟨A9, c9, e40, h8, h9⟩ := hF
        dsimp only [owes4, bare]
        simp only [putsD, Act.put, List.setIfInBounds_toArray, List.set_cons_zero, List.set_cons_succ]
        simp only [e40]
        have HTT := Lib.hid (And.intro h8 h9)
        clear h8 h9
        go_wp2
        exact ⟨rfl, ⟨A9, c9, rfl, HTT.out⟩, Below.refl _ _, hI⟩
      · intro vals xw f hall hI hF
        rw [show List.range _ = [0, 1, 2, 3, 4, 5, 6, 7, 8, 9, 10, 11, 12, 13, 14, 15, 16, 17, 18] from rfl] at hF
        simp only [says, List.getD_cons_zero, List.getD_cons_succ, and_true] at hF
        obtain ⟨A9, c9, e3, h8, h9⟩ := hF.2.2.2.2.2.2.2.2.2.2.2.2.2.2.2.2.2.2
        have HZ9 := Lib.hid h9
        have HZC := Lib.hid h8
        have HB9 := Lib.hid (HB4.out.trans (hI.mono HB4.out.size))
        simp only [putsD, Act.put, List.setIfInBounds_toArray, List.set_cons_zero, List.set_cons_succ]
        simp only [e3]
        clear hF e3 h8 h9 hI k0 k1 s0 s1 s2 s3 pm pr
        have HBW := Lib.hid (bthen HB.out HB9.out)
        have HT9 := Lib.hid (HT.out xw A9 c9 _ z (HLV.out.up HBW.out) HZ9.out HE7.out)
        have HZN : Hid (Lay.int.Sl xw (Nw F w.heap.size xw) A9 z) := Lib.hid (HZ9.out.mono fun b hb => .inr ⟨Nat.le_trans (Nat.le_trans HAL.out.size (Nat.le_trans HB.out.size HB4.out.size)) hb.1, hb.2⟩)
        go_wp2_with fail
        refine HT9.out.mono ?_
        rintro e w9 ⟨rfl, rfl⟩
        obtain ⟨n9, hn9⟩ : ∃ n9, n9 = (topP lv z 0 0).2 := ⟨_, rfl⟩
        rw [← hn9]
        have HN9 := Lib.hid hn9
        clear hn9
        have hnew : rel (k - 1) (.slice A9 z.length c9) (.int .i64 n9) xw := by
          rw [HRELE.out]
          exact ⟨z, A9, c9, n9, rfl, rfl, by omega, HN9, HE7, HE8, HE10, HZN, HBW, HZC⟩
        have HNEW := Lib.hid hnew
        clear hnew
        go_wp2
        go_roundw
        case rel => exact ⟨_, HNEW.out⟩
        case measure => exact minK_lt HNEW.out (by have := HMIN.out; omega)
    · have hn2 : decide (1 < n) = false := decide_eq_false hn1
      have HYR : Hid (y = R) := Lib.hid (by rw [← HR.out]; exact (learnP_done (by rw [← HLE.out, ← HN.out]; exact hn1)).symm)
      go_wp2
      go_ret
      rw [← HYR.out]
      exact ⟨B, c, rfl, HY.out, HYC.out, bthen HAL.out HB.out⟩
end Go.Proofs.Ytbljfhmcebgdaaa
