/- A drawn region whose operations write; what is so all along may look at the values. No program is named here. A term appended to the open layer: the states on the way. Contracts of the reference's reader of codes: l12Open, pick. -/
import Derived.Test.YtiahmfpfimmbgaaGreatDoorJFnCtx1
import Derived.Test.YtiahmfpfimmbgaaGreatDoorJFnCtx14
/-! A drawn region whose operations write; what is so all along may look at the values. No program is named here. -/
namespace Go.Proofs.YtiahmfpfimmbgaaGreatDoor
open Go Go.RowKit
variable {P : Program} {Q : Exit → Act → World → Prop}
def relQ6 (R : World → World → Prop) (I : (Nat → Value) → (Nat → Bool) → World → Prop) (L : List Say) (vals : Nat → Value) (f : Nat → Bool) (k : Nat) (o : Oper) (a : Act) (x : World) : Exit → Act → World → Prop
  | .normal, a', x' => a'.defers = a.defers ∧ L.getD k (fun _ _ => True) (upd vals k (got o a')) x' ∧ R x x' ∧ I (upd vals k (got o a')) (did f k) x'
  | _, _, _ => False
def obligR6 (P : Program) (ops : List Oper) (D : List (List Nat)) (R : World → World → Prop) (I : (Nat → Value) → (Nat → Bool) → World → Prop) (L : List Say) (a : Act) (k : Nat) (o : Oper) : Prop :=
  ∀ (vals : Nat → Value) (x : World) (f : Nat → Bool), f k = false → (∀ j, reach ops ops.length k j = true → f j = true) → (∀ j, reach ops ops.length j k = true → f j = false) → I vals f x → says L vals x (D.getD k []) →
    ((∀ g b, o.guard = some (g, b) → vals g = .bool b) → o.wp P (puts ops vals (D.getD k []) a) x (relQ6 R I L vals f k o (puts ops vals (D.getD k []) a) x .normal) (relQ6 R I L vals f k o (puts ops vals (D.getD k []) a) x)) ∧
    (∀ g b, o.guard = some (g, b) → vals g ≠ .bool b → L.getD k (fun _ _ => True) (upd vals k undef) x ∧ I (upd vals k undef) (did f k) x)
structure RelInv6 (ops : List Oper) (I : (Nat → Value) → (Nat → Bool) → World → Prop) (L : List Say) (a : Act) (listed : Array Bool) (a' : Act) (x : World) (vals : Nat → Value) : Prop where
  size : listed.size = ops.length
  closed : ∀ j k, waits ops k j = true → listed.getD k false = true → listed.getD j false = true
  tsize : a'.tmps.size = a.tmps.size
  defers : a'.defers = a.defers
  old : ∀ t, (∀ j, listed.getD j false = true → dstOf ops j ≠ some t) → a'.tmps[t]? = a.tmps[t]?
  new : ∀ j t, listed.getD j false = true → dstOf ops j = some t → a'.tmps[t]? = some (vals j)
  inv : I vals (fun i => listed.getD i false) x
  fact : ∀ j, listed.getD j false = true → L.getD j (fun _ _ => True) vals x
def owes6 (P : Program) (R : World → World → Prop) (I : (Nat → Value) → (Nat → Bool) → World → Prop) (L : List Say) (vals : Nat → Value) (a : Act) (x : World) (f : Nat → Bool) (k : Nat) (o : Oper) (gd : Option (Nat × Bool)) : Prop :=
  match gd with
  | none => wpList P #[] (relQ6 R I L vals f k o a x) [bare o] a x
  | some (g, b) => (vals g = .bool b → wpList P #[] (relQ6 R I L vals f k o a x) [bare o] a x) ∧ (vals g ≠ .bool b → L.getD k (fun _ _ => True) (upd vals k undef) x ∧ I (upd vals k undef) (did f k) x)
theorem rel6_any {ops : List Oper} {D : List (List Nat)} {R : Nat → World → World → Prop} {I : (Nat → Value) → (Nat → Bool) → World → Prop} {L : List Say} {a : Act} (hRr : ∀ k x, R k x x) (hL : ∀ j k, k < ops.length → j ≠ k → reach ops ops.length j k = false → ∀ vs x x', L.getD j (fun _ _ => True) vs x → R k x x' → L.getD j (fun _ _ => True) vs x') (hLo : Locals D 0 L) (hB : relOk4 ops D a.tmps.size = true)
    (hs : ∀ k o, ops[k]? = some o → obligR6 P ops D (R k) I L a k o)
    (hfin : ∀ vals x f, (∀ i, i < ops.length → f i = true) → I vals f x → says L vals x (List.range ops.length) → Q .normal (puts ops vals (List.range ops.length) a) x) :
    ∀ (fuel : Nat) (listed : Array Bool) (a' : Act) (x : World) (vals : Nat → Value), cnt (fun i => listed.getD i false) ops.length ≤ fuel →
      RelInv6 ops I L a listed a' x vals → wpAny P .any ops.toArray Q fuel listed a' x := by
  have hdd : ∀ i j t, dstOf ops i = some t → dstOf ops j = some t → i = j := fun i j t hi hj => by
    have hjl : j < ops.length := dst_lt hj
    have ho : ops[j]? = some ops[j] := List.getElem?_eq_getElem hjl
    exact (relOk4_spec hB j _ ho).2.2.2.2.2.2 i t (dst_lt hi) hi (by simpa [dstOf, ho] using hj)
  have hds : ∀ j t, dstOf ops j = some t → t < a.tmps.size := fun j t hj => by
    have hjl : j < ops.length := dst_lt hj
    have ho : ops[j]? = some ops[j] := List.getElem?_eq_getElem hjl
    exact (relOk4_spec hB j _ ho).2.2.2.1 t (by simpa [dstOf, ho] using hj)
  have hdone : ∀ (listed : Array Bool) (a' : Act) (x : World) (vals : Nat → Value), (∀ i, i < ops.length → listed.getD i false = true) → RelInv6 ops I L a listed a' x vals → Q .normal a' x := by
    intro listed a' x vals hall inv
    have ha : a' = puts ops vals (List.range ops.length) a := by
      have ht : a'.tmps = (puts ops vals (List.range ops.length) a).tmps := by
        apply Array.ext_getElem?
        intro t
        by_cases h : ∃ j, dstOf ops j = some t
        · obtain ⟨j, hj⟩ := h
          rw [inv.new j t (hall j (dst_lt hj)) hj, puts_get (fun i j => hdd i j t) _ _ j (List.mem_range.2 (dst_lt hj)) hj (hds j t hj)]
        · rw [inv.old t (fun j _ e => h ⟨j, e⟩), puts_ne _ _ (fun i _ e => h ⟨i, e⟩)]
      have hdf : a'.defers = (puts ops vals (List.range ops.length) a).defers := by rw [puts_defers]; exact inv.defers
      cases a'
      cases hp : puts ops vals (List.range ops.length) a
      rw [hp] at ht hdf
      simp only at ht hdf
      rw [ht, hdf]
    rw [ha]
    exact hfin vals x _ hall inv.inv (says_iff.2 fun i hi => inv.fact i (hall i (List.mem_range.1 hi)))
  have hmin : ∀ (listed : Array Bool), listed.size = ops.length → ∀ i, i < ops.length → listed.getD i false = false → Region.ready .any ops.toArray listed ≠ [] := by
    intro listed hsz i
    induction i using Nat.strongRecOn with
    | _ i ih =>
      intro hi hun hr
      have ho : ops[i]? = some ops[i] := List.getElem?_eq_getElem hi
      by_cases h : ∀ e ∈ ops[i].after, Region.binds .any e = true → listed.getD e.on false = true
      · have : i ∈ Region.ready .any ops.toArray listed := mem_ready.2 ⟨getD_in (by omega) hun, ops[i], by simp [ho], h⟩
        rw [hr] at this; cases this
      · simp only [Classical.not_forall] at h
        obtain ⟨e, he, hb, hl⟩ := h
        have hlt := (relOk4_spec hB i _ ho).2.2.1 e he hb
        exact ih e.on hlt (by omega) (by simpa using hl) hr
  intro fuel
  induction fuel with
  | zero =>
    intro listed a' x vals hc inv
    have hall := cnt_zero (f := fun i => listed.getD i false) (Nat.le_zero.1 hc)
    refine ⟨?_, hdone _ _ _ _ hall inv⟩
    cases hr : Region.ready .any ops.toArray listed with
    | nil => rfl
    | cons k rs =>
      exfalso
      have hk : k ∈ Region.ready .any ops.toArray listed := by rw [hr]; simp
      obtain ⟨h0, o, ho, _⟩ := mem_ready.1 hk
      have hlt : k < ops.length := by
        have := (Array.getElem?_eq_some_iff.1 ho).1; simpa using this
      have h1 : listed.getD k false = true := hall k hlt
      rw [getD_both h0] at h1; cases h1
  | succ fuel ih =>
    intro listed a' x vals hc inv
    refine ⟨fun hr => ?_, fun k hk => ?_⟩
    · refine hdone _ _ _ _ (fun i hi => ?_) inv
      cases h : listed.getD i false with
      | true => rfl
      | false => exact absurd hr (hmin listed inv.size i hi h)
    · obtain ⟨h0, o, hoA, hwait⟩ := mem_ready.1 hk
      have ho : ops[k]? = some o := by simpa using hoA
      have hkl : k < ops.length := (List.getElem?_eq_some_iff.1 ho).1
      have h0f : listed.getD k false = false := getD_both h0
      have hsz : k < listed.size := by rw [inv.size]; exact hkl
      obtain ⟨hg, hsel, _, hdsz, hD, hlook, hdist⟩ := relOk4_spec hB k o ho
      have hw : ∀ m, waits ops k m = true → listed.getD m false = true := fun m hm => by
        obtain ⟨o', ho', e, he, hb, rfl⟩ := waits_spec.1 hm
        have : o' = o := Option.some.inj (ho'.symm.trans ho)
        subst this
        exact hwait e he hb
      have hDl : ∀ j ∈ D.getD k [], listed.getD j false = true := fun j hj => hw j (hD j hj).1
      have hdk : dstOf ops k = o.dst := by simp [dstOf, ho]
      -- the operation runs as it does in the small state
      have hexec : execOp a'.eval o = execOp (puts ops vals (D.getD k []) a).eval o := execOp_congr o hsel fun y hy => by
        cases y with
        | tmp t =>
          have ht : a'.tmps[t]? = (puts ops vals (D.getD k []) a).tmps[t]? := by
            by_cases h : ∃ j, dstOf ops j = some t
            · obtain ⟨j, hj⟩ := h
              rcases hlook j (dst_lt hj) (looks_spec ho hj hy) with hm | hm
              · rw [inv.new j t (hDl j hm) hj, puts_get (fun i j => hdd i j t) _ _ j hm hj (hds j t hj)]
              · have hjf : listed.getD j false = true → False := fun hjl => by
                  have := reach_listed inv.closed _ j k (fun m hm => inv.closed m j hm hjl) hm
                  rw [this] at h0f; cases h0f
                rw [inv.old t (fun i hi e => by have := hdd i j t e hj; subst this; exact hjf hi), puts_ne _ _ (fun i hi e => by have := hdd i j t e hj; subst this; exact hjf (hDl i hi))]
            · rw [inv.old t (fun j _ e => h ⟨j, e⟩), puts_ne _ _ (fun i _ e => h ⟨i, e⟩)]
          show a'.tmps.getD t undef = (puts ops vals (D.getD k []) a).tmps.getD t undef
          rw [Array.getD_eq_getD_getElem?, Array.getD_eq_getD_getElem?, ht]
        | _ => rfl
      have hcs := (cnt_set (f := fun i => listed.getD i false) (g := fun i => (listed.setIfInBounds k true).getD i false) h0f (getD_set (listed := listed) hsz) (n := ops.length)).2 hkl
      have hob := hs k o ho vals x (fun i => listed.getD i false) h0f (fun r h => reach_listed inv.closed _ k r (fun m hm => hw m hm) h) (fun r hr => by
        cases h : listed.getD r false with
        | false => rfl
        | true => exact absurd ((reach_listed inv.closed _ r k (fun m hm => inv.closed m r hm h) hr).symm.trans h0f) (by simp)) inv.inv (says_iff.2 fun j hj => inv.fact j (hDl j hj))
      have hbs : (puts ops vals (D.getD k []) a).tmps.size = a.tmps.size := puts_size _ _
      have hbd : (puts ops vals (D.getD k []) a).defers = a.defers := puts_defers _ _
      have next : ∀ v x', (L.getD k (fun _ _ => True) (upd vals k (got o ((puts ops vals (D.getD k []) a).put o.dst v))) x' ∧ R k x x' ∧ I (upd vals k (got o ((puts ops vals (D.getD k []) a).put o.dst v))) (did (fun i => listed.getD i false) k) x') →
          wpAny P .any ops.toArray Q fuel (listed.setIfInBounds k true) (a'.put o.dst v) x' := by
        intro v x' hq
        obtain ⟨hV, hR, hI'⟩ := hq
        have hgs := getD_set (listed := listed) hsz
        have hold : ∀ j, (listed.setIfInBounds k true).getD j false = true → j ≠ k → listed.getD j false = true := fun j hj hne => by
          rw [hgs, if_neg hne] at hj; exact hj
        refine ih _ _ x' (fun j => if j = k then got o ((puts ops vals (D.getD k []) a).put o.dst v) else vals j) ?_ ⟨by simp [inv.size], fun j m hm hl => ?_, by rw [put_size]; exact inv.tsize, by rw [put_defers]; exact inv.defers, fun t ht => ?_, fun j t hj hdj => ?_, by rw [show (fun i => (listed.setIfInBounds k true).getD i false) = fun j => if j = k then true else listed.getD j false from funext hgs]; exact hI', fun j hj => ?_⟩
        · omega
        · rw [hgs]
          by_cases e : j = k
          · rw [if_pos e]
          · rw [if_neg e]
            by_cases e' : m = k
            · subst e'; exact hw j hm
            · exact inv.closed j m hm (hold m hl e')
        · rw [put_get_ne _ _ _ _ (by
            have := ht k (by rw [hgs, if_pos rfl])
            rwa [hdk] at this)]
          refine inv.old t fun j hj => ht j ?_
          rw [hgs]; split <;> first | rfl | exact hj
        · by_cases e : j = k
          · subst e
            rw [hdk] at hdj
            have htl := hdsz t hdj
            rw [if_pos rfl, hdj, put_get _ _ _ (by rw [inv.tsize]; exact htl)]
            simp only [got, hdj]
            rw [Array.getD_eq_getD_getElem?, put_get _ _ _ (by rw [hbs]; exact htl)]
            rfl
          · rw [if_neg e, put_get_ne _ _ _ _ (fun e' => e (hdist j t (dst_lt hdj) hdj e'))]
            exact inv.new j t (hold j hj e) hdj
        · by_cases e : j = k
          · subst e; exact hV
          · have hjl := hold j hj e
            have hrj : reach ops ops.length j k = false := by
              cases h : reach ops ops.length j k with
              | false => rfl
              | true => rw [reach_listed inv.closed _ j k (fun m hm => inv.closed m j hm hjl) h] at h0f; cases h0f
            have hfj := hL j k hkl e hrj vals x x' (inv.fact j hjl) hR
            refine hLo.get j vals _ x' (by simp [upd, e]) (fun m hm => ?_) hfj
            have hmk : m ≠ k := fun e' => by
              have hjlt := listed_lt inv.size hjl
              have hw' := ((relOk4_spec hB j ops[j] (List.getElem?_eq_getElem hjlt)).2.2.2.2.1 m (by simpa using hm)).1
              rw [e'] at hw'
              rw [inv.closed k j hw' hjl] at h0f; cases h0f
            simp [upd, hmk]
      unfold wpOp
      rw [hoA]
      dsimp only
      have hgv : ∀ g b, o.guard = some (g, b) → ∃ d, dstOf ops g = some d ∧ a'.tmps[d]? = some (vals g) := fun g b hgb => by
        obtain ⟨h1, d, h2⟩ := hg g b hgb
        exact ⟨d, h2, inv.new g d (hDl g h1) h2⟩
      have hyield : ∀ g b, o.guard = some (g, b) → (Region.wanted o (yielded ops.toArray a'.tmps) = true ↔ vals g = .bool b) := fun g b hgb => by
        obtain ⟨d, h1, h2⟩ := hgv g b hgb
        have hy : yielded ops.toArray a'.tmps g = match some (vals g) with | some (.bool b) => some b | _ => none := by
          unfold yielded
          rw [show (ops.toArray[g]?).bind (·.dst) = some d from by simpa [dstOf] using h1]
          simp only [Option.bind_some, h2]
          cases vals g <;> rfl
        unfold Region.wanted
        rw [hgb]
        simp only [hy]
        constructor
        · intro h
          split at h
          · rename_i b' he
            injection he with he
            rw [he]
            have : b' = b := by simpa using h
            rw [this]
          · cases h
        · intro h
          rw [h]; simp
      have hskip : Region.wanted o (yielded ops.toArray a'.tmps) = false → wpAny P .any ops.toArray Q fuel (listed.setIfInBounds k true) (a'.put o.dst undef) x := fun hw0 => by
        cases hgd : o.guard with
        | none => unfold Region.wanted at hw0; rw [hgd] at hw0; cases hw0
        | some p =>
          obtain ⟨g, b⟩ := p
          have hne : vals g ≠ .bool b := fun e => by rw [(hyield g b hgd).2 e] at hw0; cases hw0
          obtain ⟨h1, h2⟩ := hob.2 g b hgd hne
          have : got o ((puts ops vals (D.getD k []) a).put o.dst undef) = undef := by
            unfold got
            cases hd : o.dst with
            | none => rfl
            | some d =>
              simp only
              rw [Array.getD_eq_getD_getElem?, put_get _ _ _ (by rw [hbs]; exact hdsz d hd)]
              rfl
          exact next undef x ⟨by rw [this]; exact h1, hRr k x, by rw [this]; exact h2⟩
      by_cases hwant : Region.wanted o (yielded ops.toArray a'.tmps) = true
      rotate_left
      · rw [if_neg hwant]
        exact hskip (by simpa using hwant)
      rw [if_pos hwant]
      have hob := hob.1 fun g b hgd => (hyield g b hgd).1 hwant
      refine .inl ?_
      unfold Oper.wp at hob ⊢
      rw [hexec]
      generalize (execOp (puts ops vals (D.getD k []) a).eval o).run P x = r at hob ⊢
      cases r with
      | ok n w' =>
        cases n <;> simp only [Oper.upon] at hob ⊢
        case value v => exact next v w' hob.2
        case skip => exact next _ w' hob.2
        case defer d =>
          have := hob.1
          rw [put_defers] at this
          exact absurd (congrArg List.length this) (by simp)
        case enter f args =>
          refine Calls.mono hob fun e w'' he => ?_
          cases e with
          | returned u => exact next u w'' he.2
          | panicked c => exact he.elim
          | outgrown => obtain ⟨_, _, h⟩ := he; exact h.elim
        case row row args => exact Rows.mono hob fun u w'' he => next u w'' he.2
      | halt e w' =>
        cases e <;> simp only [Oper.upon] at hob ⊢ <;> exact hob.elim


def shareR6 (P : Program) (ops : List Oper) (R : World → World → Prop) (I : (Nat → Value) → (Nat → Bool) → World → Prop) (L : List Say) (a : Act) (k : Nat) (o : Oper) (d : List (Nat × Tmp)) : Prop :=
  ∀ (vals : Nat → Value) (x : World) (f : Nat → Bool), f k = false → (∀ j, reach ops ops.length k j = true → f j = true) → (∀ j, reach ops ops.length j k = true → f j = false) → I vals f x → saysD L vals x d →
    owes6 P R I L vals (putsD vals d a) x f k o o.guard
def sharesR6 (P : Program) (ops : List Oper) (R : Nat → World → World → Prop) (I : (Nat → Value) → (Nat → Bool) → World → Prop) (L : List Say) (a : Act) : Nat → List Oper → List (List (Nat × Tmp)) → Prop
  | _, [], _ => True
  | _, _ :: _, [] => False
  | k, o :: l, d :: ds => shareR6 P ops (R k) I L a k o d ∧ sharesR6 P ops R I L a (k + 1) l ds
theorem sharesR6_get {ops : List Oper} {R : Nat → World → World → Prop} {I : (Nat → Value) → (Nat → Bool) → World → Prop} {L : List Say} {a : Act} : ∀ {l : List Oper} {ds : List (List (Nat × Tmp))} {k : Nat}, sharesR6 P ops R I L a k l ds →
    ∀ i o, l[i]? = some o → shareR6 P ops (R (k + i)) I L a (k + i) o (ds.getD i [])
  | [], _, _, _, i, o, h => by simp at h
  | _ :: _, [], _, h, _, _, _ => h.elim
  | o' :: l, d :: ds, k, h, 0, o, ho => by
    simp only [List.getElem?_cons_zero, Option.some.injEq] at ho
    subst ho; exact h.1
  | o' :: l, d :: ds, k, h, i + 1, o, ho => by
    simp only [List.getElem?_cons_succ] at ho
    have := sharesR6_get h.2 i o ho
    rw [show k + (i + 1) = k + 1 + i by omega]
    simpa using this
theorem wp_region_rel6 {id : Nat} {ops : List Oper} {a : Act} {w : World} (D : List (List (Nat × Tmp))) (R0 : World → World → Prop) (Rs : List (Nat × (World → World → Prop))) (I : (Nat → Value) → (Nat → Bool) → World → Prop) (L : List Say) (all : List (Nat × Tmp)) (hm : P.follows .mixedOrders = true)
    (hB : relOk4 ops (idxs D) a.tmps.size = true) (hD : D.all (fitsD ops) = true)
    (hall : (List.range ops.length).filterMap (fun i => (dstOf ops i).map fun t => (i, t)) = all)
    (hRr : ∀ x, R0 x x) (hRs : Refls Rs) (hL : Stabs3 ops R0 Rs 0 L) (hLo : Locals (idxs D) 0 L) (h0 : I (fun _ => undef) (fun _ => false) (w.drewN 1))
    (hs : sharesR6 P ops (relOf R0 Rs) I L a 0 ops D)
    (hfin : ∀ vals x f, (∀ i, i < ops.length → f i = true) → I vals f x → says L vals x (List.range ops.length) → Q .normal (putsD vals all a) x) : (Code.region id ops.toArray true).wp P Q a w := by
  refine wp_region_any hm ?_
  have z0 : ∀ j, (Array.replicate ops.toArray.size false).getD j false = false := fun j => getD_replicate_false _ _
  have hle : ∀ (f : Nat → Bool) (n : Nat), cnt f n ≤ n := fun f n => by
    induction n with
    | zero => exact Nat.le_refl _
    | succ n ih => simp only [cnt]; split <;> omega
  have hrel := rel6_any (P := P) (Q := Q) (ops := ops) (a := a) (D := idxs D) (R := relOf R0 Rs) (I := I) (L := L) (relOf_refl hRr hRs) (fun j k hk hjk hr vs x x' => Stabs3.get hk hL j (by rw [Nat.zero_add]; exact hjk) (by rw [Nat.zero_add]; exact hr) vs x x') hLo hB
  refine hrel (fun k o hk => ?_) (fun vals x f hn hI hf => ?_) _ _ _ _ (fun _ => undef) (Nat.le_trans (hle _ _) (by simp)) ?_
  rotate_left
  · rw [puts_all, hall]; exact hfin vals x f hn hI hf
  · exact ⟨by simp, fun j k _ hl => (by rw [z0] at hl; cases hl), rfl, rfl, fun _ _ => rfl, fun j t hj => (by rw [z0] at hj; cases hj), by rw [show (fun i => (Array.replicate ops.toArray.size false).getD i false) = fun _ => false from funext z0]; exact h0, fun j hj => (by rw [z0] at hj; cases hj)⟩
  · have hsh := sharesR6_get hs k o hk
    rw [Nat.zero_add] at hsh
    have hfit : fitsD ops (D.getD k []) = true := by
      rcases Nat.lt_or_ge k D.length with h | h
      · rw [show D.getD k [] = D[k] by simp [h]]; exact List.all_eq_true.1 hD _ (List.getElem_mem h)
      · rw [show D.getD k [] = [] by simp [h]]; rfl
    have hDk : (idxs D).getD k [] = (D.getD k []).map (·.1) := by
      unfold idxs
      rcases Nat.lt_or_ge k D.length with h | h
      · simp [h]
      · simp [h]
    intro vals x f hn hl hl2 hI hf
    rw [hDk, says_saysD] at hf
    have h := hsh vals x f hn hl hl2 hI hf
    rw [hDk, puts_putsD hfit]
    have hun : wpList P #[] (relQ6 (relOf R0 Rs k) I L vals f k o (putsD vals (D.getD k []) a) x) [bare o] (putsD vals (D.getD k []) a) x → o.wp P (putsD vals (D.getD k []) a) x (relQ6 (relOf R0 Rs k) I L vals f k o (putsD vals (D.getD k []) a) x .normal) (relQ6 (relOf R0 Rs k) I L vals f k o (putsD vals (D.getD k []) a) x) := fun h => by
      rcases wpList_bare h with h | ⟨_, _, h⟩
      · exact h
      · exact h.elim
    generalize o.guard = gd at h ⊢
    cases gd with
    | none => exact ⟨fun _ => hun h, fun g b e => by cases e⟩
    | some p =>
      obtain ⟨g, b⟩ := p
      exact ⟨fun e => hun (h.1 (e g b rfl)), fun g' b' e hne => by injection e with e; injection e with e1 e2; subst e1; subst e2; exact h.2 hne⟩
end Go.Proofs.YtiahmfpfimmbgaaGreatDoor

/-! A term appended to the open layer: the states on the way. -/
namespace Go.Proofs.YtiahmfpfimmbgaaGreatDoor
open Go Go.RowKit

/-- Behind the append: the row's block nb, of ts and one more; the outer cell. -/
structure AftB (X : World) (g k lo : Nat) (At : Option Addr) (ct : Nat) (ts : List T) (ev : List Value) (fa fb : Bool) (x : World) (nb c8 : Nat) : Prop where
  ne : nb ≠ g
  blo : lo ≤ nb
  own : nb < X.heap.size → (Value.slice At ts.length ct).ownBlock = some nb
  row : ∃ cs, x.ownsRow lo 48 5 (.slice (some ⟨nb, 0, none⟩) (ts.length + 1) c8) (ts.length + 1) (cs ++ (if fa then ev else zcells)) ∧ cs.length = ts.length * 5 ∧
    ∀ i y, ts[i]? = some y → ∃ vs, Lay.term.R x (fun b => b < x.heap.size ∧ b ≠ nb ∧ b ≠ g) y vs ∧ ∀ j u, vs[j]? = some u → cs[i * 5 + j]? = some u
  cell : x.cell? ⟨g, k * 2 + 1, none⟩ = some (if fb then .slice (some ⟨nb, 0, none⟩) (ts.length + 1) c8 else .slice At ts.length ct)
  others : ∀ o, o ≠ k * 2 + 1 → x.cell? ⟨g, o, none⟩ = X.cell? ⟨g, o, none⟩
  frz : ∀ o, x.frozen? ⟨g, o, none⟩ = false
  gty : ∃ cs9, x.heap[g]? = some (.cells cs9 58 (0, 0))
  size : X.heap.size ≤ x.heap.size
  far : ∀ b, b < X.heap.size → b ≠ g → (Value.slice At ts.length ct).ownBlock ≠ some b → x.heap[b]? = X.heap[b]?
  glt : g < x.heap.size
section
variable {X : World} {g k lo : Nat} {At : Option Addr} {ct : Nat} {ts : List T} {ev : List Value} {fa fb : Bool} {x x' : World} {nb c8 : Nat}
theorem AftB.up (h : AftB X g k lo At ct ts ev fa fb x nb c8) (hb : Below x.heap.size x x') : AftB X g k lo At ct ts ev fa fb x' nb c8 := by
  obtain ⟨cs, h1, h2, h3⟩ := h.row
  obtain ⟨cs9, h9⟩ := h.gty
  refine ⟨h.ne, h.blo, h.own, ⟨cs, own_below h1 hb (Nat.le_refl _), h2, fun i y hy => ?_⟩, (hb.cell (p := ⟨g, _, none⟩) h.glt).trans h.cell, fun o ho => (hb.cell (p := ⟨g, _, none⟩) h.glt).trans (h.others o ho), fun o => (hb.frozen (p := ⟨g, o, none⟩) h.glt).trans (h.frz o), ⟨cs9, (hb.block _ h.glt).trans h9⟩, Nat.le_trans h.size hb.size, fun b h8 h9 h10 => (hb.block b (Nat.lt_of_lt_of_le h8 h.size)).trans (h.far b h8 h9 h10), Nat.lt_of_lt_of_le h.glt hb.size⟩
  obtain ⟨vs, hr, hu⟩ := h3 i y hy
  exact ⟨vs, Lay.term.mono (fun b hb9 => ⟨Nat.lt_of_lt_of_le hb9.1 hb.size, hb9.2⟩) (Lay.term.keep (fun b hb9 => hb.block b hb9.1) hr), hu⟩
/-- The outer cell is stored. -/
theorem AftB.outer (h : AftB X g k lo At ct ts ev fa fb x nb c8) : AftB X g k lo At ct ts ev fa true (x.setCell ⟨g, k * 2 + 1, none⟩ (.slice (some ⟨nb, 0, none⟩) (ts.length + 1) c8)) nb c8 := by
  obtain ⟨cs, h1, h2, h3⟩ := h.row
  obtain ⟨cs9, h9⟩ := h.gty
  have hfar : ∀ b, b ≠ g → (x.setCell ⟨g, k * 2 + 1, none⟩ (.slice (some ⟨nb, 0, none⟩) (ts.length + 1) c8)).heap[b]? = x.heap[b]? := fun b hb => Below.heap_setCell x ⟨g, _, none⟩ _ b hb
  have hc := h.cell
  refine ⟨h.ne, h.blo, h.own, ⟨cs, own_of_heap h1 fun b hb => hfar b (by have hb : some nb = some b := hb; injection hb with hb; rw [← hb]; exact h.ne), h2, fun i y hy => ?_⟩, World.cell?_setCell_same _ _ _ hc, fun o ho => (World.cell?_setCell_other _ _ _ _ (fun e => by injection e with _ e _; omega)).trans (h.others o ho), fun o => (World.frozen?_setCell _ _ _ _).trans (h.frz o), ⟨_, heap_set_same _ g _ _ _ _ h9⟩, by rw [size_setCell]; exact h.size, fun b h8 h9 h10 => (hfar b h9).trans (h.far b h8 h9 h10), by rw [size_setCell]; exact h.glt⟩
  obtain ⟨vs, hr, hu⟩ := h3 i y hy
  exact ⟨vs, Lay.term.mono (fun b hb9 => by rw [size_setCell]; exact hb9) (Lay.term.keep (fun b hb9 => hfar b hb9.2.2) hr), hu⟩
theorem AftB.cells (h : AftB X g k lo At ct ts ev false fb x nb c8) : ∀ j, j < 5 → ∃ u, x.cell? ⟨nb, ts.length * 5 + j, none⟩ = some u := fun j hj => by
  obtain ⟨cs, h1, h2, _⟩ := h.row
  have hl : (cs ++ (if false = true then ev else zcells)).length = ts.length * 5 + 5 := by
    rw [List.length_append, h2]; rfl
  have := h1.cellAt (ts.length * 5 + j) (by show _ < (ts.length + 1) * 5; omega)
  rw [List.getElem?_eq_getElem (by omega)] at this
  exact ⟨_, this⟩
theorem AftB.nlt (h : AftB X g k lo At ct ts ev fa fb x nb c8) : nb < x.heap.size := by
  obtain ⟨cs, h1, _⟩ := h.row
  exact (h1.lt nb rfl).2
theorem AftB.nfrz (h : AftB X g k lo At ct ts ev fa fb x nb c8) : ∀ o, x.frozen? ⟨nb, o, none⟩ = false := fun o => by
  obtain ⟨cs, h1, _⟩ := h.row
  exact h1.frozenAt o
theorem AftB.cap (h : AftB X g k lo At ct ts ev fa fb x nb c8) : ts.length + 1 ≤ c8 := by
  obtain ⟨cs, h1, _⟩ := h.row
  exact own_cap9 h1
/-- The term's cells are stored. -/
theorem AftB.elem {v0 v1 v2 v3 v4 : Value} (h : AftB X g k lo At ct ts ev false fb x nb c8) :
    AftB X g k lo At ct ts [v0, v1, v2, v3, v4] true fb (((((x.setCell ⟨nb, ts.length * 5, none⟩ v0).setCell ⟨nb, ts.length * 5 + 1, none⟩ v1).setCell ⟨nb, ts.length * 5 + 2, none⟩ v2).setCell ⟨nb, ts.length * 5 + 3, none⟩ v3).setCell ⟨nb, ts.length * 5 + 4, none⟩ v4) nb c8 := by
  obtain ⟨cs, h1, h2, h3⟩ := h.row
  obtain ⟨cs9, h9⟩ := h.gty
  have hfar : ∀ b, b ≠ nb → (((((x.setCell ⟨nb, ts.length * 5, none⟩ v0).setCell ⟨nb, ts.length * 5 + 1, none⟩ v1).setCell ⟨nb, ts.length * 5 + 2, none⟩ v2).setCell ⟨nb, ts.length * 5 + 3, none⟩ v3).setCell ⟨nb, ts.length * 5 + 4, none⟩ v4).heap[b]? = x.heap[b]? := fun b hb =>
    (Below.heap_setCell _ ⟨nb, _, none⟩ _ b hb).trans ((Below.heap_setCell _ ⟨nb, _, none⟩ _ b hb).trans ((Below.heap_setCell _ ⟨nb, _, none⟩ _ b hb).trans ((Below.heap_setCell _ ⟨nb, _, none⟩ _ b hb).trans (Below.heap_setCell _ ⟨nb, _, none⟩ _ b hb))))
  have hst1 := (h1.stored (ts.length * 5) v0).1
  have hst2 := (hst1.stored (ts.length * 5 + 1) v1).1
  have hst3 := (hst2.stored (ts.length * 5 + 2) v2).1
  have hst4 := (hst3.stored (ts.length * 5 + 3) v3).1
  have hst5 := (hst4.stored (ts.length * 5 + 4) v4).1
  have hcs : ((((((cs ++ (if false = true then ev else zcells)).set (ts.length * 5) v0).set (ts.length * 5 + 1) v1).set (ts.length * 5 + 2) v2).set (ts.length * 5 + 3) v3).set (ts.length * 5 + 4) v4) = cs ++ [v0, v1, v2, v3, v4] := by
    rw [List.set_append_right _ _ (by omega), List.set_append_right _ _ (by omega), List.set_append_right _ _ (by omega), List.set_append_right _ _ (by omega), List.set_append_right _ _ (by omega), h2,
      show ts.length * 5 - ts.length * 5 = 0 by omega, show ts.length * 5 + 1 - ts.length * 5 = 1 by omega, show ts.length * 5 + 2 - ts.length * 5 = 2 by omega, show ts.length * 5 + 3 - ts.length * 5 = 3 by omega, show ts.length * 5 + 4 - ts.length * 5 = 4 by omega]
    rfl
  rw [hcs] at hst5
  have hgx := hfar g h.ne.symm
  refine ⟨h.ne, h.blo, h.own, ⟨cs, hst5, h2, fun i y hy => ?_⟩, (World.cell?_of_block (a := ⟨g, _, none⟩) hgx).trans h.cell, fun o ho => (World.cell?_of_block (a := ⟨g, _, none⟩) hgx).trans (h.others o ho), fun o => (World.frozen?_of_block (a := ⟨g, o, none⟩) hgx).trans (h.frz o), ⟨cs9, hgx.trans h9⟩, by simp only [size_setCell]; exact h.size, fun b h8 h9 h10 => (hfar b (fun e => by rw [e] at h8 h10; exact h10 (h.own h8))).trans (h.far b h8 h9 h10), by simp only [size_setCell]; exact h.glt⟩
  obtain ⟨vs, hr, hu⟩ := h3 i y hy
  exact ⟨vs, Lay.term.mono (fun b hb9 => by simp only [size_setCell]; exact hb9) (Lay.term.keep (fun b hb9 => hfar b hb9.2.1) hr), hu⟩
end
/-- append of a zero term onto the terms of the open layer. -/
theorem run_append_zeroB {lo : Nat} {X x : World} {g k b : Nat} {c : List Ly} {l : Ly} {At : Option Addr} {ct d : Nat} {ty : TypeId} {ev : List Value} (hB : BentS lo X g c k l At ct) (hlo : lo ≤ X.heap.size) (hn : l.ts.length ≤ 1048576)
    (hb : Below X.heap.size X x) (hzb : x.heap[b]? = some (.cells #[.int .i64 0, .int .i64 0, .int .i64 0, .string ⟨#[]⟩, .slice none 0 0] 48 (0, 0))) :
    ∃ nb c' w', (Builtin.append_ #[24, 24] ty #[.slice At l.ts.length ct, .slice (some ⟨b, 0, none⟩) 1 d]).run Tryz.prog x = .ok (.slice (some ⟨nb, 0, none⟩) (l.ts.length + 1) c') w' ∧ AftB X g k lo At ct l.ts ev false false w' nb c' ∧ (∀ b9, b9 < x.heap.size → (Value.slice At l.ts.length ct).ownBlock ≠ some b9 → b9 ≠ nb) ∧ x.grownBy w' (Value.slice At l.ts.length ct).ownBlock := by
  obtain ⟨i0, hi0, hz0, hz1, hz2⟩ := info_parts term_info
  obtain ⟨cs, h1, h2⟩ := hB.row
  have hg := hB.glt
  have hlt : ∀ b9, (Value.slice At l.ts.length ct).ownBlock = some b9 → lo ≤ b9 ∧ b9 < X.heap.size := h1.lt
  have h1x : x.ownsRow lo 48 5 (.slice At l.ts.length ct) l.ts.length cs := own_below h1 hb (Nat.le_refl _)
  have hsrc : Src x 5 (some ⟨b, 0, none⟩) 1 [.int .i64 0, .int .i64 0, .int .i64 0, .string ⟨#[]⟩, .slice none 0 0] := by
    have := src_block (m := 1) (size := 5) hzb rfl
    simpa using this
  have hsx := hb.size
  obtain ⟨A', c', w', hrun, ho', hg', hbk⟩ := run_append_src_at (P := Tryz.prog) x lo 24 ty 48 i0 _ 5 64 Tryz.underlying24 hi0 hz0 hz1 hz2 rfl (by omega) _ l.ts.length cs h1x (some ⟨b, 0, none⟩) 1 d _ hsrc (by intro u hu; simp at hu; rcases hu with rfl | rfl | rfl | rfl | rfl <;> rfl) (l.ts.length + 1) rfl (by unfold maxLen; omega) (by omega) (by omega) (fun e => by cases e)
  have hA : ∃ nb, A' = some ⟨nb, 0, none⟩ := by
    rcases ho'.2 with ⟨_, e2⟩ | ⟨g9, cap, cur, e1, _⟩
    · omega
    · injection e1 with e1; exact ⟨g9, e1⟩
  obtain ⟨nb, rfl⟩ := hA
  have hgn := hB.gne
  have hgx : w'.heap[g]? = X.heap[g]? := (hg'.block g (by omega) (fun e => hgn e.symm)).trans (hb.block g hg)
  obtain ⟨cs9, h9⟩ := hB.gty
  have hng : nb ≠ g := fun e => by
    rcases ho'.2 with ⟨e1, _⟩ | ⟨g9, cap, cur, e1, _, h8, _⟩
    · cases e1
    · injection e1 with e1; injection e1 with e1; injection e1 with e1
      rw [← e1, e, hgx, h9] at h8
      injection h8 with h8
      injection h8 with _ h8 _
      exact neLT h8
  have hnb : ∀ b9, b9 < x.heap.size → (Value.slice At l.ts.length ct).ownBlock ≠ some b9 → b9 ≠ nb := fun b9 h8 h9 e => by
    rcases hbk with e9 | ⟨g2, e9, h7⟩
    · exact h9 (by rw [← e9, e]; rfl)
    · have e9 : some nb = some g2 := e9
      injection e9 with e9
      omega
  refine ⟨nb, c', w', hrun, ⟨hng, (ho'.lt nb rfl).1, fun h9 => ?_, ⟨cs, ho', h1.1, fun i y hy => ?_⟩, (World.cell?_of_block (a := ⟨g, _, none⟩) hgx).trans hB.ts, fun o _ => World.cell?_of_block (a := ⟨g, _, none⟩) hgx, fun o => (World.frozen?_of_block (a := ⟨g, o, none⟩) hgx).trans (hB.frz o), ⟨cs9, hgx.trans h9⟩, Nat.le_trans hsx hg'.size, fun b9 h8 _ h10 => (hg'.block b9 (by omega) (fun e => h10 e.symm)).trans (hb.block b9 h8), by have := hg'.size; omega⟩, hnb, hg'⟩
  · rcases hbk with e9 | ⟨g2, e9, h7⟩
    · rw [← e9]; rfl
    · have e9 : nb = g2 := Option.some.inj e9
      exact absurd (Nat.lt_of_lt_of_le h9 (Nat.le_trans hsx (by rw [e9]; exact h7))) (Nat.lt_irrefl _)
  · obtain ⟨vs, hr, hu⟩ := h2 i y hy
    refine ⟨vs, Lay.term.mono (fun b9 h9 => ⟨by have := hg'.size; have := h9.1; omega, hnb b9 (by have := h9.1; omega) h9.2.1, h9.2.2⟩) (Lay.term.keep (fun b9 h9 => (hg'.block b9 (by have := h9.1; omega) (fun e => h9.2.1 e.symm)).trans (hb.block b9 h9.1)) hr), hu⟩
theorem wpList_append_zeroB {Q' : Exit → Act → World → Prop} {ops : Array Oper} {rest : List Oper} {o : Oper} {a : Act} {lo : Nat} {X x : World} {g k b : Nat} {c : List Ly} {l : Ly} {At : Option Addr} {ct d : Nat} (ev : List Value) (hgd : o.guard = none) (s y : Operand)
    (ho : o.op = .call { callee := .builtin .append, args := #[s, y], argTypes := #[24, 24] }) (hs : a.eval s = .slice At l.ts.length ct) (hyv : a.eval y = .slice (some ⟨b, 0, none⟩) 1 d)
    (hB : BentS lo X g c k l At ct) (hlo : lo ≤ X.heap.size) (hn : l.ts.length ≤ 1048576) (hb : Below X.heap.size X x) (hzb : x.heap[b]? = some (.cells #[.int .i64 0, .int .i64 0, .int .i64 0, .string ⟨#[]⟩, .slice none 0 0] 48 (0, 0)))
    (h : ∀ nb c' w', AftB X g k lo At ct l.ts ev false false w' nb c' → (∀ b9, b9 < x.heap.size → (Value.slice At l.ts.length ct).ownBlock ≠ some b9 → b9 ≠ nb) → x.grownBy w' (Value.slice At l.ts.length ct).ownBlock → wpList Tryz.prog ops Q' rest (a.put o.dst (.slice (some ⟨nb, 0, none⟩) (l.ts.length + 1) c')) w') : wpList Tryz.prog ops Q' (o :: rest) a x := by
  obtain ⟨nb, c', w', hrun, h1, h2, h3⟩ := run_append_zeroB (d := d) (ty := o.type) (ev := ev) hB hlo hn hb hzb
  refine wpList_plain hgd fun _ hK => ?_
  unfold Oper.wp execOp
  simp only [ho, resolve, invoke, builtin, Sem.run_bind, Sem.run_pure, Result.andThen_ok, List.map_toArray, List.map_cons, List.map_nil, hs, hyv, hrun]
  exact hK _ _ (h nb c' w' h1 h2 h3)
/-- The layer with one term more, still open. -/
theorem AftB.bent {lo : Nat} {X x : World} {g k : Nat} {c : List Ly} {l : Ly} {At : Option Addr} {ct nb c8 : Nat} {t : T} {A9 : Option Addr} {c9 : Nat} (hB : BentS lo X g c k l At ct) (h : AftB X g k lo At ct l.ts (tcells t A9 c9) true true x nb c8) (hc9 : t.kids.length ≤ c9) (hk : Lay.term.Sl x (fun b => b < x.heap.size ∧ b ≠ nb ∧ b ≠ g) A9 t.kids) :
    BentS lo x g (c.set k ⟨l.ds, l.ts ++ [t]⟩) k ⟨l.ds, l.ts ++ [t]⟩ (some ⟨nb, 0, none⟩) c8 := by
  have hlen : (l.ts ++ [t]).length = l.ts.length + 1 := by simp
  have hkl : k < c.length := (List.getElem?_eq_some_iff.1 hB.at_k).1
  obtain ⟨cs, h1, h2, h3⟩ := h.row
  have hfb : ∀ b, FarB X (.slice At l.ts.length ct) g b → FarB x (.slice (some ⟨nb, 0, none⟩) (l.ts ++ [t]).length c8) g b := fun b hb => ⟨Nat.lt_of_lt_of_le hb.1 h.size, fun e => by
    have e : some nb = some b := e
    injection e with e
    exact hb.2.1 (by rw [← e]; exact h.own (by rw [e]; exact hb.1)), hb.2.2⟩
  have hkeep : ∀ b, FarB X (.slice At l.ts.length ct) g b → x.heap[b]? = X.heap[b]? := fun b hb => h.far b hb.1 hb.2.2 hb.2.1
  have hfn : ∀ b, (b < x.heap.size ∧ b ≠ nb ∧ b ≠ g) → FarB x (.slice (some ⟨nb, 0, none⟩) (l.ts ++ [t]).length c8) g b := fun b hb => ⟨hb.1, fun e => by
    have e : some nb = some b := e
    injection e with e
    exact hb.2.1 e.symm, hb.2.2⟩
  obtain ⟨Ad, cd, d1, d2, d3⟩ := hB.ds
  refine ⟨by rw [List.getElem?_set]; simp [hkl], hB.glo, h.glt, fun e => ?_, h.frz, h.gty, ⟨Ad, cd, (h.others _ (by omega)).trans d1, d2, (d3.keep hkeep).mono hfb⟩, by show x.cell? _ = some (.slice _ (l.ts ++ [t]).length c8); rw [hlen]; exact h.cell, ⟨cs ++ tcells t A9 c9, by show x.ownsRow lo _ 5 (.slice _ (l.ts ++ [t]).length c8) (l.ts ++ [t]).length _; rw [hlen]; exact h1, fun i y hy => ?_⟩, fun i l9 hi hl9 => ?_⟩
  · have e : some nb = some g := e
    injection e with e
    exact h.ne e
  · have hy : (l.ts ++ [t])[i]? = some y := hy
    by_cases hi : i < l.ts.length
    · rw [List.getElem?_append_left hi] at hy
      obtain ⟨vs, hr, hu⟩ := h3 i y hy
      refine ⟨vs, Lay.term.mono hfn hr, fun j u hj => ?_⟩
      have h9 := hu j u hj
      rw [List.getElem?_append_left (List.getElem?_eq_some_iff.1 h9).1]
      exact h9
    · have hil : i = l.ts.length := by have := (List.getElem?_eq_some_iff.1 hy).1; simp at this; omega
      subst hil
      rw [List.getElem?_append_right (Nat.le_refl _), Nat.sub_self] at hy
      simp at hy
      subst hy
      refine ⟨tcells t A9 c9, TermR.of hc9 (hk.mono hfn), fun j u hj => ?_⟩
      rw [List.getElem?_append_right (by omega), h2, show l.ts.length * 5 + j - l.ts.length * 5 = j by omega]
      exact hj
  · rw [List.getElem?_set_ne (Ne.symm hi)] at hl9
    obtain ⟨u0, u1, hr, c0, c1⟩ := hB.others i l9 hi hl9
    exact ⟨u0, u1, Lay.layer.mono hfb (Lay.layer.keep hkeep hr), (h.others _ (by omega)).trans c0, (h.others _ (by omega)).trans c1⟩
/-- The states of the drawn statement; which operations are done. -/
def AsB (lo : Nat) (X : World) (g k : Nat) (At : Option Addr) (ct : Nat) (ts : List T) (t : T) (vk vt vz va vp : Value) (fk ft fz fa fp fe fo : Bool) (x : World) : Prop :=
  Below lo X x ∧ (fa = false → Below X.heap.size X x) ∧
  (fz = true → fa = false → ∃ b, vz = .slice (some ⟨b, 0, none⟩) 1 1 ∧ x.heap[b]? = some (.cells #[.int .i64 0, .int .i64 0, .int .i64 0, .string ⟨#[]⟩, .slice none 0 0] 48 (0, 0))) ∧
  (fk = true → ∃ A9 c9, vk = .slice A9 t.kids.length c9 ∧ t.kids.length ≤ c9 ∧ (ft = true → vt = .agg (tcells t A9 c9).toArray) ∧ Lay.term.Sl x (fun b => X.heap.size ≤ b ∧ b < x.heap.size ∧ (fa = true → va.ownBlock ≠ some b)) A9 t.kids) ∧
  (fa = true → ∃ nb c8, va = .slice (some ⟨nb, 0, none⟩) (ts.length + 1) c8 ∧ (fp = true → vp = .pointer (some ⟨nb, ts.length * 5, none⟩)) ∧ ∃ ev, (fe = true → vt = .agg ev.toArray) ∧ AftB X g k lo At ct ts ev fe fo x nb c8)
section
variable {lo : Nat} {X x x' : World} {g k : Nat} {At : Option Addr} {ct : Nat} {ts : List T} {t : T} {vk vt vz va vp : Value} {fk ft fz fa fp fe fo : Bool}
theorem AsB.up (h : AsB lo X g k At ct ts t vk vt vz va vp fk ft fz fa fp fe fo x) (hl : lo ≤ X.heap.size) (hb : Below x.heap.size x x') : AsB lo X g k At ct ts t vk vt vz va vp fk ft fz fa fp fe fo x' := by
  obtain ⟨h1, h2, h3, h4, h5⟩ := h
  refine ⟨h1.trans (hb.mono (Nat.le_trans hl h1.size)), fun e => bthen (h2 e) hb, fun e e' => ?_, fun e => ?_, fun e => ?_⟩
  · obtain ⟨b, q1, q2⟩ := h3 e e'
    exact ⟨b, q1, (hb.block b (lt_of_block q2)).trans q2⟩
  · obtain ⟨A9, c9, q1, q2, q3, q4⟩ := h4 e
    exact ⟨A9, c9, q1, q2, q3, (q4.keep fun b h9 => hb.block b h9.2.1).mono fun b h9 => ⟨h9.1, Nat.lt_of_lt_of_le h9.2.1 hb.size, h9.2.2⟩⟩
  · obtain ⟨nb, c8, q1, q2, ev, q3, q4⟩ := h5 e
    exact ⟨nb, c8, q1, q2, ev, q3, q4.up hb⟩
theorem AsB.zero (h : AsB lo X g k At ct ts t vk vt vz va vp fk ft fz fa fp fe fo x) (hl : lo ≤ X.heap.size) : AsB lo X g k At ct ts t vk vt (.slice (some ⟨x.heap.size, 0, none⟩) 1 1) va vp fk ft true fa fp fe fo (x.alloc (.cells #[.int .i64 0, .int .i64 0, .int .i64 0, .string ⟨#[]⟩, .slice none 0 0] 48)) := by
  obtain ⟨h1, h2, _, h4, h5⟩ := h.up hl ((Below.refl _ _).alloc (Nat.le_refl _) (.cells #[.int .i64 0, .int .i64 0, .int .i64 0, .string ⟨#[]⟩, .slice none 0 0] 48))
  exact ⟨h1, h2, fun _ _ => ⟨_, rfl, heap_alloc_new _ _⟩, h4, h5⟩
theorem AsB.term {vt' : Value} (h : AsB lo X g k At ct ts t vk vt vz va vp fk ft fz fa fp fe fo x) (hfe : fe = false) (hv : ∀ A9 c9, vk = .slice A9 t.kids.length c9 → vt' = .agg (tcells t A9 c9).toArray) : AsB lo X g k At ct ts t vk vt' vz va vp fk true fz fa fp fe fo x := by
  obtain ⟨h1, h2, h3, h4, h5⟩ := h
  refine ⟨h1, h2, h3, fun e => ?_, fun e => ?_⟩
  · obtain ⟨A9, c9, q1, q2, _, q4⟩ := h4 e
    exact ⟨A9, c9, q1, q2, fun _ => hv A9 c9 q1, q4⟩
  · obtain ⟨nb, c8, q1, q2, ev, q3, q4⟩ := h5 e
    exact ⟨nb, c8, q1, q2, ev, fun e9 => absurd (hfe.symm.trans e9) (by simp), q4⟩
theorem AsB.kid {cs : Array Value} (h : AsB lo X g k At ct ts t vk vt vz va vp fk ft fz fa fp fe fo x) (hl : lo ≤ X.heap.size) (hft : ft = false) (hk : ∀ i y, t.kids[i]? = some y → y.kids = [] ∧ ∀ j u, (tcells y none 0)[j]? = some u → cs[i * 5 + j]? = some u) : AsB lo X g k At ct ts t (.slice (some ⟨x.heap.size, 0, none⟩) t.kids.length t.kids.length) vt vz va vp true ft fz fa fp fe fo (x.alloc (.cells cs 48)) := by
  have hx : X.heap.size ≤ x.heap.size := h.1.size
  have hal : Below x.heap.size x (x.alloc (.cells cs 48)) := (Below.refl _ _).alloc (Nat.le_refl _) _
  have hnb := h.2.2.2.2
  obtain ⟨h1, h2, h3, _, h5⟩ := h.up hl hal
  refine ⟨h1, h2, h3, fun _ => ⟨_, _, rfl, Nat.le_refl _, fun e => absurd (hft.symm.trans e) (by simp), fun h0 => ⟨_, rfl, ⟨hx, by simp, fun e e9 => ?_⟩, fun i y hy => ?_⟩⟩, h5⟩
  · obtain ⟨nb, c8, q1, _, ev, _, q4⟩ := hnb e
    rw [q1] at e9
    have e9 : nb = x.heap.size := Option.some.inj e9
    have := q4.nlt
    omega
  · obtain ⟨q1, q2⟩ := hk i y hy
    refine ⟨tcells y none 0, TermR.of (by rw [q1]; simp) (by rw [q1]; exact Lay.Sl.nil _ _ _ _), fun j u hu => ?_⟩
    show (x.alloc _).cell? ((⟨x.heap.size, 0, none⟩ : Addr).add (i * 5 + j)) = some u
    rw [add_zero9, (cell_of_block (heap_alloc_new x _) _).1]
    exact q2 j u hu
theorem AsB.app {w' : World} {nb c8 : Nat} {ev : List Value} (h : AsB lo X g k At ct ts t vk vt vz va vp fk ft fz fa fp fe fo x) (hl : lo ≤ X.heap.size) (hfp : fp = false) (hfe : fe = false) (hfo : fo = false) (haft : AftB X g k lo At ct ts ev false false w' nb c8) (hnb : ∀ b9, b9 < x.heap.size → (Value.slice At ts.length ct).ownBlock ≠ some b9 → b9 ≠ nb) (hg : x.grownBy w' (Value.slice At ts.length ct).ownBlock) (hown : ∀ b, (Value.slice At ts.length ct).ownBlock = some b → lo ≤ b ∧ b < X.heap.size) :
    AsB lo X g k At ct ts t vk vt vz (.slice (some ⟨nb, 0, none⟩) (ts.length + 1) c8) vp fk ft fz true fp fe fo w' := by
  subst hfp hfe hfo
  obtain ⟨h1, h2, h3, h4, h5⟩ := h
  have hlt := haft.nlt
  refine ⟨h1.grown hg (Nat.le_trans hl h1.size) (fun b e => (hown b e).1), fun e => absurd e (by simp), fun _ e => absurd e (by simp), fun e => ?_, fun _ => ⟨nb, c8, rfl, fun e => absurd e (by simp), ev, fun e => absurd e (by simp), haft⟩⟩
  obtain ⟨A9, c9, q1, q2, q3, q4⟩ := h4 e
  have hne : ∀ b, X.heap.size ≤ b → (Value.slice At ts.length ct).ownBlock ≠ some b := fun b hb e9 => by have := (hown b e9).2; omega
  exact ⟨A9, c9, q1, q2, q3, (q4.keep fun b h9 => hg.block b h9.2.1 (fun e9 => hne b h9.1 e9.symm)).mono fun b h9 => ⟨h9.1, Nat.lt_of_lt_of_le h9.2.1 hg.size, fun _ e9 => hnb b h9.2.1 (hne b h9.1) (Option.some.inj e9).symm⟩⟩
theorem AsB.ptr {nb c8 n : Nat} (h : AsB lo X g k At ct ts t vk vt vz va vp fk ft fz fa fp fe fo x) (hva : va = .slice (some ⟨nb, 0, none⟩) n c8) : AsB lo X g k At ct ts t vk vt vz va (.pointer (some ⟨nb, ts.length * 5, none⟩)) fk ft fz fa true fe fo x := by
  obtain ⟨h1, h2, h3, h4, h5⟩ := h
  refine ⟨h1, h2, h3, h4, fun e => ?_⟩
  obtain ⟨nb', c8', q1, q2, ev, q3, q4⟩ := h5 e
  rw [hva] at q1
  injection q1 with q1 _ _
  injection q1 with q1
  injection q1 with q1
  subst q1
  exact ⟨_, c8', by rw [hva]; congr 1 <;> simp_all, fun _ => rfl, ev, q3, q4⟩
theorem AsB.elem {nb c8 : Nat} {v0 v1 v2 v3 v4 : Value} (h : AsB lo X g k At ct ts t vk vt vz va vp fk ft fz fa fp fe fo x) (hfa : fa = true) (hfe : fe = false) (hva : va = .slice (some ⟨nb, 0, none⟩) (ts.length + 1) c8) (hvt : vt = .agg #[v0, v1, v2, v3, v4]) :
    AsB lo X g k At ct ts t vk vt vz va vp fk ft fz fa fp true fo (((((x.setCell ⟨nb, ts.length * 5, none⟩ v0).setCell ⟨nb, ts.length * 5 + 1, none⟩ v1).setCell ⟨nb, ts.length * 5 + 2, none⟩ v2).setCell ⟨nb, ts.length * 5 + 3, none⟩ v3).setCell ⟨nb, ts.length * 5 + 4, none⟩ v4) := by
  subst hfa hfe
  obtain ⟨h1, h2, h3, h4, h5⟩ := h
  obtain ⟨nb', c8', q1, q2, ev, q3, q4⟩ := h5 rfl
  have hnn : nb' = nb ∧ c8' = c8 := by
    rw [hva] at q1
    injection q1 with q1 _ q9
    injection q1 with q1
    injection q1 with q1
    exact ⟨q1.symm, q9.symm⟩
  obtain ⟨rfl, rfl⟩ := hnn
  have hlo := q4.blo
  refine ⟨below_set9 (p := ⟨nb', ts.length * 5 + 4, none⟩) (below_set9 (p := ⟨nb', ts.length * 5 + 3, none⟩) (below_set9 (p := ⟨nb', ts.length * 5 + 2, none⟩) (below_set9 (p := ⟨nb', ts.length * 5 + 1, none⟩) (below_set9 (p := ⟨nb', ts.length * 5, none⟩) h1 hlo v0) hlo v1) hlo v2) hlo v3) hlo v4, fun e => absurd e (by simp), fun _ e => absurd e (by simp), fun e => ?_, fun _ => ⟨nb', c8', hva, q2, [v0, v1, v2, v3, v4], fun _ => hvt, q4.elem⟩⟩
  obtain ⟨A9, c9, r1, r2, r3, r4⟩ := h4 e
  have hne : ∀ b, (X.heap.size ≤ b ∧ b < x.heap.size ∧ (true = true → va.ownBlock ≠ some b)) → b ≠ nb' := fun b hb e9 => hb.2.2 rfl (by rw [hva, e9]; rfl)
  have hfar : ∀ b, b ≠ nb' → (((((x.setCell ⟨nb', ts.length * 5, none⟩ v0).setCell ⟨nb', ts.length * 5 + 1, none⟩ v1).setCell ⟨nb', ts.length * 5 + 2, none⟩ v2).setCell ⟨nb', ts.length * 5 + 3, none⟩ v3).setCell ⟨nb', ts.length * 5 + 4, none⟩ v4).heap[b]? = x.heap[b]? := fun b hb =>
    (Below.heap_setCell _ ⟨nb', _, none⟩ _ b hb).trans ((Below.heap_setCell _ ⟨nb', _, none⟩ _ b hb).trans ((Below.heap_setCell _ ⟨nb', _, none⟩ _ b hb).trans ((Below.heap_setCell _ ⟨nb', _, none⟩ _ b hb).trans (Below.heap_setCell _ ⟨nb', _, none⟩ _ b hb))))
  exact ⟨A9, c9, r1, r2, r3, (r4.keep fun b hb => hfar b (hne b hb)).mono fun b hb => ⟨hb.1, by simp only [size_setCell]; exact hb.2.1, hb.2.2⟩⟩
theorem AsB.outer {nb c8 : Nat} (h : AsB lo X g k At ct ts t vk vt vz va vp fk ft fz fa fp fe fo x) (hfa : fa = true) (hlg : lo ≤ g) (hgX : g < X.heap.size) (hva : va = .slice (some ⟨nb, 0, none⟩) (ts.length + 1) c8) :
    AsB lo X g k At ct ts t vk vt vz va vp fk ft fz fa fp fe true (x.setCell ⟨g, k * 2 + 1, none⟩ (.slice (some ⟨nb, 0, none⟩) (ts.length + 1) c8)) := by
  subst hfa
  obtain ⟨h1, h2, h3, h4, h5⟩ := h
  obtain ⟨nb', c8', q1, q2, ev, q3, q4⟩ := h5 rfl
  have hnn : nb' = nb ∧ c8' = c8 := by
    rw [hva] at q1
    injection q1 with q1 _ q9
    injection q1 with q1
    injection q1 with q1
    exact ⟨q1.symm, q9.symm⟩
  obtain ⟨rfl, rfl⟩ := hnn
  refine ⟨below_set9 (p := ⟨g, k * 2 + 1, none⟩) h1 hlg _, fun e => absurd e (by simp), fun _ e => absurd e (by simp), fun e => ?_, fun _ => ⟨nb', c8', hva, q2, ev, q3, q4.outer⟩⟩
  obtain ⟨A9, c9, r1, r2, r3, r4⟩ := h4 e
  exact ⟨A9, c9, r1, r2, r3, (r4.keep fun b hb => Below.heap_setCell x ⟨g, _, none⟩ _ b (Nat.ne_of_gt (Nat.lt_of_lt_of_le hgX hb.1))).mono fun b hb => ⟨hb.1, by rw [size_setCell]; exact hb.2.1, hb.2.2⟩⟩
end
theorem AsB.fin {lo : Nat} {X x : World} {g k : Nat} {c : List Ly} {l : Ly} {At : Option Addr} {ct : Nat} {t : T} {vk vt vz va vp : Value} {fz fp : Bool} (hB : BentS lo X g c k l At ct) (h : AsB lo X g k At ct l.ts t vk vt vz va vp true true fz true fp true true x) :
    ∃ At' ct', BentS lo x g (c.set k ⟨l.ds, l.ts ++ [t]⟩) k ⟨l.ds, l.ts ++ [t]⟩ At' ct' := by
  obtain ⟨h1, h2, h3, h4, h5⟩ := h
  obtain ⟨A9, c9, r1, r2, r3, r4⟩ := h4 rfl
  obtain ⟨nb, c8, q1, q2, ev, q3, q4⟩ := h5 rfl
  have he : ev = tcells t A9 c9 := by
    have e1 := (q3 rfl).symm.trans (r3 rfl)
    injection e1 with e1
    simpa using e1
  subst he
  exact ⟨_, _, q4.bent hB r2 (r4.mono fun b hb => ⟨hb.2.1, fun e => hb.2.2 rfl (by rw [q1, e]; rfl), Nat.ne_of_gt (Nat.lt_of_lt_of_le hB.glt hb.1)⟩)⟩
/-- At the region's beginning. -/
theorem AsB.start {lo : Nat} {X : World} {g k : Nat} {At : Option Addr} {ct : Nat} {ts : List T} {t : T} {vk vt vz va vp : Value} {fk ft fz fa fp fe fo : Bool} (hz : fz = false) (ha : fa = false) (hk : fk = true → vk = .slice none 0 0 ∧ t.kids = [] ∧ ft = false) : AsB lo X g k At ct ts t vk vt vz va vp fk ft fz fa fp fe fo X :=
  ⟨Below.refl _ _, fun _ => Below.refl _ _, fun e => absurd (hz.symm.trans e) (by simp), fun e => by
    obtain ⟨h1, h2, h3⟩ := hk e
    exact ⟨none, 0, by rw [h1, h2]; rfl, by rw [h2]; simp, fun e => absurd (h3.symm.trans e) (by simp), by rw [h2]; exact Lay.Sl.nil _ _ _ _⟩, fun e => absurd (ha.symm.trans e) (by simp)⟩
end Go.Proofs.YtiahmfpfimmbgaaGreatDoor

/-! Contracts of the reference's reader of codes: l12Open, pick. -/
namespace Go.Proofs.YtiahmfpfimmbgaaGreatDoor
open Go Go.RowKit

/-- Block r is a reader at place p, of at most 2000 bytes that lie below it. -/
def Rdr (w : World) (r : Nat) (p : Int) : Prop :=
  ∃ A c bs, w.heap[r]? = some (.cells #[.slice A bs.length c, .int .i64 p] 119 (0, 0)) ∧ bs.length ≤ 2000 ∧ Lay.byte.Sl w (fun b => b < r) A bs

/-- The reader stays over what leaves its block and the blocks below it alone. -/
theorem Rdr.keep {w w' : World} {r : Nat} {p : Int} (h : Rdr w r p) (hk : ∀ b, b ≤ r → w'.heap[b]? = w.heap[b]?) : Rdr w' r p := by
  obtain ⟨A, c, bs, hb, hl, hs⟩ := h
  exact ⟨A, c, bs, (hk r (Nat.le_refl _)).trans hb, hl, hs.keep fun b hb => hk b (Nat.le_of_lt hb)⟩
theorem Rdr.lt {w : World} {r : Nat} {p : Int} (h : Rdr w r p) : r < w.heap.size := by
  obtain ⟨A, c, bs, hb, _⟩ := h
  exact lt_of_block hb
theorem Rdr.up {w w' : World} {r : Nat} {p : Int} (h : Rdr w r p) (hb : Below w.heap.size w w') : Rdr w' r p :=
  h.keep fun b hbr => hb.block b (Nat.lt_of_le_of_lt hbr h.lt)

def OpenPost (w : World) (e : Ending) (w' : World) : Prop := ∃ r, e = .returned (.pointer (some ⟨r, 0, none⟩)) ∧ w.heap.size ≤ r ∧ Rdr w' r 0 ∧ Below w.heap.size w w'

theorem open_any (A : Option Addr) (c : Nat) (bs : List UInt8) (w : World) (h : Lay.byte.Rd w A bs) (hc : bs.length ≤ c) (hn : bs.length ≤ 9223372036854775807) :
    Calls Tryz.prog 74 #[.slice A bs.length c] w (OpenPost w) := by
  by_cases hl : 2000 < bs.length
  · go_enter Tryz.func74, Tryz.ntmps74
    go_wp2
    go_ret
    refine ⟨w.heap.size, rfl, Nat.le_refl _, ⟨A, c, bs.take 2000, ?_, by simp; omega, ?_⟩, (Below.refl _ _).alloc (Nat.le_refl _) _⟩
    · have e : (bs.take 2000).length = 2000 := by simp; omega
      rw [e]
      exact heap_alloc_new w _
    · exact (h.take 2000).keep fun b hb => Below.heap_alloc w _ b hb
  · go_enter Tryz.func74, Tryz.ntmps74
    go_wp2
    go_ret
    refine ⟨w.heap.size, rfl, Nat.le_refl _, ⟨A, c, bs, ?_, by omega, ?_⟩, (Below.refl _ _).alloc (Nat.le_refl _) _⟩
    · exact heap_alloc_new w _
    · exact h.keep fun b hb => Below.heap_alloc w _ b hb

/-- A number below n, and the reader one place on. -/
def PickPost (w : World) (r : Nat) (p n : Int) (e : Ending) (w' : World) : Prop :=
  ∃ k : Int, e = .returned (.int .i64 k) ∧ 0 ≤ k ∧ (1 ≤ n → k < n) ∧ (n < 1 → k = 0) ∧ Rdr w' r (p + 1) ∧ w.grownBy w' (some r)

theorem pick_end {w : World} {r : Nat} {p n k : Int} (m : Nat) (h : Rdr w r p) (k0 : 0 ≤ k) (k1 : 1 ≤ n → k < n) (k2 : n < 1 → k = 0) :
    PickPost w r p n (.returned (.int .i64 k)) ((w.setCell ⟨r, 1, none⟩ (.int .i64 (p + 1))).drewN m) := by
  have hlt := h.lt
  refine ⟨k, rfl, k0, k1, k2, ?_, ⟨rfl, rfl, rfl, by simp [World.setCell, World.drewN], fun i hi hne => Below.heap_setCell w ⟨r, 1, none⟩ _ i (fun e => hne (by rw [e]))⟩⟩
  obtain ⟨A, c, bs, hb, hl, hs⟩ := h
  refine ⟨A, c, bs, ?_, hl, hs.keep fun b hb => Below.heap_setCell w ⟨r, 1, none⟩ _ b (Nat.ne_of_lt hb)⟩
  show (w.setCell ⟨r, 1, none⟩ (.int .i64 (p + 1))).heap[r]? = _
  simp [World.setCell, Array.getElem?_modify, hb]

theorem far_cell {w : World} {a b : Addr} {v u : Value} (h : w.cell? a = some u) (hne : a.block ≠ b.block) : (w.setCell b v).cell? a = some u := by
  rw [World.cell?_setCell_other w b a v (fun e => hne (by rw [e]))]; exact h

theorem ofInt_i64 (a : Nat) (ha : a < 9223372036854775808) : (BitVec.ofInt 64 (a : Int)).toNat = a := by
  rw [BitVec.ofInt_natCast, BitVec.toNat_ofNat]; exact Nat.mod_eq_of_lt (by omega)
theorem i64_xor_nat (a b : Nat) (ha : a < 9223372036854775808) (hb : b < 9223372036854775808) : bits .xor .i64 (a : Int) (b : Int) = ((a ^^^ b : Nat) : Int) := by
  have hx : a ^^^ b < 2 ^ 63 := Nat.xor_lt_two_pow (by omega) (by omega)
  show IntKind.i64.wrap ((BitVec.ofInt 64 (a : Int) ^^^ BitVec.ofInt 64 (b : Int)).toNat : Int) = _
  rw [BitVec.toNat_xor, ofInt_i64 a ha, ofInt_i64 b hb, IntKind.wrap_i64]
  omega

theorem mix_wraps (P y z D : Nat) (hP : P ≤ 1000000000) (hy : y < 256) (hz : z < 256) (hD : D ≤ 1000000000) :
    IntKind.i64.wrap ((P : Int) * 7) = (P : Int) * 7 ∧ IntKind.i64.wrap ((P : Int) * 7 + 3) = (P : Int) * 7 + 3 ∧ IntKind.i64.wrap (y : Int) = (y : Int) ∧ IntKind.i64.wrap ((y : Int) * 131) = (y : Int) * 131 ∧
    IntKind.i64.wrap (z : Int) = (z : Int) ∧ IntKind.i64.wrap ((z : Int) * 1117) = (z : Int) * 1117 ∧ IntKind.i64.wrap ((y : Int) * 131 + (z : Int) * 1117) = (y : Int) * 131 + (z : Int) * 1117 ∧
    IntKind.i64.wrap ((P : Int) * 29) = (P : Int) * 29 ∧ IntKind.i64.wrap ((y : Int) * 131 + (z : Int) * 1117 + (P : Int) * 29) = (y : Int) * 131 + (z : Int) * 1117 + (P : Int) * 29 ∧
    IntKind.i64.wrap (D : Int) = (D : Int) ∧ IntKind.i64.wrap ((D : Int) * 53) = (D : Int) * 53 ∧
    IntKind.i64.wrap ((y : Int) * 131 + (z : Int) * 1117 + (P : Int) * 29 + (D : Int) * 53) = (y : Int) * 131 + (z : Int) * 1117 + (P : Int) * 29 + (D : Int) * 53 :=
  ⟨IntWalk.i64_in _ (by omega), IntWalk.i64_in _ (by omega), IntWalk.i64_in _ (by omega), IntWalk.i64_in _ (by omega), IntWalk.i64_in _ (by omega), IntWalk.i64_in _ (by omega),
    IntWalk.i64_in _ (by omega), IntWalk.i64_in _ (by omega), IntWalk.i64_in _ (by omega), IntWalk.i64_in _ (by omega), IntWalk.i64_in _ (by omega), IntWalk.i64_in _ (by omega)⟩

set_option maxRecDepth 100000 in
set_option maxHeartbeats 1000000 in
theorem pick_any (r : Nat) (p n : Int) (w : World) (h : Rdr w r p) (p0 : 0 ≤ p) (p1 : p ≤ 1000000000) (n1 : n ≤ 9223372036854775807) (n0 : -9223372036854775808 ≤ n) :
    Calls Tryz.prog 84 #[.pointer (some ⟨r, 0, none⟩), .int .i64 n] w (PickPost w r p n) := by
  obtain ⟨A, c, bs, hb, hl, hs⟩ := h
  have hc0 : w.cell? ⟨r, 0, none⟩ = some (.slice A bs.length c) := by simp [World.cell?, hb]
  have hc1 : w.cell? ⟨r, 1, none⟩ = some (.int .i64 p) := by simp [World.cell?, hb]
  have hf : w.frozen? ⟨r, 1, none⟩ = false := by simp [World.frozen?, hb]
  have Hb := Lib.hid hb
  clear hb
  have hR : Rdr w r p := ⟨A, c, bs, Hb.out, hl, hs⟩
  have HR := Lib.hid hR
  clear hR
  by_cases hn : n < 1
  · go_enter Tryz.func84, Tryz.ntmps84
    go_wp2
    go_ret
    exact pick_end 0 HR.out (by omega) (by omega) (fun _ => rfl)
  · by_cases he : bs.length = 0
    · go_enter Tryz.func84, Tryz.ntmps84
      go_wp2
      go_ret
      exact pick_end 0 HR.out (by omega) (by omega) (fun _ => rfl)
    · by_cases hk : p < bs.length
      · have hkn : p.toNat < bs.length := by omega
        obtain ⟨ad, rfl, hfr, hcb⟩ := hs.at_byte hkn
        have hcb' : (w.setCell ⟨r, 1, none⟩ (.int .i64 (p + 1))).cell? (ad.add p.toNat) = some (.int .u8 (bs[p.toNat].toNat : Int)) := far_cell hcb (by rw [block_of_add]; exact Nat.ne_of_lt hfr)
        have hb0 : (0 : Int) ≤ bs[p.toNat].toNat := by omega
        have hb1 : (bs[p.toNat].toNat : Int) < 256 := by have := bs[p.toNat].toNat_lt; omega
        generalize (bs[p.toNat].toNat : Int) = y at *
        go_enter Tryz.func84, Tryz.ntmps84
        go_wp2
        go_ret
        exact pick_end 0 HR.out (Int.emod_nonneg _ (by omega)) (fun _ => Int.emod_lt_of_pos _ (by omega)) (fun h => by omega)
      · have hq0 : 0 < bs.length := by omega
        obtain ⟨P, rfl⟩ := Int.eq_ofNat_of_zero_le p0
        obtain ⟨X, hx, t1⟩ : ∃ X : Nat, X < bs.length ∧ (P : Int).tmod bs.length = X := ⟨P % bs.length, Nat.mod_lt _ hq0, by rw [Int.tmod_eq_emod_of_nonneg (by omega)]; simp⟩
        obtain ⟨Y, hy, t2⟩ : ∃ Y : Nat, Y < bs.length ∧ ((P : Int) * 7 + 3).tmod bs.length = Y := ⟨(P * 7 + 3) % bs.length, Nat.mod_lt _ hq0, by rw [Int.tmod_eq_emod_of_nonneg (by omega)]; simp⟩
        obtain ⟨D, hd, t3⟩ : ∃ D : Nat, D ≤ P ∧ (P : Int).tdiv bs.length = D := ⟨P / bs.length, Nat.div_le_self _ _, by rw [Int.tdiv_eq_ediv_of_nonneg (by omega)]; simp⟩
        obtain ⟨ad, rfl, hfr, hcb⟩ := hs.at_byte hx
        obtain ⟨ad', e, _, hcb2⟩ := hs.at_byte hy
        cases e
        have hcb' : (w.setCell ⟨r, 1, none⟩ (.int .i64 ((P : Int) + 1))).cell? (ad.add _) = some _ := far_cell hcb (by rw [block_of_add]; exact Nat.ne_of_lt hfr)
        have hcb2' : (w.setCell ⟨r, 1, none⟩ (.int .i64 ((P : Int) + 1))).cell? (ad.add _) = some _ := far_cell hcb2 (by rw [block_of_add]; exact Nat.ne_of_lt hfr)
        have hb1 := bs[X].toNat_lt
        have hb2 := bs[Y].toNat_lt
        generalize bs[X].toNat = y at *
        generalize bs[Y].toNat = z at *
        clear hcb hcb2
        have hx' : (X : Int) < bs.length := by omega
        have hy' : (Y : Int) < bs.length := by omega
        obtain ⟨e1, e2, e3, e4, e5, e6, e7, e8, e9, e10, e11, e12⟩ := mix_wraps P y z D (by omega) hb1 hb2 (by omega)
        have hlen : ((bs.length : Int) == 0) = false := beq_eq_false_iff_ne.2 (by omega)
        go_enter Tryz.func84, Tryz.ntmps84
        go_wp2
        go_quiet (fail)
        clear e1 e2 e3 e4 e5 e6 e7 e8 e9 e10 e11 e12 t1 t2 t3 hlen
        go_wp2
        go_ret
        have hM : (y : Int) * 131 + (z : Int) * 1117 + (P : Int) * 29 + (D : Int) * 53 = ((y * 131 + z * 1117 + P * 29 + D * 53 : Nat) : Int) := by omega
        have hlt : y * 131 + z * 1117 + P * 29 + D * 53 < 9223372036854775808 := by omega
        show PickPost w r P n (.returned (.int .i64 ((bits BinOp.xor IntKind.i64 ((y : Int) * 131 + z * 1117 + P * 29 + D * 53) (((y : Int) * 131 + z * 1117 + P * 29 + D * 53) / 64)).tmod n))) _
        rw [hM]
        generalize y * 131 + z * 1117 + P * 29 + D * 53 = M at *
        rw [show ((M : Int) / 64) = ((M / 64 : Nat) : Int) from by omega, i64_xor_nat _ _ hlt (by omega)]
        generalize (M ^^^ M / 64) = Q
        rw [Int.tmod_eq_emod_of_nonneg (by omega)]
        exact pick_end nq HR.out (Int.emod_nonneg _ (by omega)) (fun _ => Int.emod_lt_of_pos _ (by omega)) (fun h => by omega)
end Go.Proofs.YtiahmfpfimmbgaaGreatDoor
