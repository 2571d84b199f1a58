/- A drawn region, each operation once: what is so all along may look at which operations have been done. No program is named here. The program's builder: bit by bit. Rows of the call's own whose elements may lead on to other blocks; append of one element. No program is named here. Draws: what a reader's user leaves; a number of a list. Drawn regions that draw from a reader; literals. The program's builder: lists of signals, the choice. The program's builder: built. -/
import Derived.Test.YtjghcaghigebjaaDoorJExBitsUn0
import Derived.Test.YtjghcaghigebjaaDoorJExBitsUn1
import Derived.Test.YtjghcaghigebjaaDoorJExBitsUn2
import Derived.Test.YtjghcaghigebjaaDoorJExBitsUn3
/-! A drawn region, each operation once: what is so all along may look at which operations have been done. No program is named here. -/
namespace Go.Proofs.YtjghcaghigebjaaDoor
open Go Go.RowKit
variable {P : Program} {Q : Exit → Act → World → Prop}

/-- It has been done too. -/
def did (f : Nat → Bool) (k : Nat) : Nat → Bool := fun j => if j = k then true else f j
theorem did_same (f : Nat → Bool) (k : Nat) : did f k k = true := if_pos rfl
theorem did_ne {f : Nat → Bool} {k j : Nat} (h : Nat.beq j k = false) : did f k j = f j := if_neg (Nat.ne_of_beq_eq_false h)
def relQ4 (R : World → World → Prop) (I : (Nat → Bool) → World → Prop) (L : List Say) (vals : Nat → Value) (f : Nat → Bool) (k : Nat) (o : Oper) (a : Act) (x : World) : Exit → Act → World → Prop
  | .normal, a', x' => a'.defers = a.defers ∧ L.getD k (fun _ _ => True) (upd vals k (got o a')) x' ∧ R x x' ∧ I (did f k) x'
  | _, _, _ => False
def obligR4 (P : Program) (ops : List Oper) (D : List (List Nat)) (R : World → World → Prop) (I : (Nat → Bool) → World → Prop) (L : List Say) (a : Act) (k : Nat) (o : Oper) : Prop :=
  ∀ (vals : Nat → Value) (x : World) (f : Nat → Bool), f k = false → (∀ j, reach ops ops.length k j = true → f j = true) → (∀ j, reach ops ops.length j k = true → f j = false) → I f x → says L vals x (D.getD k []) →
    ((∀ g b, o.guard = some (g, b) → vals g = .bool b) → o.wp P (puts ops vals (D.getD k []) a) x (relQ4 R I L vals f k o (puts ops vals (D.getD k []) a) x .normal) (relQ4 R I L vals f k o (puts ops vals (D.getD k []) a) x)) ∧
    (∀ g b, o.guard = some (g, b) → vals g ≠ .bool b → L.getD k (fun _ _ => True) (upd vals k undef) x ∧ I (did f k) x)
structure RelInv4 (ops : List Oper) (I : (Nat → Bool) → World → Prop) (L : List Say) (a : Act) (listed : Array Bool) (a' : Act) (x : World) (vals : Nat → Value) : Prop where
  size : listed.size = ops.length
  closed : ∀ j k, waits ops k j = true → listed.getD k false = true → listed.getD j false = true
  tsize : a'.tmps.size = a.tmps.size
  defers : a'.defers = a.defers
  old : ∀ t, (∀ j, listed.getD j false = true → dstOf ops j ≠ some t) → a'.tmps[t]? = a.tmps[t]?
  new : ∀ j t, listed.getD j false = true → dstOf ops j = some t → a'.tmps[t]? = some (vals j)
  inv : I (fun i => listed.getD i false) x
  fact : ∀ j, listed.getD j false = true → L.getD j (fun _ _ => True) vals x
def owes4 (P : Program) (R : World → World → Prop) (I : (Nat → Bool) → World → Prop) (L : List Say) (vals : Nat → Value) (a : Act) (x : World) (f : Nat → Bool) (k : Nat) (o : Oper) (gd : Option (Nat × Bool)) : Prop :=
  match gd with
  | none => wpList P #[] (relQ4 R I L vals f k o a x) [bare o] a x
  | some (g, b) => (vals g = .bool b → wpList P #[] (relQ4 R I L vals f k o a x) [bare o] a x) ∧ (vals g ≠ .bool b → L.getD k (fun _ _ => True) (upd vals k undef) x ∧ I (did f k) x)
/-- As 'relOk'; an operation may look at a slot that a later one writes, if that one waits for it. -/
def relOk4 (ops : List Oper) (D : List (List Nat)) (size : Nat) : Bool :=
  (List.range ops.length).all fun k =>
    (match ops[k]? with
      | some o => (match o.guard with | none => true | some (g, _) => (D.getD k []).contains g && (dstOf ops g).isSome) && (match o.op with | .select .. => false | _ => true) && (o.after.all fun e => !Region.binds .any e || decide (e.on < k)) && (match o.dst with | some d => decide (d < size) | none => true)
      | none => false) &&
    ((D.getD k []).all fun j => waits ops k j && decide (j < ops.length)) &&
    (decide ((D.getD k []).Nodup)) &&
    (List.range ops.length).all fun j =>
      (!looks ops k j || (D.getD k []).contains j || reach ops ops.length j k) &&
      (decide (j = k) || (match dstOf ops j, dstOf ops k with | some d, some e => d != e | _, _ => true))
theorem relOk4_spec {ops : List Oper} {D : List (List Nat)} {size : Nat} (h : relOk4 ops D size = true) (k : Nat) (o : Oper) (hk : ops[k]? = some o) :
    (∀ g b, o.guard = some (g, b) → g ∈ D.getD k [] ∧ ∃ d, dstOf ops g = some d) ∧ (∀ cs b, o.op ≠ .select cs b) ∧ (∀ e ∈ o.after, Region.binds .any e = true → e.on < k) ∧ (∀ d, o.dst = some d → d < size) ∧
    (∀ j ∈ D.getD k [], waits ops k j = true ∧ j < ops.length) ∧ (∀ j, j < ops.length → looks ops k j = true → j ∈ D.getD k [] ∨ reach ops ops.length j k = true) ∧
    (∀ j d, j < ops.length → dstOf ops j = some d → o.dst = some d → j = k) := by
  have hlt : k < ops.length := (List.getElem?_eq_some_iff.1 hk).1
  unfold relOk4 at h
  have h := List.all_eq_true.1 h k (List.mem_range.2 hlt)
  have hdk : dstOf ops k = o.dst := by simp [dstOf, hk]
  simp only [hk, Bool.and_eq_true, hdk] at h
  obtain ⟨⟨⟨⟨⟨⟨h1, h2⟩, h3⟩, h4⟩, h5⟩, _⟩, h6⟩ := h
  have h6 : ∀ j, j < ops.length → _ := fun j hj => List.all_eq_true.1 h6 j (List.mem_range.2 hj)
  refine ⟨fun g b hg => ?_, fun cs b e => (by rw [e] at h2; cases h2), fun e he hb => ?_, fun d hd => by rw [hd] at h4; simpa using h4, fun j hj => ?_, fun j hj hl => ?_, fun j d hj hd hd' => ?_⟩
  · rw [hg] at h1
    simp only [Bool.and_eq_true, List.contains_iff_mem] at h1
    exact ⟨h1.1, Option.isSome_iff_exists.1 h1.2⟩
  · have := (Array.all_eq_true_iff_forall_mem.1 h3) e he
    simpa [hb] using this
  · have := List.all_eq_true.1 h5 j hj
    simpa using this
  · have := h6 j hj
    simp only [Bool.and_eq_true, hl] at this
    simpa using this.1
  · have := h6 j hj
    simp only [Bool.and_eq_true, hd, hd'] at this
    simpa using this.2
theorem rel4_any {ops : List Oper} {D : List (List Nat)} {R : Nat → World → World → Prop} {I : (Nat → Bool) → World → Prop} {L : List Say} {a : Act} (hRr : ∀ k x, R k x x) (hL : ∀ j k, k < ops.length → j ≠ k → reach ops ops.length j k = false → ∀ vs x x', L.getD j (fun _ _ => True) vs x → R k x x' → L.getD j (fun _ _ => True) vs x') (hLo : Locals D 0 L) (hB : relOk4 ops D a.tmps.size = true)
    (hs : ∀ k o, ops[k]? = some o → obligR4 P ops D (R k) I L a k o)
    (hfin : ∀ vals x f, (∀ i, i < ops.length → f i = true) → I f x → says L vals x (List.range ops.length) → Q .normal (puts ops vals (List.range ops.length) a) x) :
    ∀ (fuel : Nat) (listed : Array Bool) (a' : Act) (x : World) (vals : Nat → Value), cnt (fun i => listed.getD i false) ops.length ≤ fuel →
      RelInv4 ops I L a listed a' x vals → wpAny P .any ops.toArray Q fuel listed a' x := by
  have hdd : ∀ i j t, dstOf ops i = some t → dstOf ops j = some t → i = j := fun i j t hi hj => by
    have hjl : j < ops.length := dst_lt hj
    have ho : ops[j]? = some ops[j] := List.getElem?_eq_getElem hjl
    exact (relOk4_spec hB j _ ho).2.2.2.2.2.2 i t (dst_lt hi) hi (by simpa [dstOf, ho] using hj)
  have hds : ∀ j t, dstOf ops j = some t → t < a.tmps.size := fun j t hj => by
    have hjl : j < ops.length := dst_lt hj
    have ho : ops[j]? = some ops[j] := List.getElem?_eq_getElem hjl
    exact (relOk4_spec hB j _ ho).2.2.2.1 t (by simpa [dstOf, ho] using hj)
  have hdone : ∀ (listed : Array Bool) (a' : Act) (x : World) (vals : Nat → Value), (∀ i, i < ops.length → listed.getD i false = true) → RelInv4 ops I L a listed a' x vals → Q .normal a' x := by
    intro listed a' x vals hall inv
    have ha : a' = puts ops vals (List.range ops.length) a := by
      have ht : a'.tmps = (puts ops vals (List.range ops.length) a).tmps := by
        apply Array.ext_getElem?
        intro t
        by_cases h : ∃ j, dstOf ops j = some t
        · obtain ⟨j, hj⟩ := h
          rw [inv.new j t (hall j (dst_lt hj)) hj, puts_get (fun i j => hdd i j t) _ _ j (List.mem_range.2 (dst_lt hj)) hj (hds j t hj)]
        · rw [inv.old t (fun j _ e => h ⟨j, e⟩), puts_ne _ _ (fun i _ e => h ⟨i, e⟩)]
      have hdf : a'.defers = (puts ops vals (List.range ops.length) a).defers := by rw [puts_defers]; exact inv.defers
      cases a'
      cases hp : puts ops vals (List.range ops.length) a
      rw [hp] at ht hdf
      simp only at ht hdf
      rw [ht, hdf]
    rw [ha]
    exact hfin vals x _ hall inv.inv (says_iff.2 fun i hi => inv.fact i (hall i (List.mem_range.1 hi)))
  have hmin : ∀ (listed : Array Bool), listed.size = ops.length → ∀ i, i < ops.length → listed.getD i false = false → Region.ready .any ops.toArray listed ≠ [] := by
    intro listed hsz i
    induction i using Nat.strongRecOn with
    | _ i ih =>
      intro hi hun hr
      have ho : ops[i]? = some ops[i] := List.getElem?_eq_getElem hi
      by_cases h : ∀ e ∈ ops[i].after, Region.binds .any e = true → listed.getD e.on false = true
      · have : i ∈ Region.ready .any ops.toArray listed := mem_ready.2 ⟨getD_in (by omega) hun, ops[i], by simp [ho], h⟩
        rw [hr] at this; cases this
      · simp only [Classical.not_forall] at h
        obtain ⟨e, he, hb, hl⟩ := h
        have hlt := (relOk4_spec hB i _ ho).2.2.1 e he hb
        exact ih e.on hlt (by omega) (by simpa using hl) hr
  intro fuel
  induction fuel with
  | zero =>
    intro listed a' x vals hc inv
    have hall := cnt_zero (f := fun i => listed.getD i false) (Nat.le_zero.1 hc)
    refine ⟨?_, hdone _ _ _ _ hall inv⟩
    cases hr : Region.ready .any ops.toArray listed with
    | nil => rfl
    | cons k rs =>
      exfalso
      have hk : k ∈ Region.ready .any ops.toArray listed := by rw [hr]; simp
      obtain ⟨h0, o, ho, _⟩ := mem_ready.1 hk
      have hlt : k < ops.length := by
        have := (Array.getElem?_eq_some_iff.1 ho).1; simpa using this
      have h1 : listed.getD k false = true := hall k hlt
      rw [getD_both h0] at h1; cases h1
  | succ fuel ih =>
    intro listed a' x vals hc inv
    refine ⟨fun hr => ?_, fun k hk => ?_⟩
    · refine hdone _ _ _ _ (fun i hi => ?_) inv
      cases h : listed.getD i false with
      | true => rfl
      | false => exact absurd hr (hmin listed inv.size i hi h)
    · obtain ⟨h0, o, hoA, hwait⟩ := mem_ready.1 hk
      have ho : ops[k]? = some o := by simpa using hoA
      have hkl : k < ops.length := (List.getElem?_eq_some_iff.1 ho).1
      have h0f : listed.getD k false = false := getD_both h0
      have hsz : k < listed.size := by rw [inv.size]; exact hkl
      obtain ⟨hg, hsel, _, hdsz, hD, hlook, hdist⟩ := relOk4_spec hB k o ho
      have hw : ∀ m, waits ops k m = true → listed.getD m false = true := fun m hm => by
        obtain ⟨o', ho', e, he, hb, rfl⟩ := waits_spec.1 hm
        have : o' = o := Option.some.inj (ho'.symm.trans ho)
        subst this
        exact hwait e he hb
      have hDl : ∀ j ∈ D.getD k [], listed.getD j false = true := fun j hj => hw j (hD j hj).1
      have hdk : dstOf ops k = o.dst := by simp [dstOf, ho]
      -- the operation runs as it does in the small state
      have hexec : execOp a'.eval o = execOp (puts ops vals (D.getD k []) a).eval o := execOp_congr o hsel fun y hy => by
        cases y with
        | tmp t =>
          have ht : a'.tmps[t]? = (puts ops vals (D.getD k []) a).tmps[t]? := by
            by_cases h : ∃ j, dstOf ops j = some t
            · obtain ⟨j, hj⟩ := h
              rcases hlook j (dst_lt hj) (looks_spec ho hj hy) with hm | hm
              · rw [inv.new j t (hDl j hm) hj, puts_get (fun i j => hdd i j t) _ _ j hm hj (hds j t hj)]
              · have hjf : listed.getD j false = true → False := fun hjl => by
                  have := reach_listed inv.closed _ j k (fun m hm => inv.closed m j hm hjl) hm
                  rw [this] at h0f; cases h0f
                rw [inv.old t (fun i hi e => by have := hdd i j t e hj; subst this; exact hjf hi), puts_ne _ _ (fun i hi e => by have := hdd i j t e hj; subst this; exact hjf (hDl i hi))]
            · rw [inv.old t (fun j _ e => h ⟨j, e⟩), puts_ne _ _ (fun i _ e => h ⟨i, e⟩)]
          show a'.tmps.getD t undef = (puts ops vals (D.getD k []) a).tmps.getD t undef
          rw [Array.getD_eq_getD_getElem?, Array.getD_eq_getD_getElem?, ht]
        | _ => rfl
      have hcs := (cnt_set (f := fun i => listed.getD i false) (g := fun i => (listed.setIfInBounds k true).getD i false) h0f (getD_set (listed := listed) hsz) (n := ops.length)).2 hkl
      have hob := hs k o ho vals x (fun i => listed.getD i false) h0f (fun r h => reach_listed inv.closed _ k r (fun m hm => hw m hm) h) (fun r hr => by
        cases h : listed.getD r false with
        | false => rfl
        | true => exact absurd ((reach_listed inv.closed _ r k (fun m hm => inv.closed m r hm h) hr).symm.trans h0f) (by simp)) inv.inv (says_iff.2 fun j hj => inv.fact j (hDl j hj))
      have hbs : (puts ops vals (D.getD k []) a).tmps.size = a.tmps.size := puts_size _ _
      have hbd : (puts ops vals (D.getD k []) a).defers = a.defers := puts_defers _ _
      have next : ∀ v x', (L.getD k (fun _ _ => True) (upd vals k (got o ((puts ops vals (D.getD k []) a).put o.dst v))) x' ∧ R k x x' ∧ I (did (fun i => listed.getD i false) k) x') →
          wpAny P .any ops.toArray Q fuel (listed.setIfInBounds k true) (a'.put o.dst v) x' := by
        intro v x' hq
        obtain ⟨hV, hR, hI'⟩ := hq
        have hgs := getD_set (listed := listed) hsz
        have hold : ∀ j, (listed.setIfInBounds k true).getD j false = true → j ≠ k → listed.getD j false = true := fun j hj hne => by
          rw [hgs, if_neg hne] at hj; exact hj
        refine ih _ _ x' (fun j => if j = k then got o ((puts ops vals (D.getD k []) a).put o.dst v) else vals j) ?_ ⟨by simp [inv.size], fun j m hm hl => ?_, by rw [put_size]; exact inv.tsize, by rw [put_defers]; exact inv.defers, fun t ht => ?_, fun j t hj hdj => ?_, by rw [show (fun i => (listed.setIfInBounds k true).getD i false) = fun j => if j = k then true else listed.getD j false from funext hgs]; exact hI', fun j hj => ?_⟩
        · omega
        · rw [hgs]
          by_cases e : j = k
          · rw [if_pos e]
          · rw [if_neg e]
            by_cases e' : m = k
            · subst e'; exact hw j hm
            · exact inv.closed j m hm (hold m hl e')
        · rw [put_get_ne _ _ _ _ (by
            have := ht k (by rw [hgs, if_pos rfl])
            rwa [hdk] at this)]
          refine inv.old t fun j hj => ht j ?_
          rw [hgs]; split <;> first | rfl | exact hj
        · by_cases e : j = k
          · subst e
            rw [hdk] at hdj
            have htl := hdsz t hdj
            rw [if_pos rfl, hdj, put_get _ _ _ (by rw [inv.tsize]; exact htl)]
            simp only [got, hdj]
            rw [Array.getD_eq_getD_getElem?, put_get _ _ _ (by rw [hbs]; exact htl)]
            rfl
          · rw [if_neg e, put_get_ne _ _ _ _ (fun e' => e (hdist j t (dst_lt hdj) hdj e'))]
            exact inv.new j t (hold j hj e) hdj
        · by_cases e : j = k
          · subst e; exact hV
          · have hjl := hold j hj e
            have hrj : reach ops ops.length j k = false := by
              cases h : reach ops ops.length j k with
              | false => rfl
              | true => rw [reach_listed inv.closed _ j k (fun m hm => inv.closed m j hm hjl) h] at h0f; cases h0f
            have hfj := hL j k hkl e hrj vals x x' (inv.fact j hjl) hR
            refine hLo.get j vals _ x' (by simp [upd, e]) (fun m hm => ?_) hfj
            have hmk : m ≠ k := fun e' => by
              have hjlt := listed_lt inv.size hjl
              have hw' := ((relOk4_spec hB j ops[j] (List.getElem?_eq_getElem hjlt)).2.2.2.2.1 m (by simpa using hm)).1
              rw [e'] at hw'
              rw [inv.closed k j hw' hjl] at h0f; cases h0f
            simp [upd, hmk]
      unfold wpOp
      rw [hoA]
      dsimp only
      have hgv : ∀ g b, o.guard = some (g, b) → ∃ d, dstOf ops g = some d ∧ a'.tmps[d]? = some (vals g) := fun g b hgb => by
        obtain ⟨h1, d, h2⟩ := hg g b hgb
        exact ⟨d, h2, inv.new g d (hDl g h1) h2⟩
      have hyield : ∀ g b, o.guard = some (g, b) → (Region.wanted o (yielded ops.toArray a'.tmps) = true ↔ vals g = .bool b) := fun g b hgb => by
        obtain ⟨d, h1, h2⟩ := hgv g b hgb
        have hy : yielded ops.toArray a'.tmps g = match some (vals g) with | some (.bool b) => some b | _ => none := by
          unfold yielded
          rw [show (ops.toArray[g]?).bind (·.dst) = some d from by simpa [dstOf] using h1]
          simp only [Option.bind_some, h2]
          cases vals g <;> rfl
        unfold Region.wanted
        rw [hgb]
        simp only [hy]
        constructor
        · intro h
          split at h
          · rename_i b' he
            injection he with he
            rw [he]
            have : b' = b := by simpa using h
            rw [this]
          · cases h
        · intro h
          rw [h]; simp
      have hskip : Region.wanted o (yielded ops.toArray a'.tmps) = false → wpAny P .any ops.toArray Q fuel (listed.setIfInBounds k true) (a'.put o.dst undef) x := fun hw0 => by
        cases hgd : o.guard with
        | none => unfold Region.wanted at hw0; rw [hgd] at hw0; cases hw0
        | some p =>
          obtain ⟨g, b⟩ := p
          have hne : vals g ≠ .bool b := fun e => by rw [(hyield g b hgd).2 e] at hw0; cases hw0
          obtain ⟨h1, h2⟩ := hob.2 g b hgd hne
          refine next undef x ⟨?_, hRr k x, h2⟩
          have : got o ((puts ops vals (D.getD k []) a).put o.dst undef) = undef := by
            unfold got
            cases hd : o.dst with
            | none => rfl
            | some d =>
              simp only
              rw [Array.getD_eq_getD_getElem?, put_get _ _ _ (by rw [hbs]; exact hdsz d hd)]
              rfl
          rw [this]; exact h1
      by_cases hwant : Region.wanted o (yielded ops.toArray a'.tmps) = true
      rotate_left
      · rw [if_neg hwant]
        exact hskip (by simpa using hwant)
      rw [if_pos hwant]
      have hob := hob.1 fun g b hgd => (hyield g b hgd).1 hwant
      refine .inl ?_
      unfold Oper.wp at hob ⊢
      rw [hexec]
      generalize (execOp (puts ops vals (D.getD k []) a).eval o).run P x = r at hob ⊢
      cases r with
      | ok n w' =>
        cases n <;> simp only [Oper.upon] at hob ⊢
        case value v => exact next v w' hob.2
        case skip => exact next _ w' hob.2
        case defer d =>
          have := hob.1
          rw [put_defers] at this
          exact absurd (congrArg List.length this) (by simp)
        case enter f args =>
          refine Calls.mono hob fun e w'' he => ?_
          cases e with
          | returned u => exact next u w'' he.2
          | panicked c => exact he.elim
          | outgrown => obtain ⟨_, _, h⟩ := he; exact h.elim
        case row row args => exact Rows.mono hob fun u w'' he => next u w'' he.2
      | halt e w' =>
        cases e <;> simp only [Oper.upon] at hob ⊢ <;> exact hob.elim


def shareR4 (P : Program) (ops : List Oper) (R : World → World → Prop) (I : (Nat → Bool) → World → Prop) (L : List Say) (a : Act) (k : Nat) (o : Oper) (d : List (Nat × Tmp)) : Prop :=
  ∀ (vals : Nat → Value) (x : World) (f : Nat → Bool), f k = false → (∀ j, reach ops ops.length k j = true → f j = true) → (∀ j, reach ops ops.length j k = true → f j = false) → I f x → saysD L vals x d →
    owes4 P R I L vals (putsD vals d a) x f k o o.guard
def sharesR4 (P : Program) (ops : List Oper) (R : Nat → World → World → Prop) (I : (Nat → Bool) → World → Prop) (L : List Say) (a : Act) : Nat → List Oper → List (List (Nat × Tmp)) → Prop
  | _, [], _ => True
  | _, _ :: _, [] => False
  | k, o :: l, d :: ds => shareR4 P ops (R k) I L a k o d ∧ sharesR4 P ops R I L a (k + 1) l ds
theorem sharesR4_get {ops : List Oper} {R : Nat → World → World → Prop} {I : (Nat → Bool) → World → Prop} {L : List Say} {a : Act} : ∀ {l : List Oper} {ds : List (List (Nat × Tmp))} {k : Nat}, sharesR4 P ops R I L a k l ds →
    ∀ i o, l[i]? = some o → shareR4 P ops (R (k + i)) I L a (k + i) o (ds.getD i [])
  | [], _, _, _, i, o, h => by simp at h
  | _ :: _, [], _, h, _, _, _ => h.elim
  | o' :: l, d :: ds, k, h, 0, o, ho => by
    simp only [List.getElem?_cons_zero, Option.some.injEq] at ho
    subst ho; exact h.1
  | o' :: l, d :: ds, k, h, i + 1, o, ho => by
    simp only [List.getElem?_cons_succ] at ho
    have := sharesR4_get h.2 i o ho
    rw [show k + (i + 1) = k + 1 + i by omega]
    simpa using this
/-- A drawn region, each operation once. D: of each operation the ones that it looks at, with their slots; L: what is said of each one's value; R: what every operation does to memory; I: what is so all along, by which have been done. -/
theorem wp_region_rel4 {id : Nat} {ops : List Oper} {a : Act} {w : World} (D : List (List (Nat × Tmp))) (R0 : World → World → Prop) (Rs : List (Nat × (World → World → Prop))) (I : (Nat → Bool) → World → Prop) (L : List Say) (all : List (Nat × Tmp)) (hm : P.follows .mixedOrders = true)
    (hB : relOk4 ops (idxs D) a.tmps.size = true) (hD : D.all (fitsD ops) = true)
    (hall : (List.range ops.length).filterMap (fun i => (dstOf ops i).map fun t => (i, t)) = all)
    (hRr : ∀ x, R0 x x) (hRs : Refls Rs) (hL : Stabs3 ops R0 Rs 0 L) (hLo : Locals (idxs D) 0 L) (h0 : I (fun _ => false) (w.drewN 1))
    (hs : sharesR4 P ops (relOf R0 Rs) I L a 0 ops D)
    (hfin : ∀ vals x f, (∀ i, i < ops.length → f i = true) → I f x → says L vals x (List.range ops.length) → Q .normal (putsD vals all a) x) : (Code.region id ops.toArray true).wp P Q a w := by
  refine wp_region_any hm ?_
  have z0 : ∀ j, (Array.replicate ops.toArray.size false).getD j false = false := fun j => getD_replicate_false _ _
  have hle : ∀ (f : Nat → Bool) (n : Nat), cnt f n ≤ n := fun f n => by
    induction n with
    | zero => exact Nat.le_refl _
    | succ n ih => simp only [cnt]; split <;> omega
  have hrel := rel4_any (P := P) (Q := Q) (ops := ops) (a := a) (D := idxs D) (R := relOf R0 Rs) (I := I) (L := L) (relOf_refl hRr hRs) (fun j k hk hjk hr vs x x' => Stabs3.get hk hL j (by rw [Nat.zero_add]; exact hjk) (by rw [Nat.zero_add]; exact hr) vs x x') hLo hB
  refine hrel (fun k o hk => ?_) (fun vals x f hn hI hf => ?_) _ _ _ _ (fun _ => undef) (Nat.le_trans (hle _ _) (by simp)) ?_
  rotate_left
  · rw [puts_all, hall]; exact hfin vals x f hn hI hf
  · exact ⟨by simp, fun j k _ hl => (by rw [z0] at hl; cases hl), rfl, rfl, fun _ _ => rfl, fun j t hj => (by rw [z0] at hj; cases hj), by rw [show (fun i => (Array.replicate ops.toArray.size false).getD i false) = fun _ => false from funext z0]; exact h0, fun j hj => (by rw [z0] at hj; cases hj)⟩
  · have hsh := sharesR4_get hs k o hk
    rw [Nat.zero_add] at hsh
    have hfit : fitsD ops (D.getD k []) = true := by
      rcases Nat.lt_or_ge k D.length with h | h
      · rw [show D.getD k [] = D[k] by simp [h]]; exact List.all_eq_true.1 hD _ (List.getElem_mem h)
      · rw [show D.getD k [] = [] by simp [h]]; rfl
    have hDk : (idxs D).getD k [] = (D.getD k []).map (·.1) := by
      unfold idxs
      rcases Nat.lt_or_ge k D.length with h | h
      · simp [h]
      · simp [h]
    intro vals x f hn hl hl2 hI hf
    rw [hDk, says_saysD] at hf
    have h := hsh vals x f hn hl hl2 hI hf
    rw [hDk, puts_putsD hfit]
    have hun : wpList P #[] (relQ4 (relOf R0 Rs k) I L vals f k o (putsD vals (D.getD k []) a) x) [bare o] (putsD vals (D.getD k []) a) x → o.wp P (putsD vals (D.getD k []) a) x (relQ4 (relOf R0 Rs k) I L vals f k o (putsD vals (D.getD k []) a) x .normal) (relQ4 (relOf R0 Rs k) I L vals f k o (putsD vals (D.getD k []) a) x) := fun h => by
      rcases wpList_bare h with h | ⟨_, _, h⟩
      · exact h
      · exact h.elim
    generalize o.guard = gd at h ⊢
    cases gd with
    | none => exact ⟨fun _ => hun h, fun g b e => by cases e⟩
    | some p =>
      obtain ⟨g, b⟩ := p
      exact ⟨fun e => hun (h.1 (e g b rfl)), fun g' b' e hne => by injection e with e; injection e with e1 e2; subst e1; subst e2; exact h.2 hne⟩
end Go.Proofs.YtjghcaghigebjaaDoor

/-! The program's builder: bit by bit. -/
namespace Go.Proofs.YtjghcaghigebjaaDoor
open Go Go.RowKit

/-- append of one signal onto a row of the call's own, the signal lying in a block of its own. -/
theorem wpList_append_sig2 {Q : Exit → Act → World → Prop} {ops : Array Oper} {rest : List Oper} {o : Oper} {a : Act} {w : World} {lo : Nat} {A : Option Addr} {c : Nat} {xs ys : List Int} {x : Int} {b : Nat} {t : TypeId} {fr : Nat × Nat} (hgd : o.guard = none) (s y : Operand)
    (ho : o.op = .call { callee := .builtin .append, args := #[s, y], argTypes := #[74, 74] }) (hs : a.eval s = .slice A xs.length c) (hy : a.eval y = .slice (some ⟨b, 0, none⟩) 1 1)
    (hown : OwnSg w lo (.slice A xs.length c) xs) (hb : w.heap[b]? = some (.cells #[.int .i64 x] t fr)) (hn : xs.length ≤ 1048576) (hlo : lo ≤ w.heap.size) (hys : ys = xs ++ [x])
    (h : ∀ A' c' w', OwnSg w' lo (.slice A' ys.length c') ys → w.grownBy w' (Value.slice A xs.length c).ownBlock → wpList Tryd.prog ops Q rest (a.put o.dst (.slice A' ys.length c')) w') : wpList Tryd.prog ops Q (o :: rest) a w := by
  obtain ⟨i0, hi0, hz0, hz1, hz2⟩ := info_parts signal_info
  have hl : ys.length = xs.length + 1 := by rw [hys]; simp
  have hc : ys.map (Value.int .i64) = xs.map (Value.int .i64) ++ [.int .i64 x] := by rw [hys]; simp
  refine wpList_append_src (P := Tryd.prog) w hgd s y 74 ho lo 83 i0 _ 1 8 Tryd.underlying74 hi0 hz0 hz1 hz2 (by rfl) (by omega) _ xs.length (xs.map (Value.int .i64)) hs hown (some ⟨b, 0, none⟩) 1 1 [.int .i64 x] hy (src_block hb rfl) (by intro u hu; simp at hu; subst hu; rfl) ys.length hl.symm (by unfold maxLen; omega) (by omega) hlo (by simp) ?_
  intro A' c' w' h2 _ h3
  exact h A' c' w' (by unfold OwnSg; rw [hc]; exact h2) h3
/-- What the append leaves as it was. -/
theorem OwnSg.grown {x x' : World} {base c : Nat} {A : Option Addr} {l : List Int} (h : OwnSg x base (.slice A l.length c) l) (hg : x.grownBy x' (Value.slice A l.length c).ownBlock) (hb : base ≤ x.heap.size) {lo : Nat} (hl : lo ≤ base) : BelS lo x x' ∧ Below base x x' := by
  have hB : Below base x x' := (Below.refl base x).grown hg hb fun g hg' => (h.lt g hg').1
  have hk : ∀ (i : Nat) (o : Obj), x.heap[i]? = some o → (CK o ∨ BK o) → x'.heap[i]? = some o := fun i o hi hc => by
    refine (hg.block i (Array.getElem?_eq_some_iff.1 hi).1 fun e => ?_).trans hi
    rcases h.2 with ⟨e', _⟩ | ⟨g, cap, cur, e', _, hgg, _⟩
    · rw [e'] at e; cases e
    · rw [e'] at e
      injection e with e
      subst e
      rw [hi] at hgg
      injection hgg with hgg
      subst hgg
      rcases hc with hc | hc
      · exact sig_nck.1 hc
      · exact sig_nck.2 hc
  exact ⟨⟨hB.mono hl, fun i o hi hc => hk i o hi (.inl hc), fun i o hi hc => hk i o hi (.inr hc)⟩, hB⟩
theorem BelB.then {lo : Nat} {W x x' : World} (h : BelB lo W x) (hb : Below W.heap.size x x') (hl : lo ≤ W.heap.size) : BelB lo W x' :=
  ⟨h.bel.trans (hb.mono hl), fun i o hi hc hk => (hb.block i (Array.getElem?_eq_some_iff.1 hi).1).trans (h.kd i o hi hc hk)⟩
/-- What is so while a region of 'each' runs. -/
def EachI (a0 a1 : Addr) (lo : Nat) (W : World) (q r : Nat) (s s' : BS) (A : Option Addr) (c : Nat) (l : List Int) (called done : Bool) (x : World) : Prop :=
  BelB lo W x ∧ Bd a0 a1 lo x q r (if called = true then s' else s) ∧ (done = false → OwnSg x W.heap.size (.slice A l.length c) l)
theorem EachI.up {a0 a1 : Addr} {lo : Nat} {W : World} {q r : Nat} {s s' : BS} {A : Option Addr} {c : Nat} {l : List Int} {called done : Bool} {x x' : World} (h : EachI a0 a1 lo W q r s s' A c l called done x) (hb : Below x.heap.size x x') : EachI a0 a1 lo W q r s s' A c l called done x' :=
  ⟨h.1.trans (.of hb h.2.1.size), h.2.1.up hb, fun hd => own_below (h.2.2 hd) hb (Nat.le_refl _)⟩
/-- What 'each' answers. -/
def RetL (a0 a1 : Addr) (lo : Nat) (w : World) (q r : Nat) (res : BS × List Int) (e : Ending) (w' : World) : Prop :=
  ∃ A c, e = .returned (.slice A res.2.length c) ∧ res.2.length ≤ c ∧ Lay.int.Pl w' A res.2 ∧ (∀ m ∈ res.2, MB m) ∧ BelB lo w w' ∧ Bd a0 a1 lo w' q r res.1
set_option maxRecDepth 100000 in
set_option maxHeartbeats 4000000 in
theorem each_choose (a0 a1 : Addr) (lo q r : Nat) (bq bc : Nat) (c0 : Int) (X Y : Option Addr) (cx cy : Nat) (xs ys : List Int) (s : BS) (w : World) (K : World → Prop) (hK : K w) (hKs : ∀ x, BelB lo w x → K x) (h : Bd a0 a1 lo w q r s) (hX : Lay.int.Pl w X xs) (hY : Lay.int.Pl w Y ys) (hxm : ∀ x ∈ xs, MB x) (hym : ∀ y ∈ ys, MB y) (hl : xs.length = ys.length) (hn : xs.length ≤ 1000)
    (hcall : ∀ (x y : Int) (s : BS) (z : World), Bd a0 a1 lo z q r s → MB x → MB y → K z → Calls Tryd.prog 86 #[.int .i64 x, .int .i64 y, .pointer (some ⟨bq, 0, none⟩), .pointer (some ⟨bc, 0, none⟩)] z (RetM a0 a1 lo z q r (run opsP ((muxP c0) x y) s)))
    (hnb : ∀ (x y : Int) (s : BS), NB s.n → MB x → MB y → MB (run opsP ((muxP c0) x y) s).2) :
    Calls Tryd.prog 85 #[.slice X xs.length cx, .slice Y ys.length cy, .func (.func 86) #[] #[.pointer (some ⟨bq, 0, none⟩), .pointer (some ⟨bc, 0, none⟩)]] w (RetL a0 a1 lo w q r (run opsP (eachP (muxP c0) xs ys) s)) := by
  obtain ⟨T, hT⟩ : ∃ T, T = run opsP (eachP (muxP c0) xs ys) s := ⟨_, rfl⟩
  rw [← hT]
  have HT := Lib.hid hT
  have HB := Lib.hid h
  have HX := Lib.hid hX
  have HY := Lib.hid hY
  have HK := Lib.hid hKs
  have HXM := Lib.hid hxm
  have HYM := Lib.hid hym
  have HCALL := Lib.hid hcall
  have HNB := Lib.hid hnb
  have HL := Lib.hid hl
  have hlo := h.size
  clear hT h hX hY hKs hxm hym hcall hnb hK
  rw [← hl]
  clear hl
  go_enter Tryd.func85, Tryd.ntmps85
  go_wp2
  go_loopw [7, 11] (fun out i wr => ∃ (k : Nat) (s1 : BS) (l : List Int) (A : Option Addr) (c : Nat), k ≤ xs.length ∧ i = .int .i64 k ∧ out = .slice A l.length c ∧ l.length = k ∧ OwnSg wr w.heap.size (.slice A l.length c) l ∧ (∀ m ∈ l, MB m) ∧ BelB lo w wr ∧ Bd a0 a1 lo wr q r s1 ∧ Hid ((let z := run opsP (eachP (muxP c0) (xs.drop k) (ys.drop k)) s1; (z.1, l ++ z.2)) = T)) (fun _ i _ => xs.length - (intOf i).toNat)
  case atStart => exact ⟨0, s, [], none, 0, Nat.zero_le _, rfl, rfl, rfl, OwnSg.nil _ _, (fun _ h => by cases h), .refl _ _, HB.out, Lib.hid (by rw [HT.out]; rfl)⟩
  case round =>
    obtain ⟨k, s1, l, A, c, hk, rfl, rfl, hlk, hown, hlm, hbb, hbd, hst⟩ := hrel
    have HOWN := Lib.hid hown
    have HLM := Lib.hid hlm
    have HBB := Lib.hid hbb
    have HBD := Lib.hid hbd
    have HLK := Lib.hid hlk
    have hsz := hbb.bel.size
    clear hown hlm hbb hbd hlk
    by_cases hlt : k < xs.length
    · have hlt2 : (k : Int) < xs.length := by omega
      have hlty : k < ys.length := by rw [← HL.out]; exact hlt
      obtain ⟨x, hx⟩ : ∃ x, xs[k]? = some x := ⟨_, List.getElem?_eq_getElem hlt⟩
      obtain ⟨y, hy⟩ : ∃ y, ys[k]? = some y := ⟨_, List.getElem?_eq_getElem hlty⟩
      have hxg : xs[k] = x := (List.getElem?_eq_some_iff.1 hx).2
      have hyg : ys[k] = y := (List.getElem?_eq_some_iff.1 hy).2
      have hxM : MB x := HXM.out x (List.mem_of_getElem? hx)
      have hyM : MB y := HYM.out y (List.mem_of_getElem? hy)
      obtain ⟨adx, rfl, -, -⟩ := HX.out.at_int hlt
      obtain ⟨ady, rfl, -, -⟩ := HY.out.at_int hlty
      obtain ⟨m, hm⟩ : ∃ m, m = run opsP ((muxP c0) x y) s1 := ⟨_, rfl⟩
      have HST := Lib.hid ((run_each (o := opsP) (f := (muxP c0)) xs ys k x y hx hy s1 l).symm.trans hst.out)
      have HM := Lib.hid hm
      have HMB : Hid (MB m.2) := Lib.hid (by rw [hm]; exact HNB.out x y s1 HBD.out.nb hxM hyM)
      have HRX : Hid (∀ z, BelB lo w z → z.cell? (adx.add k) = some (.int .i64 x)) := Lib.hid fun z hz => by
        obtain ⟨ad, e, _, hc⟩ := (HX.out.upB hz).at_int hlt
        injection e with e; subst e; rw [← hxg]; exact hc
      have HRY : Hid (∀ z, BelB lo w z → z.cell? (ady.add k) = some (.int .i64 y)) := Lib.hid fun z hz => by
        obtain ⟨ad, e, _, hc⟩ := (HY.out.upB hz).at_int hlty
        injection e with e; subst e; rw [← hyg]; exact hc
      obtain ⟨l2, hl2⟩ : ∃ l2, l2 = l ++ [m.2] := ⟨_, rfl⟩
      have HL2 := Lib.hid hl2
      have hky : (k : Int) < ys.length := by omega
      have hkx : (k : Int) < cx + 1 + xs.length := by omega
      have HXYM := Lib.hid (And.intro hxM hyM)
      clear hm hx hy hxg hyg hst hl2 hxM hyM hlty hkx
      go_wp2
      refine wp_region_rel4 [[], [], [], [], [(2, 16), (3, 17)], [(4, 18)], [], [], [(6, 20), (7, 21)], [(8, 22)], [(1, 15), (5, 19), (9, 23)], [(10, 24)], [(0, 14), (11, 25)], [(12, 26)]]
        (fun x9 y9 => Below x9.heap.size x9 y9)
        [(10, fun x9 y9 => BelB lo x9 y9), (12, fun x9 y9 => x9.grownBy y9 (Value.slice A l.length c).ownBlock)]
        (fun f9 x9 => EachI a0 a1 lo w q r s1 m.1 A c l (f9 10) (f9 12) x9)
        [fun vs9 _ => vs9 0 = (.slice A l.length c),
    fun vs9 _ => vs9 1 = (.func (.func 86) #[] #[.pointer (some ⟨bq, 0, none⟩), .pointer (some ⟨bc, 0, none⟩)]),
    fun vs9 _ => vs9 2 = (.slice (some adx) xs.length cx),
    fun vs9 _ => vs9 3 = (.int .i64 (k : Int)),
    fun vs9 _ => vs9 4 = (.pointer (some (adx.add k))),
    fun vs9 _ => vs9 5 = (.int .i64 x),
    fun vs9 _ => vs9 6 = (.slice (some ady) xs.length cy),
    fun vs9 _ => vs9 7 = (.int .i64 (k : Int)),
    fun vs9 _ => vs9 8 = (.pointer (some (ady.add k))),
    fun vs9 _ => vs9 9 = (.int .i64 y),
    fun vs9 _ => vs9 10 = (.int .i64 m.2),
    fun vs9 y9 => (fun v z => ∃ b : Nat, v = .slice (some ⟨b, 0, none⟩) 1 1 ∧ z.heap[b]? = some (.cells #[.int .i64 m.2] 83 (0, 0)) ∧ some b ≠ (Value.slice A l.length c).ownBlock) (vs9 11) y9,
    fun vs9 y9 => (fun v z => ∃ A' c', v = .slice A' l2.length c' ∧ OwnSg z w.heap.size (.slice A' l2.length c') l2) (vs9 12) y9,
    fun vs9 _ => vs9 13 = vs9 12]
        [(0, 14), (1, 15), (2, 16), (3, 17), (4, 18), (5, 19), (6, 20), (7, 21), (8, 22), (9, 23), (10, 24), (11, 25), (12, 26), (13, 7)] (by kernel_rfl) (by kernel_rfl) (by kernel_rfl) (by kernel_rfl)
        (fun _ => Below.refl _ _) ⟨fun _ => BelB.refl _ _, fun _ => World.grownBy.refl _ _, trivial⟩
        ⟨⟨.inr (fun _ _ _ h _ => h), ⟨.inr (.inr (fun _ _ _ h _ => h)), .inr (.inr (fun _ _ _ h _ => h)), trivial⟩⟩,
    ⟨.inr (fun _ _ _ h _ => h), ⟨.inr (.inr (fun _ _ _ h _ => h)), .inr (.inr (fun _ _ _ h _ => h)), trivial⟩⟩,
    ⟨.inr (fun _ _ _ h _ => h), ⟨.inr (.inr (fun _ _ _ h _ => h)), .inr (.inr (fun _ _ _ h _ => h)), trivial⟩⟩,
    ⟨.inr (fun _ _ _ h _ => h), ⟨.inr (.inr (fun _ _ _ h _ => h)), .inr (.inr (fun _ _ _ h _ => h)), trivial⟩⟩,
    ⟨.inr (fun _ _ _ h _ => h), ⟨.inr (.inr (fun _ _ _ h _ => h)), .inr (.inr (fun _ _ _ h _ => h)), trivial⟩⟩,
    ⟨.inr (fun _ _ _ h _ => h), ⟨.inr (.inr (fun _ _ _ h _ => h)), .inr (.inr (fun _ _ _ h _ => h)), trivial⟩⟩,
    ⟨.inr (fun _ _ _ h _ => h), ⟨.inr (.inr (fun _ _ _ h _ => h)), .inr (.inr (fun _ _ _ h _ => h)), trivial⟩⟩,
    ⟨.inr (fun _ _ _ h _ => h), ⟨.inr (.inr (fun _ _ _ h _ => h)), .inr (.inr (fun _ _ _ h _ => h)), trivial⟩⟩,
    ⟨.inr (fun _ _ _ h _ => h), ⟨.inr (.inr (fun _ _ _ h _ => h)), .inr (.inr (fun _ _ _ h _ => h)), trivial⟩⟩,
    ⟨.inr (fun _ _ _ h _ => h), ⟨.inr (.inr (fun _ _ _ h _ => h)), .inr (.inr (fun _ _ _ h _ => h)), trivial⟩⟩,
    ⟨.inr (fun _ _ _ h _ => h), ⟨.inr (.inl rfl), .inr (.inr (fun _ _ _ h _ => h)), trivial⟩⟩,
    ⟨.inr (fun vs9 x9 y9 h9 hR9 => (show ∀ v9 y8 y7, (fun v z => ∃ b : Nat, v = .slice (some ⟨b, 0, none⟩) 1 1 ∧ z.heap[b]? = some (.cells #[.int .i64 m.2] 83 (0, 0)) ∧ some b ≠ (Value.slice A l.length c).ownBlock) v9 y8 → (fun x9 y9 => Below x9.heap.size x9 y9) y8 y7 → (fun v z => ∃ b : Nat, v = .slice (some ⟨b, 0, none⟩) 1 1 ∧ z.heap[b]? = some (.cells #[.int .i64 m.2] 83 (0, 0)) ∧ some b ≠ (Value.slice A l.length c).ownBlock) v9 y7 from fun _ _ _ ⟨b, h1, h2, h3⟩ hR => ⟨b, h1, (hR.block b (lt_of_block h2)).trans h2, h3⟩) (vs9 11) x9 y9 h9 hR9), ⟨.inl (by kernel_rfl), .inr (.inr (fun vs9 x9 y9 h9 hR9 => (show ∀ v9 y8 y7, (fun v z => ∃ b : Nat, v = .slice (some ⟨b, 0, none⟩) 1 1 ∧ z.heap[b]? = some (.cells #[.int .i64 m.2] 83 (0, 0)) ∧ some b ≠ (Value.slice A l.length c).ownBlock) v9 y8 → (fun x9 y9 => x9.grownBy y9 (Value.slice A l.length c).ownBlock) y8 y7 → (fun v z => ∃ b : Nat, v = .slice (some ⟨b, 0, none⟩) 1 1 ∧ z.heap[b]? = some (.cells #[.int .i64 m.2] 83 (0, 0)) ∧ some b ≠ (Value.slice A l.length c).ownBlock) v9 y7 from fun _ _ _ ⟨b, h1, h2, h3⟩ hR => ⟨b, h1, (hR.block b (lt_of_block h2) h3).trans h2, h3⟩) (vs9 11) x9 y9 h9 hR9)), trivial⟩⟩,
    ⟨.inr (fun vs9 x9 y9 h9 hR9 => (show ∀ v9 y8 y7, (fun v z => ∃ A' c', v = .slice A' l2.length c' ∧ OwnSg z w.heap.size (.slice A' l2.length c') l2) v9 y8 → (fun x9 y9 => Below x9.heap.size x9 y9) y8 y7 → (fun v z => ∃ A' c', v = .slice A' l2.length c' ∧ OwnSg z w.heap.size (.slice A' l2.length c') l2) v9 y7 from fun _ _ _ ⟨A', c', h1, h2⟩ hR => ⟨A', c', h1, own_below h2 hR (Nat.le_refl _)⟩) (vs9 12) x9 y9 h9 hR9), ⟨.inl (by kernel_rfl), .inr (.inl rfl), trivial⟩⟩,
    ⟨.inr (fun _ _ _ h _ => h), ⟨.inr (.inr (fun _ _ _ h _ => h)), .inr (.inr (fun _ _ _ h _ => h)), trivial⟩⟩, trivial⟩ ⟨fun vs vs' x h _ hv => (by dsimp only at hv ⊢; first | (rw [← h]; exact hv) | exact hv),
    fun vs vs' x h _ hv => (by dsimp only at hv ⊢; first | (rw [← h]; exact hv) | exact hv),
    fun vs vs' x h _ hv => (by dsimp only at hv ⊢; first | (rw [← h]; exact hv) | exact hv),
    fun vs vs' x h _ hv => (by dsimp only at hv ⊢; first | (rw [← h]; exact hv) | exact hv),
    fun vs vs' x h _ hv => (by dsimp only at hv ⊢; first | (rw [← h]; exact hv) | exact hv),
    fun vs vs' x h _ hv => (by dsimp only at hv ⊢; first | (rw [← h]; exact hv) | exact hv),
    fun vs vs' x h _ hv => (by dsimp only at hv ⊢; first | (rw [← h]; exact hv) | exact hv),
    fun vs vs' x h _ hv => (by dsimp only at hv ⊢; first | (rw [← h]; exact hv) | exact hv),
    fun vs vs' x h _ hv => (by dsimp only at hv ⊢; first | (rw [← h]; exact hv) | exact hv),
    fun vs vs' x h _ hv => (by dsimp only at hv ⊢; first | (rw [← h]; exact hv) | exact hv),
    fun vs vs' x h _ hv => (by dsimp only at hv ⊢; first | (rw [← h]; exact hv) | exact hv),
    fun vs vs' x h _ hv => (by dsimp only at hv ⊢; first | (rw [← h]; exact hv) | exact hv),
    fun vs vs' x h _ hv => (by dsimp only at hv ⊢; first | (rw [← h]; exact hv) | exact hv),
    fun vs vs' x h hd hv => (by have h2 := hd 12 (by decide); show vs' 13 = vs' 12; exact h.symm.trans (Eq.trans hv h2)), trivial⟩ (⟨HBB.out.trans (.of (below_drewN (Below.refl _ _) 1) (Nat.le_trans hlo hsz)), by rw [if_neg (by simp)]; exact HBD.out.up (below_drewN (Below.refl _ _) 1), fun _ => own_below HOWN.out (below_drewN (Below.refl _ _) 1) (Nat.le_refl _)⟩) ⟨?_, ?_, ?_, ?_, ?_, ?_, ?_, ?_, ?_, ?_, ?_, ?_, ?_, ?_, trivial⟩ ?_
      · intro vals xw f hf1 hf2 hf3 hI hF
        clear hf2 hf3
        dsimp only [owes4, bare]
        simp only [putsD, Act.put, List.setIfInBounds_toArray, List.set_cons_zero, List.set_cons_succ]
        go_wp2
        exact ⟨rfl, rfl, ⟨fun h9 => absurd h9 (Nat.ne_of_beq_eq_false rfl), fun _ => ⟨fun h9 => absurd h9 (Nat.ne_of_beq_eq_false rfl), fun _ => Below.refl _ _⟩⟩, hI⟩
      · intro vals xw f hf1 hf2 hf3 hI hF
        clear hf2 hf3
        dsimp only [owes4, bare]
        simp only [putsD, Act.put, List.setIfInBounds_toArray, List.set_cons_zero, List.set_cons_succ]
        go_wp2
        exact ⟨rfl, rfl, ⟨fun h9 => absurd h9 (Nat.ne_of_beq_eq_false rfl), fun _ => ⟨fun h9 => absurd h9 (Nat.ne_of_beq_eq_false rfl), fun _ => Below.refl _ _⟩⟩, hI⟩
      · intro vals xw f hf1 hf2 hf3 hI hF
        clear hf2 hf3
        dsimp only [owes4, bare]
        simp only [putsD, Act.put, List.setIfInBounds_toArray, List.set_cons_zero, List.set_cons_succ]
        go_wp2
        exact ⟨rfl, rfl, ⟨fun h9 => absurd h9 (Nat.ne_of_beq_eq_false rfl), fun _ => ⟨fun h9 => absurd h9 (Nat.ne_of_beq_eq_false rfl), fun _ => Below.refl _ _⟩⟩, hI⟩
      · intro vals xw f hf1 hf2 hf3 hI hF
        clear hf2 hf3
        dsimp only [owes4, bare]
        simp only [putsD, Act.put, List.setIfInBounds_toArray, List.set_cons_zero, List.set_cons_succ]
        go_wp2
        exact ⟨rfl, rfl, ⟨fun h9 => absurd h9 (Nat.ne_of_beq_eq_false rfl), fun _ => ⟨fun h9 => absurd h9 (Nat.ne_of_beq_eq_false rfl), fun _ => Below.refl _ _⟩⟩, hI⟩
      · intro vals xw f hf1 hf2 hf3 hI hF
        clear hf2 hf3
        simp only [saysD, List.getD_cons_zero, List.getD_cons_succ, and_true] at hF
        obtain ⟨e16, e17⟩ := hF
        dsimp only [owes4, bare]
        simp only [putsD, Act.put, List.setIfInBounds_toArray, List.set_cons_zero, List.set_cons_succ]
        simp only [e16, e17]
        go_wp2
        exact ⟨rfl, rfl, ⟨fun h9 => absurd h9 (Nat.ne_of_beq_eq_false rfl), fun _ => ⟨fun h9 => absurd h9 (Nat.ne_of_beq_eq_false rfl), fun _ => Below.refl _ _⟩⟩, hI⟩
      · intro vals xw f hf1 hf2 hf3 hI hF
        clear hf2 hf3
        simp only [saysD, List.getD_cons_zero, List.getD_cons_succ, and_true] at hF
        have e18 := hF
        dsimp only [owes4, bare]
        simp only [putsD, Act.put, List.setIfInBounds_toArray, List.set_cons_zero, List.set_cons_succ]
        simp only [e18]
        have c9 := HRX.out _ hI.1
        go_wp2
        exact ⟨rfl, rfl, ⟨fun h9 => absurd h9 (Nat.ne_of_beq_eq_false rfl), fun _ => ⟨fun h9 => absurd h9 (Nat.ne_of_beq_eq_false rfl), fun _ => Below.refl _ _⟩⟩, hI⟩
      · intro vals xw f hf1 hf2 hf3 hI hF
        clear hf2 hf3
        dsimp only [owes4, bare]
        simp only [putsD, Act.put, List.setIfInBounds_toArray, List.set_cons_zero, List.set_cons_succ]
        go_wp2
        exact ⟨rfl, rfl, ⟨fun h9 => absurd h9 (Nat.ne_of_beq_eq_false rfl), fun _ => ⟨fun h9 => absurd h9 (Nat.ne_of_beq_eq_false rfl), fun _ => Below.refl _ _⟩⟩, hI⟩
      · intro vals xw f hf1 hf2 hf3 hI hF
        clear hf2 hf3
        dsimp only [owes4, bare]
        simp only [putsD, Act.put, List.setIfInBounds_toArray, List.set_cons_zero, List.set_cons_succ]
        go_wp2
        exact ⟨rfl, rfl, ⟨fun h9 => absurd h9 (Nat.ne_of_beq_eq_false rfl), fun _ => ⟨fun h9 => absurd h9 (Nat.ne_of_beq_eq_false rfl), fun _ => Below.refl _ _⟩⟩, hI⟩
      · intro vals xw f hf1 hf2 hf3 hI hF
        clear hf2 hf3
        simp only [saysD, List.getD_cons_zero, List.getD_cons_succ, and_true] at hF
        obtain ⟨e20, e21⟩ := hF
        dsimp only [owes4, bare]
        simp only [putsD, Act.put, List.setIfInBounds_toArray, List.set_cons_zero, List.set_cons_succ]
        simp only [e20, e21]
        go_wp2
        exact ⟨rfl, rfl, ⟨fun h9 => absurd h9 (Nat.ne_of_beq_eq_false rfl), fun _ => ⟨fun h9 => absurd h9 (Nat.ne_of_beq_eq_false rfl), fun _ => Below.refl _ _⟩⟩, hI⟩
      · intro vals xw f hf1 hf2 hf3 hI hF
        clear hf2 hf3
        simp only [saysD, List.getD_cons_zero, List.getD_cons_succ, and_true] at hF
        have e22 := hF
        dsimp only [owes4, bare]
        simp only [putsD, Act.put, List.setIfInBounds_toArray, List.set_cons_zero, List.set_cons_succ]
        simp only [e22]
        have c9 := HRY.out _ hI.1
        go_wp2
        exact ⟨rfl, rfl, ⟨fun h9 => absurd h9 (Nat.ne_of_beq_eq_false rfl), fun _ => ⟨fun h9 => absurd h9 (Nat.ne_of_beq_eq_false rfl), fun _ => Below.refl _ _⟩⟩, hI⟩
      · intro vals xw f hf1 hf2 hf3 hI hF
        have k12 : f 12 = false := hf3 12 (by kernel_rfl)
        clear hf2 hf3
        simp only [saysD, List.getD_cons_zero, List.getD_cons_succ, and_true] at hF
        obtain ⟨e15, e19, e23⟩ := hF
        dsimp only [owes4, bare]
        simp only [putsD, Act.put, List.setIfInBounds_toArray, List.set_cons_zero, List.set_cons_succ]
        simp only [e15, e19, e23]
        obtain ⟨i1, i2, i3⟩ := hI
        rw [hf1, if_neg (by simp)] at i2
        have I3 := Lib.hid (i3 k12)
        have I1 := Lib.hid i1
        have HC := Lib.hid (HCALL.out x y s1 xw i2 HXYM.out.1 HXYM.out.2 (HK.out xw i1))
        rw [← HM.out] at HC
        clear i1 i2 i3
        go_wp2_with fail
        refine HC.out.mono ?_
        rintro e wx ⟨rfl, hb9, hd9⟩
        have HB9 := Lib.hid hb9
        have HD9 := Lib.hid hd9
        clear hb9 hd9 HC
        go_wp2
        exact ⟨rfl, rfl, ⟨fun _ => HB9.out, fun h9 => absurd rfl h9⟩, I1.out.trans HB9.out, by rw [did_same, if_pos rfl]; exact HD9.out, fun _ => I3.out.upB HB9.out⟩
      · intro vals xw f hf1 hf2 hf3 hI hF
        have k12 : f 12 = false := hf3 12 (by kernel_rfl)
        clear hf2 hf3
        simp only [saysD, List.getD_cons_zero, List.getD_cons_succ, and_true] at hF
        have e24 := hF
        dsimp only [owes4, bare]
        simp only [putsD, Act.put, List.setIfInBounds_toArray, List.set_cons_zero, List.set_cons_succ]
        simp only [e24]
        have k9 := hI.2.2 k12
        have h9 : some xw.heap.size ≠ (Value.slice A l.length c).ownBlock := fun e => by have := (k9.lt _ e.symm).2; omega
        have H9 := Lib.hid h9
        have hal : Below xw.heap.size xw (xw.alloc (.cells #[.int .i64 m.2] 83)) := (Below.refl _ _).alloc (Nat.le_refl _) _
        have HI := Lib.hid hI
        have HAL := Lib.hid hal
        clear k9 h9 hal hI
        go_wp2
        exact ⟨rfl, ⟨_, rfl, heap_alloc_new _ _, H9.out⟩, ⟨fun h9 => absurd h9 (Nat.ne_of_beq_eq_false rfl), fun _ => ⟨fun h9 => absurd h9 (Nat.ne_of_beq_eq_false rfl), fun _ => HAL.out⟩⟩, HI.out.up HAL.out⟩
      · intro vals xw f hf1 hf2 hf3 hI hF
        clear hf2 hf3
        simp only [saysD, List.getD_cons_zero, List.getD_cons_succ, and_true] at hF
        obtain ⟨e14, b9, e25, hb9, _⟩ := hF
        dsimp only [owes4, bare]
        simp only [putsD, Act.put, List.setIfInBounds_toArray, List.set_cons_zero, List.set_cons_succ]
        simp only [e14, e25]
        obtain ⟨i1, i2, i3⟩ := hI
        have hsz9 := i1.bel.size
        have hll : l.length ≤ 1048576 := by have := HLK.out; omega
        have I1 := Lib.hid i1
        have I2 := Lib.hid i2
        have I3 := Lib.hid (i3 hf1)
        clear i1 i2 i3
        at_builtin; refine wpList_append_sig2 (ys := l2) (by rfl) (.tmp 14) (.tmp 25) (by rfl) (by rfl) (by rfl) I3.out hb9 hll hsz9 HL2.out ?_; intro A9 c9 w9 hown9 hg9
        obtain ⟨hs9, hb8⟩ := I3.out.grown hg9 hsz9 hlo
        go_wp2
        exact ⟨rfl, ⟨A9, c9, rfl, hown9⟩, ⟨fun h9 => absurd h9 (Nat.ne_of_beq_eq_false rfl), fun _ => ⟨fun _ => hg9, fun h9 => absurd rfl h9⟩⟩, I1.out.then hb8 hlo, I2.out.upS hs9, fun h => absurd ((did_same f 12).symm.trans h) (by simp)⟩
      · intro vals xw f hf1 hf2 hf3 hI hF
        clear hf2 hf3
        simp only [saysD, List.getD_cons_zero, List.getD_cons_succ, and_true] at hF
        obtain ⟨A8, c8, e26, _⟩ := hF
        dsimp only [owes4, bare]
        simp only [putsD, Act.put, List.setIfInBounds_toArray, List.set_cons_zero, List.set_cons_succ]
        simp only [e26]
        go_wp2
        exact ⟨rfl, e26.symm, ⟨fun h9 => absurd h9 (Nat.ne_of_beq_eq_false rfl), fun _ => ⟨fun h9 => absurd h9 (Nat.ne_of_beq_eq_false rfl), fun _ => Below.refl _ _⟩⟩, hI⟩
      · intro vals xw f hall hI hF
        rw [show List.range _ = [0, 1, 2, 3, 4, 5, 6, 7, 8, 9, 10, 11, 12, 13] from rfl] at hF
        simp only [says, List.getD_cons_zero, List.getD_cons_succ, and_true] at hF
        obtain ⟨i1, i2, _⟩ := hI
        rw [hall 10 (by decide), if_pos rfl] at i2
        obtain ⟨_, _, _, _, _, _, _, _, _, _, _, _, ⟨A8, c8, e26, o26⟩, e7⟩ := hF
        rw [e26] at e7
        simp only [putsD, Act.put, List.setIfInBounds_toArray, List.set_cons_zero, List.set_cons_succ]
        simp only [e7]
        have I1 := Lib.hid i1
        have I2 := Lib.hid i2
        have O26 := Lib.hid o26
        clear i1 i2 o26 e26 e7
        go_wp2
        go_roundw
        case rel => exact ⟨k + 1, m.1, l2, A8, c8, by omega, by go_num, rfl, by rw [HL2.out, List.length_append, HLK.out]; rfl, O26.out, fun z hz => by
                rw [HL2.out] at hz
                rcases List.mem_append.1 hz with hz | hz
                · exact HLM.out z hz
                · rw [List.mem_singleton.1 hz]; exact HMB.out, I1.out, I2.out, Lib.hid (by rw [HL2.out, HM.out]; exact HST.out)⟩
        case measure => simp [intOf]; omega
    · have hke : k = xs.length := by omega
      subst hke
      have hlt2 : ¬ ((xs.length : Nat) : Int) < xs.length := by omega
      go_wp2
      go_ret
      have hd1 : xs.drop xs.length = [] := List.drop_length
      have hd2 : ys.drop xs.length = [] := by rw [HL.out]; exact List.drop_length
      have hst2 := hst.out
      rw [hd1, hd2] at hst2
      have hT2 : T = (s1, l) := by rw [← hst2]; show (s1, l ++ []) = _; rw [List.append_nil]
      rw [hT2]
      exact ⟨A, c, rfl, HOWN.out.pl.1, HOWN.out.pl.2, HLM.out, HBB.out, HBD.out⟩
theorem mux_mb {c x y : Int} {s : BS} (h : NB s.n) (hc : RB c) (hx : RB x) (hy : RB y) : NB (run opsP (muxP c x y) s).1.n ∧ MB (run opsP (muxP c x y) s).2 := by
  have h1 := opsP_and_mb (x := c) (y := x) h hc hx
  have h2 := opsP_and_mb (x := -c) (y := y) h1.1 hc.neg hy
  have h3 := opsP_and_mb (x := -(opsP.and s c x).2) (y := -(opsP.and (opsP.and s c x).1 (-c) y).2) h2.1 h1.2.rb.neg h2.2.rb.neg
  exact ⟨h3.1, h3.2.neg⟩
theorem choose1_any (a0 a1 : Addr) (lo q r bq bc : Nat) (s : BS) (c x y : Int) (w : World) (h : Bd a0 a1 lo w q r s) (hc : MB c) (hx : MB x) (hy : MB y)
    (hq : w.heap[bq]? = some (.cells #[.pointer (some ⟨q, 0, none⟩)] 73 (0, 0))) (hcc : w.heap[bc]? = some (.cells #[.int .i64 c] 83 (0, 0))) :
    Calls Tryd.prog 86 #[.int .i64 x, .int .i64 y, .pointer (some ⟨bq, 0, none⟩), .pointer (some ⟨bc, 0, none⟩)] w (RetM a0 a1 lo w q r (run opsP (muxP c x y) s)) := by
  have z0 : w.cell? ⟨bq, 0, none⟩ = some (.pointer (some ⟨q, 0, none⟩)) := (cell_of_block hq 0).1
  have z1 : w.cell? ⟨bc, 0, none⟩ = some (.int .i64 c) := (cell_of_block hcc 0).1
  have HC := Lib.hid (bMux_any a0 a1 lo q r s c x y w h hc hx hy)
  clear h hc hx hy hq hcc
  go_enter Tryd.func86, Tryd.ntmps86
  go_wp2_with fail
  refine HC.out.mono ?_
  rintro e w1 ⟨rfl, hb, hd⟩
  have HB := Lib.hid hb
  have HD := Lib.hid hd
  clear hb hd HC
  go_wp2
  go_ret
  exact ⟨rfl, HB.out, HD.out⟩
end Go.Proofs.YtjghcaghigebjaaDoor

/-! Rows of the call's own whose elements may lead on to other blocks; append of one element. No program is named here. -/
namespace Go.Proofs.YtjghcaghigebjaaDoor
open Go Go.RowKit

/-- What is so of a block hangs on the block alone. -/
def Stay (Q : World → Nat → Prop) : Prop := ∀ w w' b, w'.heap[b]? = w.heap[b]? → Q w b → Q w' b
theorem Stay.any : Stay (fun _ _ => True) := fun _ _ _ _ _ => trivial
theorem Stay.own (lo : Nat) : Stay (fun w b => lo ≤ b ∧ ∀ o, w.frozen? ⟨b, o, none⟩ = false) := fun w w' b h hq => ⟨hq.1, fun o => by
  rw [← hq.2 o]; exact World.frozen?_of_block (a := ⟨b, o, none⟩) h⟩
/-- A row of the call's own, of elements that lead to other blocks. -/
def OwnL {α : Type} (L : Lay α) (Q : World → Nat → Prop) (e : TypeId) (w : World) (lo : Nat) (v : Value) (xs : List α) : Prop :=
  ∃ cs, w.ownsRow lo e L.size v xs.length cs ∧ ∀ i x, xs[i]? = some x → ∃ vs, L.R w (fun b => b < w.heap.size ∧ v.ownBlock ≠ some b ∧ Q w b) x vs ∧ ∀ j u, vs[j]? = some u → cs[i * L.size + j]? = some u
section
variable {α : Type} {L : Lay α} {Q : World → Nat → Prop} {e : TypeId} {lo : Nat} {w : World} {v : Value} {xs : List α}
theorem OwnL.nil (L : Lay α) (Q : World → Nat → Prop) (e : TypeId) (w : World) (lo : Nat) : OwnL L Q e w lo (.slice none 0 0) [] := ⟨[], World.ownsRow_nil _ _ _ _, fun i x h => by simp at h⟩
/-- Nothing that the row leads to has turned. -/
theorem OwnL.keep {w' : World} (h : OwnL L Q e w lo v xs) (hQ : Stay Q) (hg : w.grownBy w' none) : OwnL L Q e w' lo v xs := by
  obtain ⟨cs, h1, h2⟩ := h
  refine ⟨cs, rows_kept h1 hg (by simp), fun i x hx => ?_⟩
  obtain ⟨vs, hr, hu⟩ := h2 i x hx
  refine ⟨vs, L.mono (fun b hb => ?_) (L.keep (fun b hb => hg.block b hb.1 (by simp)) hr), hu⟩
  exact ⟨Nat.lt_of_lt_of_le hb.1 hg.size, hb.2.1, hQ _ _ _ (hg.block b hb.1 (by simp)) hb.2.2⟩
theorem grown_of_below {a b : World} {row : Option Nat} (h : Below a.heap.size a b) : a.grownBy b row := ⟨h.os, h.tape, h.output, h.size, fun i hi _ => h.block i hi⟩
theorem OwnL.up {w' : World} (h : OwnL L Q e w lo v xs) (hQ : Stay Q) (hb : Below w.heap.size w w') : OwnL L Q e w' lo v xs := h.keep hQ (grown_of_below hb)
theorem OwnL.form (h : OwnL L Q e w lo v xs) : ∃ A c, v = .slice A xs.length c ∧ xs.length ≤ c := by
  obtain ⟨cs, h1, h2⟩ := h
  rcases h1.2 with ⟨e1, e2⟩ | ⟨g, cap, cur, e1, _, _, h3, _⟩
  · exact ⟨none, 0, by rw [e1, e2], by omega⟩
  · exact ⟨_, cap, e1, h3⟩
theorem OwnL.cap {A : Option Addr} {n c : Nat} (h : OwnL L Q e w lo (.slice A n c) xs) : n = xs.length ∧ xs.length ≤ c := by
  obtain ⟨A', c', e1, h1⟩ := h.form
  injection e1 with e1 e2 e3
  exact ⟨e2, by omega⟩
theorem OwnL.len0 {n c : Nat} (h : OwnL L Q e w lo (.slice none n c) xs) : xs.length = 0 := by
  obtain ⟨cs, h1, h2⟩ := h
  rcases h1.2 with ⟨e1, e2⟩ | ⟨g, cap, cur, e1, _⟩
  · exact e2
  · cases e1
/-- How it reads: the row's own block, and those of its elements. -/
theorem OwnL.sl {A : Option Addr} {c : Nat} (h : OwnL L Q e w lo (.slice A xs.length c) xs) : L.Sl w (fun b => b < w.heap.size ∧ (lo ≤ b ∧ (∀ o, w.frozen? ⟨b, o, .none⟩ = false) ∨ Q w b)) A xs := by
  obtain ⟨cs, h1, h2⟩ := h
  intro h0
  rcases h1.2 with ⟨e1, e2⟩ | ⟨g, cap, cur, e1, hg, _⟩
  · omega
  · injection e1 with e1 e2 e3
    subst e1
    refine ⟨_, rfl, ⟨(h1.lt g rfl).2, .inl ⟨hg, fun o => h1.frozenAt o⟩⟩, fun k x hx => ?_⟩
    obtain ⟨vs, hr, hu⟩ := h2 k x hx
    exact ⟨vs, L.mono (fun b hb => ⟨hb.1, .inr hb.2.2⟩) hr, fun j u hj => h1.cells (g := g) rfl _ _ (hu j u hj)⟩
theorem OwnL.rd {A : Option Addr} {c : Nat} (h : OwnL L Q e w lo (.slice A xs.length c) xs) : L.Rd w A xs := h.sl.mono fun _ h => h.1
theorem OwnL.own {A : Option Addr} {c : Nat} (h : OwnL L (fun w b => lo ≤ b ∧ ∀ o, w.frozen? ⟨b, o, none⟩ = false) e w lo (.slice A xs.length c) xs) : L.Sl w (Own lo w) A xs :=
  h.sl.mono fun _ h => ⟨h.2.elim (fun h => h.1) (fun h => h.1), h.1, h.2.elim (fun h => h.2) (fun h => h.2)⟩
/-- The element at a place, as cells. -/
theorem OwnL.at {A : Option Addr} {c : Nat} (h : OwnL L Q e w lo (.slice A xs.length c) xs) {k : Nat} (hk : k < xs.length) : ∃ ad, A = some ad ∧ ad.block < w.heap.size := by
  obtain ⟨ad, e1, hf, _⟩ := h.rd (by omega)
  exact ⟨ad, e1, hf⟩
end
theorem OwnL.lt {α : Type} {L : Lay α} {Q : World → Nat → Prop} {e : TypeId} {w : World} {lo : Nat} {v : Value} {xs : List α} (h : OwnL L Q e w lo v xs) : ∀ g, v.ownBlock = some g → lo ≤ g ∧ g < w.heap.size := by
  obtain ⟨cs, h1, _⟩ := h
  exact fun g hg => h1.lt g hg
/-- append of one element, which has just been laid in a block of its own. -/
theorem wpList_append_row {P : Program} {Q' : Exit → Act → World → Prop} {ops : Array Oper} {rest : List Oper} {o : Oper} {a : Act} {W : World} {α : Type} {L : Lay α} {Q : World → Nat → Prop} {t e : TypeId} {i : TypeInfo} {z : Value} {bytes : Nat} {G : Nat → Prop}
    {lo : Nat} {A : Option Addr} {c : Nat} {xs ys : List α} {x : α} {cs : Array Value} {e' : TypeId} (hgd : o.guard = none) (s y : Operand)
    (ho : o.op = .call { callee := .builtin .append, args := #[s, y], argTypes := #[t, t] }) (ht : P.underlying t = some (.slice e)) (hi : P.info? e = some i) (hz : i.zero = some z) (hsize : i.size = L.size) (hby : i.bytes = bytes) (hzs : z.cells.size = L.size) (hsz : 0 < L.size)
    (hs : a.eval s = .slice A xs.length c) (hy : a.eval y = .slice (some ⟨W.heap.size, 0, none⟩) 1 1)
    (hown : OwnL L Q e W lo (.slice A xs.length c) xs) (hQ : Stay Q) (hr : L.R W G x cs.toList) (hG : ∀ b, G b → b < W.heap.size ∧ (Value.slice A xs.length c).ownBlock ≠ some b ∧ Q W b) (h1 : ∀ u ∈ cs.toList, u.oneCell' = true)
    (hn : xs.length ≤ 2000000) (hb : bytes ≤ 128) (hlo : lo ≤ W.heap.size) (hys : ys = xs ++ [x])
    (h : ∀ A' c' w', OwnL L Q e w' lo (.slice A' ys.length c') ys → W.grownBy w' (Value.slice A xs.length c).ownBlock →
      ((Value.slice A' ys.length c').ownBlock = (Value.slice A xs.length c).ownBlock ∨ ∃ g, (Value.slice A' ys.length c').ownBlock = some g ∧ W.heap.size ≤ g) → wpList P ops Q' rest (a.put o.dst (.slice A' ys.length c')) w') :
    wpList P ops Q' (o :: rest) a (W.alloc (.cells cs e')) := by
  have hal : Below W.heap.size W (W.alloc (.cells cs e')) := (Below.refl _ _).alloc (Nat.le_refl _) _
  have hl : ys.length = xs.length + 1 := by rw [hys]; simp
  have hlc : cs.toList.length = L.size := L.len hr
  obtain ⟨ks, hk1, hk2⟩ := hown.up hQ hal
  have hbb : (xs.length + 1) * bytes ≤ 140737488355328 := by
    have : (xs.length + 1) * bytes ≤ 2000001 * 128 := Nat.mul_le_mul (by omega) hb
    omega
  refine wpList_plain hgd fun _ hK => ?_
  obtain ⟨v', w', hrun, ho', hg', _, hbk⟩ := run_append_own_at (P := P) (W.alloc (.cells cs e')) lo t o.type e i z L.size bytes ht hi hz hsize hby hzs hsz
    (.slice A xs.length c) xs.length ks hk1 ⟨W.heap.size, 0, none⟩ 1 1 cs.toList (by omega) (fun j u hu => World.news_of_block (heap_alloc_new W (.cells cs e')) j u hu) h1 (by unfold maxLen; omega) hbb (Nat.le_trans hlo hal.size)
  have hform : ∃ A' c', v' = .slice A' ys.length c' := by
    rcases ho'.2 with ⟨e1, e2⟩ | ⟨g, cap, cur, e1, _⟩
    · omega
    · exact ⟨_, cap, by rw [e1, hl]⟩
  obtain ⟨A', c', rfl⟩ := hform
  have hgW := grown_then hal hg'
  have hbk2 : (Value.slice A' ys.length c').ownBlock = (Value.slice A xs.length c).ownBlock ∨ ∃ g, (Value.slice A' ys.length c').ownBlock = some g ∧ W.heap.size ≤ g := by
    rcases hbk with e | e
    · exact .inl e
    · exact .inr ⟨_, e, hal.size⟩
  have hne : ∀ b, b < W.heap.size → (Value.slice A xs.length c).ownBlock ≠ some b → (Value.slice A' ys.length c').ownBlock ≠ some b := fun b h2 h3 h4 => by
    rcases hbk2 with e | ⟨g, e, hg⟩
    · exact h3 (e ▸ h4)
    · rw [e] at h4; injection h4 with h4; omega
  unfold Oper.wp execOp
  simp only [ho, resolve, invoke, builtin, Sem.run_bind, Sem.run_pure, Result.andThen_ok, List.map_toArray, List.map_cons, List.map_nil, hs, hy, hrun]
  refine hK _ _ (h A' c' w' ⟨ks ++ cs.toList, by rw [hl] at ho' ⊢; exact ho', fun k y hky => ?_⟩ hgW hbk2)
  have hkl : ks.length = xs.length * L.size := hk1.1
  rw [hys] at hky
  have hmove : ∀ {y : α} {vs : List Value}, L.R W (fun b => b < W.heap.size ∧ (Value.slice A xs.length c).ownBlock ≠ some b ∧ Q W b) y vs → L.R w' (fun b => b < w'.heap.size ∧ (Value.slice A' ys.length c').ownBlock ≠ some b ∧ Q w' b) y vs := fun hR =>
    L.mono (fun b h9 => ⟨Nat.lt_of_lt_of_le h9.1 hgW.size, hne b h9.1 h9.2.1, hQ _ _ _ (hgW.block b h9.1 (fun e9 => h9.2.1 e9.symm)) h9.2.2⟩) (L.keep (fun b h9 => hgW.block b h9.1 (fun e9 => h9.2.1 e9.symm)) hR)
  rcases Nat.lt_or_ge k xs.length with h2 | h2
  · rw [List.getElem?_append_left h2] at hky
    obtain ⟨cs0, h01, h02⟩ := hown
    obtain ⟨vs, hR, hu⟩ := hk2 k y hky
    obtain ⟨vs0, hR0, hu0⟩ := h02 k y hky
    refine ⟨vs, ?_, fun j u hj => ?_⟩
    · refine L.mono (fun b h9 => ?_) (L.keep (fun b h9 => hg'.block b h9.1 (fun e9 => h9.2.1 e9.symm)) hR)
      have hq := hQ _ _ _ (hg'.block b h9.1 (fun e9 => h9.2.1 e9.symm)) h9.2.2
      refine ⟨Nat.lt_of_lt_of_le h9.1 hg'.size, fun e9 => ?_, hq⟩
      rcases hbk with e | e
      · exact h9.2.1 (e ▸ e9)
      · rw [e] at e9; injection e9 with e9; have := h9.1; omega
    · have hjl : j < vs.length := by
        rcases Nat.lt_or_ge j vs.length with h | h
        · exact h
        · rw [List.getElem?_eq_none h] at hj; cases hj
      have hvl := L.len hR
      have hm : (k + 1) * L.size ≤ xs.length * L.size := Nat.mul_le_mul_right _ h2
      rw [Nat.add_mul, Nat.one_mul] at hm
      rw [List.getElem?_append_left (by omega)]
      exact hu j u hj
  · rw [List.getElem?_append_right h2] at hky
    have hk0 : k = xs.length := by
      rcases Nat.eq_or_lt_of_le h2 with h3 | h3
      · exact h3.symm
      · rw [List.getElem?_eq_none (by simp; omega)] at hky; cases hky
    subst hk0
    simp at hky
    subst hky
    refine ⟨cs.toList, hmove (L.mono hG hr), fun j u hj => ?_⟩
    rw [List.getElem?_append_right (by omega), show xs.length * L.size + j - ks.length = j by omega]
    exact hj
end Go.Proofs.YtjghcaghigebjaaDoor

/-! Draws: what a reader's user leaves; a number of a list. -/
namespace Go.Proofs.YtjghcaghigebjaaDoor
open Go Go.RowKit

theorem own_of_heap {w w' : World} {base : Nat} {e : TypeId} {size n : Nat} {v : Value} {xs : List Value} (h : w.ownsRow base e size v n xs) (hk : ∀ g, v.ownBlock = some g → w'.heap[g]? = w.heap[g]?) : w'.ownsRow base e size v n xs := by
  refine ⟨h.1, ?_⟩
  rcases h.2 with hn | ⟨g, cap, cur, rfl, hb, hgg, rest⟩
  · exact .inl hn
  · exact .inr ⟨g, cap, cur, rfl, hb, (hk g rfl).trans hgg, rest⟩
/-- But for the blocks S nothing turned. -/
structure Gr (S : Nat → Prop) (w w' : World) : Prop where
  os : w'.os = w.os
  tape : w'.tape = w.tape
  output : w'.output = w.output
  size : w.heap.size ≤ w'.heap.size
  block : ∀ i, i < w.heap.size → ¬ S i → w'.heap[i]? = w.heap[i]?
theorem Gr.refl (S : Nat → Prop) (w : World) : Gr S w w := ⟨rfl, rfl, rfl, Nat.le_refl _, fun _ _ _ => rfl⟩
theorem Gr.trans {S : Nat → Prop} {a b c : World} (h : Gr S a b) (k : Gr S b c) : Gr S a c :=
  ⟨k.os.trans h.os, k.tape.trans h.tape, k.output.trans h.output, Nat.le_trans h.size k.size, fun i hi hn => (k.block i (Nat.lt_of_lt_of_le hi h.size) hn).trans (h.block i hi hn)⟩
theorem Gr.mono {S T : Nat → Prop} {a b : World} (h : Gr S a b) (hST : ∀ x, S x → T x) : Gr T a b := ⟨h.os, h.tape, h.output, h.size, fun i hi hn => h.block i hi (fun e => hn (hST i e))⟩
theorem Gr.below {S : Nat → Prop} {w w' : World} (h : Below w.heap.size w w') : Gr S w w' := ⟨h.os, h.tape, h.output, h.size, fun i hi _ => h.block i hi⟩
theorem Gr.up {S : Nat → Prop} {a w w' : World} (h : Gr S a w) (hb : Below w.heap.size w w') : Gr S a w' := h.trans (.below hb)
theorem Gr.one {S : Nat → Prop} {w w' : World} {g : Nat} (h : w.grownBy w' (some g)) (hg : S g) : Gr S w w' := ⟨h.os, h.tape, h.output, h.size, fun i hi hn => h.block i hi (fun e => by injection e with e; exact hn (e ▸ hg))⟩
theorem Gr.set {S : Nat → Prop} {a w : World} (h : Gr S a w) (g o : Nat) (u : Value) (hg : S g ∨ a.heap.size ≤ g) : Gr S a (w.setCell ⟨g, o, none⟩ u) :=
  ⟨h.os, h.tape, h.output, by rw [size_setCell]; exact h.size, fun i hi hn => (Below.heap_setCell w ⟨g, o, none⟩ u i (fun e => hg.elim (fun h9 => hn (by rw [e]; exact h9)) (fun h9 => by rw [e] at hi; exact absurd hi (by show ¬ g < _; omega)))).trans (h.block i hi hn)⟩
/-- A row of one's own has grown. -/
theorem Gr.own {S : Nat → Prop} {a w w' : World} {row : Option Nat} (h : Gr S a w) (k : w.grownBy w' row) (hr : ∀ g, row = some g → a.heap.size ≤ g) : Gr S a w' :=
  ⟨k.os.trans h.os, k.tape.trans h.tape, k.output.trans h.output, Nat.le_trans h.size k.size, fun i hi hn => (k.block i (Nat.lt_of_lt_of_le hi h.size) (fun e => by have := hr i e.symm; omega)).trans (h.block i hi hn)⟩
/-- From the blocks of a later start on, all is the caller's gain. -/
theorem Gr.then {S T : Nat → Prop} {a b c : World} (h : Gr S a b) (k : Gr T b c) (hT : ∀ x, T x → S x ∨ a.heap.size ≤ x) : Gr S a c :=
  ⟨k.os.trans h.os, k.tape.trans h.tape, k.output.trans h.output, Nat.le_trans h.size k.size, fun i hi hn => (k.block i (Nat.lt_of_lt_of_le hi h.size) (fun e => (hT i e).elim hn (fun h9 => by omega))).trans (h.block i hi hn)⟩
theorem Gr.to_below {S : Nat → Prop} {a b : World} (h : Gr S a b) (hS : ∀ x, S x → a.heap.size ≤ x) : Below a.heap.size a b := ⟨h.os, h.tape, h.output, h.size, fun i hi => h.block i hi (fun e => by have := hS i e; omega)⟩
theorem Gr.to_below' {S : Nat → Prop} {B : Nat} {a b : World} (h : Gr S a b) (hB : B ≤ a.heap.size) (hS : ∀ x, S x → B ≤ x) : Below B a b := ⟨h.os, h.tape, h.output, h.size, fun i hi => h.block i (by omega) (fun e => by have := hS i e; omega)⟩
theorem Gr.heap {S : Nat → Prop} {w w' : World} {g : Nat} {o : Obj} (h : Gr S w w') (hg : ¬ S g) (hb : w.heap[g]? = some o) : w'.heap[g]? = some o := (h.block g (Array.getElem?_eq_some_iff.1 hb).1 hg).trans hb
theorem Rdr.gr {S : Nat → Prop} {w w' : World} {r : Nat} {p : Int} (h : Rdr w r p) (k : Gr S w w') (hS : ∀ x, S x → r < x) : Rdr w' r p :=
  h.keep fun b hb => k.block b (Nat.lt_of_le_of_lt hb h.lt) (fun e => by have := hS b e; omega)
theorem Rdr.own {w w' : World} {r : Nat} {p : Int} {row : Option Nat} (h : Rdr w r p) (k : w.grownBy w' row) (hr : ∀ g, row = some g → r < g) : Rdr w' r p :=
  h.keep fun b hb => k.block b (Nat.lt_of_le_of_lt hb h.lt) (fun e => by have := hr b e.symm; omega)
theorem Rdr.set {w : World} {r g o : Nat} {p : Int} {u : Value} (h : Rdr w r p) (hg : r < g) : Rdr (w.setCell ⟨g, o, none⟩ u) r p :=
  h.keep fun b hb => Below.heap_setCell w ⟨g, o, none⟩ u b (fun e => by have : b = g := e; omega)
/-- What stays: data that do not lie in the blocks S. -/
def Ab (S : Nat → Prop) (w : World) (b : Nat) : Prop := b < w.heap.size ∧ ¬ S b
theorem Lay.Sl.gr {α : Type} {L : Lay α} {w w' : World} {S : Nat → Prop} {A : Option Addr} {xs : List α} (h : L.Sl w (Ab S w) A xs) (hg : Gr S w w') : L.Sl w' (Ab S w') A xs :=
  (h.keep fun b hb => hg.block b hb.1 hb.2).mono fun b hb => ⟨Nat.lt_of_lt_of_le hb.1 hg.size, hb.2⟩
theorem Lay.Sl.ab_rd {α : Type} {L : Lay α} {w : World} {S : Nat → Prop} {A : Option Addr} {xs : List α} (h : L.Sl w (Ab S w) A xs) : L.Rd w A xs := h.mono fun _ h => h.1
theorem Lay.Sl.ab_mono {α : Type} {L : Lay α} {w : World} {S T : Nat → Prop} {A : Option Addr} {xs : List α} (h : L.Sl w (Ab S w) A xs) (hT : ∀ b, b < w.heap.size → T b → S b) : L.Sl w (Ab T w) A xs := h.mono fun b h => ⟨h.1, fun e => h.2 (hT b h.1 e)⟩
abbrev NotIn (S : Nat → Prop) : World → Nat → Prop := fun _ b => ¬ S b
theorem Stay.notIn (S : Nat → Prop) : Stay (NotIn S) := fun _ _ _ _ h => h
theorem OwnL.gr {α : Type} {L : Lay α} {e : TypeId} {w w' : World} {lo : Nat} {S : Nat → Prop} {v : Value} {xs : List α} (h : OwnL L (NotIn S) e w lo v xs) (hg : Gr S w w') (hr : ∀ b, S b → b < lo) : OwnL L (NotIn S) e w' lo v xs := by
  obtain ⟨cs, h1, h2⟩ := h
  refine ⟨cs, own_of_heap h1 fun g hg' => hg.block g (h1.lt g hg').2 (fun e => by have := hr g e; have := (h1.lt g hg').1; omega), fun i x hx => ?_⟩
  obtain ⟨vs, hr, hu⟩ := h2 i x hx
  exact ⟨vs, L.mono (fun b hb => ⟨Nat.lt_of_lt_of_le hb.1 hg.size, hb.2.1, hb.2.2⟩) (L.keep (fun b hb => hg.block b hb.1 hb.2.2) hr), hu⟩
theorem OwnL.ab {α : Type} {L : Lay α} {e : TypeId} {w : World} {lo : Nat} {S : Nat → Prop} {A : Option Addr} {c : Nat} {xs : List α} (h : OwnL L (NotIn S) e w lo (.slice A xs.length c) xs) (hr : ∀ b, S b → b < lo) : L.Sl w (Ab S w) A xs :=
  h.sl.mono fun b hb => ⟨hb.1, hb.2.elim (fun h e => by have := hr b e; have := h.1; omega) id⟩
/-- The reader has gone on by at most N places; but for its block nothing turned. -/
def Drawn (r : Nat) (p N : Int) (w w' : World) : Prop := ∃ p', p ≤ p' ∧ p' ≤ p + N ∧ Rdr w' r p' ∧ Gr (fun b => b = r) w w'
theorem num_any (r : Nat) (p : Int) (B : Option Addr) (d : Nat) (xs : List Int) (w : World) (h : Rdr w r p) (hs : Lay.int.Sl w (Ab (fun b => b = r) w) B xs) (h0 : 0 < xs.length) (hn : xs.length ≤ 1048576) (p0 : 0 ≤ p) (p1 : p ≤ 1000000000) :
    Calls Tryd.prog 59 #[.pointer (some ⟨r, 0, none⟩), .slice B xs.length d] w fun e w' => ∃ x ∈ xs, e = .returned (.int .i64 x) ∧ Rdr w' r (p + 1) ∧ Gr (fun b => b = r) w w' := by
  go_enter Tryd.func59, Tryd.ntmps59
  go_wp2_with fail
  refine (pick_any r p xs.length w h p0 p1 (by omega) (by omega)).mono ?_
  rintro e w' ⟨k, rfl, k0, k1, _, hR, hg⟩
  have hk := k1 (by omega)
  have hg := Gr.one (S := fun b => b = r) hg rfl
  obtain ⟨n, rfl⟩ := Int.eq_ofNat_of_zero_le k0
  have hnl : n < xs.length := by omega
  obtain ⟨ad, rfl, _, hc⟩ := (hs.gr hg).at_int hnl
  have hm : xs[n] ∈ xs := List.getElem_mem hnl
  generalize xs[n] = x at *
  have HR := Lib.hid (And.intro hm (And.intro hR hg))
  clear hR hg hm k1 hs h
  go_wp2
  go_ret
  exact ⟨x, HR.out.1, rfl, HR.out.2⟩
end Go.Proofs.YtjghcaghigebjaaDoor

/-! Drawn regions that draw from a reader; literals. -/
namespace Go.Proofs.YtjghcaghigebjaaDoor
open Go Go.RowKit

abbrev IsR (r : Nat) : Nat → Prop := fun b => b = r
theorem sl_none {α : Type} {L : Lay α} {w : World} {F : Nat → Prop} {A : Option Addr} {xs : List α} (h : L.Sl w F A xs) : A = none → xs.length = 0 := fun e => by
  rcases Nat.eq_zero_or_pos xs.length with h0 | h0
  · exact h0
  · obtain ⟨ad, e', _⟩ := h h0; rw [e] at e'; cases e'
theorem two_boxes (w : World) (o o' : Obj) : Below w.heap.size w ((w.alloc o).alloc o') ∧ ((w.alloc o).alloc o').heap[w.heap.size]? = some o ∧ ((w.alloc o).alloc o').heap[w.heap.size + 1]? = some o' ∧ ((w.alloc o).alloc o').heap.size = w.heap.size + 1 + 1 := by
  have h1 := heap_alloc_new w o
  have h2 := heap_alloc_new (w.alloc o) o'
  exact ⟨((Below.refl _ _).alloc (Nat.le_refl _) _).alloc (by simp) _, (((Below.refl _ _).alloc (Nat.le_refl _) _).block _ (by simp)).trans h1, by simpa using h2, by simp⟩
theorem mem_lit {xs : List Int} {x : Int} (h : x ∈ xs) (hx : ∀ y ∈ xs, okInt y) : okInt x := hx x h
/-- A row that was just written down. -/
theorem lit_sl {S : Nat → Prop} (w : World) (xs : List Int) (cs : Array Value) (t : TypeId) (hc : cs = (xs.map (Value.int .i64)).toArray) (hS : ¬ S w.heap.size) : Lay.int.Sl (w.alloc (.cells cs t)) (Ab S (w.alloc (.cells cs t))) (some ⟨w.heap.size, 0, none⟩) xs := by
  intro _
  refine ⟨_, rfl, ⟨by simp, hS⟩, fun k x hx => ⟨[.int .i64 x], rfl, fun j u hu => ?_⟩⟩
  rcases j with _ | j
  · injection hu with hu
    subst hu
    have hb := (cell_of_block (heap_alloc_new w (.cells cs t)) k).1
    have ha : (⟨w.heap.size, 0, none⟩ : Addr).add (k * Lay.int.size + 0) = ⟨w.heap.size, k, none⟩ := by
      show (⟨w.heap.size, 0, none⟩ : Addr).add (k * 1 + 0) = _
      rw [Nat.mul_one, Nat.add_zero]; unfold Addr.add; split
      · rename_i h; rw [h]
      · simp
    rw [ha, hb, hc]
    simp [hx]
  · simp at hu
/-- What a drawn region of a reader's user does to memory: the blocks T may turn; result cells, once stored, stay. -/
def RG (T : Nat → Prop) (sts : List (Nat × Obj × Obj)) (x x' : World) : Prop := Gr T x x' ∧ ∀ s ∈ sts, x.heap[s.1]? = some s.2.2 → x'.heap[s.1]? = some s.2.2
def IG (T : Nat → Prop) (r : Nat) (q0 N : Int) (w : World) (sts : List (Nat × Obj × Obj)) (n : Nat) (x : World) : Prop :=
  Gr T w x ∧ (∃ q, Rdr x r q ∧ q0 ≤ q ∧ q ≤ q0 + N * n) ∧ ∀ s ∈ sts, x.heap[s.1]? = some s.2.1 ∨ x.heap[s.1]? = some s.2.2
theorem rg_refl (T : Nat → Prop) (sts : List (Nat × Obj × Obj)) (x : World) : RG T sts x x := ⟨Gr.refl _ _, fun _ _ h => h⟩
theorem ig_step {T : Nat → Prop} {r : Nat} {q0 N : Int} {w : World} {sts : List (Nat × Obj × Obj)} {n : Nat} {x : World} (h : IG T r q0 N w sts n x) (hN : 0 ≤ N) : IG T r q0 N w sts (n + 1) x := by
  obtain ⟨h1, ⟨q, h2, h3, h4⟩, h5⟩ := h
  refine ⟨h1, ⟨q, h2, h3, ?_⟩, h5⟩
  push_cast
  rw [Int.mul_add, Int.mul_one]
  omega
theorem ig_start {T : Nat → Prop} {r : Nat} {q0 N : Int} {w : World} {sts : List (Nat × Obj × Obj)} (h : Rdr w r q0) (hs : ∀ s ∈ sts, w.heap[s.1]? = some s.2.1) : IG T r q0 N w sts 0 (w.drewN 1) :=
  ⟨.below (below_drewN (Below.refl _ _) 1), ⟨q0, h.up (below_drewN (Below.refl _ _) 1), by omega, by simp⟩, fun s h => .inl (hs s h)⟩
/-- A call that draws. -/
theorem ig_draw {T : Nat → Prop} {r : Nat} {q0 N M q : Int} {w : World} {sts : List (Nat × Obj × Obj)} {n : Nat} {x x' : World} (h : IG T r q0 N w sts n x) (hd : Drawn r q M x x') (hq0 : q0 ≤ q) (hq : q ≤ q0 + N * n) (hM : M ≤ N) (hT : T r) (hs : ∀ s ∈ sts, s.1 ≠ r) :
    IG T r q0 N w sts (n + 1) x' ∧ RG T sts x x' := by
  obtain ⟨h1, _, h5⟩ := h
  obtain ⟨q', d1, d2, d3, d4⟩ := hd
  have hg : Gr T x x' := d4.mono fun b hb => by rw [hb]; exact hT
  have hh : ∀ s ∈ sts, ∀ o, x.heap[s.1]? = some o → x'.heap[s.1]? = some o := fun s h o => d4.heap (hs s h)
  refine ⟨⟨h1.trans hg, ⟨q', d3, by omega, ?_⟩, fun s hm => (h5 s hm).imp (hh s hm _) (hh s hm _)⟩, hg, fun s hm => hh s hm _⟩
  push_cast
  rw [Int.mul_add, Int.mul_one]
  omega
/-- A block without bytes may turn: the reader stays. -/
theorem Rdr.far {w w' : World} {r b : Nat} {p : Int} (h : Rdr w r p) (hg : Gr (fun y => y = b) w w') (hbr : b ≠ r) (hk : ∃ cs t fr, w.heap[b]? = some (.cells cs t fr) ∧ ∀ u ∈ cs.toList, ∀ z, u ≠ .int .u8 z) : Rdr w' r p := by
  obtain ⟨A, c, bs, hb, hl, hs⟩ := h
  obtain ⟨cs, t, fr, hkb, hku⟩ := hk
  refine ⟨A, c, bs, hg.heap (fun e => hbr e.symm) hb, hl, fun hn => ?_⟩
  obtain ⟨ad, e, hf, hc⟩ := hs hn
  have hne : ad.block ≠ b := fun e9 => by
    obtain ⟨vs, hr, hcell⟩ := hc 0 bs[0] (List.getElem?_eq_getElem hn)
    have h0 := hcell 0 (.int .u8 (bs[0].toNat : Int)) (by rw [hr]; rfl)
    unfold World.cell? at h0
    rw [block_of_add, e9, hkb] at h0
    dsimp only at h0
    split at h0
    · cases h0
    · exact hku _ (by rw [Array.mem_toList_iff]; exact Array.mem_of_getElem? h0) _ rfl
  refine ⟨ad, e, hf, fun k x hx => ?_⟩
  obtain ⟨vs, hr, hcell⟩ := hc k x hx
  refine ⟨vs, hr, fun j u hu => ?_⟩
  have h9 := hcell j u hu
  exact (World.cell?_of_block (hg.block _ (by have := World.block_lt_of_cell? w _ h9; exact this) (by rw [block_of_add]; exact hne))).trans h9
/-- A result cell is stored. -/
theorem ig_store {T : Nat → Prop} {r : Nat} {q0 N : Int} {w : World} {sts : List (Nat × Obj × Obj)} {n : Nat} {x x' : World} (h : IG T r q0 N w sts n x) (hN : 0 ≤ N) (b : Nat) (hg : Gr (fun y => y = b) x x') (hT : T b) (hr : b ≠ r) (hk : ∃ cs t fr, x.heap[b]? = some (.cells cs t fr) ∧ ∀ u ∈ cs.toList, ∀ z, u ≠ .int .u8 z) (hs : ∀ s ∈ sts, s.1 = b → x'.heap[b]? = some s.2.2) :
    IG T r q0 N w sts (n + 1) x' ∧ RG T sts x x' := by
  obtain ⟨h1, ⟨q, h2, h3, h4⟩, h5⟩ := ig_step h hN
  have hgT : Gr T x x' := hg.mono fun y hy => by rw [hy]; exact hT
  refine ⟨⟨h1.trans hgT, ⟨q, h2.far hg hr hk, h3, h4⟩, fun s hm => ?_⟩, hgT, fun s hm he => ?_⟩
  · by_cases e : s.1 = b
    · right; rw [e]; exact hs s hm e
    · exact (h5 s hm).imp (hg.heap e) (hg.heap e)
  · by_cases e : s.1 = b
    · rw [e]; exact hs s hm e
    · exact hg.heap e he
end Go.Proofs.YtjghcaghigebjaaDoor

/-! The program's builder: lists of signals, the choice. -/
namespace Go.Proofs.YtjghcaghigebjaaDoor
open Go Go.RowKit

theorem kd_of {lo : Nat} {w w' : World} (h : BelB lo w w') {b : Nat} {cs : Array Value} {t : TypeId} {fr : Nat × Nat} (hb : w.heap[b]? = some (.cells cs t fr)) (h1 : t ≠ 121) (h2 : t ≠ 96) (h3 : t ≠ 82) : w'.heap[b]? = some (.cells cs t fr) :=
  h.kd b _ hb (nck_of h1 h2 h3).1 (nck_of h1 h2 h3).2
/-- The builder in its state behind a failure, or none. -/
theorem Bx.bd {a0 a1 : Addr} {lo : Nat} {w w' : World} {q r : Nat} {s : BS} {e : Option Nat} (h : Bd a0 a1 lo w q r s) (hx : Bx a0 a1 lo w' q r e) (hk : CKs w w') (he : e = none → s.e = none) : Bd a0 a1 lo w' q r ⟨s.n, e⟩ :=
  ⟨hx, h.nb, fun h0 => (h.circ (he h0)).keep hk⟩
theorem Bx.up {a0 a1 : Addr} {lo : Nat} {w w' : World} {q r : Nat} {e : Option Nat} (h : Bx a0 a1 lo w q r e) (hb : Below w.heap.size w w') : Bx a0 a1 lo w' q r e :=
  ⟨h.g.below (hb.mono (Nat.le_trans h.low (Nat.le_of_lt (lt_of_block h.box)))), (hb.block q (lt_of_block h.box)).trans h.box, h.low⟩
theorem Bx.upS {a0 a1 : Addr} {lo : Nat} {w w' : World} {q r : Nat} {e : Option Nat} (h : Bx a0 a1 lo w q r e) (hb : BelS lo w w') : Bx a0 a1 lo w' q r e :=
  ⟨h.g.below hb.bel, hb.bk q _ h.box ⟨_, _, rfl⟩, h.low⟩
theorem Bx.size {a0 a1 : Addr} {lo : Nat} {w : World} {q r : Nat} {e : Option Nat} (h : Bx a0 a1 lo w q r e) : lo ≤ w.heap.size := Nat.le_trans h.low (Nat.le_of_lt (lt_of_block h.box))
theorem failE_none {e : Option Nat} {b : Bool} {k : Nat} (h : failE e b k = none) : e = none ∧ b = false := by
  unfold failE at h
  split at h
  · cases h
  · rename_i h1
    refine ⟨h, ?_⟩
    cases b
    · rfl
    · exact absurd ⟨rfl, h⟩ h1

/-! numbers -/
/-- append of one integer onto a row of the call's own. -/
theorem wpList_append_int9 {Q : Exit → Act → World → Prop} {ops : Array Oper} {rest : List Oper} {o : Oper} {a : Act} {W : World} {lo : Nat} {A : Option Addr} {c : Nat} {xs ys : List Int} {x : Int} {e' : TypeId} (hgd : o.guard = none) (s y : Operand)
    (ho : o.op = .call { callee := .builtin .append, args := #[s, y], argTypes := #[25, 25] }) (hs : a.eval s = .slice A xs.length c) (hy : a.eval y = .slice (some ⟨W.heap.size, 0, none⟩) 1 1)
    (hown : OwnI W lo (.slice A xs.length c) xs) (hn : xs.length ≤ 3000000) (hlo : lo ≤ W.heap.size) (hys : ys = xs ++ [x])
    (h : ∀ A' c' w', OwnI w' lo (.slice A' ys.length c') ys → Below lo W w' → wpList Tryd.prog ops Q rest (a.put o.dst (.slice A' ys.length c')) w') :
    wpList Tryd.prog ops Q (o :: rest) a (W.alloc (.cells #[.int .i64 x] e')) := by
  obtain ⟨i0, hi0, hz0, hz1, hz2⟩ := info_parts int_info
  have hl : ys.length = xs.length + 1 := by rw [hys]; simp
  have hm : ys.map (Value.int .i64) = xs.map (Value.int .i64) ++ [.int .i64 x] := by rw [hys]; simp
  refine wpList_append1 (P := Tryd.prog) hgd s y 25 ho lo 3 i0 _ 8 Tryd.underlying25 hi0 hz0 hz1 hz2 (by rfl) _ xs.length (xs.map (Value.int .i64)) (.int .i64 x) e' hs hown hy (by rfl) (by unfold maxLen; omega) (by omega) hlo ?_
  intro v' w' ho' hb
  rw [← hl, ← hm] at ho'
  obtain ⟨A', c', rfl, _⟩ := OwnI.form (xs := ys) ho'
  exact h A' c' w' ho' hb
set_option maxRecDepth 100000 in
set_option maxHeartbeats 1000000 in
theorem numbers_any (A : Option Addr) (c : Nat) (xs : List Int) (w : World) (h : Lay.int.Rd w A xs) (hn : xs.length ≤ 1048576) :
    Calls Tryd.prog 83 #[.slice A xs.length c] w (CopyI xs w) := by
  have H := Lib.hid h
  clear h
  go_enter Tryd.func83, Tryd.ntmps83
  go_wp2
  go_loopw [3, 8] (fun out i wr => ∃ (k : Nat) (l : List Int) (A1 : Option Addr) (c1 : Nat), k ≤ xs.length ∧ i = .int .i64 k ∧ out = .slice A1 l.length c1 ∧ l = xs.take k ∧ OwnI wr w.heap.size (.slice A1 l.length c1) l ∧ Below w.heap.size w wr) (fun _ i _ => xs.length - (intOf i).toNat)
  case atStart => exact ⟨0, [], none, 0, Nat.zero_le _, rfl, rfl, rfl, World.ownsRow_nil _ _ _ _, Below.refl _ _⟩
  case round =>
    obtain ⟨k, l, A1, c1, hk, rfl, rfl, hlt0, hown, hb⟩ := hrel
    have HL := Lib.hid hlt0
    have hll : l.length ≤ 1048576 := by rw [hlt0]; simp; omega
    have hsz := hb.size
    have HB := Lib.hid hb
    clear hlt0 hb
    by_cases hlt : k < xs.length
    · have hlt2 : (k : Int) < xs.length := by omega
      obtain ⟨ad, hA, -, c9⟩ := (H.out.up HB.out).at_int hlt
      obtain ⟨x, hx⟩ : ∃ x, x = xs[k] := ⟨_, rfl⟩
      rw [← hx] at c9
      subst hA
      obtain ⟨l2, hl2⟩ : ∃ l2, l2 = l ++ [x] := ⟨_, rfl⟩
      have HL2 := Lib.hid hl2
      have HX := Lib.hid hx
      clear hl2 hx
      go_wp2_with (at_builtin; refine wpList_append_int9 (ys := l2) (by rfl) (.tmp 12) (.tmp 14) (by rfl) (by rfl) (by rfl) hown (by omega) hsz HL2.out ?_; intro A2 c2 w2 hown2 hb2)
      go_roundw
      case rel => exact ⟨k + 1, l2, A2, c2, by omega, by go_num, rfl, by rw [HL2.out, HL.out, HX.out]; simp, hown2, HB.out.trans hb2⟩
      case measure => simp [intOf]; omega
    · have hke : k = xs.length := by omega
      subst hke
      have hlt2 : ¬ ((xs.length : Nat) : Int) < xs.length := by omega
      go_wp2
      go_ret
      have hl9 : l = xs := by rw [HL.out]; exact List.take_length
      subst hl9
      exact ⟨A1, c1, rfl, hown.cap, hown.own, HB.out⟩

/-! list -/
def goodL (n : N) (a : List Int) : Bool := decide (1 ≤ a.length) && decide (a.length ≤ 4) && a.all (netMark n)
/-- The failure behind 'list'. -/
def listE (n : N) (e : Option Nat) (a : List Int) : Option Nat := failE e (!goodL n a) 0
theorem failE_twice (e : Option Nat) (a b : Bool) : failE (failE e a 0) b 0 = failE e (a || b) 0 := by
  unfold failE
  cases a <;> cases b <;> rcases e with _ | e <;> simp
/-- What is so while 'list' runs. -/
def ListI (a0 a1 : Addr) (lo : Nat) (W : World) (q r : Nat) (n : N) (e e' : Option Nat) (base : Nat) (A : Option Addr) (c : Nat) (l : List Int) (done : Bool) (x : World) : Prop :=
  BelB lo W x ∧ Bx a0 a1 lo x q r (if done = true then e' else e) ∧ Circ lo x r n n.gs ∧ OwnSg x base (.slice A l.length c) l
theorem ListI.up {a0 a1 : Addr} {lo : Nat} {W : World} {q r : Nat} {n : N} {e e' : Option Nat} {base : Nat} {A : Option Addr} {c : Nat} {l : List Int} {done : Bool} {x x' : World} (h : ListI a0 a1 lo W q r n e e' base A c l done x) (hb : Below x.heap.size x x') : ListI a0 a1 lo W q r n e e' base A c l done x' :=
  ⟨h.1.trans (.of hb h.2.1.size), h.2.1.up hb, h.2.2.1.up hb, own_below h.2.2.2 hb (Nat.le_refl _)⟩
def RetLs (a0 a1 : Addr) (lo : Nat) (w : World) (q r : Nat) (n : N) (e' : Option Nat) (l : List Int) (e : Ending) (w' : World) : Prop :=
  ∃ A c, e = .returned (.slice A l.length c) ∧ l.length ≤ c ∧ Lay.int.Pl w' A l ∧ BelB lo w w' ∧ Bx a0 a1 lo w' q r e' ∧ Circ lo w' r n n.gs
set_option maxRecDepth 100000 in
set_option maxHeartbeats 4000000 in
theorem list_any (a0 a1 : Addr) (lo q r : Nat) (n : N) (e0 : Option Nat) (A : Option Addr) (ca : Nat) (xs : List Int) (w : World) (h : Bx a0 a1 lo w q r e0) (hc : Circ lo w r n n.gs) (hnb : NB n) (hX : Lay.int.Sl w (fun b => b < lo) A xs) (hxi : i64s xs) (hn : xs.length ≤ 1048576) :
    Calls Tryd.prog 48 #[.pointer (some ⟨q, 0, none⟩), .slice A xs.length ca] w (RetLs a0 a1 lo w q r n (listE n e0 xs) xs) := by
  have HX := Lib.hid hX
  have HXI := Lib.hid hxi
  have HC := Lib.hid hc
  have HNB := Lib.hid hnb
  have hlo := h.size
  obtain ⟨b, hb⟩ : ∃ b, b = !(decide (1 ≤ xs.length) && decide (xs.length ≤ 4)) := ⟨_, rfl⟩
  have HF := Lib.hid (fail_any a0 a1 lo q r e0 b 0 w h)
  have g0 : w.cell? ⟨0, 0, none⟩ = some (errV a0 a1 (some 0)) := h.g.c0
  have HR : Hid (listE n e0 xs = failE (failE e0 b 0) (!xs.all (netMark n)) 0) := Lib.hid (by
    unfold listE goodL; rw [failE_twice, hb]; congr 1; cases decide (1 ≤ xs.length) <;> cases decide (xs.length ≤ 4) <;> cases xs.all (netMark n) <;> rfl)
  have hcase : ((xs.length : Int) < 1 ∧ b = true) ∨ (¬ (xs.length : Int) < 1 ∧ (4 : Int) < xs.length ∧ b = true) ∨ (¬ (xs.length : Int) < 1 ∧ ¬ (4 : Int) < xs.length ∧ b = false) := by
    by_cases h1 : (xs.length : Int) < 1
    · exact .inl ⟨h1, by rw [hb, decide_eq_false (by omega : ¬ 1 ≤ xs.length)]; rfl⟩
    · by_cases h2 : (4 : Int) < xs.length
      · exact .inr (.inl ⟨h1, h2, by rw [hb, decide_eq_false (by omega : ¬ xs.length ≤ 4)]; simp⟩)
      · exact .inr (.inr ⟨h1, h2, by rw [hb, decide_eq_true (by omega : 1 ≤ xs.length), decide_eq_true (by omega : xs.length ≤ 4)]; rfl⟩)
  clear h hc hnb hX hxi hb
  generalize hv : errV a0 a1 (some 0) = v at *
  have HV := Lib.hid hv
  clear hv
  rcases hcase with ⟨hk1, rfl⟩ | ⟨hk1, hk2, rfl⟩ | ⟨hk1, hk2, rfl⟩
  all_goals
    go_enter Tryd.func48, Tryd.ntmps48
    go_wp2_with fail
    refine HF.out.mono ?_
    rintro e w1 ⟨rfl, hb1, hx1, hck1⟩
    have HB1 := Lib.hid hb1
    have HX1 := Lib.hid hx1
    have HC1 := Lib.hid (HC.out.keep hck1)
    have hs1 := hb1.bel.size
    clear hb1 hx1 hck1 HF g0 hk1
    try clear hk2
    generalize failE e0 _ 0 = e1 at *
    go_wp2
    go_loopw [5, 21] (fun out i wr => ∃ (k : Nat) (l : List Int) (A1 : Option Addr) (c1 : Nat), k ≤ xs.length ∧ i = .int .i64 k ∧ out = .slice A1 l.length c1 ∧ l = xs.take k ∧ OwnSg wr w.heap.size (.slice A1 l.length c1) l ∧ BelB lo w wr ∧ Bx a0 a1 lo wr q r (failE e1 (!l.all (netMark n)) 0) ∧ Circ lo wr r n n.gs) (fun _ i _ => xs.length - (intOf i).toNat)
    case atStart => exact ⟨0, [], none, 0, Nat.zero_le _, rfl, rfl, rfl, OwnSg.nil _ _, HB1.out, by rw [show failE e1 (!([] : List Int).all (netMark n)) 0 = e1 from if_neg (by simp)]; exact HX1.out, HC1.out⟩
    case round =>
      obtain ⟨k, l, A1, c1, hk, rfl, rfl, hlt0, hown, hbb, hbx, hcc⟩ := hrel
      have HL := Lib.hid hlt0
      have hll : l.length ≤ 1048576 := by rw [hlt0]; simp; omega
      have hsz := hbb.bel.size
      have HBB := Lib.hid hbb
      have HBX := Lib.hid hbx
      have HCC := Lib.hid hcc
      have HOWN := Lib.hid hown
      clear hlt0 hbb hbx hcc hown
      by_cases hlt : k < xs.length
      · have hlt2 : (k : Int) < xs.length := by omega
        obtain ⟨ad, hA, -, c9⟩ := (HX.out.below HBB.out.bel (fun _ h => h)).at_int hlt
        obtain ⟨x, hx⟩ : ∃ x, x = xs[k] := ⟨_, rfl⟩
        rw [← hx] at c9
        have hxi := HXI.out x (by rw [hx]; exact List.getElem_mem hlt)
        subst hA
        obtain ⟨l2, hl2⟩ : ∃ l2, l2 = l ++ [x] := ⟨_, rfl⟩
        have HL2 := Lib.hid hl2
        have HXX := Lib.hid hx
        have HE : Hid (failE (failE e1 (!l.all (netMark n)) 0) (!netMark n x) 0 = failE e1 (!l2.all (netMark n)) 0) := Lib.hid (by
          rw [failE_twice, hl2, List.all_append]; congr 1; simp only [List.all_cons, List.all_nil, Bool.and_true]; cases l.all (netMark n) <;> cases netMark n x <;> rfl)
        clear hl2 hx
        obtain ⟨hx0, hx1⟩ := hxi
        generalize hmk : netMark n x = mk at *
        have HMK := Lib.hid hmk
        clear hmk
        generalize failE e1 (!l.all (netMark n)) 0 = e2 at *
        obtain ⟨e3, he3⟩ : ∃ e3, e3 = failE e1 (!l2.all (netMark n)) 0 := ⟨_, rfl⟩
        rw [← he3] at HE
        have HE3 := Lib.hid he3
        clear he3
        go_wp2
        refine wp_region_rel4 [[], [], [(1, 26)], [(2, 27)], [(3, 28)], [], [(4, 29), (5, 30)], [(6, 31)], [], [(0, 25), (7, 32), (8, 33)]]
          (fun x9 y9 => Below x9.heap.size x9 y9)
          [(9, fun x9 y9 => BelB lo x9 y9)]
          (fun f9 x9 => ListI a0 a1 lo w q r n e2 e3 w.heap.size A1 c1 l (f9 9) x9)
          [fun vs9 _ => vs9 0 = (.pointer (some ⟨q, 0, none⟩)),
    fun vs9 _ => vs9 1 = (.pointer (some ⟨q, 0, none⟩)),
    fun vs9 _ => vs9 2 = (.pointer (some ⟨q, 0, none⟩)),
    fun vs9 _ => vs9 3 = (.pointer (some ⟨q, 0, none⟩)),
    fun vs9 _ => vs9 4 = (.pointer (some ⟨r, 0, none⟩)),
    fun vs9 _ => vs9 5 = (.int .i64 x),
    fun vs9 _ => vs9 6 = (.bool mk),
    fun vs9 _ => vs9 7 = (.bool (!mk)),
    fun vs9 _ => vs9 8 = v,
    fun _ _ => True]
          [(0, 25), (1, 26), (2, 27), (3, 28), (4, 29), (5, 30), (6, 31), (7, 32), (8, 33), (9, 34)] (by kernel_rfl) (by kernel_rfl) (by kernel_rfl) (by kernel_rfl)
          (fun _ => Below.refl _ _) ⟨fun _ => BelB.refl _ _, trivial⟩
          ⟨⟨.inr (fun _ _ _ h _ => h), ⟨.inr (.inr (fun _ _ _ h _ => h)), trivial⟩⟩,
    ⟨.inr (fun _ _ _ h _ => h), ⟨.inr (.inr (fun _ _ _ h _ => h)), trivial⟩⟩,
    ⟨.inr (fun _ _ _ h _ => h), ⟨.inr (.inr (fun _ _ _ h _ => h)), trivial⟩⟩,
    ⟨.inr (fun _ _ _ h _ => h), ⟨.inr (.inr (fun _ _ _ h _ => h)), trivial⟩⟩,
    ⟨.inr (fun _ _ _ h _ => h), ⟨.inr (.inr (fun _ _ _ h _ => h)), trivial⟩⟩,
    ⟨.inr (fun _ _ _ h _ => h), ⟨.inr (.inr (fun _ _ _ h _ => h)), trivial⟩⟩,
    ⟨.inr (fun _ _ _ h _ => h), ⟨.inr (.inr (fun _ _ _ h _ => h)), trivial⟩⟩,
    ⟨.inr (fun _ _ _ h _ => h), ⟨.inr (.inr (fun _ _ _ h _ => h)), trivial⟩⟩,
    ⟨.inr (fun _ _ _ h _ => h), ⟨.inr (.inr (fun _ _ _ h _ => h)), trivial⟩⟩,
    ⟨.inr (fun _ _ _ h _ => h), ⟨.inr (.inl rfl), trivial⟩⟩, trivial⟩ ⟨fun vs vs' x h _ hv => (by dsimp only at hv ⊢; first | (rw [← h]; exact hv) | exact hv),
    fun vs vs' x h _ hv => (by dsimp only at hv ⊢; first | (rw [← h]; exact hv) | exact hv),
    fun vs vs' x h _ hv => (by dsimp only at hv ⊢; first | (rw [← h]; exact hv) | exact hv),
    fun vs vs' x h _ hv => (by dsimp only at hv ⊢; first | (rw [← h]; exact hv) | exact hv),
    fun vs vs' x h _ hv => (by dsimp only at hv ⊢; first | (rw [← h]; exact hv) | exact hv),
    fun vs vs' x h _ hv => (by dsimp only at hv ⊢; first | (rw [← h]; exact hv) | exact hv),
    fun vs vs' x h _ hv => (by dsimp only at hv ⊢; first | (rw [← h]; exact hv) | exact hv),
    fun vs vs' x h _ hv => (by dsimp only at hv ⊢; first | (rw [← h]; exact hv) | exact hv),
    fun vs vs' x h _ hv => (by dsimp only at hv ⊢; first | (rw [← h]; exact hv) | exact hv),
    fun _ _ _ _ _ _ => trivial, trivial⟩ (⟨HBB.out.trans (.of (below_drewN (Below.refl _ _) 1) HBX.out.size), by rw [if_neg (by simp)]; exact HBX.out.up (below_drewN (Below.refl _ _) 1), HCC.out.up (below_drewN (Below.refl _ _) 1), own_below HOWN.out (below_drewN (Below.refl _ _) 1) (Nat.le_refl _)⟩) ⟨?_, ?_, ?_, ?_, ?_, ?_, ?_, ?_, ?_, ?_, trivial⟩ ?_
        · intro vals xw f hf1 hf2 hf3 hI hF
          clear hf2 hf3
          dsimp only [owes4, bare]
          simp only [putsD, Act.put, List.setIfInBounds_toArray, List.set_cons_zero, List.set_cons_succ]
          go_wp2
          exact ⟨rfl, rfl, ⟨fun h9 => absurd h9 (Nat.ne_of_beq_eq_false rfl), fun _ => Below.refl _ _⟩, hI⟩
        · intro vals xw f hf1 hf2 hf3 hI hF
          clear hf2 hf3
          dsimp only [owes4, bare]
          simp only [putsD, Act.put, List.setIfInBounds_toArray, List.set_cons_zero, List.set_cons_succ]
          go_wp2
          exact ⟨rfl, rfl, ⟨fun h9 => absurd h9 (Nat.ne_of_beq_eq_false rfl), fun _ => Below.refl _ _⟩, hI⟩
        · intro vals xw f hf1 hf2 hf3 hI hF
          clear hf2 hf3
          simp only [saysD, List.getD_cons_zero, List.getD_cons_succ, and_true] at hF
          have e26 := hF
          dsimp only [owes4, bare]
          simp only [putsD, Act.put, List.setIfInBounds_toArray, List.set_cons_zero, List.set_cons_succ]
          simp only [e26]
          go_wp2
          exact ⟨rfl, rfl, ⟨fun h9 => absurd h9 (Nat.ne_of_beq_eq_false rfl), fun _ => Below.refl _ _⟩, hI⟩
        · intro vals xw f hf1 hf2 hf3 hI hF
          clear hf2 hf3
          simp only [saysD, List.getD_cons_zero, List.getD_cons_succ, and_true] at hF
          have e27 := hF
          dsimp only [owes4, bare]
          simp only [putsD, Act.put, List.setIfInBounds_toArray, List.set_cons_zero, List.set_cons_succ]
          simp only [e27]
          go_wp2
          exact ⟨rfl, rfl, ⟨fun h9 => absurd h9 (Nat.ne_of_beq_eq_false rfl), fun _ => Below.refl _ _⟩, hI⟩
        · intro vals xw f hf1 hf2 hf3 hI hF
          clear hf2 hf3
          simp only [saysD, List.getD_cons_zero, List.getD_cons_succ, and_true] at hF
          have e28 := hF
          dsimp only [owes4, bare]
          simp only [putsD, Act.put, List.setIfInBounds_toArray, List.set_cons_zero, List.set_cons_succ]
          simp only [e28]
          have c8 := (cell_of_block hI.2.1.box 0).1
          go_wp2
          exact ⟨rfl, rfl, ⟨fun h9 => absurd h9 (Nat.ne_of_beq_eq_false rfl), fun _ => Below.refl _ _⟩, hI⟩
        · intro vals xw f hf1 hf2 hf3 hI hF
          clear hf2 hf3
          dsimp only [owes4, bare]
          simp only [putsD, Act.put, List.setIfInBounds_toArray, List.set_cons_zero, List.set_cons_succ]
          go_wp2
          exact ⟨rfl, rfl, ⟨fun h9 => absurd h9 (Nat.ne_of_beq_eq_false rfl), fun _ => Below.refl _ _⟩, hI⟩
        · intro vals xw f hf1 hf2 hf3 hI hF
          clear hf2 hf3
          simp only [saysD, List.getD_cons_zero, List.getD_cons_succ, and_true] at hF
          obtain ⟨e29, e30⟩ := hF
          dsimp only [owes4, bare]
          simp only [putsD, Act.put, List.setIfInBounds_toArray, List.set_cons_zero, List.set_cons_succ]
          simp only [e29, e30]
          have HI := Lib.hid hI
          clear hI
          go_wp2_with fail
          refine (has_any lo r n n.gs x xw HI.out.2.2.1 HNB.out.2.2 HNB.out.1 HNB.out.2.1 hx0 hx1).mono ?_
          rintro e wx ⟨rfl, hb9⟩
          rw [HMK.out]
          have HB9 := Lib.hid hb9
          clear hb9
          go_wp2
          exact ⟨rfl, rfl, ⟨fun h9 => absurd h9 (Nat.ne_of_beq_eq_false rfl), fun _ => HB9.out⟩, HI.out.up HB9.out⟩
        · intro vals xw f hf1 hf2 hf3 hI hF
          clear hf2 hf3
          simp only [saysD, List.getD_cons_zero, List.getD_cons_succ, and_true] at hF
          have e31 := hF
          dsimp only [owes4, bare]
          simp only [putsD, Act.put, List.setIfInBounds_toArray, List.set_cons_zero, List.set_cons_succ]
          simp only [e31]
          go_wp2
          exact ⟨rfl, rfl, ⟨fun h9 => absurd h9 (Nat.ne_of_beq_eq_false rfl), fun _ => Below.refl _ _⟩, hI⟩
        · intro vals xw f hf1 hf2 hf3 hI hF
          clear hf2 hf3
          dsimp only [owes4, bare]
          simp only [putsD, Act.put, List.setIfInBounds_toArray, List.set_cons_zero, List.set_cons_succ]
          have c8 : xw.cell? ⟨0, 0, none⟩ = some v := by rw [← HV.out]; exact hI.2.1.g.c0
          go_wp2
          exact ⟨rfl, rfl, ⟨fun h9 => absurd h9 (Nat.ne_of_beq_eq_false rfl), fun _ => Below.refl _ _⟩, hI⟩
        · intro vals xw f hf1 hf2 hf3 hI hF
          clear hf2 hf3
          simp only [saysD, List.getD_cons_zero, List.getD_cons_succ, and_true] at hF
          obtain ⟨e25, e32, e33⟩ := hF
          dsimp only [owes4, bare]
          simp only [putsD, Act.put, List.setIfInBounds_toArray, List.set_cons_zero, List.set_cons_succ]
          simp only [e25, e32, e33]
          obtain ⟨i1, i2, i3, i4⟩ := hI
          rw [hf1, if_neg (by simp)] at i2
          have I1 := Lib.hid i1
          have I3 := Lib.hid i3
          have I4 := Lib.hid i4
          have HF9 := Lib.hid (fail_any a0 a1 lo q r e2 (!mk) 0 xw i2)
          rw [HV.out] at HF9
          clear i1 i2 i3 i4
          go_wp2_with fail
          refine HF9.out.mono ?_
          rintro e wx ⟨rfl, hb9, hx9, hk9⟩
          have HB9 := Lib.hid hb9
          have HX9 := Lib.hid hx9
          have HK9 := Lib.hid hk9
          clear hb9 hx9 hk9 HF9
          go_wp2
          exact ⟨rfl, trivial, ⟨fun _ => HB9.out, fun h9 => absurd rfl h9⟩, I1.out.trans HB9.out, by rw [did_same, if_pos rfl, ← HE.out]; exact HX9.out, I3.out.keep HK9.out, I4.out.upB HB9.out⟩
        · intro vals xw f hall hI hF
          rw [show List.range _ = [0, 1, 2, 3, 4, 5, 6, 7, 8, 9] from rfl] at hF
          simp only [says, List.getD_cons_zero, List.getD_cons_succ, and_true] at hF
          obtain ⟨i1, i2, i3, i4⟩ := hI
          rw [hall 9 (by decide), if_pos rfl] at i2
          have I1 := Lib.hid i1
          have I2 := Lib.hid i2
          have I3 := Lib.hid i3
          have hsz9 := i1.bel.size
          clear i1 i2 i3 hF
          simp only [putsD, Act.put, List.setIfInBounds_toArray, List.set_cons_zero, List.set_cons_succ]
          have hal9 : Below xw.heap.size xw (xw.alloc (.cells #[.int .i64 x] 83)) := (Below.refl _ _).alloc (Nat.le_refl _) _
          have HAL := Lib.hid hal9
          have hsz8 : w.heap.size ≤ (xw.alloc (.cells #[.int .i64 x] 83)).heap.size := Nat.le_trans hsz9 hal9.size
          have I4 : Hid (OwnSg (xw.alloc (.cells #[.int .i64 x] 83)) w.heap.size (.slice A1 l.length c1) l) := Lib.hid (own_below i4 hal9 (Nat.le_refl _))
          clear i4 hal9
          go_wp2_with (at_builtin; refine wpList_append_sig2 (ys := l2) (by rfl) (.tmp 35) (.tmp 37) (by rfl) (by rfl) (by rfl) I4.out (heap_alloc_new _ _) (by omega) hsz8 HL2.out ?_; intro A2 c2 w2 hown2 hg2)
          have hal9 := HAL.out
          obtain ⟨hs9, hb8⟩ := I4.out.grown hg2 hsz8 hlo
          go_roundw
          case rel => exact ⟨k + 1, l2, A2, c2, by omega, by go_num, rfl, by rw [HL2.out, HL.out, HXX.out]; simp, hown2, (I1.out.trans (.of hal9 I2.out.size)).then hb8 hlo, by rw [← HE3.out]; exact (I2.out.up hal9).upS hs9, (I3.out.up hal9).keep hs9.ck⟩
          case measure => simp [intOf]; omega
      · have hke : k = xs.length := by omega
        subst hke
        have hlt2 : ¬ ((xs.length : Nat) : Int) < xs.length := by omega
        go_wp2
        go_ret
        have hl9 : l = xs := by rw [HL.out]; exact List.take_length
        subst hl9
        rw [HR.out]
        exact ⟨A1, c1, rfl, HOWN.out.pl.1, HOWN.out.pl.2, HBB.out, HBX.out, HCC.out⟩

/-! choose -/
/-- What 'choose' makes. -/
def chooseS (s : BS) (c : Int) (xs ys : List Int) : BS × List Int := if failE s.e (xs.length != ys.length) 0 = none then run opsP (eachP (muxP c) xs ys) s else (⟨s.n, failE s.e (xs.length != ys.length) 0⟩, [])
set_option maxHeartbeats 2000000 in
theorem choose_any (a0 a1 : Addr) (lo q r : Nat) (s : BS) (c : Int) (X Y : Option Addr) (cx cy : Nat) (xs ys : List Int) (w : World) (h : Bd a0 a1 lo w q r s) (hX : Lay.int.Pl w X xs) (hY : Lay.int.Pl w Y ys) (hm : failE s.e (xs.length != ys.length) 0 = none → MB c ∧ (∀ x ∈ xs, MB x) ∧ ∀ y ∈ ys, MB y) (hn : xs.length ≤ 1000) (hn' : ys.length ≤ 1000) :
    Calls Tryd.prog 51 #[.pointer (some ⟨q, 0, none⟩), .int .i64 c, .slice X xs.length cx, .slice Y ys.length cy] w (RetL a0 a1 lo w q r (chooseS s c xs ys)) := by
  have hlo := h.size
  obtain ⟨hw, hQ, hC, hWS⟩ := two_boxes w (.cells #[.pointer (some ⟨q, 0, none⟩)] 73) (.cells #[.int .i64 c] 83)
  have HQ := Lib.hid hQ
  have HCc := Lib.hid hC
  have HW := Lib.hid hw
  have HXP := Lib.hid (hX.upB (.of hw hlo))
  have HYP := Lib.hid (hY.upB (.of hw hlo))
  have HBD := Lib.hid (h.up hw)
  have HM := Lib.hid hm
  have hvb : ((xs.length : Int) != (ys.length : Int)) = (xs.length != ys.length) := by
    by_cases e : xs.length = ys.length
    · rw [e]; simp
    · have h1 : (xs.length != ys.length) = true := by simpa using e
      have h2 : ((xs.length : Int) != (ys.length : Int)) = true := by simpa using (by omega : ¬ (xs.length : Int) = ys.length)
      rw [h1, h2]
  obtain ⟨b, hb⟩ : ∃ b, b = (xs.length != ys.length) := ⟨_, rfl⟩
  have HBE := Lib.hid hb
  rw [← hb] at hvb hm
  have HF := Lib.hid (fail_any a0 a1 lo q r s.e b 0 _ HBD.out.toBx)
  have g0 := HBD.out.g.c0
  have hv : errV a0 a1 (some 0) = sentV a0 := rfl
  rw [hv] at HF
  have z0 := (cell_of_block hQ 0).1
  have HCS : Hid (chooseS s c xs ys = if failE s.e b 0 = none then run opsP (eachP (muxP c) xs ys) s else (⟨s.n, failE s.e b 0⟩, [])) := Lib.hid (by unfold chooseS; rw [← hb])
  clear h hX hY hm hw hC hb hv hQ
  go_enter Tryd.func51, Tryd.ntmps51
  go_wp2_with fail
  refine HF.out.mono ?_
  rintro e w1 ⟨rfl, hb1, hx1, hk1⟩
  have HB1 := Lib.hid (BelB.trans (.of HW.out hlo) hb1)
  have hQ1 := kd_of hb1 HQ.out (by decide) (by decide) (by decide)
  have HQ1 := Lib.hid hQ1
  have HC1 := Lib.hid (kd_of hb1 HCc.out (by decide) (by decide) (by decide))
  have HX1 := Lib.hid (HXP.out.upB hb1)
  have HY1 := Lib.hid (HYP.out.upB hb1)
  have HD1 := Lib.hid (Bx.bd HBD.out hx1 hk1 (fun h => (failE_none h).1))
  have HLE : Hid (failE s.e b 0 = none → s = ⟨s.n, none⟩ ∧ xs.length = ys.length) := Lib.hid fun h => by
    obtain ⟨h1, h2⟩ := failE_none h
    exact ⟨by cases s; dsimp only at h1; rw [h1], by rw [HBE.out] at h2; simpa using h2⟩
  have z0 := (cell_of_block hQ1 0).1
  have z1 := (cell_of_block hx1.box 1).1
  rw [← HBE.out] at HM
  clear hb1 hx1 hk1 HF HBE HW hvb g0 hQ1
  generalize failE s.e b 0 = e1 at *
  rcases e1 with _ | e1
  · simp only [errV] at z1
    obtain ⟨hs, hl⟩ := HLE.out rfl
    obtain ⟨m1, m2, m3⟩ := HM.out rfl
    have HMC := Lib.hid m1
    have HE := Lib.hid (each_choose a0 a1 lo q r w.heap.size (w.heap.size + 1) c X Y cx cy xs ys ⟨s.n, none⟩ w1 (fun z => z.heap[w.heap.size]? = some (.cells #[.pointer (some ⟨q, 0, none⟩)] 73 (0, 0)) ∧ z.heap[w.heap.size + 1]? = some (.cells #[.int .i64 c] 83 (0, 0))) ⟨HQ1.out, HC1.out⟩
      (fun z hz => ⟨kd_of hz HQ1.out (by decide) (by decide) (by decide), kd_of hz HC1.out (by decide) (by decide) (by decide)⟩) HD1.out HX1.out HY1.out m2 m3 hl hn
      (fun x y s z hz hx hy hk => choose1_any a0 a1 lo q r _ _ s c x y z hz HMC.out hx hy hk.1 hk.2) (fun x y s hz hx hy => (mux_mb hz HMC.out.rb hx.rb hy.rb).2))
    have HS := Lib.hid hs
    clear hs hl m1 m2 m3 HMC HM HLE
    go_wp2_with fail
    refine HE.out.mono ?_
    rintro e w2 ⟨A2, c2, rfl, hc2, hp2, hm2, hb2, hd2⟩
    rw [← HS.out] at hc2 hp2 hm2 hd2 ⊢
    have HB2 := Lib.hid (HB1.out.trans hb2)
    have HP2 := Lib.hid hp2
    have HM2 := Lib.hid hm2
    have HD2 := Lib.hid hd2
    clear hb2 hp2 hm2 hd2 HE
    go_wp2
    go_ret
    rw [HCS.out, if_pos trivial]
    exact ⟨A2, c2, rfl, hc2, HP2.out, HM2.out, HB2.out, HD2.out⟩
  · obtain ⟨a, ha⟩ : ∃ a, errV a0 a1 (some e1) = sentV a := by rcases e1 with _ | e1 <;> exact ⟨_, rfl⟩
    simp only [ha] at z1
    clear ha
    go_wp2
    go_ret
    rw [HCS.out, if_neg (by simp)]
    exact ⟨none, 0, rfl, Nat.zero_le _, .nil _ _ _ _, (fun m hm => by cases hm), HB1.out, HD1.out⟩
end Go.Proofs.YtjghcaghigebjaaDoor

/-! The program's builder: built. -/
namespace Go.Proofs.YtjghcaghigebjaaDoor
open Go Go.RowKit

def pickN (ok : Bool) (out : N × List Int) : N × List Int := match ok with | true => out | false => (⟨0, []⟩, [])
def bitsOut (t : BS × List Int) : N × List Int := if t.1.e = none then (t.1.n, t.2) else (⟨0, []⟩, [])
/-- Two rows in two blocks. -/
def Apart9 (A B : Option Addr) (n m : Nat) : Prop := ∀ a b, A = some a → B = some b → 0 < n → 0 < m → a.block ≠ b.block
theorem apart_of {α β : Type} {L : Lay α} {M : Lay β} {w w' : World} {F G : Nat → Prop} {A B : Option Addr} {xs : List α} {ys : List β} (h : L.Sl w F A xs) (h' : M.Sl w' G B ys) (hFG : ∀ b, F b → G b → False) : Apart9 A B xs.length ys.length := fun a b ha hb h1 h2 e => by
  obtain ⟨a', e1, f, _⟩ := h h1
  obtain ⟨b', e2, g, _⟩ := h' h2
  rw [ha] at e1
  injection e1 with e1
  subst e1
  rw [hb] at e2
  injection e2 with e2
  subst e2
  exact hFG _ f (e ▸ g)
theorem apart_nil {A B : Option Addr} {n m : Nat} (h : n = 0) : Apart9 A B n m := fun _ _ _ _ h1 => by omega
/-- A net and marks, in memory of the call's own. -/
def RetBits (r : N × List Int) (w : World) (e : Ending) (w' : World) : Prop :=
  ∃ A B c d, e = .returned (.tuple #[.agg #[.int .i64 r.1.ins, .slice A r.1.gs.length c], .slice B r.2.length d]) ∧ r.1.gs.length ≤ c ∧ r.2.length ≤ d ∧ Lay.gate.Sl w' (Own w.heap.size w') A r.1.gs ∧ Lay.int.Sl w' (Own w.heap.size w') B r.2 ∧ Below w.heap.size w w' ∧ Apart9 A B r.1.gs.length r.2.length
/-- What a builder's function leaves. -/
def RetBC (a0 a1 : Addr) (lo : Nat) (w : World) (q r : Nat) (out : N × List Int) (e : Ending) (w' : World) : Prop :=
  ∃ (T : BS × List Int) (A : Option Addr) (c : Nat), e = .returned (.slice A T.2.length c) ∧ T.2.length ≤ 1000 ∧ Lay.int.Pl w' A T.2 ∧ BelB lo w w' ∧ Bd a0 a1 lo w' q r T.1 ∧ bitsOut T = out
/-- What is so while the answer of 'built' is laid: of the world w5 all but the result's block stays. -/
def BuiltI (w5 : World) (bx : Nat) (v : Value) (cs : Array Value) (done : Bool) (x : World) : Prop :=
  w5.grownBy x (some bx) ∧ (done = false → x.heap[bx]? = some (.cells #[.int .i64 0, .slice none 0 0] 29 (0, 0))) ∧ (done = true → x.heap[bx]? = some (.cells cs 29 (0, 0)))
theorem grown_trans9 {a b c : World} {r : Option Nat} (h : a.grownBy b r) (k : b.grownBy c r) : a.grownBy c r := ⟨k.os.trans h.os, k.tape.trans h.tape, k.output.trans h.output, Nat.le_trans h.size k.size, fun i hi hn => (k.block i (Nat.lt_of_lt_of_le hi h.size) hn).trans (h.block i hi hn)⟩
theorem grown_of9 {a b : World} (h : Below a.heap.size a b) (r : Option Nat) : a.grownBy b r := ⟨h.os, h.tape, h.output, h.size, fun i hi _ => h.block i hi⟩
theorem BuiltI.up {w5 x x' : World} {bx : Nat} {v : Value} {cs : Array Value} {done : Bool} (h : BuiltI w5 bx v cs done x) (hb : Below x.heap.size x x') : BuiltI w5 bx v cs done x' :=
  ⟨grown_trans9 h.1 (grown_of9 hb _), fun hd => (hb.block _ (lt_of_block (h.2.1 hd))).trans (h.2.1 hd), fun hd => (hb.block _ (lt_of_block (h.2.2 hd))).trans (h.2.2 hd)⟩
theorem own_grown9 {α : Type} {L : Lay α} {x y : World} {lo bx : Nat} {A : Option Addr} {xs : List α} (h : L.Sl x (Own lo x) A xs) (hg : x.grownBy y (some bx)) (hb : bx < lo) : L.Sl y (Own lo y) A xs := by
  have hk : ∀ b, Own lo x b → y.heap[b]? = x.heap[b]? := fun b hb' => hg.block b hb'.2.1 (fun e => by injection e with e; have := hb'.1; omega)
  refine (h.keep hk).mono fun b hb' => ⟨hb'.1, Nat.lt_of_lt_of_le hb'.2.1 hg.size, fun o => ?_⟩
  have := hb'.2.2 o
  unfold World.frozen? at this ⊢
  rw [hk b hb']; exact this
theorem own_mono9 {α : Type} {L : Lay α} {w : World} {A : Option Addr} {xs : List α} {b b' : Nat} (h : L.Sl w (Own b w) A xs) (hb : b' ≤ b) : L.Sl w (Own b' w) A xs := h.mono fun _ ⟨h1, h2⟩ => ⟨Nat.le_trans hb h1, h2⟩
set_option maxRecDepth 100000 in
set_option maxHeartbeats 4000000 in
theorem built_if (a0 a1 : Addr) (l0 : Nat) (ba bb bc : Nat) (A : Option Addr) (c : Nat) (n : N) (w : World) (out : N × List Int) (K : World → Prop) (hg : Glb a0 a1 l0 w) (hl0 : l0 ≤ w.heap.size) (hK : ∀ x, Below w.heap.size w x → K x) (h : Lay.gate.Rd w A n.gs) (hn : n.gs.length ≤ 1048576) (hA : A = none → n.gs.length = 0) (hi : okInts n)
    (hcall : ∀ (lo q r : Nat) (z : World), Bd a0 a1 lo z q r ⟨n, none⟩ → netOk n = true → K z → w.heap.size ≤ lo → Calls Tryd.prog 47 #[.pointer (some ⟨q, 0, none⟩), .pointer (some ⟨ba, 0, none⟩), .pointer (some ⟨bb, 0, none⟩), .pointer (some ⟨bc, 0, none⟩)] z (RetBC a0 a1 lo z q r out)) :
    Calls Tryd.prog 46 #[.agg #[.int .i64 n.ins, .slice A n.gs.length c], .func (.func 47) #[] #[.pointer (some ⟨ba, 0, none⟩), .pointer (some ⟨bb, 0, none⟩), .pointer (some ⟨bc, 0, none⟩)]] w (RetBits (pickN (netOk n) out) w) := by
  obtain ⟨hW, hB0, hB1, hWS⟩ := two_boxes w (.cells #[.int .i64 n.ins, .slice A n.gs.length c] 29) (.cells #[.int .i64 0, .slice none 0 0] 29)
  have HW := Lib.hid hW
  have HB1 := Lib.hid hB1
  have HG := Lib.hid hg
  have HK := Lib.hid hK
  have HCALL := Lib.hid hcall
  have HRN := Lib.hid (readNet_any A c n _ (h.up hW) hn hA hi)
  have HWS := Lib.hid hWS
  clear hg hK hcall h hi hB0 hB1 hWS hW
  go_enter Tryd.func46, Tryd.ntmps46
  go_wp2_with fail
  refine HRN.out.mono ?_
  generalize (w.alloc (.cells #[.int .i64 n.ins, .slice A n.gs.length c] 29)).alloc (.cells #[.int .i64 0, .slice none 0 0] 29) = w2 at *
  rintro e w3 ⟨hb3, hcase⟩
  have HB1 := Lib.hid ((hb3.block _ (lt_of_block HB1.out)).trans HB1.out)
  have HB3 := Lib.hid hb3
  clear hb3 HRN
  rcases hcase with ⟨hok, r, rfl, hC⟩ | ⟨hok, rfl⟩
  rotate_left
  · have k5 := (cell_of_block HB1.out 0).1
    have k6 := (cell_of_block HB1.out 1).1
    have kf5 := (cell_of_block HB1.out 0).2
    have kf6 := (cell_of_block HB1.out 1).2
    have HOK := Lib.hid hok
    clear hok
    go_wp2
    refine bodyPost_ret (v := .tuple #[.agg #[.int .i64 0, .slice none 0 0], .slice none 0 0]) (by simp [results, Tryd.results46, go_sem, k5, k6, kf5, kf6]) rfl ?_
    rw [show pickN (netOk n) out = (⟨0, []⟩, []) by rw [HOK.out]; rfl]
    refine ⟨none, none, 0, 0, rfl, Nat.zero_le _, Nat.zero_le _, .nil _ _ _ _, .nil _ _ _ _, ?_, apart_nil rfl⟩
    repeat (refine below_set ?_ (by show w.heap.size ≤ w.heap.size + 1; omega) _)
    exact bthen HW.out HB3.out
  have HOK := Lib.hid hok
  have hnb : NB n := by have := (netOk_iff n).1 hok; exact ⟨this.1, this.2.1, this.2.2.1⟩
  have HNB := Lib.hid hnb
  have HC := Lib.hid hC
  clear hok hnb hC
  have hal : Below w3.heap.size w3 (w3.alloc (.cells #[.pointer (some ⟨r, 0, none⟩), .nilIface] 82)) := (Below.refl _ _).alloc (Nat.le_refl _) _
  have hlo2 : l0 ≤ w2.heap.size := Nat.le_trans hl0 HW.out.size
  have hbd : Bd a0 a1 w2.heap.size (w3.alloc (.cells #[.pointer (some ⟨r, 0, none⟩), .nilIface] 82)) w3.heap.size r ⟨n, none⟩ :=
    ⟨⟨(HG.out.mono hl0).below (bthen HW.out (HB3.out.trans (hal.mono HB3.out.size))) |>.mono HW.out.size, heap_alloc_new _ _, HB3.out.size⟩, HNB.out, fun _ => HC.out.up hal⟩
  have HAL := Lib.hid hal
  have HC4 := Lib.hid (HCALL.out w2.heap.size w3.heap.size r _ hbd HOK.out (HK.out _ (bthen HW.out (HB3.out.trans (hal.mono HB3.out.size)))) HW.out.size)
  clear hal hbd HCALL HK
  go_wp2_with fail
  refine HC4.out.mono ?_
  rintro e w5 ⟨T, A5, c5, rfl, hl5, hp5, hb5, hd5, hT5⟩
  have HB5 : Hid (Below w2.heap.size w2 w5) := Lib.hid (HB3.out.trans ((HAL.out.mono HB3.out.size).trans hb5.bel))
  have HB1 : Hid (w5.heap[w.heap.size + 1]? = some (.cells #[.int .i64 0, .slice none 0 0] 29 (0, 0))) := Lib.hid (by
    have h9 : w.heap.size + 1 < w2.heap.size := by rw [HWS.out]; omega
    exact (hb5.bel.block _ h9).trans ((HAL.out.block _ (Nat.lt_of_lt_of_le h9 HB3.out.size)).trans HB1.out))
  have HP5 := Lib.hid hp5
  have HD5 := Lib.hid hd5
  have HT5 := Lib.hid hT5
  clear hp5 hd5 hT5 HC4 hb5 HAL HC HNB HB3
  have k5 := (cell_of_block HB1.out 0).1
  have k6 := (cell_of_block HB1.out 1).1
  have kf5 := (cell_of_block HB1.out 0).2
  have kf6 := (cell_of_block HB1.out 1).2
  have c0 := HD5.out.g.c0
  have c1 := HD5.out.g.c1
  have q0 := (cell_of_block HD5.out.box 0).1
  have q1 := (cell_of_block HD5.out.box 1).1
  have HGL := Lib.hid HD5.out.g
  obtain ⟨⟨n5, e5⟩, l5⟩ := T
  dsimp only at q1 hl5
  have hfin : ∀ X : World, Below w2.heap.size w2 X → Below w.heap.size w X := fun X hX => bthen HW.out hX
  have HFIN := Lib.hid hfin
  clear hfin
  rcases e5 with _ | e5
  · simp only [errV] at q1
    have hC5 := HD5.out.circ rfl
    obtain ⟨A6, c6, r0, r1, ho6⟩ := circ_cells hC5
    have HO6 := Lib.hid ho6
    have HN : Hid (∀ (b : Addr) (m : Nat), Calls Tryd.prog 82 #[.nilIface, sentV b] (w5.drewN m) fun e w' => e = .returned (.bool false) ∧ w5.drewN m = w') := Lib.hid fun b m => is_nil b _
    have HS5 := Lib.hid hC5.lt
    clear hC5 ho6
    go_wp2
    go_quiet ((go_at_call 82; with_reducible exact quiet_left (HN.out _ _)))
    go_wp2
    clear HN
    have HLT : Hid (w.heap.size + 1 < w2.heap.size) := Lib.hid (by rw [HWS.out]; omega)
    have HQ : Hid (∀ x : World, w5.grownBy x (some (w.heap.size + 1)) → x.cell? ⟨w3.heap.size, 0, none⟩ = some (.pointer (some ⟨r, 0, none⟩)) ∧ x.cell? ⟨r, 0, none⟩ = some (.int .i64 n5.ins) ∧ x.cell? ⟨r, 1, none⟩ = some (.slice A6 n5.gs.length c6)) := Lib.hid fun x hx => by
      have hq := (hx.block _ (lt_of_block HD5.out.box) (fun e => by injection e with e; have := HD5.out.low; have := HLT.out; omega)).trans HD5.out.box
      have hr := hx.block r HS5.out.2 (fun e => by injection e with e; have := HS5.out.1; have := HLT.out; omega)
      exact ⟨(cell_of_block hq 0).1, (World.cell?_of_block (w := w5) (a := ⟨r, 0, none⟩) hr).trans r0, (World.cell?_of_block (w := w5) (a := ⟨r, 1, none⟩) hr).trans r1⟩
    have HL5 : Hid (∀ x : World, w5.grownBy x (some (w.heap.size + 1)) → Lay.int.Rd x A5 l5) := Lib.hid fun x hx => by
      refine (HP5.out.keep fun b hb => hx.block b hb.lt fun e => ?_).mono fun b hb => Nat.lt_of_lt_of_le hb.lt hx.size
      injection e with e
      subst e
      obtain ⟨cs, fr, h9⟩ := hb
      rw [HB1.out] at h9
      injection h9 with h9
      injection h9 with _ h9 _
      exact absurd h9 (by decide)
    refine wp_region_rel4 [[], [(0, 39)], [(1, 40)], [(2, 41)], [(3, 42)], [(4, 43)], [(5, 44)], [], [(7, 46)], [(6, 45)], [(8, 47)]]
      (fun x9 y9 => Below x9.heap.size x9 y9)
      [(9, fun x9 y9 => x9.grownBy y9 (some (w.heap.size + 1)))]
      (fun f9 x9 => BuiltI w5 (w.heap.size + 1) (.agg #[.int .i64 n5.ins, .slice A6 n5.gs.length c6]) #[.int .i64 n5.ins, .slice A6 n5.gs.length c6] (f9 9) x9)
      [fun vs9 _ => vs9 0 = (.pointer (some ⟨w3.heap.size, 0, none⟩)),
    fun vs9 _ => vs9 1 = (.pointer (some ⟨w3.heap.size, 0, none⟩)),
    fun vs9 _ => vs9 2 = (.pointer (some ⟨w3.heap.size, 0, none⟩)),
    fun vs9 _ => vs9 3 = (.pointer (some ⟨r, 0, none⟩)),
    fun vs9 _ => vs9 4 = (.pointer (some ⟨r, 0, none⟩)),
    fun vs9 _ => vs9 5 = (.pointer (some ⟨r, 0, none⟩)),
    fun vs9 _ => vs9 6 = (.agg #[.int .i64 n5.ins, .slice A6 n5.gs.length c6]),
    fun vs9 _ => vs9 7 = (.slice A5 l5.length c5),
    fun vs9 y9 => (fun v z => ∃ B d, v = .slice B l5.length d ∧ l5.length ≤ d ∧ Lay.int.Sl z (Own w5.heap.size z) B l5) (vs9 8) y9,
    fun _ _ => True,
    fun vs9 _ => vs9 10 = vs9 8]
      [(0, 39), (1, 40), (2, 41), (3, 42), (4, 43), (5, 44), (6, 45), (7, 46), (8, 47), (10, 5)] (by kernel_rfl) (by kernel_rfl) (by kernel_rfl) (by kernel_rfl)
      (fun _ => Below.refl _ _) ⟨fun _ => World.grownBy.refl _ _, trivial⟩
      ⟨⟨.inr (fun _ _ _ h _ => h), ⟨.inr (.inr (fun _ _ _ h _ => h)), trivial⟩⟩,
    ⟨.inr (fun _ _ _ h _ => h), ⟨.inr (.inr (fun _ _ _ h _ => h)), trivial⟩⟩,
    ⟨.inr (fun _ _ _ h _ => h), ⟨.inr (.inr (fun _ _ _ h _ => h)), trivial⟩⟩,
    ⟨.inr (fun _ _ _ h _ => h), ⟨.inr (.inr (fun _ _ _ h _ => h)), trivial⟩⟩,
    ⟨.inr (fun _ _ _ h _ => h), ⟨.inr (.inr (fun _ _ _ h _ => h)), trivial⟩⟩,
    ⟨.inr (fun _ _ _ h _ => h), ⟨.inr (.inr (fun _ _ _ h _ => h)), trivial⟩⟩,
    ⟨.inr (fun _ _ _ h _ => h), ⟨.inr (.inr (fun _ _ _ h _ => h)), trivial⟩⟩,
    ⟨.inr (fun _ _ _ h _ => h), ⟨.inr (.inr (fun _ _ _ h _ => h)), trivial⟩⟩,
    ⟨.inr (fun vs9 x9 y9 h9 hR9 => (show ∀ v9 y8 y7, (fun v z => ∃ B d, v = .slice B l5.length d ∧ l5.length ≤ d ∧ Lay.int.Sl z (Own w5.heap.size z) B l5) v9 y8 → (fun x9 y9 => Below x9.heap.size x9 y9) y8 y7 → (fun v z => ∃ B d, v = .slice B l5.length d ∧ l5.length ≤ d ∧ Lay.int.Sl z (Own w5.heap.size z) B l5) v9 y7 from fun _ _ _ ⟨B, d, h1, h2, h3⟩ hR => ⟨B, d, h1, h2, h3.own_up hR⟩) (vs9 8) x9 y9 h9 hR9), ⟨.inr (.inr (fun vs9 x9 y9 h9 hR9 => (show ∀ v9 y8 y7, (fun v z => ∃ B d, v = .slice B l5.length d ∧ l5.length ≤ d ∧ Lay.int.Sl z (Own w5.heap.size z) B l5) v9 y8 → (fun x9 y9 => x9.grownBy y9 (some (w.heap.size + 1))) y8 y7 → (fun v z => ∃ B d, v = .slice B l5.length d ∧ l5.length ≤ d ∧ Lay.int.Sl z (Own w5.heap.size z) B l5) v9 y7 from fun _ _ _ ⟨B, d, h1, h2, h3⟩ hR => ⟨B, d, h1, h2, own_grown9 h3 hR (Nat.lt_of_lt_of_le HLT.out HB5.out.size)⟩) (vs9 8) x9 y9 h9 hR9)), trivial⟩⟩,
    ⟨.inr (fun _ _ _ h _ => h), ⟨.inr (.inl rfl), trivial⟩⟩,
    ⟨.inr (fun _ _ _ h _ => h), ⟨.inr (.inr (fun _ _ _ h _ => h)), trivial⟩⟩, trivial⟩ ⟨fun vs vs' x h _ hv => (by dsimp only at hv ⊢; first | (rw [← h]; exact hv) | exact hv),
    fun vs vs' x h _ hv => (by dsimp only at hv ⊢; first | (rw [← h]; exact hv) | exact hv),
    fun vs vs' x h _ hv => (by dsimp only at hv ⊢; first | (rw [← h]; exact hv) | exact hv),
    fun vs vs' x h _ hv => (by dsimp only at hv ⊢; first | (rw [← h]; exact hv) | exact hv),
    fun vs vs' x h _ hv => (by dsimp only at hv ⊢; first | (rw [← h]; exact hv) | exact hv),
    fun vs vs' x h _ hv => (by dsimp only at hv ⊢; first | (rw [← h]; exact hv) | exact hv),
    fun vs vs' x h _ hv => (by dsimp only at hv ⊢; first | (rw [← h]; exact hv) | exact hv),
    fun vs vs' x h _ hv => (by dsimp only at hv ⊢; first | (rw [← h]; exact hv) | exact hv),
    fun vs vs' x h _ hv => (by dsimp only at hv ⊢; first | (rw [← h]; exact hv) | exact hv),
    fun _ _ _ _ _ _ => trivial,
    fun vs vs' x h hd hv => (by have h2 := hd 8 (by decide); show vs' 10 = vs' 8; exact h.symm.trans (Eq.trans hv h2)), trivial⟩ (⟨grown_of9 (below_drewN (below_drewN (Below.refl _ _) nq) 1) _, fun _ => HB1.out, fun h => by cases h⟩) ⟨?_, ?_, ?_, ?_, ?_, ?_, ?_, ?_, ?_, ?_, ?_, trivial⟩ ?_
    · intro vals xw f hf1 hf2 hf3 hI hF
      clear hf2 hf3
      dsimp only [owes4, bare]
      simp only [putsD, Act.put, List.setIfInBounds_toArray, List.set_cons_zero, List.set_cons_succ]
      go_wp2
      exact ⟨rfl, rfl, ⟨fun h9 => absurd h9 (Nat.ne_of_beq_eq_false rfl), fun _ => Below.refl _ _⟩, hI⟩
    · intro vals xw f hf1 hf2 hf3 hI hF
      clear hf2 hf3
      simp only [saysD, List.getD_cons_zero, List.getD_cons_succ, and_true] at hF
      have e39 := hF
      dsimp only [owes4, bare]
      simp only [putsD, Act.put, List.setIfInBounds_toArray, List.set_cons_zero, List.set_cons_succ]
      simp only [e39]
      go_wp2
      exact ⟨rfl, rfl, ⟨fun h9 => absurd h9 (Nat.ne_of_beq_eq_false rfl), fun _ => Below.refl _ _⟩, hI⟩
    · intro vals xw f hf1 hf2 hf3 hI hF
      clear hf2 hf3
      simp only [saysD, List.getD_cons_zero, List.getD_cons_succ, and_true] at hF
      have e40 := hF
      dsimp only [owes4, bare]
      simp only [putsD, Act.put, List.setIfInBounds_toArray, List.set_cons_zero, List.set_cons_succ]
      simp only [e40]
      go_wp2
      exact ⟨rfl, rfl, ⟨fun h9 => absurd h9 (Nat.ne_of_beq_eq_false rfl), fun _ => Below.refl _ _⟩, hI⟩
    · intro vals xw f hf1 hf2 hf3 hI hF
      clear hf2 hf3
      simp only [saysD, List.getD_cons_zero, List.getD_cons_succ, and_true] at hF
      have e41 := hF
      have c9 := (HQ.out xw hI.1).1
      dsimp only [owes4, bare]
      simp only [putsD, Act.put, List.setIfInBounds_toArray, List.set_cons_zero, List.set_cons_succ]
      simp only [e41]
      go_wp2
      exact ⟨rfl, rfl, ⟨fun h9 => absurd h9 (Nat.ne_of_beq_eq_false rfl), fun _ => Below.refl _ _⟩, hI⟩
    · intro vals xw f hf1 hf2 hf3 hI hF
      clear hf2 hf3
      simp only [saysD, List.getD_cons_zero, List.getD_cons_succ, and_true] at hF
      have e42 := hF
      dsimp only [owes4, bare]
      simp only [putsD, Act.put, List.setIfInBounds_toArray, List.set_cons_zero, List.set_cons_succ]
      simp only [e42]
      go_wp2
      exact ⟨rfl, rfl, ⟨fun h9 => absurd h9 (Nat.ne_of_beq_eq_false rfl), fun _ => Below.refl _ _⟩, hI⟩
    · intro vals xw f hf1 hf2 hf3 hI hF
      clear hf2 hf3
      simp only [saysD, List.getD_cons_zero, List.getD_cons_succ, and_true] at hF
      have e43 := hF
      dsimp only [owes4, bare]
      simp only [putsD, Act.put, List.setIfInBounds_toArray, List.set_cons_zero, List.set_cons_succ]
      simp only [e43]
      go_wp2
      exact ⟨rfl, rfl, ⟨fun h9 => absurd h9 (Nat.ne_of_beq_eq_false rfl), fun _ => Below.refl _ _⟩, hI⟩
    · intro vals xw f hf1 hf2 hf3 hI hF
      clear hf2 hf3
      simp only [saysD, List.getD_cons_zero, List.getD_cons_succ, and_true] at hF
      have e44 := hF
      have c9 := (HQ.out xw hI.1).2.1
      have c8 := (HQ.out xw hI.1).2.2
      dsimp only [owes4, bare]
      simp only [putsD, Act.put, List.setIfInBounds_toArray, List.set_cons_zero, List.set_cons_succ]
      simp only [e44]
      go_wp2
      exact ⟨rfl, rfl, ⟨fun h9 => absurd h9 (Nat.ne_of_beq_eq_false rfl), fun _ => Below.refl _ _⟩, hI⟩
    · intro vals xw f hf1 hf2 hf3 hI hF
      clear hf2 hf3
      dsimp only [owes4, bare]
      simp only [putsD, Act.put, List.setIfInBounds_toArray, List.set_cons_zero, List.set_cons_succ]
      go_wp2
      exact ⟨rfl, rfl, ⟨fun h9 => absurd h9 (Nat.ne_of_beq_eq_false rfl), fun _ => Below.refl _ _⟩, hI⟩
    · intro vals xw f hf1 hf2 hf3 hI hF
      clear hf2 hf3
      simp only [saysD, List.getD_cons_zero, List.getD_cons_succ, and_true] at hF
      have e46 := hF
      dsimp only [owes4, bare]
      simp only [putsD, Act.put, List.setIfInBounds_toArray, List.set_cons_zero, List.set_cons_succ]
      simp only [e46]
      have HI := Lib.hid hI
      have hsz9 : w5.heap.size ≤ xw.heap.size := hI.1.size
      have HRD := Lib.hid (HL5.out xw hI.1)
      clear hI
      go_wp2_with fail
      refine (numbers_any A5 c5 l5 xw HRD.out (by omega)).mono ?_
      rintro e wx ⟨B, d, rfl, h1, h2, h3⟩
      have H3 := Lib.hid h3
      have H2 := Lib.hid (own_mono9 h2 hsz9)
      clear h2 h3
      go_wp2
      exact ⟨rfl, ⟨B, d, rfl, h1, H2.out⟩, ⟨fun h9 => absurd h9 (Nat.ne_of_beq_eq_false rfl), fun _ => H3.out⟩, HI.out.up H3.out⟩
    · intro vals xw f hf1 hf2 hf3 hI hF
      clear hf2 hf3
      simp only [saysD, List.getD_cons_zero, List.getD_cons_succ, and_true] at hF
      have e45 := hF
      dsimp only [owes4, bare]
      simp only [putsD, Act.put, List.setIfInBounds_toArray, List.set_cons_zero, List.set_cons_succ]
      simp only [e45]
      have hbx := hI.2.1 hf1
      have j6 := (cell_of_block hbx 0).1
      have j7 := (cell_of_block hbx 1).1
      have f6 := (cell_of_block hbx 0).2
      have f7 := (cell_of_block hbx 1).2
      have HG1 := Lib.hid hI.1
      have HBX := Lib.hid hbx
      clear hI hbx
      go_wp2
      have h1 := heap_set_same xw (w.heap.size + 1) 0 (.int .i64 n5.ins) _ _ HBX.out
      have h2 := heap_set_same _ (w.heap.size + 1) 1 (.slice A6 n5.gs.length c6) _ _ h1
      have h3 : xw.grownBy ((xw.setCell ⟨w.heap.size + 1, 0, none⟩ (.int .i64 n5.ins)).setCell ⟨w.heap.size + 1, 1, none⟩ (.slice A6 n5.gs.length c6)) (some (w.heap.size + 1)) := only_setCell (only_setCell (World.grownBy.refl _ _) _ _) _ _
      exact ⟨rfl, trivial, ⟨fun _ => h3, fun h9 => absurd rfl h9⟩, grown_trans9 HG1.out h3, fun h => absurd ((did_same f 9).symm.trans h) (by simp), fun _ => h2⟩
    · intro vals xw f hf1 hf2 hf3 hI hF
      clear hf2 hf3
      simp only [saysD, List.getD_cons_zero, List.getD_cons_succ, and_true] at hF
      obtain ⟨B8, d8, e47, _⟩ := hF
      dsimp only [owes4, bare]
      simp only [putsD, Act.put, List.setIfInBounds_toArray, List.set_cons_zero, List.set_cons_succ]
      simp only [e47]
      go_wp2
      exact ⟨rfl, e47.symm, ⟨fun h9 => absurd h9 (Nat.ne_of_beq_eq_false rfl), fun _ => Below.refl _ _⟩, hI⟩
    · intro vals xw f hall hI hF
      rw [show List.range _ = [0, 1, 2, 3, 4, 5, 6, 7, 8, 9, 10] from rfl] at hF
      simp only [says, List.getD_cons_zero, List.getD_cons_succ, and_true] at hF
      obtain ⟨_, _, _, _, _, _, _, _, ⟨B8, d8, e47, hd8, hs8⟩, e5⟩ := hF
      rw [e47] at e5
      have hbx := hI.2.2 (hall 9 (by decide))
      have k5 := (cell_of_block hbx 0).1
      have k6 := (cell_of_block hbx 1).1
      have kf5 := (cell_of_block hbx 0).2
      have kf6 := (cell_of_block hbx 1).2
      have HG1 := Lib.hid hI.1
      have HS8 := Lib.hid hs8
      have HD8 := Lib.hid hd8
      clear hI hbx hs8 hd8
      simp only [putsD, Act.put, List.setIfInBounds_toArray, List.set_cons_zero, List.set_cons_succ]
      simp only [e5]
      clear e5 e47
      go_wp2
      refine bodyPost_ret (v := .tuple #[.agg #[.int .i64 n5.ins, .slice A6 n5.gs.length c6], .slice B8 l5.length d8]) (by simp [results, Tryd.results46, go_sem, k5, k6, kf5, kf6]) rfl ?_
      rw [show pickN (netOk n) out = out by rw [HOK.out]; rfl, ← HT5.out]
      show RetBits (n5, l5) w _ _
      exact ⟨A6, B8, c6, d8, rfl, HO6.out.sl.1, HD8.out, own_mono9 (own_grown9 HO6.out.own HG1.out HLT.out) HW.out.size, own_mono9 HS8.out (Nat.le_trans HW.out.size HB5.out.size), (HFIN.out _ HB5.out).grown HG1.out (bthen HW.out HB5.out).size (fun k hk => by injection hk with hk; omega), apart_of HO6.out.own HS8.out (fun b h1 h2 => by have := h1.2.1; have := h2.1; omega)⟩
  · obtain ⟨a, ha⟩ : ∃ a, errV a0 a1 (some e5) = sentV a := by rcases e5 with _ | e5 <;> exact ⟨_, rfl⟩
    simp only [ha] at q1
    have hcase : (a = a0 ∧ True) ∨ a = a1 := by
      rcases e5 with _ | e5
      · injection ha with _ ha; injection ha with ha; injection ha with ha; exact .inl ⟨ha.symm, trivial⟩
      · injection ha with _ ha; injection ha with ha; injection ha with ha; exact .inr ha.symm
    clear ha
    have HT6 : Hid (out = (⟨0, []⟩, [])) := Lib.hid (by rw [← HT5.out]; exact if_neg (by simp))
    have HSM : Hid (∀ (b : Addr) (m : Nat), Calls Tryd.prog 82 #[sentV b, sentV b] (w5.drewN m) fun e w' => e = .returned (.bool true) ∧ w5.drewN m = w') := Lib.hid fun b m => is_same b _
    have HOT : Hid (∀ (m : Nat), Calls Tryd.prog 82 #[sentV a0, sentV a1] (w5.drewN m) fun e w' => e = .returned (.bool false) ∧ w5.drewN m = w') := Lib.hid fun m => by
      obtain ⟨ca, ta, h0⟩ := HGL.out.b0
      obtain ⟨cb, tb, h1⟩ := HGL.out.b1
      exact is_other a0 a1 ca cb ta tb _ HGL.out.ne h0 h1
    rcases hcase with ⟨rfl, _⟩ | rfl
    · go_wp2
      go_quiet ((go_at_call 82; first | with_reducible exact quiet_left (HOT.out _) | with_reducible exact quiet_left (HSM.out _ _)))
      clear HSM HOT
      go_wp2
      refine bodyPost_ret (v := .tuple #[.agg #[.int .i64 0, .slice none 0 0], .slice none 0 0]) (by simp [results, Tryd.results46, go_sem, k5, k6, kf5, kf6]) rfl ?_
      rw [show pickN (netOk n) out = out by rw [HOK.out]; rfl, HT6.out]
      refine ⟨none, none, 0, 0, rfl, Nat.zero_le _, Nat.zero_le _, .nil _ _ _ _, .nil _ _ _ _, ?_, apart_nil rfl⟩
      repeat (refine below_set ?_ (by show w.heap.size ≤ w.heap.size + 1; omega) _)
      exact below_drewN (HFIN.out _ HB5.out) _
    · go_wp2
      go_quiet ((go_at_call 82; first | with_reducible exact quiet_left (HSM.out _ _) | with_reducible exact quiet_left (HOT.out _)))
      clear HSM HOT
      go_wp2
      refine bodyPost_ret (v := .tuple #[.agg #[.int .i64 0, .slice none 0 0], .slice none 0 0]) (by simp [results, Tryd.results46, go_sem, k5, k6, kf5, kf6]) rfl ?_
      rw [show pickN (netOk n) out = out by rw [HOK.out]; rfl, HT6.out]
      refine ⟨none, none, 0, 0, rfl, Nat.zero_le _, Nat.zero_le _, .nil _ _ _ _, .nil _ _ _ _, ?_, apart_nil rfl⟩
      repeat (refine below_set ?_ (by show w.heap.size ≤ w.heap.size + 1; omega) _)
      exact below_drewN (HFIN.out _ HB5.out) _
end Go.Proofs.YtjghcaghigebjaaDoor
