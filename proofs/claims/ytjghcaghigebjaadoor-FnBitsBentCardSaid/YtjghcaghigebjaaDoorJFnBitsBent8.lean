/- FnBitsBent: malformed operands are refused: for any bytes the law says true. -/
import Derived.Test.YtjghcaghigebjaaDoorRows
import Derived.ProofKit
import Derived.LaidMore
import Derived.OpenShut
import Derived.Stop.Joined
import Derived.ChangeSame
import Derived.ChangeVars
import Derived.RowKitTokens
import Derived.LaidLaws
import Derived.Test.YtjghcaghigebjaaDoorTie
import Derived.Test.YtjghcaghigebjaaDoorCards
import Derived.SevenTiedAt
import Derived.Test.YtjghcaghigebjaaDoorJFnBitsBent0
import Derived.Test.YtjghcaghigebjaaDoorJFnBitsBent2
import Derived.Test.YtjghcaghigebjaaDoorJFnBitsBent3
import Derived.Test.YtjghcaghigebjaaDoorJFnBitsBent4
import Derived.Test.YtjghcaghigebjaaDoorJFnBitsBent5
import Derived.Test.YtjghcaghigebjaaDoorJFnBitsBent6
import Derived.Test.YtjghcaghigebjaaDoorJFnBitsBent7
/-! A drawn region, each operation once: what is said of an operation's value may hold until a later operation alone. No program is named here. -/
namespace Go.Proofs.YtjghcaghigebjaaDoor
open Go Go.RowKit
variable {P : Program} {Q : Exit → Act → World → Prop}

/-- Whoever looks at a value looks at it before what is said of it ends. -/
def untilOk (ops : List Oper) (D : List (List Nat)) (U : List (Option Nat)) : Bool :=
  (List.range ops.length).all fun k => (D.getD k []).all fun j => match U.getD j none with | none => true | some u => decide (u = k) || reach ops ops.length u k
theorem untilOk_spec {ops : List Oper} {D : List (List Nat)} {U : List (Option Nat)} (h : untilOk ops D U = true) {k j u : Nat} (hk : k < ops.length) (hj : j ∈ D.getD k []) (hu : U.getD j none = some u) : u = k ∨ reach ops ops.length u k = true := by
  have h1 := List.all_eq_true.1 (List.all_eq_true.1 h k (List.mem_range.2 hk)) j hj
  rw [hu] at h1
  simpa using h1
structure RelInv5 (ops : List Oper) (I : (Nat → Bool) → World → Prop) (L : List Say) (U : List (Option Nat)) (a : Act) (listed : Array Bool) (a' : Act) (x : World) (vals : Nat → Value) : Prop where
  size : listed.size = ops.length
  closed : ∀ j k, waits ops k j = true → listed.getD k false = true → listed.getD j false = true
  tsize : a'.tmps.size = a.tmps.size
  defers : a'.defers = a.defers
  old : ∀ t, (∀ j, listed.getD j false = true → dstOf ops j ≠ some t) → a'.tmps[t]? = a.tmps[t]?
  new : ∀ j t, listed.getD j false = true → dstOf ops j = some t → a'.tmps[t]? = some (vals j)
  inv : I (fun i => listed.getD i false) x
  fact : ∀ j, listed.getD j false = true → (∀ u, U.getD j none = some u → listed.getD u false = false) → L.getD j (fun _ _ => True) vals x
theorem rel5_any {ops : List Oper} {D : List (List Nat)} {R : Nat → World → World → Prop} {I : (Nat → Bool) → World → Prop} {L : List Say} {U : List (Option Nat)} {a : Act} (hRr : ∀ k x, R k x x) (hL : ∀ j k, k < ops.length → j ≠ k → reach ops ops.length j k = false → U.getD j none ≠ some k → (∀ u, U.getD j none = some u → reach ops ops.length k u = false) → ∀ vs x x', L.getD j (fun _ _ => True) vs x → R k x x' → L.getD j (fun _ _ => True) vs x') (hLo : Locals D 0 L) (hU : untilOk ops D U = true) (hB : relOk4 ops D a.tmps.size = true)
    (hs : ∀ k o, ops[k]? = some o → obligR4 P ops D (R k) I L a k o)
    (hfin : ∀ vals x f, (∀ i, i < ops.length → f i = true) → I f x → says L vals x ((List.range ops.length).filter fun i => (U.getD i none).isNone) → Q .normal (puts ops vals (List.range ops.length) a) x) :
    ∀ (fuel : Nat) (listed : Array Bool) (a' : Act) (x : World) (vals : Nat → Value), cnt (fun i => listed.getD i false) ops.length ≤ fuel →
      RelInv5 ops I L U a listed a' x vals → wpAny P .any ops.toArray Q fuel listed a' x := by
  have hdd : ∀ i j t, dstOf ops i = some t → dstOf ops j = some t → i = j := fun i j t hi hj => by
    have hjl : j < ops.length := dst_lt hj
    have ho : ops[j]? = some ops[j] := List.getElem?_eq_getElem hjl
    exact (relOk4_spec hB j _ ho).2.2.2.2.2.2 i t (dst_lt hi) hi (by simpa [dstOf, ho] using hj)
  have hds : ∀ j t, dstOf ops j = some t → t < a.tmps.size := fun j t hj => by
    have hjl : j < ops.length := dst_lt hj
    have ho : ops[j]? = some ops[j] := List.getElem?_eq_getElem hjl
    exact (relOk4_spec hB j _ ho).2.2.2.1 t (by simpa [dstOf, ho] using hj)
  have hdone : ∀ (listed : Array Bool) (a' : Act) (x : World) (vals : Nat → Value), (∀ i, i < ops.length → listed.getD i false = true) → RelInv5 ops I L U a listed a' x vals → Q .normal a' x := by
    intro listed a' x vals hall inv
    have ha : a' = puts ops vals (List.range ops.length) a := by
      have ht : a'.tmps = (puts ops vals (List.range ops.length) a).tmps := by
        apply Array.ext_getElem?
        intro t
        by_cases h : ∃ j, dstOf ops j = some t
        · obtain ⟨j, hj⟩ := h
          rw [inv.new j t (hall j (dst_lt hj)) hj, puts_get (fun i j => hdd i j t) _ _ j (List.mem_range.2 (dst_lt hj)) hj (hds j t hj)]
        · rw [inv.old t (fun j _ e => h ⟨j, e⟩), puts_ne _ _ (fun i _ e => h ⟨i, e⟩)]
      have hdf : a'.defers = (puts ops vals (List.range ops.length) a).defers := by rw [puts_defers]; exact inv.defers
      cases a'
      cases hp : puts ops vals (List.range ops.length) a
      rw [hp] at ht hdf
      simp only at ht hdf
      rw [ht, hdf]
    rw [ha]
    exact hfin vals x _ hall inv.inv (says_iff.2 fun i hi => inv.fact i (hall i (List.mem_range.1 (List.mem_filter.1 hi).1)) (fun u hu => by have := (List.mem_filter.1 hi).2; rw [hu] at this; cases this))
  have hmin : ∀ (listed : Array Bool), listed.size = ops.length → ∀ i, i < ops.length → listed.getD i false = false → Region.ready .any ops.toArray listed ≠ [] := by
    intro listed hsz i
    induction i using Nat.strongRecOn with
    | _ i ih =>
      intro hi hun hr
      have ho : ops[i]? = some ops[i] := List.getElem?_eq_getElem hi
      by_cases h : ∀ e ∈ ops[i].after, Region.binds .any e = true → listed.getD e.on false = true
      · have : i ∈ Region.ready .any ops.toArray listed := mem_ready.2 ⟨getD_in (by omega) hun, ops[i], by simp [ho], h⟩
        rw [hr] at this; cases this
      · simp only [Classical.not_forall] at h
        obtain ⟨e, he, hb, hl⟩ := h
        have hlt := (relOk4_spec hB i _ ho).2.2.1 e he hb
        exact ih e.on hlt (by omega) (by simpa using hl) hr
  intro fuel
  induction fuel with
  | zero =>
    intro listed a' x vals hc inv
    have hall := cnt_zero (f := fun i => listed.getD i false) (Nat.le_zero.1 hc)
    refine ⟨?_, hdone _ _ _ _ hall inv⟩
    cases hr : Region.ready .any ops.toArray listed with
    | nil => rfl
    | cons k rs =>
      exfalso
      have hk : k ∈ Region.ready .any ops.toArray listed := by rw [hr]; simp
      obtain ⟨h0, o, ho, _⟩ := mem_ready.1 hk
      have hlt : k < ops.length := by
        have := (Array.getElem?_eq_some_iff.1 ho).1; simpa using this
      have h1 : listed.getD k false = true := hall k hlt
      rw [getD_both h0] at h1; cases h1
  | succ fuel ih =>
    intro listed a' x vals hc inv
    refine ⟨fun hr => ?_, fun k hk => ?_⟩
    · refine hdone _ _ _ _ (fun i hi => ?_) inv
      cases h : listed.getD i false with
      | true => rfl
      | false => exact absurd hr (hmin listed inv.size i hi h)
    · obtain ⟨h0, o, hoA, hwait⟩ := mem_ready.1 hk
      have ho : ops[k]? = some o := by simpa using hoA
      have hkl : k < ops.length := (List.getElem?_eq_some_iff.1 ho).1
      have h0f : listed.getD k false = false := getD_both h0
      have hsz : k < listed.size := by rw [inv.size]; exact hkl
      obtain ⟨hg, hsel, _, hdsz, hD, hlook, hdist⟩ := relOk4_spec hB k o ho
      have hw : ∀ m, waits ops k m = true → listed.getD m false = true := fun m hm => by
        obtain ⟨o', ho', e, he, hb, rfl⟩ := waits_spec.1 hm
        have : o' = o := Option.some.inj (ho'.symm.trans ho)
        subst this
        exact hwait e he hb
      have hDl : ∀ j ∈ D.getD k [], listed.getD j false = true := fun j hj => hw j (hD j hj).1
      have hdk : dstOf ops k = o.dst := by simp [dstOf, ho]
      -- the operation runs as it does in the small state
      have hexec : execOp a'.eval o = execOp (puts ops vals (D.getD k []) a).eval o := execOp_congr o hsel fun y hy => by
        cases y with
        | tmp t =>
          have ht : a'.tmps[t]? = (puts ops vals (D.getD k []) a).tmps[t]? := by
            by_cases h : ∃ j, dstOf ops j = some t
            · obtain ⟨j, hj⟩ := h
              rcases hlook j (dst_lt hj) (looks_spec ho hj hy) with hm | hm
              · rw [inv.new j t (hDl j hm) hj, puts_get (fun i j => hdd i j t) _ _ j hm hj (hds j t hj)]
              · have hjf : listed.getD j false = true → False := fun hjl => by
                  have := reach_listed inv.closed _ j k (fun m hm => inv.closed m j hm hjl) hm
                  rw [this] at h0f; cases h0f
                rw [inv.old t (fun i hi e => by have := hdd i j t e hj; subst this; exact hjf hi), puts_ne _ _ (fun i hi e => by have := hdd i j t e hj; subst this; exact hjf (hDl i hi))]
            · rw [inv.old t (fun j _ e => h ⟨j, e⟩), puts_ne _ _ (fun i _ e => h ⟨i, e⟩)]
          show a'.tmps.getD t undef = (puts ops vals (D.getD k []) a).tmps.getD t undef
          rw [Array.getD_eq_getD_getElem?, Array.getD_eq_getD_getElem?, ht]
        | _ => rfl
      have hcs := (cnt_set (f := fun i => listed.getD i false) (g := fun i => (listed.setIfInBounds k true).getD i false) h0f (getD_set (listed := listed) hsz) (n := ops.length)).2 hkl
      have hob := hs k o ho vals x (fun i => listed.getD i false) h0f (fun r h => reach_listed inv.closed _ k r (fun m hm => hw m hm) h) (fun r hr => by
        cases h : listed.getD r false with
        | false => rfl
        | true => exact absurd ((reach_listed inv.closed _ r k (fun m hm => inv.closed m r hm h) hr).symm.trans h0f) (by simp)) inv.inv (says_iff.2 fun j hj => inv.fact j (hDl j hj) (fun u hu => by
        rcases untilOk_spec hU hkl hj hu with rfl | hr
        · exact h0f
        · cases hlu : listed.getD u false with
          | false => rfl
          | true => exact absurd ((reach_listed inv.closed _ u k (fun m hm => inv.closed m u hm hlu) hr).symm.trans h0f) (by simp)))
      have hbs : (puts ops vals (D.getD k []) a).tmps.size = a.tmps.size := puts_size _ _
      have hbd : (puts ops vals (D.getD k []) a).defers = a.defers := puts_defers _ _
      have next : ∀ v x', (L.getD k (fun _ _ => True) (upd vals k (got o ((puts ops vals (D.getD k []) a).put o.dst v))) x' ∧ R k x x' ∧ I (did (fun i => listed.getD i false) k) x') →
          wpAny P .any ops.toArray Q fuel (listed.setIfInBounds k true) (a'.put o.dst v) x' := by
        intro v x' hq
        obtain ⟨hV, hR, hI'⟩ := hq
        have hgs := getD_set (listed := listed) hsz
        have hold : ∀ j, (listed.setIfInBounds k true).getD j false = true → j ≠ k → listed.getD j false = true := fun j hj hne => by
          rw [hgs, if_neg hne] at hj; exact hj
        refine ih _ _ x' (fun j => if j = k then got o ((puts ops vals (D.getD k []) a).put o.dst v) else vals j) ?_ ⟨by simp [inv.size], fun j m hm hl => ?_, by rw [put_size]; exact inv.tsize, by rw [put_defers]; exact inv.defers, fun t ht => ?_, fun j t hj hdj => ?_, by rw [show (fun i => (listed.setIfInBounds k true).getD i false) = fun j => if j = k then true else listed.getD j false from funext hgs]; exact hI', fun j hj hun => ?_⟩
        · omega
        · rw [hgs]
          by_cases e : j = k
          · rw [if_pos e]
          · rw [if_neg e]
            by_cases e' : m = k
            · subst e'; exact hw j hm
            · exact inv.closed j m hm (hold m hl e')
        · rw [put_get_ne _ _ _ _ (by
            have := ht k (by rw [hgs, if_pos rfl])
            rwa [hdk] at this)]
          refine inv.old t fun j hj => ht j ?_
          rw [hgs]; split <;> first | rfl | exact hj
        · by_cases e : j = k
          · subst e
            rw [hdk] at hdj
            have htl := hdsz t hdj
            rw [if_pos rfl, hdj, put_get _ _ _ (by rw [inv.tsize]; exact htl)]
            simp only [got, hdj]
            rw [Array.getD_eq_getD_getElem?, put_get _ _ _ (by rw [hbs]; exact htl)]
            rfl
          · rw [if_neg e, put_get_ne _ _ _ _ (fun e' => e (hdist j t (dst_lt hdj) hdj e'))]
            exact inv.new j t (hold j hj e) hdj
        · by_cases e : j = k
          · subst e; exact hV
          · have hjl := hold j hj e
            have hrj : reach ops ops.length j k = false := by
              cases h : reach ops ops.length j k with
              | false => rfl
              | true => rw [reach_listed inv.closed _ j k (fun m hm => inv.closed m j hm hjl) h] at h0f; cases h0f
            have hnk : U.getD j none ≠ some k := fun hu => by
              have := hun k hu
              rw [hgs, if_pos rfl] at this; cases this
            have hold9 : ∀ u, U.getD j none = some u → listed.getD u false = false := fun u hu => by
              have := hun u hu
              rw [hgs] at this
              by_cases e9 : u = k
              · rw [e9]; exact h0f
              · rwa [if_neg e9] at this
            have hru : ∀ u, U.getD j none = some u → reach ops ops.length k u = false := fun u hu => by
              cases h9 : reach ops ops.length k u with
              | false => rfl
              | true => exact absurd ((reach_listed inv.closed _ k u (fun m hm => hw m hm) h9).symm.trans (hold9 u hu)) (by simp)
            have hfj := hL j k hkl e hrj hnk hru vals x x' (inv.fact j hjl hold9) hR
            refine hLo.get j vals _ x' (by simp [upd, e]) (fun m hm => ?_) hfj
            have hmk : m ≠ k := fun e' => by
              have hjlt := listed_lt inv.size hjl
              have hw' := ((relOk4_spec hB j ops[j] (List.getElem?_eq_getElem hjlt)).2.2.2.2.1 m (by simpa using hm)).1
              rw [e'] at hw'
              rw [inv.closed k j hw' hjl] at h0f; cases h0f
            simp [upd, hmk]
      unfold wpOp
      rw [hoA]
      dsimp only
      have hgv : ∀ g b, o.guard = some (g, b) → ∃ d, dstOf ops g = some d ∧ a'.tmps[d]? = some (vals g) := fun g b hgb => by
        obtain ⟨h1, d, h2⟩ := hg g b hgb
        exact ⟨d, h2, inv.new g d (hDl g h1) h2⟩
      have hyield : ∀ g b, o.guard = some (g, b) → (Region.wanted o (yielded ops.toArray a'.tmps) = true ↔ vals g = .bool b) := fun g b hgb => by
        obtain ⟨d, h1, h2⟩ := hgv g b hgb
        have hy : yielded ops.toArray a'.tmps g = match some (vals g) with | some (.bool b) => some b | _ => none := by
          unfold yielded
          rw [show (ops.toArray[g]?).bind (·.dst) = some d from by simpa [dstOf] using h1]
          simp only [Option.bind_some, h2]
          cases vals g <;> rfl
        unfold Region.wanted
        rw [hgb]
        simp only [hy]
        constructor
        · intro h
          split at h
          · rename_i b' he
            injection he with he
            rw [he]
            have : b' = b := by simpa using h
            rw [this]
          · cases h
        · intro h
          rw [h]; simp
      have hskip : Region.wanted o (yielded ops.toArray a'.tmps) = false → wpAny P .any ops.toArray Q fuel (listed.setIfInBounds k true) (a'.put o.dst undef) x := fun hw0 => by
        cases hgd : o.guard with
        | none => unfold Region.wanted at hw0; rw [hgd] at hw0; cases hw0
        | some p =>
          obtain ⟨g, b⟩ := p
          have hne : vals g ≠ .bool b := fun e => by rw [(hyield g b hgd).2 e] at hw0; cases hw0
          obtain ⟨h1, h2⟩ := hob.2 g b hgd hne
          refine next undef x ⟨?_, hRr k x, h2⟩
          have : got o ((puts ops vals (D.getD k []) a).put o.dst undef) = undef := by
            unfold got
            cases hd : o.dst with
            | none => rfl
            | some d =>
              simp only
              rw [Array.getD_eq_getD_getElem?, put_get _ _ _ (by rw [hbs]; exact hdsz d hd)]
              rfl
          rw [this]; exact h1
      by_cases hwant : Region.wanted o (yielded ops.toArray a'.tmps) = true
      rotate_left
      · rw [if_neg hwant]
        exact hskip (by simpa using hwant)
      rw [if_pos hwant]
      have hob := hob.1 fun g b hgd => (hyield g b hgd).1 hwant
      refine .inl ?_
      unfold Oper.wp at hob ⊢
      rw [hexec]
      generalize (execOp (puts ops vals (D.getD k []) a).eval o).run P x = r at hob ⊢
      cases r with
      | ok n w' =>
        cases n <;> simp only [Oper.upon] at hob ⊢
        case value v => exact next v w' hob.2
        case skip => exact next _ w' hob.2
        case defer d =>
          have := hob.1
          rw [put_defers] at this
          exact absurd (congrArg List.length this) (by simp)
        case enter f args =>
          refine Calls.mono hob fun e w'' he => ?_
          cases e with
          | returned u => exact next u w'' he.2
          | panicked c => exact he.elim
          | outgrown => obtain ⟨_, _, h⟩ := he; exact h.elim
        case row row args => exact Rows.mono hob fun u w'' he => next u w'' he.2
      | halt e w' =>
        cases e <;> simp only [Oper.upon] at hob ⊢ <;> exact hob.elim


def StabS5 (ops : List Oper) (U : List (Option Nat)) (V : Say) (i : Nat) : List (Nat × (World → World → Prop)) → Prop
  | [] => True
  | p :: l => ((reach ops ops.length i p.1 || (match U.getD i none with | none => false | some u => u == p.1 || reach ops ops.length p.1 u)) = true ∨ i = p.1 ∨ ∀ vs x x', V vs x → p.2 x x' → V vs x') ∧ StabS5 ops U V i l
def Stabs5 (ops : List Oper) (U : List (Option Nat)) (R0 : World → World → Prop) (Rs : List (Nat × (World → World → Prop))) : Nat → List Say → Prop
  | _, [] => True
  | i, V :: l => ((isLast ops i = true ∨ ∀ vs x x', V vs x → R0 x x' → V vs x') ∧ StabS5 ops U V i Rs) ∧ Stabs5 ops U R0 Rs (i + 1) l
theorem relOf_stab5 {ops : List Oper} {U : List (Option Nat)} {R0 : World → World → Prop} {V : Say} {i k : Nat} (hik : i ≠ k) (hr : reach ops ops.length i k = false) (hu : U.getD i none ≠ some k) (hk : ∀ u, U.getD i none = some u → reach ops ops.length k u = false) (h0 : ∀ vs x x', V vs x → R0 x x' → V vs x') : ∀ {l : List (Nat × (World → World → Prop))}, StabS5 ops U V i l → ∀ vs x x', V vs x → relOf R0 l k x x' → V vs x'
  | [], _, vs, x, x', hv, h => h0 vs x x' hv h
  | p :: l, hs, vs, x, x', hv, h => by
    by_cases e : k = p.1
    · rcases hs.1 with h1 | h1 | h1
      · rw [Bool.or_eq_true] at h1
        rcases h1 with h1 | h1
        · rw [e, h1] at hr; cases hr
        · cases hU : U.getD i none with
          | none => rw [hU] at h1; cases h1
          | some u =>
            rw [hU] at h1
            simp only [Bool.or_eq_true, beq_iff_eq] at h1
            rcases h1 with h1 | h1
            · exact absurd (by rw [hU, h1, e]) hu
            · have := hk u hU
              rw [e, h1] at this; cases this
      · exact absurd (h1.trans e.symm) hik
      · exact h1 vs x x' hv (h.1 e)
    · exact relOf_stab5 hik hr hu hk h0 hs.2 vs x x' hv (h.2 e)
theorem Stabs5.get {ops : List Oper} {U : List (Option Nat)} {R0 : World → World → Prop} {Rs : List (Nat × (World → World → Prop))} {k : Nat} (hk : k < ops.length) : ∀ {L : List Say} {m : Nat}, Stabs5 ops U R0 Rs m L → ∀ i, m + i ≠ k → reach ops ops.length (m + i) k = false → U.getD (m + i) none ≠ some k → (∀ u, U.getD (m + i) none = some u → reach ops ops.length k u = false) → ∀ vs x x', L.getD i (fun _ _ => True) vs x → relOf R0 Rs k x x' → L.getD i (fun _ _ => True) vs x'
  | [], _, _, i, _, _, _, _, vs, x, x', _, _ => by simp
  | V :: l, m, h, 0, hik, hr, hu, hku, vs, x, x', hv, hR => by
    rcases h.1.1 with h1 | h1
    · exact (relOf_last (R0 := R0) (V := V) hik hr hk h1).elim
    · simpa using relOf_stab5 hik hr hu hku h1 h.1.2 vs x x' (by simpa using hv) hR
  | V :: l, m, h, i + 1, hik, hr, hu, hku, vs, x, x', hv, hR => by
    have e : m + (i + 1) = m + 1 + i := by omega
    rw [e] at hik hr hu hku
    simpa using Stabs5.get hk h.2 i hik hr hu hku vs x x' (by simpa using hv) hR
/-- A drawn region, each operation once. D: of each operation the ones that it looks at, with their slots; L: what is said of each one's value; R: what every operation does to memory; I: what is so all along, by which have been done. -/
theorem wp_region_rel5 {id : Nat} {ops : List Oper} {a : Act} {w : World} (D : List (List (Nat × Tmp))) (R0 : World → World → Prop) (Rs : List (Nat × (World → World → Prop))) (I : (Nat → Bool) → World → Prop) (L : List Say) (U : List (Option Nat)) (all : List (Nat × Tmp)) (hm : P.follows .mixedOrders = true)
    (hB : relOk4 ops (idxs D) a.tmps.size = true) (hD : D.all (fitsD ops) = true)
    (hall : (List.range ops.length).filterMap (fun i => (dstOf ops i).map fun t => (i, t)) = all)
    (hRr : ∀ x, R0 x x) (hRs : Refls Rs) (hU : untilOk ops (idxs D) U = true) (hL : Stabs5 ops U R0 Rs 0 L) (hLo : Locals (idxs D) 0 L) (h0 : I (fun _ => false) (w.drewN 1))
    (hs : sharesR4 P ops (relOf R0 Rs) I L a 0 ops D)
    (hfin : ∀ vals x f, (∀ i, i < ops.length → f i = true) → I f x → says L vals x ((List.range ops.length).filter fun i => (U.getD i none).isNone) → Q .normal (putsD vals all a) x) : (Code.region id ops.toArray true).wp P Q a w := by
  refine wp_region_any hm ?_
  have z0 : ∀ j, (Array.replicate ops.toArray.size false).getD j false = false := fun j => getD_replicate_false _ _
  have hle : ∀ (f : Nat → Bool) (n : Nat), cnt f n ≤ n := fun f n => by
    induction n with
    | zero => exact Nat.le_refl _
    | succ n ih => simp only [cnt]; split <;> omega
  have hrel := rel5_any (P := P) (Q := Q) (ops := ops) (a := a) (D := idxs D) (R := relOf R0 Rs) (I := I) (L := L) (U := U) (relOf_refl hRr hRs) (fun j k hk hjk hr hu hku vs x x' => Stabs5.get hk hL j (by rw [Nat.zero_add]; exact hjk) (by rw [Nat.zero_add]; exact hr) (by rw [Nat.zero_add]; exact hu) (by rw [Nat.zero_add]; exact hku) vs x x') hLo hU hB
  refine hrel (fun k o hk => ?_) (fun vals x f hn hI hf => ?_) _ _ _ _ (fun _ => undef) (Nat.le_trans (hle _ _) (by simp)) ?_
  rotate_left
  · rw [puts_all, hall]; exact hfin vals x f hn hI hf
  · exact ⟨by simp, fun j k _ hl => (by rw [z0] at hl; cases hl), rfl, rfl, fun _ _ => rfl, fun j t hj => (by rw [z0] at hj; cases hj), by rw [show (fun i => (Array.replicate ops.toArray.size false).getD i false) = fun _ => false from funext z0]; exact h0, fun j hj _ => (by rw [z0] at hj; cases hj)⟩
  · have hsh := sharesR4_get hs k o hk
    rw [Nat.zero_add] at hsh
    have hfit : fitsD ops (D.getD k []) = true := by
      rcases Nat.lt_or_ge k D.length with h | h
      · rw [show D.getD k [] = D[k] by simp [h]]; exact List.all_eq_true.1 hD _ (List.getElem_mem h)
      · rw [show D.getD k [] = [] by simp [h]]; rfl
    have hDk : (idxs D).getD k [] = (D.getD k []).map (·.1) := by
      unfold idxs
      rcases Nat.lt_or_ge k D.length with h | h
      · simp [h]
      · simp [h]
    intro vals x f hn hl hl2 hI hf
    rw [hDk, says_saysD] at hf
    have h := hsh vals x f hn hl hl2 hI hf
    rw [hDk, puts_putsD hfit]
    have hun : wpList P #[] (relQ4 (relOf R0 Rs k) I L vals f k o (putsD vals (D.getD k []) a) x) [bare o] (putsD vals (D.getD k []) a) x → o.wp P (putsD vals (D.getD k []) a) x (relQ4 (relOf R0 Rs k) I L vals f k o (putsD vals (D.getD k []) a) x .normal) (relQ4 (relOf R0 Rs k) I L vals f k o (putsD vals (D.getD k []) a) x) := fun h => by
      rcases wpList_bare h with h | ⟨_, _, h⟩
      · exact h
      · exact h.elim
    generalize o.guard = gd at h ⊢
    cases gd with
    | none => exact ⟨fun _ => hun h, fun g b e => by cases e⟩
    | some p =>
      obtain ⟨g, b⟩ := p
      exact ⟨fun e => hun (h.1 (e g b rfl)), fun g' b' e hne => by injection e with e; injection e with e1 e2; subst e1; subst e2; exact h.2 hne⟩
end Go.Proofs.YtjghcaghigebjaaDoor

/-! The two sentinels: what the condition on the package's variables gives; the variables read again; the world that the initialisers leave. -/
namespace Go.Proofs.YtjghcaghigebjaaDoor
open Go Go.ChangeShapes Go.WideShapes Go.ChangeAt Go.RowKit

theorem dr_own : ownKnob Tryd.prog.godebug = none := by kernel_rfl
theorem dr_g0 : Tryd.prog.globalNamed "loop.example/seedlip/impl.errBits" = some 0 := by kernel_rfl
theorem dr_g1 : Tryd.prog.globalNamed "loop.example/seedlip/impl.errRoom" = some 1 := by kernel_rfl
theorem dr_t0 : (Tryd.prog.globals[0]?).map (·.type) = some 80 := by kernel_rfl
theorem dr_t1 : (Tryd.prog.globals[1]?).map (·.type) = some 80 := by kernel_rfl
theorem dr_c0 : Tryd.prog.cellsOf 210 = 1 := by kernel_rfl
theorem dr_c1 : Tryd.prog.cellsOf 9 = 1 := by kernel_rfl
theorem dr_star : "*" ++ "errors.errorString" = "*errors.errorString" := by decide
theorem dr_row (u : TypeId) (h : Tryd.prog.typeName? 3 u = some "*errors.errorString") : u = 183 :=
  typeName_ptr_named (nm := "errors.errorString") (by rw [dr_star]; kernel_rfl) (by kernel_rfl) (by decide) u (by rw [dr_star]; exact h)
/-- What is listed of the package's variables. -/
abbrev laid2 : List (String × DataW Unit) := [("loop.example/seedlip/impl.errRoom", Rows.laid_loop_example_seedlip_impl_errRoom), ("loop.example/seedlip/impl.errBits", Rows.laid_loop_example_seedlip_impl_errBits)]
set_option maxRecDepth 100000 in
theorem glb_of_laid {W : World} (h : laidMetH Tryd.prog laid2 W) :
    ∃ a0 a1 : Addr, Glb a0 a1 W.heap.size W ∧ W.var? Tryd.prog "loop.example/seedlip/impl.errBits" = some #[sentV a0] ∧ W.var? Tryd.prog "loop.example/seedlip/impl.errRoom" = some #[sentV a1] := by
  rw [MakeChecks.laidMetH_plain _ _ _ (by kernel_rfl)] at h
  obtain ⟨ps, ⟨g1, t1, cs1, f1, p1, q1, hg1, ht1, hv1, hd1, ⟨g0, t0, cs0, f0, p0, q0, hg0, ht0, hv0, hd0, hq0, e0⟩, e1⟩, hnd, hrows⟩ := h
  obtain rfl := Option.some.inj (dr_g0.symm.trans hg0)
  obtain rfl := Option.some.inj (dr_g1.symm.trans hg1)
  obtain rfl := Option.some.inj (dr_t0.symm.trans ht0)
  obtain rfl := Option.some.inj (dr_t1.symm.trans ht1)
  have hq0' : q0 = [] := hq0
  subst hq0'
  subst e0
  subst e1
  obtain ⟨l0⟩ := cs0
  obtain ⟨l1⟩ := cs1
  have ok0 : ∀ u v, l0 = [.iface u v] → Value.okWide Tryd.prog W .any 0 u v := fun u v e => by
    subst e
    exact (hrows 0 0 (by simp [MemPlace.row])).2 u v (by simpa using World.var?_cell hg0 hv0 0)
  have ok1 : ∀ u v, l1 = [.iface u v] → Value.okWide Tryd.prog W .any 0 u v := fun u v e => by
    subst e
    exact (hrows 1 0 (by simp [MemPlace.row])).2 u v (by simpa using World.var?_cell hg1 hv1 0)
  obtain ⟨a0, s0, rfl, hc0, hs0, hz0, rfl⟩ := errorString_of_trod Tryd.underlying80 dr_row Tryd.underlying183 Tryd.underlying210 rfl rfl Tryd.underlying9 dr_c0 dr_c1 hd0 ok0
  obtain ⟨a1, s1, rfl, hc1, hs1, hz1, rfl⟩ := errorString_of_trod Tryd.underlying80 dr_row Tryd.underlying183 Tryd.underlying210 rfl rfl Tryd.underlying9 dr_c0 dr_c1 hd1 ok1
  obtain ⟨c0, t0, hb0⟩ := (hrows a0.block a0.off (by simp [MemPlace.row])).1
  obtain ⟨c1, t1, hb1⟩ := (hrows a1.block a1.off (by simp [MemPlace.row])).1
  have k0 : W.cell? ⟨0, 0, none⟩ = some (sentV a0) := by simpa using World.var?_cell dr_g0 hv0 0
  have k1 : W.cell? ⟨1, 0, none⟩ = some (sentV a1) := by simpa using World.var?_cell dr_g1 hv1 0
  refine ⟨a0, a1, ⟨k0, k1, ⟨c0, t0, hb0⟩, ⟨c1, t1, hb1⟩, ?_, ?_, (Array.getElem?_eq_some_iff.1 hb0).1, (Array.getElem?_eq_some_iff.1 hb1).1⟩, hv0, hv1⟩
  · rintro rfl
    simp [MemPlace.row] at hnd
  · have := World.block_lt_of_cell? W _ k1
    exact this
/-- The variables hold below a mark what they held. -/
theorem var_below {W W' : World} {n : String} {g : Nat} {cs : Array Value} (hg : Tryd.prog.globalNamed n = some g) (h : W.var? Tryd.prog n = some cs) (hb : Below W.heap.size W W') : W'.var? Tryd.prog n = some cs := by
  unfold World.var? at h ⊢
  rw [hg] at h ⊢
  simp only [Option.bind_some] at h ⊢
  have hlt : g < W.heap.size := by
    rcases Nat.lt_or_ge g W.heap.size with h' | h'
    · exact h'
    · simp [Array.getElem?_eq_none h'] at h
  rw [hb.block g hlt]; exact h
theorem vars_read {H : Type} (enc : TypeId × Value → H) {W : World} {x0 x1 : Value} (h0 : W.var? Tryd.prog "loop.example/seedlip/impl.errBits" = some #[x0]) (h1 : W.var? Tryd.prog "loop.example/seedlip/impl.errRoom" = some #[x1]) (i0 : IsIface x0) (i1 : IsIface x1) (sp : Nat → Bool) :
    DataW.TrodVars enc Tryd.prog W sp ["loop.example/seedlip/impl.errBits", "loop.example/seedlip/impl.errRoom"] [tok enc x0, tok enc x1] [.cell 0 0, .cell 1 0] :=
  ⟨0, 80, #[x0], 1, [], [.cell 1 0], dr_g0, dr_t0, h0, trod_held Tryd.underlying80 i0 0, ⟨1, 80, #[x1], 1, [], [], dr_g1, dr_t1, h1, trod_held Tryd.underlying80 i1 0, rfl, rfl⟩, rfl⟩
/-- The heap that the initialisers leave meets the condition. -/
theorem door_met (os : Os) (args : Array Value) : laidMetH Tryd.prog laid2 ((World.doorLaid Tryd.prog 400 os).forCall (fun _ _ => 0) ⟨#[], args, []⟩).memory :=
  laidMetH_of_parts3 (fuel := 8) (laidMet_of_run' 8 (by kernel_rfl) (by kernel_rfl)) (by kernel_rfl) (by kernel_rfl)
end Go.Proofs.YtjghcaghigebjaaDoor

/-! The laws' own comparison of integer rows. -/
namespace Go.Proofs.YtjghcaghigebjaaDoor
open Go Go.RowKit

end Go.Proofs.YtjghcaghigebjaaDoor

/-! Own rows of truth values; append. -/
namespace Go.Proofs.YtjghcaghigebjaaDoor
open Go Go.RowKit

def OwnB (w : World) (lo : Nat) (v : Value) (bs : List Bool) : Prop := w.ownsRow lo 4 1 v bs.length (bs.map Value.bool)
theorem OwnB.rd {w : World} {lo c : Nat} {A : Option Addr} {bs : List Bool} (h : OwnB w lo (.slice A bs.length c) bs) : Lay.bool.Rd w A bs := (sl_bools_of_own h (fun g _ hg => hg)).1
theorem OwnB.gr {S : Nat → Prop} {w w' : World} {lo : Nat} {v : Value} {bs : List Bool} (h : OwnB w lo v bs) (hg : Gr S w w') (hr : ∀ b, S b → b < lo) : OwnB w' lo v bs :=
  own_of_heap h fun g hg' => hg.block g (h.lt g hg').2 (fun e => by have := hr g e; have := (h.lt g hg').1; omega)
theorem OwnB.up {w w' : World} {lo : Nat} {v : Value} {bs : List Bool} (h : OwnB w lo v bs) (hb : Below w.heap.size w w') : OwnB w' lo v bs := own_below h hb (Nat.le_refl _)
theorem OwnB.set {w : World} {lo g c k : Nat} {bs : List Bool} (h : OwnB w lo (.slice (some ⟨g, 0, none⟩) bs.length c) bs) (b : Bool) : OwnB (w.setCell ⟨g, k, none⟩ (.bool b)) lo (.slice (some ⟨g, 0, none⟩) bs.length c) (bs.set k b) := by
  have := (h.stored k (.bool b)).1
  unfold OwnB
  rw [List.length_set, List.map_set]
  exact this
theorem OwnB.cell {w : World} {lo g c k : Nat} {bs : List Bool} (h : OwnB w lo (.slice (some ⟨g, 0, none⟩) bs.length c) bs) (hk : k < bs.length) : w.cell? ⟨g, k, none⟩ = some (.bool bs[k]) ∧ w.frozen? ⟨g, k, none⟩ = false := by
  refine ⟨?_, h.frozenAt k⟩
  have hc := h.2
  rcases hc with ⟨e, _⟩ | ⟨g', cap, cur, e, _, _, h3, _⟩
  · cases e
  · have hx := h.cellAt k (by simp; omega)
    rw [hx, List.getElem?_map, List.getElem?_eq_getElem hk]; rfl
theorem OwnB.form {w : World} {lo : Nat} {v : Value} {bs : List Bool} (h : OwnB w lo v bs) : ∃ A c, v = .slice A bs.length c ∧ bs.length ≤ c := by
  rcases h.2 with ⟨h1, h2⟩ | ⟨g, cap, cur, h1, _, _, h3, _⟩
  · exact ⟨none, 0, by rw [h1, h2], by rw [h2]; exact Nat.le_refl _⟩
  · exact ⟨_, cap, h1, h3⟩
theorem OwnB.cap {w : World} {lo c n : Nat} {A : Option Addr} {bs : List Bool} (h : OwnB w lo (.slice A n c) bs) : n = bs.length ∧ bs.length ≤ c := by
  obtain ⟨A', c', e, hl⟩ := h.form
  injection e with e1 e2 e3
  exact ⟨e2, by omega⟩
end Go.Proofs.YtjghcaghigebjaaDoor

/-! The program's comparison and values of nets; the laws' own words on them. -/
namespace Go.Proofs.YtjghcaghigebjaaDoor
open Go Go.RowKit

theorem neqG (w : World) (g h : G) : (binOp .neq 96 (.agg #[.bool g.x, .int .i64 g.a, .int .i64 g.b]) (.agg #[.bool h.x, .int .i64 h.a, .int .i64 h.b])).run Tryd.prog w = .ok (.bool (!decide (g = h))) w := by
  have hh : Tryd.prog.stoodInHeld 96 = false := by kernel_rfl
  rw [decide_G]
  simp [go_sem, hh]
  (repeat' split) <;> simp_all
set_option maxHeartbeats 1000000 in
theorem equalG_any (A B : Option Addr) (c d : Nat) (xs ys : List G) (w : World) (h : Lay.gate.Rd w A xs) (h' : Lay.gate.Rd w B ys) (hn : xs.length ≤ 1048576) (hn' : ys.length ≤ 1048576) :
    Calls Tryd.prog 60 #[.slice A xs.length c, .slice B ys.length d] w fun e w' => e = .returned (.bool (decide (xs = ys))) ∧ Below w.heap.size w w' := by
  by_cases hl : xs.length = ys.length
  · have hne : (((xs.length : Int) != (ys.length : Int))) = false := by simp [hl]
    have HL := Lib.hid hl
    clear hl
    go_enter Tryd.func60, Tryd.ntmps60
    go_wp2
    clear hne
    go_loopw [13] (fun i wr => ∃ k m : Nat, k ≤ xs.length ∧ i = .int .i64 k ∧ wr = w.drewN m ∧ xs.take k = ys.take k) (fun i _ => xs.length - (intOf i).toNat)
    case atStart => exact ⟨0, 0, Nat.zero_le _, rfl, rfl, rfl⟩
    case round =>
      obtain ⟨k, m, hk, rfl, rfl, ht⟩ := hrel
      have HT := Lib.hid ht
      clear ht
      by_cases hlt : k < xs.length
      · have hlt' : k < ys.length := by have := HL.out; omega
        obtain ⟨ad, rfl, hf, j1, j2, j3⟩ := h.at_gate hlt
        obtain ⟨ad', rfl, hf', l1, l2, l3⟩ := h'.at_gate hlt'
        have hk0 : (0 : Int) ≤ k := by omega
        have hk1 : (k : Int) < xs.length := by omega
        have hk2 : (k : Int) < ys.length := by omega
        clear h h' hf hf'
        by_cases hxy : xs[k] = ys[k]
        · have he : ∀ W' : World, (binOp .neq 96 (.agg #[.bool xs[k].x, .int .i64 xs[k].a, .int .i64 xs[k].b]) (.agg #[.bool ys[k].x, .int .i64 ys[k].a, .int .i64 ys[k].b])).run Tryd.prog W' = .ok (.bool false) W' := fun W' => by rw [neqG W' xs[k] ys[k], decide_eq_true hxy]; rfl
          have HS := Lib.hid (take_eq_step hlt hlt' HT.out hxy)
          clear hxy
          generalize xs[k] = gx at *
          generalize ys[k] = gy at *
          go_wp2
          go_quiet (fail)
          clear he
          go_wp2
          go_roundw
          case rel => exact ⟨k + 1, _, by omega, by go_num, rfl, HS.out⟩
          case measure => simp [intOf]; omega
        · have he : ∀ W' : World, (binOp .neq 96 (.agg #[.bool xs[k].x, .int .i64 xs[k].a, .int .i64 xs[k].b]) (.agg #[.bool ys[k].x, .int .i64 ys[k].a, .int .i64 ys[k].b])).run Tryd.prog W' = .ok (.bool true) W' := fun W' => by rw [neqG W' xs[k] ys[k], decide_eq_false hxy]; rfl
          have HXY := Lib.hid (fun e : xs = ys => hxy (by simp [e]))
          clear hxy
          generalize xs[k] = gx at *
          generalize ys[k] = gy at *
          go_wp2
          go_quiet (fail)
          clear he
          go_wp2
          go_ret
          exact ⟨ret_bool (decide_eq_false HXY.out).symm, by rw [World.drewN_drewN]; exact below_drewN (Below.refl _ _) _⟩
      · have : k = xs.length := by omega
        subst this
        go_wp2
        go_ret
        exact ⟨ret_bool (by have := HL.out; have := HT.out; simp [eq_of_take HL.out HT.out]), below_drewN (Below.refl _ _) _⟩
  · have hne : (((xs.length : Int) != (ys.length : Int))) = true := by simp; omega
    go_enter Tryd.func60, Tryd.ntmps60
    go_wp2
    go_ret
    exact ⟨ret_bool (by simp; rintro rfl; exact hl rfl), Below.refl _ _⟩

theorem decide_N (m n : N) : decide (m = n) = (m.ins == n.ins && decide (m.gs = n.gs)) := by
  cases m; cases n; rw [Bool.eq_iff_iff]; simp
set_option maxHeartbeats 1000000 in
theorem netSame_any (m n : N) (A B : Option Addr) (c d : Nat) (w : World) (h : Lay.gate.Rd w A m.gs) (h' : Lay.gate.Rd w B n.gs) (hn : m.gs.length ≤ 1048576) (hn' : n.gs.length ≤ 1048576) :
    Calls Tryd.prog 22 #[.agg #[.int .i64 m.ins, .slice A m.gs.length c], .agg #[.int .i64 n.ins, .slice B n.gs.length d]] w fun e w' => e = .returned (.bool (decide (m = n))) ∧ Below w.heap.size w w' := by
  have hw : Below w.heap.size w ((w.alloc (.cells #[.int .i64 m.ins, .slice A m.gs.length c] 29)).alloc (.cells #[.int .i64 n.ins, .slice B n.gs.length d] 29)) := ((Below.refl _ _).alloc (Nat.le_refl _) _).alloc (by simp) _
  have HC := Lib.hid (equalG_any A B c d m.gs n.gs _ (h.up hw) (h'.up hw) hn hn')
  have HW := Lib.hid hw
  have HD := Lib.hid (decide_N m n)
  clear hw
  by_cases hi : m.ins = n.ins
  · have hib : (m.ins == n.ins) = true := by simpa using hi
    have HI := Lib.hid hib
    clear hi
    go_enter Tryd.func22, Tryd.ntmps22
    go_wp2_with fail
    refine HC.out.mono ?_
    rintro e w1 ⟨rfl, hb⟩
    clear hib
    go_wp2
    go_ret
    exact ⟨ret_bool (by rw [HD.out, HI.out]; rfl), bthen HW.out hb⟩
  · have hib : (m.ins == n.ins) = false := by simpa using hi
    have HI := Lib.hid hib
    clear hi
    go_enter Tryd.func22, Tryd.ntmps22
    go_wp2
    go_ret
    exact ⟨ret_bool (by rw [HD.out, HI.out]; rfl), HW.out⟩
end Go.Proofs.YtjghcaghigebjaaDoor

/-! FnBitsBent: malformed operands are refused: for any bytes the law says true. -/
namespace Go.Proofs.YtjghcaghigebjaaDoor
open Go Go.RowKit Go.ChangeShapes Go.WideShapes Go.ChangeAt Go.Deep

theorem opens_bytes : Opens Tryd.prog 39 Lay.byte.slice (fun xs => xs.length ≤ maxLen ∧ ∀ x ∈ xs, True) := Opens.slice Tryd.underlying39 (by kernel_rfl) (by decide) (Opens.byte Tryd.underlying5)
theorem cmp_bad {n : N} {op : Int} {zs ys : List Int} (h : (goodL n zs && goodL n ys && decide (zs.length = ys.length)) = false) : cmpOut (pickN (netOk n) (bitsCmp1R n op zs ys)) = (⟨0, []⟩, 0) := by
  cases netOk n
  · rfl
  · unfold pickN bitsCmp1R bitsOk
    rw [h]; rfl
theorem cat_bad {n : N} : pickN (netOk n) (binZ n [1, 1, 1] [1, 1] (catS n [1, 1, 1] [1, 1])) = (⟨0, []⟩, []) := by
  cases netOk n
  · rfl
  · unfold pickN binZ
    show (if (goodL n [1, 1, 1] && goodL n [1, 1]) = true then _ else _) = _
    split
    · rfl
    · rfl
theorem sl_tail {α : Type} {L : Lay α} {w : World} {F : Nat → Prop} {ad : Addr} {xs : List α} (h : L.Sl w F (some ad) xs) : L.Sl w F (some (ad.add L.size)) xs.tail := fun hn => by
  obtain ⟨ad', e, hf, hc⟩ := h (by cases xs <;> simp at hn ⊢)
  injection e with e; subst e
  refine ⟨_, rfl, by rw [block_of_add]; exact hf, fun k x hx => ?_⟩
  obtain ⟨vs, hr, hcell⟩ := hc (k + 1) x (by rw [← List.getElem?_tail]; exact hx)
  refine ⟨vs, hr, fun j u hu => ?_⟩
  rw [add_of_add, show L.size + (k * L.size + j) = (k + 1) * L.size + j by rw [Nat.add_mul]; omega]
  exact hcell j u hu
theorem two_lits (z0 : World) (o3 o2 : Obj) (b1 b2 : Nat) (h1 : b1 = z0.heap.size) (h2 : b2 = z0.heap.size + 1) : ((z0.alloc o3).alloc o2).heap[b1]? = some o3 ∧ ((z0.alloc o3).alloc o2).heap[b2]? = some o2 ∧ Below z0.heap.size z0 ((z0.alloc o3).alloc o2) := by
  subst h1 h2
  obtain ⟨h1, h2, h3, _⟩ := two_boxes z0 o3 o2
  exact ⟨h2, h3, h1⟩
theorem rd_block {w : World} {b : Nat} {cs : Array Value} {t : TypeId} {xs : List Int} (h : w.heap[b]? = some (.cells cs t (0, 0))) (hc : cs = (xs.map (Value.int .i64)).toArray) : Lay.int.Rd w (some ⟨b, 0, none⟩) xs := fun _ => by
  refine ⟨_, rfl, lt_of_block h, fun k x hx => ⟨[.int .i64 x], rfl, fun j u hu => ?_⟩⟩
  rcases j with _ | j
  · injection hu with hu
    subst hu
    have hb := (cell_of_block h k).1
    have ha : (⟨b, 0, none⟩ : Addr).add (k * Lay.int.size + 0) = ⟨b, k, none⟩ := by
      show (⟨b, 0, none⟩ : Addr).add (k * 1 + 0) = _
      rw [Nat.mul_one, Nat.add_zero]; unfold Addr.add; split
      · rename_i h; rw [h]
      · simp
    rw [ha, hb, hc]
    simp [hx]
  · simp at hu
/-- A slice that is read. -/
def Fact.rdN (W : World) (l : List Int) : Fact := .of (fun v x => ∃ A c, v = .slice A l.length c ∧ Lay.int.Rd x A l ∧ (A = none → l.length = 0)) fun _ _ _ ⟨A, c, h1, h2, h3⟩ hb => ⟨A, c, h1, h2.up hb, h3⟩
def OwnR (W : World) (l : List Int) (v : Value) (z : World) : Prop := ∃ A c, v = .slice A l.length c ∧ OwnI z W.heap.size (.slice A l.length c) l
theorem OwnR.up {W x y : World} {l : List Int} {v : Value} (h : OwnR W l v x) (hb : Below x.heap.size x y) : OwnR W l v y := by
  obtain ⟨A, c, h1, h2⟩ := h
  exact ⟨A, c, h1, h2.up hb⟩
def LitR (l : List Int) (v : Value) (z : World) : Prop := ∃ b : Nat, v = .slice (some ⟨b, 0, none⟩) l.length l.length ∧ z.heap[b]? = some (.cells (l.map (Value.int .i64)).toArray 3 (0, 0))
theorem LitR.up {x y : World} {l : List Int} {v : Value} (h : LitR l v x) (hb : Below x.heap.size x y) : LitR l v y := by
  obtain ⟨b, h1, h2⟩ := h
  exact ⟨b, h1, (hb.block b (lt_of_block h2)).trans h2⟩
def Lit0R (W : World) (v : Value) (z : World) : Prop := ∃ b : Addr, v = .slice (some b) 0 0 ∧ z.ownsRow W.heap.size 3 1 v 0 []
theorem Lit0R.up {W x y : World} {v : Value} (h : Lit0R W v x) (hb : Below x.heap.size x y) : Lit0R W v y := by
  obtain ⟨b, h1, h2⟩ := h
  exact ⟨b, h1, own_below h2 hb (Nat.le_refl _)⟩
def BoxR (W : World) (v : Value) (z : World) : Prop := ∃ b : Nat, v = .pointer (some ⟨b, 0, none⟩) ∧ W.heap.size ≤ b ∧ z.heap[b]? = some (.cells #[.int .i64 0, .slice none 0 0] 29 (0, 0))
theorem BoxR.up {W x y : World} {v : Value} (h : BoxR W v x) (hb : Below x.heap.size x y) : BoxR W v y := by
  obtain ⟨b, h1, h2, h3⟩ := h
  exact ⟨b, h1, h2, (hb.block b (lt_of_block h3)).trans h3⟩
/-- Rows of integers behind W may turn. -/
def IntsTurn (W x y : World) : Prop := Below W.heap.size x y ∧ ∀ (b : Nat) (cs : Array Value) (t : TypeId), t ≠ 3 → x.heap[b]? = some (.cells cs t (0, 0)) → y.heap[b]? = some (.cells cs t (0, 0))
theorem intsTurn_own {W x y : World} {A : Option Addr} {c : Nat} {l : List Int} (h : OwnI x W.heap.size (.slice A l.length c) l) (hW : W.heap.size ≤ x.heap.size) (hg : x.grownBy y (Value.slice A l.length c).ownBlock) : IntsTurn W x y := by
  refine ⟨(Below.refl _ _).grown hg hW fun g e => (h.lt g e).1, fun b cs t ht hb => ?_⟩
  refine (hg.block b (lt_of_block hb) fun e => ?_).trans hb
  rcases h.2 with ⟨e', _⟩ | ⟨g, cap, cur, e', _, hgg, _⟩
  · rw [e'] at e; cases e
  · rw [e'] at e
    injection e with e
    subst e
    rw [hb] at hgg
    injection hgg with hgg
    injection hgg with _ hgg _
    exact ht hgg
theorem BoxR.turn {W x y : World} {v : Value} (h : BoxR W v x) (hb : IntsTurn W x y) : BoxR W v y := by
  obtain ⟨b, h1, h2, h3⟩ := h
  exact ⟨b, h1, h2, hb.2 _ _ _ (by decide) h3⟩
def ZTup (v : Value) : Prop := ∃ (A : Option Addr) (c : Nat), v = .tuple #[.agg #[.int .i64 0, .slice A 0 c], .int .i64 0]
def ZNet (v : Value) : Prop := ∃ (A : Option Addr) (c : Nat), v = .agg #[.int .i64 0, .slice A 0 c]

set_option maxRecDepth 100000 in
set_option maxHeartbeats 8000000 in
theorem fnBitsBent_walk (W : World) (a0 a1 : Addr) {A0 : Option Addr} {c0 : Nat} {x0 : List UInt8} (hglb : Glb a0 a1 W.heap.size W) (hc0 : x0.length ≤ c0) (hok0 : x0.length ≤ maxLen ∧ ∀ z ∈ x0, True) (h0 : Lay.byte.Rd W A0 x0) :
    Calls Tryd.prog 9 #[.slice A0 x0.length c0] W (LawC W) := by
  have GLB := Lib.hid hglb
  clear hglb
  have hm0 : x0.length ≤ 9223372036854775807 := by have := hok0.1; unfold maxLen at this; omega
  clear hok0
  by_cases hbig0 : (1048576 : Int) < x0.length
  · go_enter Tryd.func9, Tryd.ntmps9
    go_wp2
    go_ret
    exact ⟨rfl, Below.refl _ _⟩
  have hb : Below W.heap.size W W := Below.refl _ _
  go_enter Tryd.func9, Tryd.ntmps9
  go_wp2_with fail
  refine (drawBitsCmp_any A0 c0 x0 _ h0 hc0 hm0).mono ?_
  rintro e u1 ⟨n, A1, d1, a, xs, X1, e1, ys, Y1, k1, rfl, hn, hxs, hys, hbn, ha, hkx, hky, hcx, hcy, hb9⟩
  have hb := bthen hb hb9
  clear hb9
  clear h0
  have hnl : n.gs.length ≤ 4 := hbn.2.2.1
  have hni : n.ins ≤ 9 := hbn.2.1
  have HI := Lib.hid hbn.2.2.2
  have HKX := Lib.hid hkx
  have HKY := Lib.hid hky
  have HA := Lib.hid ha
  have hx5 : xs.length ≤ 5 := hkx.1
  have hy5 : ys.length ≤ 5 := hky.1
  clear hbn hkx hky
  unfold okInt at ha
  obtain ⟨r, hr⟩ : ∃ r, r = cmpOut (pickN (netOk n) (bitsCmp1R n a xs ys)) := ⟨_, rfl⟩
  have HR := Lib.hid hr
  have HLEN := Lib.hid (show r.1.gs.length ≤ 1048576 by rw [hr]; exact bitsCmp_len)
  have HLW := Lib.hid (bitsCmp_law hr)
  have hrl := HLEN.out
  clear hr
  have hal : Below u1.heap.size u1 (u1.alloc (.cells #[.int .i64 n.ins, .slice A1 n.gs.length d1] 29)) := (Below.refl _ _).alloc (Nat.le_refl _) _
  have B9 : (u1.alloc (.cells #[.int .i64 n.ins, .slice A1 n.gs.length d1] 29)).heap[u1.heap.size]? = some (.cells #[.int .i64 n.ins, .slice A1 n.gs.length d1] 29 (0, 0)) := heap_alloc_new _ _
  have hb := bthen hb hal
  have hn := hn.up hal
  have hxs := hxs.up hal
  have hys := hys.up hal
  clear hal
  have BN := Lib.hid B9
  clear B9
  go_wp2_with fail
  generalize u1.alloc (.cells #[.int .i64 n.ins, .slice A1 n.gs.length d1] 29) = u2 at *
  generalize u1.heap.size = iBN at *
  refine (implBitsCmp_any a0 a1 W.heap.size n a xs ys A1 X1 Y1 d1 e1 k1 _ (GLB.out.below hb) hb.size hn (by omega) (sl_nonnil hn) HI.out hxs hys (fun l hl => HKX.out.2 l hl) (fun l hl => HKY.out.2 l hl) HA.out (by omega) (by omega)).mono ?_
  rw [← HR.out]
  rintro e u3 ⟨A2, d2, rfl, hd2, g2, hb9⟩
  have hb := bthen hb hb9
  have hn := hn.up hb9
  have hxs := hxs.up hb9
  have hys := hys.up hb9
  have BN := Lib.hid ((hb9.block _ (lt_of_block BN.out)).trans BN.out)
  clear hb9
  have hx := g2.own_rd
  clear g2
  have kBN_0 : u3.cell? ⟨iBN, 0, none⟩ = some (.int .i64 n.ins) := (cell_of_block BN.out 0).1
  have kBN_1 : u3.cell? ⟨iBN, 1, none⟩ = some (.slice A1 n.gs.length d1) := (cell_of_block BN.out 1).1
  have ltBN : iBN < u3.heap.size := lt_of_block BN.out
  have hal : Below u3.heap.size u3 (u3.alloc (.cells #[.int .i64 r.1.ins, .slice A2 r.1.gs.length d2] 29)) := (Below.refl _ _).alloc (Nat.le_refl _) _
  have B9 : (u3.alloc (.cells #[.int .i64 r.1.ins, .slice A2 r.1.gs.length d2] 29)).heap[u3.heap.size]? = some (.cells #[.int .i64 r.1.ins, .slice A2 r.1.gs.length d2] 29 (0, 0)) := heap_alloc_new _ _
  have hb := bthen hb hal
  have hn := hn.up hal
  have hxs := hxs.up hal
  have hys := hys.up hal
  have BN := Lib.hid ((hal.block _ (lt_of_block BN.out)).trans BN.out)
  have hx := hx.up hal
  clear hal
  have BX := Lib.hid B9
  clear B9
  go_wp2_with fail
  clear kBN_0 kBN_1 ltBN
  generalize u3.alloc (.cells #[.int .i64 r.1.ins, .slice A2 r.1.gs.length d2] 29) = u4 at *
  generalize u3.heap.size = iBX at *
  refine (specBitsCmp_any n a xs ys A1 X1 Y1 d1 e1 k1 _ hn (by omega) (sl_nonnil hn) HI.out hxs hys (fun l hl => HKX.out.2 l hl) (fun l hl => HKY.out.2 l hl) HA.out (by omega) (by omega) hcx hcy).mono ?_
  rw [← HR.out]
  rintro e u5 ⟨A3, d3, rfl, hd3, g3, hb9⟩
  have hb := bthen hb hb9
  have hn := hn.up hb9
  have hxs := hxs.up hb9
  have hys := hys.up hb9
  have BN := Lib.hid ((hb9.block _ (lt_of_block BN.out)).trans BN.out)
  have hx := hx.up hb9
  have BX := Lib.hid ((hb9.block _ (lt_of_block BX.out)).trans BX.out)
  clear hb9
  clear g3
  have hne9 : ((r.2 : Int) != r.2) = false := by simp
  have heq9 : ((r.2 : Int) == r.2) = true := by simp
  rcases HLW.out with hz | hgr
  · skip
    have hz1 : r.1 = ⟨0, []⟩ := by rw [hz]
    have HZ := Lib.hid hz1
    have hz0 : (r.2 == 0) = true := by rw [hz]; rfl
    have hz2 : (r.2 != 0) = false := by rw [hz]; rfl
    clear hz hz1
    have kBX_0 : u5.cell? ⟨iBX, 0, none⟩ = some (.int .i64 r.1.ins) := (cell_of_block BX.out 0).1
    have kBX_1 : u5.cell? ⟨iBX, 1, none⟩ = some (.slice A2 r.1.gs.length d2) := (cell_of_block BX.out 1).1
    have ltBX : iBX < u5.heap.size := lt_of_block BX.out
    have hal : Below u5.heap.size u5 (u5.alloc (.cells #[.int .i64 r.1.ins, .slice A3 r.1.gs.length d3] 29)) := (Below.refl _ _).alloc (Nat.le_refl _) _
    have B9 : (u5.alloc (.cells #[.int .i64 r.1.ins, .slice A3 r.1.gs.length d3] 29)).heap[u5.heap.size]? = some (.cells #[.int .i64 r.1.ins, .slice A3 r.1.gs.length d3] 29 (0, 0)) := heap_alloc_new _ _
    have hb := bthen hb hal
    have hn := hn.up hal
    have hxs := hxs.up hal
    have hys := hys.up hal
    have BN := Lib.hid ((hal.block _ (lt_of_block BN.out)).trans BN.out)
    have hx := hx.up hal
    have BX := Lib.hid ((hal.block _ (lt_of_block BX.out)).trans BX.out)
    clear hal
    have BY := Lib.hid B9
    clear B9
    go_wp2_with fail
    clear kBX_0 kBX_1 ltBX
    generalize u5.alloc (.cells #[.int .i64 r.1.ins, .slice A3 r.1.gs.length d3] 29) = u6 at *
    generalize u5.heap.size = iBY at *
    refine (netSame_any r.1 ⟨0, []⟩ A2 none d2 0 _ hx (.nil _ _ _ _) hrl (by simp)).mono ?_
    rintro e u7 ⟨rfl, hb9⟩
    have hb := bthen hb hb9
    have hn := hn.up hb9
    have hxs := hxs.up hb9
    have hys := hys.up hb9
    have BN := Lib.hid ((hb9.block _ (lt_of_block BN.out)).trans BN.out)
    have hx := hx.up hb9
    have BX := Lib.hid ((hb9.block _ (lt_of_block BX.out)).trans BX.out)
    have BY := Lib.hid ((hb9.block _ (lt_of_block BY.out)).trans BY.out)
    clear hb9
    rw [show decide (r.1 = (⟨0, []⟩ : N)) = true from decide_eq_true HZ.out]
    go_wp2
    go_ret
    exact ⟨rfl, hb⟩
  have hz0 : (r.2 == 0) = false := by have := hgr.pos; simpa using this
  have N09 := (netOk_all.1 hgr.ok).1
  have HGR := Lib.hid hgr
  have hlx := hgr.lx.1
  have HLY := Lib.hid hgr.ly
  have hy1 : 1 ≤ ys.length := by have := hgr.ly; omega
  clear hgr
  have hal : Below u5.heap.size u5 (u5.alloc (.cells #[.int .i64 r.1.ins, .slice A3 r.1.gs.length d3] 29)) := (Below.refl _ _).alloc (Nat.le_refl _) _
  have B9 : (u5.alloc (.cells #[.int .i64 r.1.ins, .slice A3 r.1.gs.length d3] 29)).heap[u5.heap.size]? = some (.cells #[.int .i64 r.1.ins, .slice A3 r.1.gs.length d3] 29 (0, 0)) := heap_alloc_new _ _
  have hb := bthen hb hal
  have hn := hn.up hal
  have hxs := hxs.up hal
  have hys := hys.up hal
  have BN := Lib.hid ((hal.block _ (lt_of_block BN.out)).trans BN.out)
  have hx := hx.up hal
  have BX := Lib.hid ((hal.block _ (lt_of_block BX.out)).trans BX.out)
  clear hal
  have BY := Lib.hid B9
  clear B9
  go_wp2
  generalize u5.alloc (.cells #[.int .i64 r.1.ins, .slice A3 r.1.gs.length d3] 29) = u6 at *
  generalize u5.heap.size = iBY at *
  clear hx hne9 heq9 hz0
  clear BX BY
  have hpos : 0 < xs.length := by omega
  obtain ⟨adx, rfl, -, -⟩ := hxs.at_int hpos
  obtain ⟨tl, htl⟩ : ∃ tl, tl = xs.tail := ⟨_, rfl⟩
  have htll : tl.length + 1 = xs.length := by rw [htl, List.length_tail]; omega
  have HTL := Lib.hid htll
  have HXT := Lib.hid (show Lay.int.Rd u6 (some (adx.add 1)) tl by rw [htl]; exact sl_tail hxs)
  obtain ⟨nm, hnm⟩ : ∃ nm, nm = (2 + n.ins + (n.gs.length : Int)) := ⟨_, rfl⟩
  obtain ⟨lf, hlf⟩ : ∃ lf, lf = tl ++ [nm] := ⟨_, rfl⟩
  have HLF := Lib.hid hlf
  have HLFL := Lib.hid (show lf.length = tl.length + 1 by rw [hlf]; simp)
  have HFAR := Lib.hid (show cmpOut (pickN (netOk n) (bitsCmp1R n a lf ys)) = (⟨0, []⟩, 0) from cmp_bad (by
    have h9 : goodL n lf = false := by
      rw [Bool.eq_false_iff]; intro h8
      have h7 := netMark_iff.1 ((goodL_iff.1 h8).2.2 nm (by rw [hlf]; simp))
      omega
    rw [h9]; rfl))
  obtain ⟨lm, hlm⟩ : ∃ lm, lm = xs ++ [1] := ⟨_, rfl⟩
  have HLM := Lib.hid hlm
  have HLML := Lib.hid (show lm.length = xs.length + 1 by rw [hlm]; simp)
  have HMORE := Lib.hid (show cmpOut (pickN (netOk n) (bitsCmp1R n a lm ys)) = (⟨0, []⟩, 0) from cmp_bad (by
    rw [decide_eq_false (show ¬ lm.length = ys.length by have := HLY.out; rw [hlm, List.length_append]; simp; omega), Bool.and_false]))
  have HNONE := Lib.hid (show cmpOut (pickN (netOk n) (bitsCmp1R n a [] [])) = (⟨0, []⟩, 0) from cmp_bad rfl)
  have htl5 : tl.length ≤ 5 := by omega
  have hlf6 : lf.length ≤ 6 := by rw [hlf]; simp; omega
  have hlm6 : lm.length ≤ 6 := by rw [hlm]; simp; omega
  have HFI : Hid (∀ z ∈ lf, okInt z) := Lib.hid (fun z hz => by
    rw [hlf] at hz
    rcases List.mem_append.1 hz with hz | hz
    · rw [htl] at hz; exact HKX.out.2 z (List.mem_of_mem_tail hz)
    · rw [List.mem_singleton.1 hz, hnm]; unfold okInt; omega)
  have HMI : Hid (∀ z ∈ lm, okInt z) := Lib.hid (fun z hz => by
    rw [hlm] at hz
    rcases List.mem_append.1 hz with hz | hz
    · exact HKX.out.2 z hz
    · rw [List.mem_singleton.1 hz]; unfold okInt; omega)
  have HNM := Lib.hid hnm
  have hnm0 : 0 ≤ nm ∧ nm ≤ 100 := by omega
  obtain ⟨hnm1, hnm2⟩ := hnm0
  clear htl hnm hlf hlm htll
  obtain ⟨i0, hi0, hz0, hz1, hz2⟩ := info_parts int_info
  have dn0 := Later.cell (cell_of_block BN.out 0).1
  have dn1 := Later.cell (cell_of_block BN.out 1).1
  refine wp_region_shares [[], [], [(1, 66)], [(0, 65), (2, 67)], [], [(4, 69)], [(5, 70)], [], [(7, 72)], [(8, 73)], [(6, 71), (9, 74)], [(10, 75)], [(3, 68), (11, 76)], [(12, 77)]]
    [.lit0 u6.heap.size 3 1, .eq (.slice (some adx) xs.length e1), Fact.rdN u6 tl, .row u6.heap.size 3 1 tl.length (tl.map (Value.int .i64)), .eq (.pointer (some ⟨iBN, 0, none⟩)), .eq (.int .i64 n.ins), .eq (.int .i64 (2 + n.ins)), .eq (.pointer (some ⟨iBN, 1, none⟩)), .eq (.slice A1 n.gs.length d1), .eq (.int .i64 (n.gs.length : Int)), .eq (.int .i64 nm), .lit 3 1 #[.int .i64 nm], Fact.rowI u6 lf, Fact.rowI u6 lf]
    [12] [] [] [13] [(0, 65), (1, 66), (2, 67), (3, 68), (4, 69), (5, 70), (6, 71), (7, 72), (8, 73), (9, 74), (10, 75), (11, 76), (12, 77), (13, 11)] (by kernel_rfl) (by kernel_rfl) (by kernel_rfl) (by kernel_rfl)
    ⟨?_, ?_, ?_, ?_, ?_, ?_, ?_, ?_, ?_, ?_, ?_, ?_, ?_, ?_, trivial⟩ ?_
  · intro vals x8 hC hF
    have hC := hC.resolve_left (by simp)
    have hsz := hC.size
    simp only [putsD, Act.put, List.setIfInBounds_toArray, List.set_cons_zero, List.set_cons_succ]
    go_wp2
    exact ⟨rfl, ⟨_, rfl, own_mono (own_lit0 rfl) hsz⟩, .inr ((Below.refl _ _).alloc (Nat.le_refl _) _), .inr (.inl (by simp))⟩
  · intro vals x8 hC hF
    simp only [putsD, Act.put, List.setIfInBounds_toArray, List.set_cons_zero, List.set_cons_succ]
    go_wp2
    exact ⟨rfl, rfl, .inr (Below.refl _ _), .inr (.inl (by simp))⟩
  · intro vals x8 hC hF
    have hC := hC.resolve_left (by simp)
    have hsz := hC.size
    simp only [factsD, List.getD_cons_zero, List.getD_cons_succ, Fact.eq, Fact.row, Fact.lit, Fact.lit0, Fact.of, and_true, Fact.rowI, Fact.rdN] at hF
    simp only [putsD, Act.put, List.setIfInBounds_toArray, List.set_cons_zero, List.set_cons_succ]
    simp only [hF]
    have hte : tl.length = xs.length - 1 := by have := HTL.out; omega
    have HRD9 := Lib.hid (HXT.out.up hC)
    by_cases hc1 : e1 = 1
    · have h0 : tl = [] := List.eq_nil_of_length_eq_zero (by omega)
      have H0 := Lib.hid h0
      have HTE := Lib.hid hte
      clear hte h0
      subst hc1
      go_wp2
      refine ⟨rfl, ?_, .inr (Below.refl _ _), .inr (.inl (by simp))⟩
      show ∃ A c, _ = Value.slice A tl.length c ∧ _
      rw [H0.out]
      exact ⟨some adx, 0, rfl, .nil _ _ _ _, fun h => by cases h⟩
    · have hc2 : 1 < e1 := by omega
      have HTE := Lib.hid hte
      clear hte
      go_wp2
      refine ⟨rfl, ?_, .inr (Below.refl _ _), .inr (.inl (by simp))⟩
      show ∃ A c, _ = Value.slice A tl.length c ∧ _
      rw [HTE.out]
      exact ⟨some (adx.add 1), e1 - 1, rfl, HRD9.out, fun h => by cases h⟩
  · intro vals x8 hC hF
    have hC := hC.resolve_left (by simp)
    have hsz := hC.size
    simp only [factsD, List.getD_cons_zero, List.getD_cons_succ, Fact.eq, Fact.row, Fact.lit, Fact.lit0, Fact.of, and_true, Fact.rowI, Fact.rdN] at hF
    obtain ⟨⟨p0, e0, own0⟩, A8, c8, e2, hrd8, hnn8⟩ := hF
    simp only [putsD, Act.put, List.setIfInBounds_toArray, List.set_cons_zero, List.set_cons_succ]
    simp only [e0, e2]
    refine wpList_append_lit _ (by rfl) (.tmp 65) (.tmp 67) _ (by rfl) u6.heap.size 3 i0 _ 1 8 Tryd.underlying25 hi0 hz0 hz1 hz2 (by rfl) (by omega) p0 (by rfl) own0 A8 tl.length c8 (tl.map (Value.int .i64)) (by rfl) (src_ints hrd8) (ints_one _) (by unfold maxLen; omega) (by omega) hsz hnn8 ?_
    intro A1 c1 w1 hown1 hb1
    exact ⟨rfl, ⟨_, _, rfl, hown1⟩, .inr hb1, .inr (.inl (by simp))⟩
  · intro vals x8 hC hF
    simp only [putsD, Act.put, List.setIfInBounds_toArray, List.set_cons_zero, List.set_cons_succ]
    go_wp2
    exact ⟨rfl, rfl, .inr (Below.refl _ _), .inr (.inl (by simp))⟩
  · intro vals x8 hC hF
    have hC := hC.resolve_left (by simp)
    have hsz := hC.size
    have e1 : x8.cell? _ = _ := dn0 ⟨x8, hC⟩
    simp only [factsD, List.getD_cons_zero, List.getD_cons_succ, Fact.eq, Fact.row, Fact.lit, Fact.lit0, Fact.of, and_true, Fact.rowI, Fact.rdN] at hF
    simp only [putsD, Act.put, List.setIfInBounds_toArray, List.set_cons_zero, List.set_cons_succ]
    simp only [hF]
    go_wp2
    exact ⟨rfl, rfl, .inr (Below.refl _ _), .inr (.inl (by simp))⟩
  · intro vals x8 hC hF
    simp only [factsD, List.getD_cons_zero, List.getD_cons_succ, Fact.eq, Fact.row, Fact.lit, Fact.lit0, Fact.of, and_true, Fact.rowI, Fact.rdN] at hF
    simp only [putsD, Act.put, List.setIfInBounds_toArray, List.set_cons_zero, List.set_cons_succ]
    simp only [hF]
    go_wp2
    exact ⟨rfl, rfl, .inr (Below.refl _ _), .inr (.inl (by simp))⟩
  · intro vals x8 hC hF
    simp only [putsD, Act.put, List.setIfInBounds_toArray, List.set_cons_zero, List.set_cons_succ]
    go_wp2
    exact ⟨rfl, rfl, .inr (Below.refl _ _), .inr (.inl (by simp))⟩
  · intro vals x8 hC hF
    have hC := hC.resolve_left (by simp)
    have hsz := hC.size
    have e1 : x8.cell? _ = _ := dn1 ⟨x8, hC⟩
    simp only [factsD, List.getD_cons_zero, List.getD_cons_succ, Fact.eq, Fact.row, Fact.lit, Fact.lit0, Fact.of, and_true, Fact.rowI, Fact.rdN] at hF
    simp only [putsD, Act.put, List.setIfInBounds_toArray, List.set_cons_zero, List.set_cons_succ]
    simp only [hF]
    go_wp2
    exact ⟨rfl, rfl, .inr (Below.refl _ _), .inr (.inl (by simp))⟩
  · intro vals x8 hC hF
    simp only [factsD, List.getD_cons_zero, List.getD_cons_succ, Fact.eq, Fact.row, Fact.lit, Fact.lit0, Fact.of, and_true, Fact.rowI, Fact.rdN] at hF
    simp only [putsD, Act.put, List.setIfInBounds_toArray, List.set_cons_zero, List.set_cons_succ]
    simp only [hF]
    go_wp2
    exact ⟨rfl, rfl, .inr (Below.refl _ _), .inr (.inl (by simp))⟩
  · intro vals x8 hC hF
    have hC := hC.resolve_left (by simp)
    have hsz := hC.size
    simp only [factsD, List.getD_cons_zero, List.getD_cons_succ, Fact.eq, Fact.row, Fact.lit, Fact.lit0, Fact.of, and_true, Fact.rowI, Fact.rdN] at hF
    simp only [putsD, Act.put, List.setIfInBounds_toArray, List.set_cons_zero, List.set_cons_succ]
    simp only [hF.1, hF.2]
    have hn9 := HNM.out
    rw [hn9]
    go_wp2
    exact ⟨rfl, rfl, .inr (Below.refl _ _), .inr (.inl (by simp))⟩
  · intro vals x8 hC hF
    have hC := hC.resolve_left (by simp)
    have hsz := hC.size
    simp only [factsD, List.getD_cons_zero, List.getD_cons_succ, Fact.eq, Fact.row, Fact.lit, Fact.lit0, Fact.of, and_true, Fact.rowI, Fact.rdN] at hF
    simp only [putsD, Act.put, List.setIfInBounds_toArray, List.set_cons_zero, List.set_cons_succ]
    simp only [hF]
    go_wp2
    exact ⟨rfl, ⟨_, rfl, by simp, _, heap_alloc_new _ _⟩, .inr ((Below.refl _ _).alloc (Nat.le_refl _) _), .inr (.inl (by simp))⟩
  · intro vals x8 hC hF
    have hC := hC.resolve_left (by simp)
    have hsz := hC.size
    simp only [factsD, List.getD_cons_zero, List.getD_cons_succ, Fact.eq, Fact.row, Fact.lit, Fact.lit0, Fact.of, and_true, Fact.rowI, Fact.rdN] at hF
    obtain ⟨⟨A9, c9, e9, own9⟩, b, e5, hlt5, fr5, hb5⟩ := hF
    simp only [putsD, Act.put, List.setIfInBounds_toArray, List.set_cons_zero, List.set_cons_succ]
    simp only [e9, e5]
    refine wpList_append_src _ (by rfl) (.tmp 68) (.tmp 76) _ (by rfl) u6.heap.size 3 i0 _ 1 8 Tryd.underlying25 hi0 hz0 hz1 hz2 (by rfl) (by omega) (.slice A9 tl.length c9) tl.length (tl.map (Value.int .i64)) (by rfl) own9 (some ⟨b, 0, none⟩) 1 1 [.int .i64 nm] (by rfl) (src_block hb5 rfl) (by intro u hu; simp at hu; subst hu; rfl) (tl.length + 1) (by omega) (by unfold maxLen; omega) (by omega) hsz (by simp) ?_
    intro A8 c8 w8 hown8 hb8 hg8
    rw [← HLFL.out] at hown8 ⊢
    exact ⟨rfl, ⟨_, _, rfl, by unfold OwnI; rw [show lf.map (Value.int .i64) = tl.map (Value.int .i64) ++ [.int .i64 nm] by rw [HLF.out]; simp]; exact hown8, hC.trans hb8⟩, .inl (by simp), .inr (.inr hb8)⟩
  · intro vals x8 hC hF
    have hC := hC.resolve_left (by simp)
    have hsz := hC.size
    simp only [factsD, List.getD_cons_zero, List.getD_cons_succ, Fact.eq, Fact.row, Fact.lit, Fact.lit0, Fact.of, and_true, Fact.rowI, Fact.rdN] at hF
    obtain ⟨A8, c8, e8, hown8, hb8⟩ := hF
    simp only [putsD, Act.put, List.setIfInBounds_toArray, List.set_cons_zero, List.set_cons_succ]
    simp only [e8]
    go_wp2
    exact ⟨rfl, ⟨A8, c8, rfl, hown8, hb8⟩, .inr (Below.refl _ _), .inr (.inl (by simp))⟩
  · intro vals x8 hF
    simp only [facts, List.getD_cons_zero, List.getD_cons_succ, Fact.eq, Fact.row, Fact.lit, Fact.lit0, Fact.of, and_true, Fact.rowI, Fact.rdN] at hF
    obtain ⟨A8, c8, e8, hown8, hb8⟩ := hF
    simp only [putsD, Act.put, List.setIfInBounds_toArray, List.set_cons_zero, List.set_cons_succ]
    simp only [e8]
    clear e8 dn0 dn1 HXT
    have hfar := hown8.rd
    have hb := bthen hb hb8
    have hn := hn.up hb8
    have hxs := hxs.up hb8
    have hys := hys.up hb8
    have BN := Lib.hid ((hb8.block _ (lt_of_block BN.out)).trans BN.out)
    clear hb8
    clear hown8
    have kBN_0 : x8.cell? ⟨iBN, 0, none⟩ = some (.int .i64 n.ins) := (cell_of_block BN.out 0).1
    have kBN_1 : x8.cell? ⟨iBN, 1, none⟩ = some (.slice A1 n.gs.length d1) := (cell_of_block BN.out 1).1
    go_wp2_with fail
    clear kBN_0 kBN_1
    refine (implBitsCmp_any a0 a1 W.heap.size n a [] [] A1 none none d1 0 0 _ (GLB.out.below hb) hb.size hn (by omega) (sl_nonnil hn) HI.out (.nil _ _ _ _) (.nil _ _ _ _) (fun l hl => by cases hl) (fun l hl => by cases hl) HA.out (by simp) (by simp)).mono ?_
    rw [HNONE.out]
    rintro e u8 ⟨A4, d4, rfl, hd4, g4, hb9⟩
    have hb := bthen hb hb9
    have hn := hn.up hb9
    have hxs := hxs.up hb9
    have hys := hys.up hb9
    have BN := Lib.hid ((hb9.block _ (lt_of_block BN.out)).trans BN.out)
    have hfar := hfar.up hb9
    clear hb9
    clear g4 hd4
    have hal : Below u8.heap.size u8 (u8.alloc (.cells #[.int .i64 0, .slice A4 0 d4] 29)) := (Below.refl _ _).alloc (Nat.le_refl _) _
    have B9 : (u8.alloc (.cells #[.int .i64 0, .slice A4 0 d4] 29)).heap[u8.heap.size]? = some (.cells #[.int .i64 0, .slice A4 0 d4] 29 (0, 0)) := heap_alloc_new _ _
    have hb := bthen hb hal
    have hn := hn.up hal
    have hxs := hxs.up hal
    have hys := hys.up hal
    have BN := Lib.hid ((hal.block _ (lt_of_block BN.out)).trans BN.out)
    have hfar := hfar.up hal
    clear hal
    have BZ := Lib.hid B9
    clear B9
    go_wp2
    generalize u8.alloc (.cells #[.int .i64 0, .slice A4 0 d4] 29) = u9 at *
    generalize u8.heap.size = iBZ at *
    have HN9 := Lib.hid hn
    have HX9 := Lib.hid hxs
    have HY9 := Lib.hid hys
    have HF9 := Lib.hid hfar
    have HBB := Lib.hid hb
    clear hn hxs hys hfar hb
    refine wp_region_rel5 [[], [], [], [], [(2, 87), (3, 88)], [], [(4, 89), (5, 90)], [], [(0, 85), (1, 86), (6, 91), (7, 92)], [(8, 93)], [(9, 84)], [(9, 84)], [], [(12, 14), (10, 94)], [(11, 95)]]
      (fun x9 y9 => Below x9.heap.size x9 y9)
      [(6, fun x9 y9 => IntsTurn u9 x9 y9), (13, fun x9 y9 => Below u9.heap.size x9 y9)]
      (fun _ x9 => Below u9.heap.size u9 x9)
      [fun vs9 _ => vs9 0 = (.agg #[.int .i64 n.ins, .slice A1 n.gs.length d1]),
    fun vs9 _ => vs9 1 = (.int .i64 a),
    fun vs9 y9 => (fun v z => Lit0R u9 v z) (vs9 2) y9,
    fun vs9 _ => vs9 3 = (.slice (some adx) xs.length e1),
    fun vs9 y9 => (fun v z => OwnR u9 xs v z) (vs9 4) y9,
    fun vs9 y9 => (fun v z => LitR [1] v z) (vs9 5) y9,
    fun vs9 y9 => (fun v z => OwnR u9 lm v z) (vs9 6) y9,
    fun vs9 _ => vs9 7 = (.slice Y1 ys.length k1),
    fun vs9 y9 => (fun v _ => ZTup v) (vs9 8) y9,
    fun vs9 y9 => (fun v _ => ZTup v) (vs9 9) y9,
    fun vs9 y9 => (fun v _ => ZNet v) (vs9 10) y9,
    fun vs9 _ => vs9 11 = (.int .i64 0),
    fun vs9 y9 => (fun v z => BoxR u9 v z) (vs9 12) y9,
    fun _ _ => True,
    fun vs9 _ => vs9 14 = (.int .i64 0)]
      [none, none, some 4, none, some 6, some 6, some 8, none, none, none, none, none, some 13, none, none] [(0, 85), (1, 86), (2, 87), (3, 88), (4, 89), (5, 90), (6, 91), (7, 92), (8, 93), (9, 84), (10, 94), (11, 95), (12, 14), (14, 15)] (by kernel_rfl) (by kernel_rfl) (by kernel_rfl) (by kernel_rfl)
      (fun _ => Below.refl _ _) ⟨fun _ => ⟨Below.refl _ _, fun _ _ _ _ h => h⟩, fun _ => Below.refl _ _, trivial⟩ (by kernel_rfl)
      ⟨⟨.inr (fun _ _ _ h _ => h), ⟨.inr (.inr (fun _ _ _ h _ => h)), .inr (.inr (fun _ _ _ h _ => h)), trivial⟩⟩,
    ⟨.inr (fun _ _ _ h _ => h), ⟨.inr (.inr (fun _ _ _ h _ => h)), .inr (.inr (fun _ _ _ h _ => h)), trivial⟩⟩,
    ⟨.inr (fun vs9 x9 y9 h9 hR9 => (show ∀ v9 y8 y7, (fun v z => Lit0R u9 v z) v9 y8 → (fun x9 y9 => Below x9.heap.size x9 y9) y8 y7 → (fun v z => Lit0R u9 v z) v9 y7 from fun _ _ _ h9 hR => h9.up hR) (vs9 2) x9 y9 h9 hR9), ⟨.inl (by kernel_rfl), .inl (by kernel_rfl), trivial⟩⟩,
    ⟨.inr (fun _ _ _ h _ => h), ⟨.inr (.inr (fun _ _ _ h _ => h)), .inr (.inr (fun _ _ _ h _ => h)), trivial⟩⟩,
    ⟨.inr (fun vs9 x9 y9 h9 hR9 => (show ∀ v9 y8 y7, (fun v z => OwnR u9 xs v z) v9 y8 → (fun x9 y9 => Below x9.heap.size x9 y9) y8 y7 → (fun v z => OwnR u9 xs v z) v9 y7 from fun _ _ _ h9 hR => h9.up hR) (vs9 4) x9 y9 h9 hR9), ⟨.inl (by kernel_rfl), .inl (by kernel_rfl), trivial⟩⟩,
    ⟨.inr (fun vs9 x9 y9 h9 hR9 => (show ∀ v9 y8 y7, (fun v z => LitR [1] v z) v9 y8 → (fun x9 y9 => Below x9.heap.size x9 y9) y8 y7 → (fun v z => LitR [1] v z) v9 y7 from fun _ _ _ h9 hR => h9.up hR) (vs9 5) x9 y9 h9 hR9), ⟨.inl (by kernel_rfl), .inl (by kernel_rfl), trivial⟩⟩,
    ⟨.inr (fun vs9 x9 y9 h9 hR9 => (show ∀ v9 y8 y7, (fun v z => OwnR u9 lm v z) v9 y8 → (fun x9 y9 => Below x9.heap.size x9 y9) y8 y7 → (fun v z => OwnR u9 lm v z) v9 y7 from fun _ _ _ h9 hR => h9.up hR) (vs9 6) x9 y9 h9 hR9), ⟨.inr (.inl rfl), .inl (by kernel_rfl), trivial⟩⟩,
    ⟨.inr (fun _ _ _ h _ => h), ⟨.inr (.inr (fun _ _ _ h _ => h)), .inr (.inr (fun _ _ _ h _ => h)), trivial⟩⟩,
    ⟨.inr (fun vs9 x9 y9 h9 hR9 => (show ∀ v9 y8 y7, (fun v _ => ZTup v) v9 y8 → (fun x9 y9 => Below x9.heap.size x9 y9) y8 y7 → (fun v _ => ZTup v) v9 y7 from fun _ _ _ h9 _ => h9) (vs9 8) x9 y9 h9 hR9), ⟨.inr (.inr (fun vs9 x9 y9 h9 hR9 => (show ∀ v9 y8 y7, (fun v _ => ZTup v) v9 y8 → (fun x9 y9 => IntsTurn u9 x9 y9) y8 y7 → (fun v _ => ZTup v) v9 y7 from fun _ _ _ h _ => h) (vs9 8) x9 y9 h9 hR9)), .inr (.inr (fun vs9 x9 y9 h9 hR9 => (show ∀ v9 y8 y7, (fun v _ => ZTup v) v9 y8 → (fun x9 y9 => Below u9.heap.size x9 y9) y8 y7 → (fun v _ => ZTup v) v9 y7 from fun _ _ _ h _ => h) (vs9 8) x9 y9 h9 hR9)), trivial⟩⟩,
    ⟨.inr (fun vs9 x9 y9 h9 hR9 => (show ∀ v9 y8 y7, (fun v _ => ZTup v) v9 y8 → (fun x9 y9 => Below x9.heap.size x9 y9) y8 y7 → (fun v _ => ZTup v) v9 y7 from fun _ _ _ h9 _ => h9) (vs9 9) x9 y9 h9 hR9), ⟨.inr (.inr (fun vs9 x9 y9 h9 hR9 => (show ∀ v9 y8 y7, (fun v _ => ZTup v) v9 y8 → (fun x9 y9 => IntsTurn u9 x9 y9) y8 y7 → (fun v _ => ZTup v) v9 y7 from fun _ _ _ h _ => h) (vs9 9) x9 y9 h9 hR9)), .inr (.inr (fun vs9 x9 y9 h9 hR9 => (show ∀ v9 y8 y7, (fun v _ => ZTup v) v9 y8 → (fun x9 y9 => Below u9.heap.size x9 y9) y8 y7 → (fun v _ => ZTup v) v9 y7 from fun _ _ _ h _ => h) (vs9 9) x9 y9 h9 hR9)), trivial⟩⟩,
    ⟨.inr (fun vs9 x9 y9 h9 hR9 => (show ∀ v9 y8 y7, (fun v _ => ZNet v) v9 y8 → (fun x9 y9 => Below x9.heap.size x9 y9) y8 y7 → (fun v _ => ZNet v) v9 y7 from fun _ _ _ h9 _ => h9) (vs9 10) x9 y9 h9 hR9), ⟨.inr (.inr (fun vs9 x9 y9 h9 hR9 => (show ∀ v9 y8 y7, (fun v _ => ZNet v) v9 y8 → (fun x9 y9 => IntsTurn u9 x9 y9) y8 y7 → (fun v _ => ZNet v) v9 y7 from fun _ _ _ h _ => h) (vs9 10) x9 y9 h9 hR9)), .inr (.inr (fun vs9 x9 y9 h9 hR9 => (show ∀ v9 y8 y7, (fun v _ => ZNet v) v9 y8 → (fun x9 y9 => Below u9.heap.size x9 y9) y8 y7 → (fun v _ => ZNet v) v9 y7 from fun _ _ _ h _ => h) (vs9 10) x9 y9 h9 hR9)), trivial⟩⟩,
    ⟨.inr (fun _ _ _ h _ => h), ⟨.inr (.inr (fun _ _ _ h _ => h)), .inr (.inr (fun _ _ _ h _ => h)), trivial⟩⟩,
    ⟨.inr (fun vs9 x9 y9 h9 hR9 => (show ∀ v9 y8 y7, (fun v z => BoxR u9 v z) v9 y8 → (fun x9 y9 => Below x9.heap.size x9 y9) y8 y7 → (fun v z => BoxR u9 v z) v9 y7 from fun _ _ _ h9 hR => h9.up hR) (vs9 12) x9 y9 h9 hR9), ⟨.inr (.inr (fun vs9 x9 y9 h9 hR9 => (show ∀ v9 y8 y7, (fun v z => BoxR u9 v z) v9 y8 → (fun x9 y9 => IntsTurn u9 x9 y9) y8 y7 → (fun v z => BoxR u9 v z) v9 y7 from fun _ _ _ h9 hR => h9.turn hR) (vs9 12) x9 y9 h9 hR9)), .inl (by kernel_rfl), trivial⟩⟩,
    ⟨.inr (fun _ _ _ h _ => h), ⟨.inr (.inr (fun _ _ _ h _ => h)), .inr (.inl rfl), trivial⟩⟩,
    ⟨.inr (fun _ _ _ h _ => h), ⟨.inr (.inr (fun _ _ _ h _ => h)), .inr (.inr (fun _ _ _ h _ => h)), trivial⟩⟩, trivial⟩ ⟨fun vs vs' x h _ hv => (by dsimp only at hv ⊢; first | (rw [← h]; exact hv) | exact hv),
    fun vs vs' x h _ hv => (by dsimp only at hv ⊢; first | (rw [← h]; exact hv) | exact hv),
    fun vs vs' x h _ hv => (by dsimp only at hv ⊢; first | (rw [← h]; exact hv) | exact hv),
    fun vs vs' x h _ hv => (by dsimp only at hv ⊢; first | (rw [← h]; exact hv) | exact hv),
    fun vs vs' x h _ hv => (by dsimp only at hv ⊢; first | (rw [← h]; exact hv) | exact hv),
    fun vs vs' x h _ hv => (by dsimp only at hv ⊢; first | (rw [← h]; exact hv) | exact hv),
    fun vs vs' x h _ hv => (by dsimp only at hv ⊢; first | (rw [← h]; exact hv) | exact hv),
    fun vs vs' x h _ hv => (by dsimp only at hv ⊢; first | (rw [← h]; exact hv) | exact hv),
    fun vs vs' x h _ hv => (by dsimp only at hv ⊢; first | (rw [← h]; exact hv) | exact hv),
    fun vs vs' x h _ hv => (by dsimp only at hv ⊢; first | (rw [← h]; exact hv) | exact hv),
    fun vs vs' x h _ hv => (by dsimp only at hv ⊢; first | (rw [← h]; exact hv) | exact hv),
    fun vs vs' x h _ hv => (by dsimp only at hv ⊢; first | (rw [← h]; exact hv) | exact hv),
    fun vs vs' x h _ hv => (by dsimp only at hv ⊢; first | (rw [← h]; exact hv) | exact hv),
    fun _ _ _ _ _ _ => trivial,
    fun vs vs' x h _ hv => (by dsimp only at hv ⊢; first | (rw [← h]; exact hv) | exact hv), trivial⟩ (below_drewN (Below.refl _ _) 1) ⟨?_, ?_, ?_, ?_, ?_, ?_, ?_, ?_, ?_, ?_, ?_, ?_, ?_, ?_, ?_, trivial⟩ ?_
    · intro vals xw f hf1 hf2 hf3 hI hF
      clear hf2 hf3
      dsimp only [owes4, bare]
      simp only [putsD, Act.put, List.setIfInBounds_toArray, List.set_cons_zero, List.set_cons_succ]
      have hbn := (hI.block _ (lt_of_block BN.out)).trans BN.out
      have v0 := (cell_of_block hbn 0).1
      have v1 := (cell_of_block hbn 1).1
      go_wp2
      exact ⟨rfl, rfl, ⟨fun h9 => absurd h9 (Nat.ne_of_beq_eq_false rfl), fun _ => ⟨fun h9 => absurd h9 (Nat.ne_of_beq_eq_false rfl), fun _ => Below.refl _ _⟩⟩, hI⟩
    · intro vals xw f hf1 hf2 hf3 hI hF
      clear hf2 hf3
      dsimp only [owes4, bare]
      simp only [putsD, Act.put, List.setIfInBounds_toArray, List.set_cons_zero, List.set_cons_succ]
      go_wp2
      exact ⟨rfl, rfl, ⟨fun h9 => absurd h9 (Nat.ne_of_beq_eq_false rfl), fun _ => ⟨fun h9 => absurd h9 (Nat.ne_of_beq_eq_false rfl), fun _ => Below.refl _ _⟩⟩, hI⟩
    · intro vals xw f hf1 hf2 hf3 hI hF
      clear hf2 hf3
      dsimp only [owes4, bare]
      simp only [putsD, Act.put, List.setIfInBounds_toArray, List.set_cons_zero, List.set_cons_succ]
      go_wp2
      exact ⟨rfl, ⟨_, rfl, own_mono (own_lit0 rfl) hI.size⟩, ⟨fun h9 => absurd h9 (Nat.ne_of_beq_eq_false rfl), fun _ => ⟨fun h9 => absurd h9 (Nat.ne_of_beq_eq_false rfl), fun _ => (Below.refl _ _).alloc (Nat.le_refl _) _⟩⟩, hI.alloc hI.size _⟩
    · intro vals xw f hf1 hf2 hf3 hI hF
      clear hf2 hf3
      dsimp only [owes4, bare]
      simp only [putsD, Act.put, List.setIfInBounds_toArray, List.set_cons_zero, List.set_cons_succ]
      go_wp2
      exact ⟨rfl, rfl, ⟨fun h9 => absurd h9 (Nat.ne_of_beq_eq_false rfl), fun _ => ⟨fun h9 => absurd h9 (Nat.ne_of_beq_eq_false rfl), fun _ => Below.refl _ _⟩⟩, hI⟩
    · intro vals xw f hf1 hf2 hf3 hI hF
      clear hf2 hf3
      simp only [saysD, List.getD_cons_zero, List.getD_cons_succ, and_true] at hF
      obtain ⟨⟨p0, e0, own0⟩, e2⟩ := hF
      dsimp only [owes4, bare]
      simp only [putsD, Act.put, List.setIfInBounds_toArray, List.set_cons_zero, List.set_cons_succ]
      simp only [e0, e2]
      rw [e0] at own0
      have hsz := hI.size
      refine wpList_append_lit _ (by rfl) (.tmp 87) (.tmp 88) _ (by rfl) u9.heap.size 3 i0 _ 1 8 Tryd.underlying25 hi0 hz0 hz1 hz2 (by rfl) (by omega) p0 (by rfl) own0 (some adx) xs.length e1 (xs.map (Value.int .i64)) (by rfl) (src_ints (HX9.out.up hI)) (ints_one _) (by unfold maxLen; omega) (by omega) hsz (by simp) ?_
      intro A9 c9 w9 hown9 hb9
      exact ⟨rfl, ⟨A9, c9, rfl, hown9⟩, ⟨fun h9 => absurd h9 (Nat.ne_of_beq_eq_false rfl), fun _ => ⟨fun h9 => absurd h9 (Nat.ne_of_beq_eq_false rfl), fun _ => hb9⟩⟩, bthen hI hb9⟩
    · intro vals xw f hf1 hf2 hf3 hI hF
      clear hf2 hf3
      dsimp only [owes4, bare]
      simp only [putsD, Act.put, List.setIfInBounds_toArray, List.set_cons_zero, List.set_cons_succ]
      go_wp2
      exact ⟨rfl, ⟨_, rfl, heap_alloc_new _ _⟩, ⟨fun h9 => absurd h9 (Nat.ne_of_beq_eq_false rfl), fun _ => ⟨fun h9 => absurd h9 (Nat.ne_of_beq_eq_false rfl), fun _ => (Below.refl _ _).alloc (Nat.le_refl _) _⟩⟩, hI.alloc hI.size _⟩
    · intro vals xw f hf1 hf2 hf3 hI hF
      clear hf2 hf3
      simp only [saysD, List.getD_cons_zero, List.getD_cons_succ, and_true] at hF
      obtain ⟨⟨A9, c9, e9, own9⟩, b, e5, hb5⟩ := hF
      dsimp only [owes4, bare]
      simp only [putsD, Act.put, List.setIfInBounds_toArray, List.set_cons_zero, List.set_cons_succ]
      simp only [e9, e5]
      have hsz := hI.size
      refine wpList_append_src _ (by rfl) (.tmp 89) (.tmp 90) _ (by rfl) u9.heap.size 3 i0 _ 1 8 Tryd.underlying25 hi0 hz0 hz1 hz2 (by rfl) (by omega) (.slice A9 xs.length c9) xs.length (xs.map (Value.int .i64)) (by rfl) own9 (some ⟨b, 0, none⟩) 1 1 [.int .i64 1] (by rfl) (src_block hb5 rfl) (by intro u hu; simp at hu; subst hu; rfl) (xs.length + 1) (by omega) (by unfold maxLen; omega) (by omega) hsz (by simp) ?_
      intro A8 c8 w8 hown8 hb8 hg8
      rw [← HLML.out] at hown8 ⊢
      have ht := intsTurn_own own9 hsz hg8
      exact ⟨rfl, ⟨A8, c8, rfl, by unfold OwnI; rw [show lm.map (Value.int .i64) = xs.map (Value.int .i64) ++ [.int .i64 1] by rw [HLM.out]; simp]; exact hown8⟩, ⟨fun _ => ht, fun h9 => absurd rfl h9⟩, hI.trans ht.1⟩
    · intro vals xw f hf1 hf2 hf3 hI hF
      clear hf2 hf3
      dsimp only [owes4, bare]
      simp only [putsD, Act.put, List.setIfInBounds_toArray, List.set_cons_zero, List.set_cons_succ]
      go_wp2
      exact ⟨rfl, rfl, ⟨fun h9 => absurd h9 (Nat.ne_of_beq_eq_false rfl), fun _ => ⟨fun h9 => absurd h9 (Nat.ne_of_beq_eq_false rfl), fun _ => Below.refl _ _⟩⟩, hI⟩
    · intro vals xw f hf1 hf2 hf3 hI hF
      clear hf2 hf3
      simp only [saysD, List.getD_cons_zero, List.getD_cons_succ, and_true] at hF
      obtain ⟨e85, e86, ⟨A9, c9, e91, own9⟩, e92⟩ := hF
      dsimp only [owes4, bare]
      simp only [putsD, Act.put, List.setIfInBounds_toArray, List.set_cons_zero, List.set_cons_succ]
      simp only [e85, e86, e91, e92]
      have hrd := own9.rd
      have HII := Lib.hid hI
      have HC := Lib.hid (implBitsCmp_any a0 a1 W.heap.size n a lm ys A1 A9 Y1 d1 c9 k1 _ (GLB.out.below (bthen HBB.out hI)) (bthen HBB.out hI).size (HN9.out.up hI) (by omega) (sl_nonnil HN9.out) HI.out hrd (HY9.out.up hI) (fun l hl => HMI.out l hl) (fun l hl => HKY.out.2 l hl) HA.out (by omega) (by omega))
      rw [HMORE.out] at HC
      clear hI hrd own9
      go_wp2_with fail
      refine HC.out.mono ?_
      rintro e wx ⟨A7, c7, rfl, h7, _, hb7⟩
      have HB7 := Lib.hid hb7
      clear hb7 HC
      go_wp2
      exact ⟨rfl, ⟨A7, c7, rfl⟩, ⟨fun h9 => absurd h9 (Nat.ne_of_beq_eq_false rfl), fun _ => ⟨fun h9 => absurd h9 (Nat.ne_of_beq_eq_false rfl), fun _ => HB7.out⟩⟩, bthen HII.out HB7.out⟩
    · intro vals xw f hf1 hf2 hf3 hI hF
      clear hf2 hf3
      simp only [saysD, List.getD_cons_zero, List.getD_cons_succ, and_true] at hF
      obtain ⟨A9, c9, e9⟩ := hF
      dsimp only [owes4, bare]
      simp only [putsD, Act.put, List.setIfInBounds_toArray, List.set_cons_zero, List.set_cons_succ]
      simp only [e9]
      go_wp2
      exact ⟨rfl, ⟨A9, c9, rfl⟩, ⟨fun h9 => absurd h9 (Nat.ne_of_beq_eq_false rfl), fun _ => ⟨fun h9 => absurd h9 (Nat.ne_of_beq_eq_false rfl), fun _ => Below.refl _ _⟩⟩, hI⟩
    · intro vals xw f hf1 hf2 hf3 hI hF
      clear hf2 hf3
      simp only [saysD, List.getD_cons_zero, List.getD_cons_succ, and_true] at hF
      obtain ⟨A9, c9, e9⟩ := hF
      dsimp only [owes4, bare]
      simp only [putsD, Act.put, List.setIfInBounds_toArray, List.set_cons_zero, List.set_cons_succ]
      simp only [e9]
      go_wp2
      exact ⟨rfl, ⟨A9, c9, rfl⟩, ⟨fun h9 => absurd h9 (Nat.ne_of_beq_eq_false rfl), fun _ => ⟨fun h9 => absurd h9 (Nat.ne_of_beq_eq_false rfl), fun _ => Below.refl _ _⟩⟩, hI⟩
    · intro vals xw f hf1 hf2 hf3 hI hF
      clear hf2 hf3
      simp only [saysD, List.getD_cons_zero, List.getD_cons_succ, and_true] at hF
      obtain ⟨A9, c9, e9⟩ := hF
      dsimp only [owes4, bare]
      simp only [putsD, Act.put, List.setIfInBounds_toArray, List.set_cons_zero, List.set_cons_succ]
      simp only [e9]
      go_wp2
      exact ⟨rfl, rfl, ⟨fun h9 => absurd h9 (Nat.ne_of_beq_eq_false rfl), fun _ => ⟨fun h9 => absurd h9 (Nat.ne_of_beq_eq_false rfl), fun _ => Below.refl _ _⟩⟩, hI⟩
    · intro vals xw f hf1 hf2 hf3 hI hF
      clear hf2 hf3
      dsimp only [owes4, bare]
      simp only [putsD, Act.put, List.setIfInBounds_toArray, List.set_cons_zero, List.set_cons_succ]
      go_wp2
      exact ⟨rfl, ⟨_, rfl, hI.size, heap_alloc_new _ _⟩, ⟨fun h9 => absurd h9 (Nat.ne_of_beq_eq_false rfl), fun _ => ⟨fun h9 => absurd h9 (Nat.ne_of_beq_eq_false rfl), fun _ => (Below.refl _ _).alloc (Nat.le_refl _) _⟩⟩, hI.alloc hI.size _⟩
    · intro vals xw f hf1 hf2 hf3 hI hF
      clear hf2 hf3
      simp only [saysD, List.getD_cons_zero, List.getD_cons_succ, and_true] at hF
      obtain ⟨⟨b, e1, hbW, hb9⟩, A9, c9, e9⟩ := hF
      dsimp only [owes4, bare]
      simp only [putsD, Act.put, List.setIfInBounds_toArray, List.set_cons_zero, List.set_cons_succ]
      simp only [e1, e9]
      have v0 := (cell_of_block hb9 0).1
      have v1 := (cell_of_block hb9 1).1
      have f0 := (cell_of_block hb9 0).2
      have f1 := (cell_of_block hb9 1).2
      have HII := Lib.hid hI
      clear hI hb9
      go_wp2
      exact ⟨rfl, trivial, ⟨fun h9 => absurd h9 (Nat.ne_of_beq_eq_false rfl), fun _ => ⟨fun _ => below_set (below_set (Below.refl _ _) hbW _) hbW _, fun h9 => absurd rfl h9⟩⟩, below_set (below_set HII.out hbW _) hbW _⟩
    · intro vals xw f hf1 hf2 hf3 hI hF
      clear hf2 hf3
      simp only [saysD, List.getD_cons_zero, List.getD_cons_succ, and_true] at hF
      have e1 := hF
      dsimp only [owes4, bare]
      simp only [putsD, Act.put, List.setIfInBounds_toArray, List.set_cons_zero, List.set_cons_succ]
      simp only [e1]
      go_wp2
      exact ⟨rfl, rfl, ⟨fun h9 => absurd h9 (Nat.ne_of_beq_eq_false rfl), fun _ => ⟨fun h9 => absurd h9 (Nat.ne_of_beq_eq_false rfl), fun _ => Below.refl _ _⟩⟩, hI⟩
    · intro vals xw f hall hI hF
      rw [show ((List.range _).filter fun i => (([none, none, some 4, none, some 6, some 6, some 8, none, none, none, none, none, some 13, none, none] : List (Option Nat)).getD i none).isNone) = [0, 1, 3, 7, 8, 9, 10, 11, 13, 14] from by decide] at hF
      simp only [says, List.getD_cons_zero, List.getD_cons_succ, and_true] at hF
      have e9 : vals 14 = .int .i64 0 := by obtain ⟨_, _, _, _, _, _, _, _, _, e9⟩ := hF; exact e9
      simp only [putsD, Act.put, List.setIfInBounds_toArray, List.set_cons_zero, List.set_cons_succ]
      simp only [e9]
      clear e9 hF
      have hb := HBB.out
      have hn := HN9.out
      have hxs := HX9.out
      have hys := HY9.out
      have hfar := HF9.out
      have hb := bthen hb hI
      have hn := hn.up hI
      have hxs := hxs.up hI
      have hys := hys.up hI
      have BN := Lib.hid ((hI.block _ (lt_of_block BN.out)).trans BN.out)
      have hfar := hfar.up hI
      have BZ := Lib.hid ((hI.block _ (lt_of_block BZ.out)).trans BZ.out)
      clear hI
      have kBN_0 : xw.cell? ⟨iBN, 0, none⟩ = some (.int .i64 n.ins) := (cell_of_block BN.out 0).1
      have kBN_1 : xw.cell? ⟨iBN, 1, none⟩ = some (.slice A1 n.gs.length d1) := (cell_of_block BN.out 1).1
      go_wp2_with fail
      clear kBN_0 kBN_1
      refine (implBitsCmp_any a0 a1 W.heap.size n a lf ys A1 A8 Y1 d1 c8 k1 _ (GLB.out.below hb) hb.size hn (by omega) (sl_nonnil hn) HI.out hfar hys (fun l hl => HFI.out l hl) (fun l hl => HKY.out.2 l hl) HA.out (by omega) (by omega)).mono ?_
      rw [HFAR.out]
      rintro e u10 ⟨A5, d5, rfl, hd5, g5, hb9⟩
      have hb := bthen hb hb9
      have hn := hn.up hb9
      have hxs := hxs.up hb9
      have hys := hys.up hb9
      have BN := Lib.hid ((hb9.block _ (lt_of_block BN.out)).trans BN.out)
      have hfar := hfar.up hb9
      have BZ := Lib.hid ((hb9.block _ (lt_of_block BZ.out)).trans BZ.out)
      clear hb9
      clear g5 hd5
      have hal : Below u10.heap.size u10 (u10.alloc (.cells #[.int .i64 0, .slice A5 0 d5] 29)) := (Below.refl _ _).alloc (Nat.le_refl _) _
      have hzs : (u10.alloc (.cells #[.int .i64 0, .slice A5 0 d5] 29)).heap.size = u10.heap.size + 1 := by simp
      obtain ⟨q1, q2, q3⟩ := two_lits (u10.alloc (.cells #[.int .i64 0, .slice A5 0 d5] 29)) (.cells #[.int .i64 1, .int .i64 1, .int .i64 1] 3) (.cells #[.int .i64 1, .int .i64 1] 3) (u10.heap.size + 1) (u10.heap.size + 1 + 1) hzs.symm (by rw [hzs])
      have hb := bthen (bthen hb hal) q3
      have hn := (hn.up hal).up q3
      have hbn := (q3.block _ (Nat.lt_of_lt_of_le (lt_of_block BN.out) hal.size)).trans ((hal.block _ (lt_of_block BN.out)).trans BN.out)
      have HCB := Lib.hid (implBitsBin_any a0 a1 W.heap.size n 14 [1, 1, 1] [1, 1] A1 (some ⟨u10.heap.size + 1, 0, none⟩) (some ⟨u10.heap.size + 1 + 1, 0, none⟩) d1 3 2 _ (GLB.out.below hb) hb.size hn (by omega) (sl_nonnil hn) HI.out (rd_block q1 rfl) (rd_block q2 rfl) (fun l hl => by simp at hl; omega) (fun l hl => by simp at hl; omega) (catS n [1, 1, 1] [1, 1]) (fun _ _ _ => fun b0 b1 lo q r X Y cx cy w9 h9 hX9 hY9 => bCat_any b0 b1 lo q r n X Y cx cy [1, 1, 1] [1, 1] w9 h9 hX9 hY9 (sl_nonnil hX9.plrd) (sl_nonnil hY9.plrd) (fun x hx => by simp at hx; subst hx; unfold MB; omega) (fun x hx => by simp at hx; subst hx; unfold MB; omega) (by simp) (by simp)) (by simp [catS]) (by simp) (by simp))
      rw [cat_bad] at HCB
      have v0 := (cell_of_block BN.out 0).1
      have v1 := (cell_of_block BN.out 1).1
      have vlt := lt_of_block BN.out
      have HB := Lib.hid hb
      clear hal hzs q1 q2 q3 hn hbn hxs hys hfar hb
      go_wp2_with fail
      refine HCB.out.mono ?_
      rintro e w9 ⟨A6, B6, c6, d6, rfl, _, _, _, _, hb9, _⟩
      have HB := Lib.hid (bthen HB.out hb9)
      clear hb9 HCB v0 v1 vlt
      go_wp2
      go_ret
      exact ⟨rfl, bthen HB.out ((Below.refl _ _).alloc (Nat.le_refl _) _)⟩

set_option maxRecDepth 100000 in
theorem fnBitsBent_lifted (os : Os) (started : os.Started) (H : Type) (enc : TypeId × Value → H) :
    ReturnsInHanded {} Tryd.checked os 9 .any (fun w args => (Rows.fnBitsBentSpec.pre enc Tryd.prog Tryd.f9 [] false w args ∧ laidMetH Tryd.prog laid2 w) ∧ sizedMet enc Tryd.prog Tryd.f9 (OpenSpec.ofChange Rows.fnBitsBentSpec) false w args)
      (Rows.fnBitsBentSpec.post enc Tryd.prog Tryd.f9 false true false false) := by
  refine returnsInHanded_of_change_and (C := Tryd.checked) (X := fun w _ => laidMetH Tryd.prog laid2 w) (fun _ _ _ hh h => h.of_heap hh) dr_own started (by kernel_rfl) Tryd.func9
    (ChangeSpec.witness_shaped (enc := enc) (C := Tryd.checked) (os := os) (X := fun w _ => laidMetH Tryd.prog laid2 w) false (World.doorLaid Tryd.prog 400 os) #[.slice none 0 0] 16 rfl (World.shaped_of_RefB (by kernel_rfl) (by kernel_rfl)) (by kernel_rfl) (by kernel_rfl) (by kernel_rfl) (door_met os _)) ?_
  intro W base args ds gs before hval0 hW _ _ hL _
  have hval : ∀ (j : Nat) t v, Tryd.f9.params[j]? = some t → args[j]? = some v → Value.okWide Tryd.prog W .any base t v := hval0
  have hW' := hW
  obtain ⟨p, q, hA0, hV0, rfl, hfz, hnd⟩ := hW
  have hV : DataW.TrodVars enc Tryd.prog W (fun _ => true) ["loop.example/seedlip/impl.errBits", "loop.example/seedlip/impl.errRoom"] gs q := hV0
  obtain ⟨a0, a1, hglb, hv0, hv1⟩ := glb_of_laid hL
  have hA : DataW.TrodAll enc Tryd.prog W 0 (fun _ => true) true Tryd.f9.params.toList args.toList ds p := hA0
  rw [Tryd.params9] at hA hval
  obtain ⟨v0, vs0, d0, ds0, p0, q0, hargs, rfl, rfl, h0, r0⟩ := trodAll_cons hA
  obtain ⟨rfl, rfl, rfl⟩ := trodAll_nil r0
  obtain rfl : args = #[v0] := by cases args; simp_all
  obtain ⟨rfl, rfl⟩ := hV.unique (vars_read enc hv0 hv1 trivial trivial _)
  have k0 := h0
  have lt0 : ∀ x ∈ p0, x.block < W.heap.size := by obtain ⟨m, hm⟩ := k0; exact DataW.trod_lt m _ _ _ hm
  obtain ⟨A0, c0, x0, rfl, hc0, ok0, rd0⟩ := open_arg Tryd.underlying39 opens_bytes (hval 0 39 v0 rfl rfl) h0
  clear hA0 hval0 hV0
  refine (fnBitsBent_walk W a0 a1 hglb hc0 ok0 rd0).mono fun e W' ⟨he, bel⟩ => ?_
  subst he
  exact ⟨_, rfl, _, _, _, [], _, [.cell 0 0, .cell 1 0], hW', trodAll_mk1 (shut_bool Tryd.underlying4 _), (trodAll_cons_mk (Below.trod (by kernel_rfl) (by kernel_rfl) (of_decide_eq_true (by kernel_rfl)) k0 bel lt0) trodAll_mk0), vars_read enc (var_below dr_g0 hv0 bel) (var_below dr_g1 hv1 bel) trivial trivial _, bel.frame _, fun h => by cases h⟩

/-- The given row. -/
theorem fnBitsBent_row : Rows.FnBitsBentSaid :=
  OpenClaim.holds_of_wide 9 Tryd.f9 rfl rfl rfl rfl rfl rfl rfl ⟨rfl, rfl, rfl, rfl, rfl⟩ rfl rfl rfl rfl rfl (by kernel_rfl) Tryd.func9 (by kernel_rfl)
    (of_decide_eq_true (by kernel_rfl)) (by unfold Func.isWrapper; first | (rw [if_pos (by decide +kernel)]; kernel_rfl) | (rw [if_neg (by decide +kernel)]; exact ⟨rfl, rfl⟩))
    (fun os started H enc _ => fnBitsBent_lifted os started H enc)
/-- The given statement: the row, what it lists tied to the program's text. -/
theorem fnBitsBent_holds : Rows.FnBitsBentCardSaid :=
  Claim7.holds_tied_plain_at .later [] [.sentinel, .sentinel] true Rows.fnBitsBentCard.stood.harness Rows.fnBitsBentCard.stood.looks
    fnBitsBent_row (fun _ h => by cases h) (by kernel_rfl) (fun _ h => by cases h) fnBitsBent_row_tie rfl ⟨rfl, rfl⟩ (by kernel_rfl) rfl
    (fun f fn hf hfn => by
      obtain rfl : f = 9 := Option.some.inj ((show Tryd.prog.funcNamed "loop.example/seedlip/laws.FnBitsBent" = some 9 by kernel_rfl).symm.trans hf) |>.symm
      obtain rfl : fn = Tryd.f9 := (Option.some.inj (Tryd.func9.symm.trans hfn)).symm
      exact ⟨by kernel_rfl, fun j t ht => by
        rw [Tryd.params9] at ht
        have hm : t ∈ [39] := by simpa using Array.mem_of_getElem? ht
        have hall : ([39].all fun u => !Tryd.prog.wantsStandIn u) = true := by kernel_rfl
        exact (show Tryd.prog.wantsStandIn t = false by simpa using List.all_eq_true.1 hall t hm)⟩)
    (by kernel_rfl)
#print axioms fnBitsBent_holds
end Go.Proofs.YtjghcaghigebjaaDoor
