/- Draws of nets and of two numbers: l7Net, l7Two. -/
import Derived.Test.YtjghcaghigebjaaGreatDoorJFnBitsAgain0
import Derived.Test.YtjghcaghigebjaaGreatDoorJFnBitsAgain2
import Derived.Test.YtjghcaghigebjaaGreatDoorJFnBitsAgain3
import Derived.Test.YtjghcaghigebjaaGreatDoorJFnBitsAgain4
import Derived.Test.YtjghcaghigebjaaGreatDoorJFnBitsAgain5
import Derived.Test.YtjghcaghigebjaaGreatDoorJFnBitsAgain7
import Derived.Test.YtjghcaghigebjaaGreatDoorJFnBitsAgain8
namespace Go.Proofs.YtjghcaghigebjaaGreatDoor
open Go Go.RowKit
abbrev GU (F : Nat → Prop) (X0 z : World) (b : Nat) : Prop := F b ∨ (X0.heap.size ≤ b ∧ b < z.heap.size)
theorem Lay.Sl.upU {α : Type} {L : Lay α} {F : Nat → Prop} {X0 x x' : World} {A : Option Addr} {xs : List α} (h : L.Sl x (GU F X0 x) A xs) (hF : ∀ b, F b → b < x.heap.size) (hb : Below x.heap.size x x') : L.Sl x' (GU F X0 x') A xs :=
 (h.below hb (fun b hb' => hb'.elim (hF b) (fun h9 => h9.2))).mono fun b hb' => hb'.imp id fun h9 => ⟨h9.1, Nat.lt_of_lt_of_le h9.2 hb.size⟩
theorem Lay.Sl.stU {α : Type} {L : Lay α} {F : Nat → Prop} {X0 x x' : World} {A : Option Addr} {xs : List α} {g : Nat} (h : L.Sl x (GU F X0 x) A xs) (hF : ∀ b, F b → b < x.heap.size) (hg : x.grownBy x' (some g)) (h1 : g < X0.heap.size) (h2 : ¬ F g) : L.Sl x' (GU F X0 x') A xs :=
 (h.keep fun b hb => hg.block b (hb.elim (hF b) (fun h9 => h9.2)) (fun e => by injection e with e; subst e; exact hb.elim h2 (fun h9 => by omega))).mono fun b hb' => hb'.imp id fun h9 => ⟨h9.1, Nat.lt_of_lt_of_le h9.2 hg.size⟩
def NoB : Nat → Prop := fun _ => False
def URow (X0 : World) (l : List Int) (v : Value) (z : World) : Prop := ∃ B d, v = .slice B l.length d ∧ l.length ≤ d ∧ Lay.int.Sl z (GU NoB X0 z) B l
def UTup (F : Nat → Prop) (X0 : World) (T : (N × Bool) × List Int) (v : Value) (z : World) : Prop := ∃ A2 c2 B d, v = .tuple #[.agg #[.int .i64 T.1.1.ins, .slice A2 T.1.1.gs.length c2, .bool T.1.2], .slice B T.2.length d] ∧ (A2 = none → T.1.1.gs.length = 0) ∧ Lay.gate.Sl z (GU F X0 z) A2 T.1.1.gs ∧ T.2.length ≤ d ∧ Lay.int.Sl z (GU NoB X0 z) B T.2 ∧ X0.heap.size ≤ z.heap.size
def UNet (F : Nat → Prop) (X0 : World) (k : N × Bool) (v : Value) (z : World) : Prop := ∃ A2 c2, v = .agg #[.int .i64 k.1.ins, .slice A2 k.1.gs.length c2, .bool k.2] ∧ (A2 = none → k.1.gs.length = 0) ∧ Lay.gate.Sl z (GU F X0 z) A2 k.1.gs ∧ X0.heap.size ≤ z.heap.size
theorem URow.up {X0 x y : World} {l : List Int} {v : Value} (h : URow X0 l v x) (hb : Below x.heap.size x y) : URow X0 l v y := by
 obtain ⟨B, d, h1, h2, h3⟩ := h
 exact ⟨B, d, h1, h2, h3.upU (fun _ h => h.elim) hb⟩
theorem URow.st {X0 x y : World} {l : List Int} {v : Value} {g : Nat} (h : URow X0 l v x) (hg : x.grownBy y (some g)) (h1 : g < X0.heap.size) : URow X0 l v y := by
 obtain ⟨B, d, h2, h3, h4⟩ := h
 exact ⟨B, d, h2, h3, h4.stU (fun _ h => h.elim) hg h1 id⟩
theorem UTup.up {F : Nat → Prop} {X0 x y : World} {T : (N × Bool) × List Int} {v : Value} (hF : ∀ b, F b → b < X0.heap.size) (h : UTup F X0 T v x) (hb : Below x.heap.size x y) : UTup F X0 T v y := by
 obtain ⟨A2, c2, B, d, h1, h2, h3, h4, h5, h6⟩ := h
 exact ⟨A2, c2, B, d, h1, h2, h3.upU (fun b hb => Nat.lt_of_lt_of_le (hF b hb) h6) hb, h4, h5.upU (fun _ h => h.elim) hb, Nat.le_trans h6 hb.size⟩
theorem UTup.st {F : Nat → Prop} {X0 x y : World} {T : (N × Bool) × List Int} {v : Value} {g : Nat} (hF : ∀ b, F b → b < X0.heap.size) (h : UTup F X0 T v x) (hg : x.grownBy y (some g)) (hg1 : g < X0.heap.size) (hg2 : ¬ F g) : UTup F X0 T v y := by
 obtain ⟨A2, c2, B, d, h1, h2, h3, h4, h5, h6⟩ := h
 exact ⟨A2, c2, B, d, h1, h2, h3.stU (fun b hb => Nat.lt_of_lt_of_le (hF b hb) h6) hg hg1 hg2, h4, h5.stU (fun _ h => h.elim) hg hg1 id, Nat.le_trans h6 hg.size⟩
theorem UNet.up {F : Nat → Prop} {X0 x y : World} {k : N × Bool} {v : Value} (hF : ∀ b, F b → b < X0.heap.size) (h : UNet F X0 k v x) (hb : Below x.heap.size x y) : UNet F X0 k v y := by
 obtain ⟨A2, c2, h1, h2, h3, h6⟩ := h
 exact ⟨A2, c2, h1, h2, h3.upU (fun b hb => Nat.lt_of_lt_of_le (hF b hb) h6) hb, Nat.le_trans h6 hb.size⟩
theorem UNet.st {F : Nat → Prop} {X0 x y : World} {k : N × Bool} {v : Value} {g : Nat} (hF : ∀ b, F b → b < X0.heap.size) (h : UNet F X0 k v x) (hg : x.grownBy y (some g)) (hg1 : g < X0.heap.size) (hg2 : ¬ F g) : UNet F X0 k v y := by
 obtain ⟨A2, c2, h1, h2, h3, h6⟩ := h
 exact ⟨A2, c2, h1, h2, h3.stU (fun b hb => Nat.lt_of_lt_of_le (hF b hb) h6) hg hg1 hg2, Nat.le_trans h6 hg.size⟩
def UnI (F : Nat → Prop) (w X0 : World) (k : N × Bool) (A : Option Addr) (c : Nat) (k2 : N × Bool) (done : Bool) (x : World) : Prop :=
 Below w.heap.size w x ∧ x.heap[w.heap.size]? = some (.cells #[.int .i64 k.1.ins, .slice A k.1.gs.length c, .bool k.2] 95 (0, 0)) ∧ (done = false → x.heap[w.heap.size + 1]? = some (.cells #[.int .i64 0, .slice none 0 0, .bool false] 95 (0, 0))) ∧ (done = true → ∃ A2 c2, x.heap[w.heap.size + 1]? = some (.cells #[.int .i64 k2.1.ins, .slice A2 k2.1.gs.length c2, .bool k2.2] 95 (0, 0)) ∧ (A2 = none → k2.1.gs.length = 0) ∧ Lay.gate.Sl x (GU F X0 x) A2 k2.1.gs) ∧ Lay.gate.Sl x F A k.1.gs ∧ X0.heap.size ≤ x.heap.size
theorem UnI.up {F : Nat → Prop} {w X0 x y : World} {k : N × Bool} {A : Option Addr} {c : Nat} {k2 : N × Bool} {done : Bool} (hF : ∀ b, F b → b < w.heap.size) (h : UnI F w X0 k A c k2 done x) (hb : Below x.heap.size x y) : UnI F w X0 k A c k2 done y := by
 obtain ⟨h1, h2, h3, h4, h5, h6⟩ := h
 have hF2 : ∀ b, F b → b < x.heap.size := fun b hb' => by have := hF b hb'; have := lt_of_block h2; omega
 refine ⟨bthen h1 hb, (hb.block _ (lt_of_block h2)).trans h2, fun hd => (hb.block _ (lt_of_block (h3 hd))).trans (h3 hd), fun hd => ?_, h5.below hb hF2, Nat.le_trans h6 hb.size⟩
 obtain ⟨A2, c2, g1, g2, g3⟩ := h4 hd
 exact ⟨A2, c2, (hb.block _ (lt_of_block g1)).trans g1, g2, g3.upU hF2 hb⟩
theorem UnI.st {F : Nat → Prop} {w X0 x : World} {k : N × Bool} {A : Option Addr} {c : Nat} {k2 : N × Bool} {A2 : Option Addr} {c2 : Nat} (hF : ∀ b, F b → b < w.heap.size) (hX : w.heap.size + 1 < X0.heap.size) (h : UnI F w X0 k A c k2 false x) (hs : Lay.gate.Sl x (GU F X0 x) A2 k2.1.gs) (hn : A2 = none → k2.1.gs.length = 0) :
  UnI F w X0 k A c k2 true (st3 x (w.heap.size + 1) (.int .i64 k2.1.ins) (.slice A2 k2.1.gs.length c2) (.bool k2.2)) ∧ x.grownBy (st3 x (w.heap.size + 1) (.int .i64 k2.1.ins) (.slice A2 k2.1.gs.length c2) (.bool k2.2)) (some (w.heap.size + 1)) := by
 obtain ⟨h1, h2, h3, h4, h5, h6⟩ := h
 have hgr : x.grownBy (st3 x (w.heap.size + 1) (.int .i64 k2.1.ins) (.slice A2 k2.1.gs.length c2) (.bool k2.2)) (some (w.heap.size + 1)) := z02 (z02 (z02 (World.grownBy.refl _ _) _ _) _ _) _ _
 have hF2 : ∀ b, F b → b < x.heap.size := fun b hb' => by have := hF b hb'; have := lt_of_block h2; omega
 have hng : ¬ F (w.heap.size + 1) := fun h9 => by have := hF _ h9; omega
 exact ⟨⟨z09 h1 (by omega) _ _ _, (st3_other (by omega)).trans h2, fun h => (by cases h), fun _ => ⟨A2, c2, z15 (h3 rfl) _ _ _, hn, hs.stU hF2 hgr hX hng⟩, st3_sl h5 (fun b hb e => hng (by rw [e] at hb; exact hb)) _ _ _, by rw [z13]; exact h6⟩, hgr⟩
variable {P : Program} {Q : Exit → Act → World → Prop}
def untilOk (ops : List Oper) (D : List (List Nat)) (U : List (Option Nat)) : Bool :=
 (List.range ops.length).all fun k => (D.getD k []).all fun j => match U.getD j none with | none => true | some u => decide (u = k) || reach ops ops.length u k
theorem untilOk_spec {ops : List Oper} {D : List (List Nat)} {U : List (Option Nat)} (h : untilOk ops D U = true) {k j u : Nat} (hk : k < ops.length) (hj : j ∈ D.getD k []) (hu : U.getD j none = some u) : u = k ∨ reach ops ops.length u k = true := by
 have h1 := List.all_eq_true.1 (List.all_eq_true.1 h k (List.mem_range.2 hk)) j hj
 rw [hu] at h1
 simpa using h1
structure RelInv5 (ops : List Oper) (I : (Nat → Bool) → World → Prop) (L : List Say) (U : List (Option Nat)) (a : Act) (listed : Array Bool) (a' : Act) (x : World) (vals : Nat → Value) : Prop where
 size : listed.size = ops.length
 closed : ∀ j k, waits ops k j = true → listed.getD k false = true → listed.getD j false = true
 tsize : a'.tmps.size = a.tmps.size
 defers : a'.defers = a.defers
 old : ∀ t, (∀ j, listed.getD j false = true → dstOf ops j ≠ some t) → a'.tmps[t]? = a.tmps[t]?
 new : ∀ j t, listed.getD j false = true → dstOf ops j = some t → a'.tmps[t]? = some (vals j)
 inv : I (fun i => listed.getD i false) x
 fact : ∀ j, listed.getD j false = true → (∀ u, U.getD j none = some u → listed.getD u false = false) → L.getD j (fun _ _ => True) vals x
theorem rel5_any {ops : List Oper} {D : List (List Nat)} {R : Nat → World → World → Prop} {I : (Nat → Bool) → World → Prop} {L : List Say} {U : List (Option Nat)} {a : Act} (hRr : ∀ k x, R k x x) (hL : ∀ j k, k < ops.length → j ≠ k → reach ops ops.length j k = false → U.getD j none ≠ some k → (∀ u, U.getD j none = some u → reach ops ops.length k u = false) → ∀ vs x x', L.getD j (fun _ _ => True) vs x → R k x x' → L.getD j (fun _ _ => True) vs x') (hLo : Locals D 0 L) (hU : untilOk ops D U = true) (hB : relOk4 ops D a.tmps.size = true)
  (hs : ∀ k o, ops[k]? = some o → obligR4 P ops D (R k) I L a k o)
  (hfin : ∀ vals x f, (∀ i, i < ops.length → f i = true) → I f x → says L vals x ((List.range ops.length).filter fun i => (U.getD i none).isNone) → Q .normal (puts ops vals (List.range ops.length) a) x) :
  ∀ (fuel : Nat) (listed : Array Bool) (a' : Act) (x : World) (vals : Nat → Value), cnt (fun i => listed.getD i false) ops.length ≤ fuel →
   RelInv5 ops I L U a listed a' x vals → wpAny P .any ops.toArray Q fuel listed a' x := by
 have hdd : ∀ i j t, dstOf ops i = some t → dstOf ops j = some t → i = j := fun i j t hi hj => by
  have hjl : j < ops.length := dst_lt hj
  have ho : ops[j]? = some ops[j] := List.getElem?_eq_getElem hjl
  exact (relOk4_spec hB j _ ho).2.2.2.2.2.2 i t (dst_lt hi) hi (by simpa [dstOf, ho] using hj)
 have hds : ∀ j t, dstOf ops j = some t → t < a.tmps.size := fun j t hj => by
  have hjl : j < ops.length := dst_lt hj
  have ho : ops[j]? = some ops[j] := List.getElem?_eq_getElem hjl
  exact (relOk4_spec hB j _ ho).2.2.2.1 t (by simpa [dstOf, ho] using hj)
 have hdone : ∀ (listed : Array Bool) (a' : Act) (x : World) (vals : Nat → Value), (∀ i, i < ops.length → listed.getD i false = true) → RelInv5 ops I L U a listed a' x vals → Q .normal a' x := by
  intro listed a' x vals hall inv
  have ha : a' = puts ops vals (List.range ops.length) a := by
   have ht : a'.tmps = (puts ops vals (List.range ops.length) a).tmps := by
    apply Array.ext_getElem?
    intro t
    by_cases h : ∃ j, dstOf ops j = some t
    ·
     obtain ⟨j, hj⟩ := h
     rw [inv.new j t (hall j (dst_lt hj)) hj, puts_get (fun i j => hdd i j t) _ _ j (List.mem_range.2 (dst_lt hj)) hj (hds j t hj)]
    · rw [inv.old t (fun j _ e => h ⟨j, e⟩), puts_ne _ _ (fun i _ e => h ⟨i, e⟩)]
   have hdf : a'.defers = (puts ops vals (List.range ops.length) a).defers := by rw [puts_defers]; exact inv.defers
   cases a'
   cases hp : puts ops vals (List.range ops.length) a
   rw [hp] at ht hdf
   simp only at ht hdf
   rw [ht, hdf]
  rw [ha]
  exact hfin vals x _ hall inv.inv (says_iff.2 fun i hi => inv.fact i (hall i (List.mem_range.1 (List.mem_filter.1 hi).1)) (fun u hu => by have := (List.mem_filter.1 hi).2; rw [hu] at this; cases this))
 have hmin : ∀ (listed : Array Bool), listed.size = ops.length → ∀ i, i < ops.length → listed.getD i false = false → Region.ready .any ops.toArray listed ≠ [] := by
  intro listed hsz i
  induction i using Nat.strongRecOn with
  | _ i ih =>
   intro hi hun hr
   have ho : ops[i]? = some ops[i] := List.getElem?_eq_getElem hi
   by_cases h : ∀ e ∈ ops[i].after, Region.binds .any e = true → listed.getD e.on false = true
   ·
    have : i ∈ Region.ready .any ops.toArray listed := mem_ready.2 ⟨getD_in (by omega) hun, ops[i], by simp [ho], h⟩
    rw [hr] at this; cases this
   ·
    simp only [Classical.not_forall] at h
    obtain ⟨e, he, hb, hl⟩ := h
    have hlt := (relOk4_spec hB i _ ho).2.2.1 e he hb
    exact ih e.on hlt (by omega) (by simpa using hl) hr
 intro fuel
 induction fuel with
 | zero =>
  intro listed a' x vals hc inv
  have hall := cnt_zero (f := fun i => listed.getD i false) (Nat.le_zero.1 hc)
  refine ⟨?_, hdone _ _ _ _ hall inv⟩
  cases hr : Region.ready .any ops.toArray listed with
  | nil => rfl
  | cons k rs =>
   exfalso
   have hk : k ∈ Region.ready .any ops.toArray listed := by rw [hr]; simp
   obtain ⟨h0, o, ho, _⟩ := mem_ready.1 hk
   have hlt : k < ops.length := by
    have := (Array.getElem?_eq_some_iff.1 ho).1; simpa using this
   have h1 : listed.getD k false = true := hall k hlt
   rw [getD_both h0] at h1; cases h1
 | succ fuel ih =>
  intro listed a' x vals hc inv
  refine ⟨fun hr => ?_, fun k hk => ?_⟩
  ·
   refine hdone _ _ _ _ (fun i hi => ?_) inv
   cases h : listed.getD i false with
   | true => rfl
   | false => exact absurd hr (hmin listed inv.size i hi h)
  ·
   obtain ⟨h0, o, hoA, hwait⟩ := mem_ready.1 hk
   have ho : ops[k]? = some o := by simpa using hoA
   have hkl : k < ops.length := (List.getElem?_eq_some_iff.1 ho).1
   have h0f : listed.getD k false = false := getD_both h0
   have hsz : k < listed.size := by rw [inv.size]; exact hkl
   obtain ⟨hg, hsel, _, hdsz, hD, hlook, hdist⟩ := relOk4_spec hB k o ho
   have hw : ∀ m, waits ops k m = true → listed.getD m false = true := fun m hm => by
    obtain ⟨o', ho', e, he, hb, rfl⟩ := waits_spec.1 hm
    have : o' = o := Option.some.inj (ho'.symm.trans ho)
    subst this
    exact hwait e he hb
   have hDl : ∀ j ∈ D.getD k [], listed.getD j false = true := fun j hj => hw j (hD j hj).1
   have hdk : dstOf ops k = o.dst := by simp [dstOf, ho]
   -- the operation runs as it does in the small state
   have hexec : execOp a'.eval o = execOp (puts ops vals (D.getD k []) a).eval o := execOp_congr o hsel fun y hy => by
    cases y with
    | tmp t =>
     have ht : a'.tmps[t]? = (puts ops vals (D.getD k []) a).tmps[t]? := by
      by_cases h : ∃ j, dstOf ops j = some t
      ·
       obtain ⟨j, hj⟩ := h
       rcases hlook j (dst_lt hj) (looks_spec ho hj hy) with hm | hm
       · rw [inv.new j t (hDl j hm) hj, puts_get (fun i j => hdd i j t) _ _ j hm hj (hds j t hj)]
       ·
        have hjf : listed.getD j false = true → False := fun hjl => by
         have := z14 inv.closed _ j k (fun m hm => inv.closed m j hm hjl) hm
         rw [this] at h0f; cases h0f
        rw [inv.old t (fun i hi e => by have := hdd i j t e hj; subst this; exact hjf hi), puts_ne _ _ (fun i hi e => by have := hdd i j t e hj; subst this; exact hjf (hDl i hi))]
      · rw [inv.old t (fun j _ e => h ⟨j, e⟩), puts_ne _ _ (fun i _ e => h ⟨i, e⟩)]
     show a'.tmps.getD t undef = (puts ops vals (D.getD k []) a).tmps.getD t undef
     rw [Array.getD_eq_getD_getElem?, Array.getD_eq_getD_getElem?, ht]
    | _ => rfl
   have hcs := (cnt_set (f := fun i => listed.getD i false) (g := fun i => (listed.setIfInBounds k true).getD i false) h0f (getD_set (listed := listed) hsz) (n := ops.length)).2 hkl
   have hob := hs k o ho vals x (fun i => listed.getD i false) h0f (fun r h => z14 inv.closed _ k r (fun m hm => hw m hm) h) (fun r hr => by
    cases h : listed.getD r false with
    | false => rfl
    | true => exact absurd ((z14 inv.closed _ r k (fun m hm => inv.closed m r hm h) hr).symm.trans h0f) (by simp)) inv.inv (says_iff.2 fun j hj => inv.fact j (hDl j hj) (fun u hu => by
    rcases untilOk_spec hU hkl hj hu with rfl | hr
    · exact h0f
    ·
     cases hlu : listed.getD u false with
     | false => rfl
     | true => exact absurd ((z14 inv.closed _ u k (fun m hm => inv.closed m u hm hlu) hr).symm.trans h0f) (by simp)))
   have hbs : (puts ops vals (D.getD k []) a).tmps.size = a.tmps.size := puts_size _ _
   have hbd : (puts ops vals (D.getD k []) a).defers = a.defers := puts_defers _ _
   have next : ∀ v x', (L.getD k (fun _ _ => True) (upd vals k (got o ((puts ops vals (D.getD k []) a).put o.dst v))) x' ∧ R k x x' ∧ I (did (fun i => listed.getD i false) k) x') →
     wpAny P .any ops.toArray Q fuel (listed.setIfInBounds k true) (a'.put o.dst v) x' := by
    intro v x' hq
    obtain ⟨hV, hR, hI'⟩ := hq
    have hgs := getD_set (listed := listed) hsz
    have hold : ∀ j, (listed.setIfInBounds k true).getD j false = true → j ≠ k → listed.getD j false = true := fun j hj hne => by
     rw [hgs, if_neg hne] at hj; exact hj
    refine ih _ _ x' (fun j => if j = k then got o ((puts ops vals (D.getD k []) a).put o.dst v) else vals j) ?_ ⟨by simp [inv.size], fun j m hm hl => ?_, by rw [put_size]; exact inv.tsize, by rw [put_defers]; exact inv.defers, fun t ht => ?_, fun j t hj hdj => ?_, by rw [show (fun i => (listed.setIfInBounds k true).getD i false) = fun j => if j = k then true else listed.getD j false from funext hgs]; exact hI', fun j hj hun => ?_⟩
    · omega
    ·
     rw [hgs]
     by_cases e : j = k
     · rw [if_pos e]
     ·
      rw [if_neg e]
      by_cases e' : m = k
      · subst e'; exact hw j hm
      · exact inv.closed j m hm (hold m hl e')
    ·
     rw [put_get_ne _ _ _ _ (by
      have := ht k (by rw [hgs, if_pos rfl])
      rwa [hdk] at this)]
     refine inv.old t fun j hj => ht j ?_
     rw [hgs]; split <;> first | rfl | exact hj
    ·
     by_cases e : j = k
     ·
      subst e
      rw [hdk] at hdj
      have htl := hdsz t hdj
      rw [if_pos rfl, hdj, put_get _ _ _ (by rw [inv.tsize]; exact htl)]
      simp only [got, hdj]
      rw [Array.getD_eq_getD_getElem?, put_get _ _ _ (by rw [hbs]; exact htl)]
      rfl
     ·
      rw [if_neg e, put_get_ne _ _ _ _ (fun e' => e (hdist j t (dst_lt hdj) hdj e'))]
      exact inv.new j t (hold j hj e) hdj
    ·
     by_cases e : j = k
     · subst e; exact hV
     ·
      have hjl := hold j hj e
      have hrj : reach ops ops.length j k = false := by
       cases h : reach ops ops.length j k with
       | false => rfl
       | true => rw [z14 inv.closed _ j k (fun m hm => inv.closed m j hm hjl) h] at h0f; cases h0f
      have hnk : U.getD j none ≠ some k := fun hu => by
       have := hun k hu
       rw [hgs, if_pos rfl] at this; cases this
      have hold9 : ∀ u, U.getD j none = some u → listed.getD u false = false := fun u hu => by
       have := hun u hu
       rw [hgs] at this
       by_cases e9 : u = k
       · rw [e9]; exact h0f
       · rwa [if_neg e9] at this
      have hru : ∀ u, U.getD j none = some u → reach ops ops.length k u = false := fun u hu => by
       cases h9 : reach ops ops.length k u with
       | false => rfl
       | true => exact absurd ((z14 inv.closed _ k u (fun m hm => hw m hm) h9).symm.trans (hold9 u hu)) (by simp)
      have hfj := hL j k hkl e hrj hnk hru vals x x' (inv.fact j hjl hold9) hR
      refine hLo.get j vals _ x' (by simp [upd, e]) (fun m hm => ?_) hfj
      have hmk : m ≠ k := fun e' => by
       have hjlt := listed_lt inv.size hjl
       have hw' := ((relOk4_spec hB j ops[j] (List.getElem?_eq_getElem hjlt)).2.2.2.2.1 m (by simpa using hm)).1
       rw [e'] at hw'
       rw [inv.closed k j hw' hjl] at h0f; cases h0f
      simp [upd, hmk]
   unfold wpOp
   rw [hoA]
   dsimp only
   have hgv : ∀ g b, o.guard = some (g, b) → ∃ d, dstOf ops g = some d ∧ a'.tmps[d]? = some (vals g) := fun g b hgb => by
    obtain ⟨h1, d, h2⟩ := hg g b hgb
    exact ⟨d, h2, inv.new g d (hDl g h1) h2⟩
   have hyield : ∀ g b, o.guard = some (g, b) → (Region.wanted o (yielded ops.toArray a'.tmps) = true ↔ vals g = .bool b) := fun g b hgb => by
    obtain ⟨d, h1, h2⟩ := hgv g b hgb
    have hy : yielded ops.toArray a'.tmps g = match some (vals g) with | some (.bool b) => some b | _ => none := by
     unfold yielded
     rw [show (ops.toArray[g]?).bind (·.dst) = some d from by simpa [dstOf] using h1]
     simp only [Option.bind_some, h2]
     cases vals g <;> rfl
    unfold Region.wanted
    rw [hgb]
    simp only [hy]
    constructor
    ·
     intro h
     split at h
     ·
      rename_i b' he
      injection he with he
      rw [he]
      have : b' = b := by simpa using h
      rw [this]
     · cases h
    ·
     intro h
     rw [h]; simp
   have hskip : Region.wanted o (yielded ops.toArray a'.tmps) = false → wpAny P .any ops.toArray Q fuel (listed.setIfInBounds k true) (a'.put o.dst undef) x := fun hw0 => by
    cases hgd : o.guard with
    | none => unfold Region.wanted at hw0; rw [hgd] at hw0; cases hw0
    | some p =>
     obtain ⟨g, b⟩ := p
     have hne : vals g ≠ .bool b := fun e => by rw [(hyield g b hgd).2 e] at hw0; cases hw0
     obtain ⟨h1, h2⟩ := hob.2 g b hgd hne
     refine next undef x ⟨?_, hRr k x, h2⟩
     have : got o ((puts ops vals (D.getD k []) a).put o.dst undef) = undef := by
      unfold got
      cases hd : o.dst with
      | none => rfl
      | some d =>
       simp only
       rw [Array.getD_eq_getD_getElem?, put_get _ _ _ (by rw [hbs]; exact hdsz d hd)]
       rfl
     rw [this]; exact h1
   by_cases hwant : Region.wanted o (yielded ops.toArray a'.tmps) = true
   rotate_left
   ·
    rw [if_neg hwant]
    exact hskip (by simpa using hwant)
   rw [if_pos hwant]
   have hob := hob.1 fun g b hgd => (hyield g b hgd).1 hwant
   refine .inl ?_
   unfold Oper.wp at hob ⊢
   rw [hexec]
   generalize (execOp (puts ops vals (D.getD k []) a).eval o).run P x = r at hob ⊢
   cases r with
   | ok n w' =>
    cases n <;> simp only [Oper.upon] at hob ⊢
    case value v => exact next v w' hob.2
    case skip => exact next _ w' hob.2
    case defer d =>
     have := hob.1
     rw [put_defers] at this
     exact absurd (congrArg List.length this) (by simp)
    case enter f args =>
     refine Calls.mono hob fun e w'' he => ?_
     cases e with
     | returned u => exact next u w'' he.2
     | panicked c => exact he.elim
     | outgrown => obtain ⟨_, _, h⟩ := he; exact h.elim
    case row row args => exact Rows.mono hob fun u w'' he => next u w'' he.2
   | halt e w' =>
    cases e <;> simp only [Oper.upon] at hob ⊢ <;> exact hob.elim
def StabS5 (ops : List Oper) (U : List (Option Nat)) (V : Say) (i : Nat) : List (Nat × (World → World → Prop)) → Prop
 | [] => True
 | p :: l => ((reach ops ops.length i p.1 || (match U.getD i none with | none => false | some u => u == p.1 || reach ops ops.length p.1 u)) = true ∨ i = p.1 ∨ ∀ vs x x', V vs x → p.2 x x' → V vs x') ∧ StabS5 ops U V i l
def Stabs5 (ops : List Oper) (U : List (Option Nat)) (R0 : World → World → Prop) (Rs : List (Nat × (World → World → Prop))) : Nat → List Say → Prop
 | _, [] => True
 | i, V :: l => ((isLast ops i = true ∨ ∀ vs x x', V vs x → R0 x x' → V vs x') ∧ StabS5 ops U V i Rs) ∧ Stabs5 ops U R0 Rs (i + 1) l
theorem relOf_stab5 {ops : List Oper} {U : List (Option Nat)} {R0 : World → World → Prop} {V : Say} {i k : Nat} (hik : i ≠ k) (hr : reach ops ops.length i k = false) (hu : U.getD i none ≠ some k) (hk : ∀ u, U.getD i none = some u → reach ops ops.length k u = false) (h0 : ∀ vs x x', V vs x → R0 x x' → V vs x') : ∀ {l : List (Nat × (World → World → Prop))}, StabS5 ops U V i l → ∀ vs x x', V vs x → relOf R0 l k x x' → V vs x'
 | [], _, vs, x, x', hv, h => h0 vs x x' hv h
 | p :: l, hs, vs, x, x', hv, h => by
  by_cases e : k = p.1
  ·
   rcases hs.1 with h1 | h1 | h1
   ·
    rw [Bool.or_eq_true] at h1
    rcases h1 with h1 | h1
    · rw [e, h1] at hr; cases hr
    ·
     cases hU : U.getD i none with
     | none => rw [hU] at h1; cases h1
     | some u =>
      rw [hU] at h1
      simp only [Bool.or_eq_true, beq_iff_eq] at h1
      rcases h1 with h1 | h1
      · exact absurd (by rw [hU, h1, e]) hu
      ·
       have := hk u hU
       rw [e, h1] at this; cases this
   · exact absurd (h1.trans e.symm) hik
   · exact h1 vs x x' hv (h.1 e)
  · exact relOf_stab5 hik hr hu hk h0 hs.2 vs x x' hv (h.2 e)
theorem Stabs5.get {ops : List Oper} {U : List (Option Nat)} {R0 : World → World → Prop} {Rs : List (Nat × (World → World → Prop))} {k : Nat} (hk : k < ops.length) : ∀ {L : List Say} {m : Nat}, Stabs5 ops U R0 Rs m L → ∀ i, m + i ≠ k → reach ops ops.length (m + i) k = false → U.getD (m + i) none ≠ some k → (∀ u, U.getD (m + i) none = some u → reach ops ops.length k u = false) → ∀ vs x x', L.getD i (fun _ _ => True) vs x → relOf R0 Rs k x x' → L.getD i (fun _ _ => True) vs x'
 | [], _, _, i, _, _, _, _, vs, x, x', _, _ => by simp
 | V :: l, m, h, 0, hik, hr, hu, hku, vs, x, x', hv, hR => by
  rcases h.1.1 with h1 | h1
  · exact (relOf_last (R0 := R0) (V := V) hik hr hk h1).elim
  · simpa using relOf_stab5 hik hr hu hku h1 h.1.2 vs x x' (by simpa using hv) hR
 | V :: l, m, h, i + 1, hik, hr, hu, hku, vs, x, x', hv, hR => by
  have e : m + (i + 1) = m + 1 + i := by omega
  rw [e] at hik hr hu hku
  simpa using Stabs5.get hk h.2 i hik hr hu hku vs x x' (by simpa using hv) hR
theorem wp_region_rel5 {id : Nat} {ops : List Oper} {a : Act} {w : World} (D : List (List (Nat × Tmp))) (R0 : World → World → Prop) (Rs : List (Nat × (World → World → Prop))) (I : (Nat → Bool) → World → Prop) (L : List Say) (U : List (Option Nat)) (all : List (Nat × Tmp)) (hm : P.follows .mixedOrders = true)
  (hB : relOk4 ops (idxs D) a.tmps.size = true) (hD : D.all (fitsD ops) = true)
  (hall : (List.range ops.length).filterMap (fun i => (dstOf ops i).map fun t => (i, t)) = all)
  (hRr : ∀ x, R0 x x) (hRs : Refls Rs) (hU : untilOk ops (idxs D) U = true) (hL : Stabs5 ops U R0 Rs 0 L) (hLo : Locals (idxs D) 0 L) (h0 : I (fun _ => false) (w.drewN 1))
  (hs : sharesR4 P ops (relOf R0 Rs) I L a 0 ops D)
  (hfin : ∀ vals x f, (∀ i, i < ops.length → f i = true) → I f x → says L vals x ((List.range ops.length).filter fun i => (U.getD i none).isNone) → Q .normal (putsD vals all a) x) : (Code.region id ops.toArray true).wp P Q a w := by
 refine wp_region_any hm ?_
 have z0 : ∀ j, (Array.replicate ops.toArray.size false).getD j false = false := fun j => getD_replicate_false _ _
 have hle : ∀ (f : Nat → Bool) (n : Nat), cnt f n ≤ n := fun f n => by
  induction n with
  | zero => exact Nat.le_refl _
  | succ n ih => simp only [cnt]; split <;> omega
 have hrel := rel5_any (P := P) (Q := Q) (ops := ops) (a := a) (D := idxs D) (R := relOf R0 Rs) (I := I) (L := L) (U := U) (relOf_refl hRr hRs) (fun j k hk hjk hr hu hku vs x x' => Stabs5.get hk hL j (by rw [Nat.zero_add]; exact hjk) (by rw [Nat.zero_add]; exact hr) (by rw [Nat.zero_add]; exact hu) (by rw [Nat.zero_add]; exact hku) vs x x') hLo hU hB
 refine hrel (fun k o hk => ?_) (fun vals x f hn hI hf => ?_) _ _ _ _ (fun _ => undef) (Nat.le_trans (hle _ _) (by simp)) ?_
 rotate_left
 · rw [puts_all, hall]; exact hfin vals x f hn hI hf
 · exact ⟨by simp, fun j k _ hl => (by rw [z0] at hl; cases hl), rfl, rfl, fun _ _ => rfl, fun j t hj => (by rw [z0] at hj; cases hj), by rw [show (fun i => (Array.replicate ops.toArray.size false).getD i false) = fun _ => false from funext z0]; exact h0, fun j hj _ => (by rw [z0] at hj; cases hj)⟩
 ·
  have hsh := sharesR4_get hs k o hk
  rw [Nat.zero_add] at hsh
  have hfit : fitsD ops (D.getD k []) = true := by
   rcases Nat.lt_or_ge k D.length with h | h
   · rw [show D.getD k [] = D[k] by simp [h]]; exact List.all_eq_true.1 hD _ (List.getElem_mem h)
   · rw [show D.getD k [] = [] by simp [h]]; rfl
  have hDk : (idxs D).getD k [] = (D.getD k []).map (·.1) := by
   unfold idxs
   rcases Nat.lt_or_ge k D.length with h | h
   · simp [h]
   · simp [h]
  intro vals x f hn hl hl2 hI hf
  rw [hDk, says_saysD] at hf
  have h := hsh vals x f hn hl hl2 hI hf
  rw [hDk, puts_putsD hfit]
  have hun : wpList P #[] (relQ4 (relOf R0 Rs k) I L vals f k o (putsD vals (D.getD k []) a) x) [bare o] (putsD vals (D.getD k []) a) x → o.wp P (putsD vals (D.getD k []) a) x (relQ4 (relOf R0 Rs k) I L vals f k o (putsD vals (D.getD k []) a) x .normal) (relQ4 (relOf R0 Rs k) I L vals f k o (putsD vals (D.getD k []) a) x) := fun h => by
   rcases wpList_bare h with h | ⟨_, _, h⟩
   · exact h
   · exact h.elim
  generalize o.guard = gd at h ⊢
  cases gd with
  | none => exact ⟨fun _ => hun h, fun g b e => by cases e⟩
  | some p =>
   obtain ⟨g, b⟩ := p
   exact ⟨fun e => hun (h.1 (e g b rfl)), fun g' b' e hne => by injection e with e; injection e with e1 e2; subst e1; subst e2; exact h.2 hne⟩
end Go.Proofs.YtjghcaghigebjaaGreatDoor
namespace Go.Proofs.YtjghcaghigebjaaGreatDoor
open Go Go.RowKit
theorem KS.outL {F : Nat → Prop} {w x x' : World} {k k' : N × Bool} {A A' B : Option Addr} {c c' d : Nat} {l : List Int} (h : KS F w x k A c) (hF : ∀ b, F b → b < w.heap.size) (hs : Lay.gate.Sl x' (fun b => (fun b => F b ∨ (w.heap.size + 2 ≤ b ∧ b < x.heap.size)) b ∨ (x.heap.size ≤ b ∧ b < x'.heap.size)) A' k'.1.gs) (hb : Below x.heap.size x x') (hn : A' = none → k'.1.gs.length = 0) (hd : l.length ≤ d) (hl : Lay.int.Sl x' (fun b => x.heap.size ≤ b ∧ b < x'.heap.size) B l) (hm : ∀ m ∈ l, RB m) :
  RetKL F w (k', l) (.returned (.tuple #[.agg #[.int .i64 k'.1.ins, .slice A' k'.1.gs.length c', .bool k'.2], .slice B l.length d])) (st3 x' (w.heap.size + 1) (.int .i64 k'.1.ins) (.slice A' k'.1.gs.length c') (.bool k'.2)) := by
 have hx := lt_of_block h.res
 refine ⟨A', c', B, d, rfl, hn, (st3_sl (h := w.heap.size + 1) hs (fun b hb' => ?_) _ _ _).mono (fun b hb' => ?_), hd, (st3_sl (h := w.heap.size + 1) hl (fun b hb' => by omega) _ _ _).mono (fun b hb' => ?_), hm, z09 (bthen h.bel hb) (by omega) _ _ _⟩
 ·
  rcases hb' with (hb' | hb') | hb'
  · have := hF b hb'; omega
  · omega
  · omega
 ·
  rw [z13]
  have hsz := hb.size
  rcases hb' with (hb' | hb') | hb'
  · exact .inl hb'
  · exact .inr ⟨by omega, by omega⟩
  · exact .inr ⟨by omega, hb'.2⟩
 · rw [z13]; omega
theorem RetKL.up {F : Nat → Prop} {w x x' : World} {res : (N × Bool) × List Int} {e : Ending} (h : RetKL F w res e x) (hF : ∀ b, F b → b < w.heap.size) (hb : Below x.heap.size x x') : RetKL F w res e x' := by
 obtain ⟨A, c, B, d, h1, h2, h3, h4, h5, h6, h7⟩ := h
 exact ⟨A, c, B, d, h1, h2, (h3.below hb (fun b h9 => h9.elim (fun h => Nat.lt_of_lt_of_le (hF b h) h7.size) (fun h => h.2))).mono fun b h9 => h9.imp id fun h => ⟨h.1, Nat.lt_of_lt_of_le h.2 hb.size⟩, h4, (h5.below hb (fun b h9 => h9.2)).mono fun b h9 => ⟨h9.1, Nat.lt_of_lt_of_le h9.2 hb.size⟩, h6, bthen h7 hb⟩
def CatI (F : Nat → Prop) (w X0 : World) (k : N × Bool) (A : Option Addr) (c : Nat) (done : Bool) (x : World) : Prop :=
 Below w.heap.size w x ∧ x.heap[w.heap.size]? = some (.cells #[.int .i64 k.1.ins, .slice A k.1.gs.length c, .bool k.2] 95 (0, 0)) ∧ (done = false → x.heap[w.heap.size + 1]? = some (.cells #[.int .i64 0, .slice none 0 0, .bool false] 95 (0, 0))) ∧ (done = true → x.heap[w.heap.size + 1]? = some (.cells #[.int .i64 k.1.ins, .slice A k.1.gs.length c, .bool k.2] 95 (0, 0))) ∧ Lay.gate.Sl x F A k.1.gs ∧ X0.heap.size ≤ x.heap.size
theorem CatI.up {F : Nat → Prop} {w X0 x y : World} {k : N × Bool} {A : Option Addr} {c : Nat} {done : Bool} (hF : ∀ b, F b → b < w.heap.size) (hX : w.heap.size + 1 < X0.heap.size) (h : CatI F w X0 k A c done x) (hb : Below X0.heap.size x y) : CatI F w X0 k A c done y := by
 obtain ⟨h1, h2, h3, h4, h5, h6⟩ := h
 exact ⟨h1.trans (hb.mono (by omega)), (hb.block _ (by omega)).trans h2, fun hd => (hb.block _ hX).trans (h3 hd), fun hd => (hb.block _ hX).trans (h4 hd), h5.below hb (fun b h9 => by have := hF b h9; omega), Nat.le_trans h6 hb.size⟩
def CatL (X0 : World) (v : Value) (z : World) : Prop := ∃ A, v = .slice A 0 0 ∧ OwnI z X0.heap.size (.slice A ([] : List Int).length 0) []
def CatR (X0 : World) (l : List Int) (v : Value) (z : World) : Prop := ∃ A c, v = .slice A l.length c ∧ OwnI z X0.heap.size (.slice A l.length c) l
theorem CatL.up {X0 x y : World} {v : Value} (h : CatL X0 v x) (hb : Below x.heap.size x y) : CatL X0 v y := by
 obtain ⟨A, h1, h2⟩ := h; exact ⟨A, h1, h2.up hb⟩
theorem CatR.up {X0 x y : World} {l : List Int} {v : Value} (h : CatR X0 l v x) (hb : Below x.heap.size x y) : CatR X0 l v y := by
 obtain ⟨A, c, h1, h2⟩ := h; exact ⟨A, c, h1, h2.up hb⟩
theorem CatL.st {X0 x y : World} {v : Value} {g : Nat} (h : CatL X0 v x) (hg : x.grownBy y (some g)) (h1 : g < X0.heap.size) : CatL X0 v y := by
 obtain ⟨A, h2, h3⟩ := h; exact ⟨A, h2, own_kept_lt h3 hg h1⟩
theorem CatR.st {X0 x y : World} {l : List Int} {v : Value} {g : Nat} (h : CatR X0 l v x) (hg : x.grownBy y (some g)) (h1 : g < X0.heap.size) : CatR X0 l v y := by
 obtain ⟨A, c, h2, h3⟩ := h; exact ⟨A, c, h2, own_kept_lt h3 hg h1⟩
set_option maxRecDepth 100000 in
set_option maxHeartbeats 16000000 in
theorem l7Bin_any (F : Nat → Prop) (A : Option Addr) (c : Nat) (k : N × Bool) (op : Int) (X Y : Option Addr) (cx cy : Nat) (xs ys : List Int) (w : World) (h : Lay.gate.Sl w F A k.1.gs) (hF : ∀ b, F b → b < w.heap.size) (hA : A = none → k.1.gs.length = 0) (hnb : NB k.1) (hop : 3 ≤ op ∧ op ≤ 14) (hX : Lay.int.Rd w X xs) (hY : Lay.int.Rd w Y ys) (hxm : ∀ x ∈ xs, RB x) (hym : ∀ y ∈ ys, RB y) (hl : op ≠ 14 → xs.length = ys.length) (h0 : 0 < xs.length) (hn : xs.length ≤ 8) (hn' : ys.length ≤ 8) :
  Calls Tryz.prog 53 #[.agg #[.int .i64 k.1.ins, .slice A k.1.gs.length c, .bool k.2], .int .i64 op, .slice X xs.length cx, .slice Y ys.length cy] w (RetKL F w (run opsR (binP op xs ys) k)) := by
 have hk0 := KS.two (c := c) h hF hA
 have K0 := zH hk0
 have HF := zH hF
 have HNB := zH hnb
 have HX := zH (hX.up hk0.bel)
 have HY := zH (hY.up hk0.bel)
 have HXB : Hid (∀ x, Below w.heap.size w x → Lay.int.Rd x X xs ∧ Lay.int.Rd x Y ys) := zH fun x hx => ⟨hX.up hx, hY.up hx⟩
 have y0 := (z00 hk0.var 0).1
 have y1 := (z00 hk0.var 1).1
 have y2 := (z00 hk0.var 2).1
 have HL := zH hl
 have HXM := zH hxm
 have HYM := zH hym
 have HG := zH h
 have HNIL := zH hA
 clear h hF hA hnb hX hY hxm hym hl hk0
 obtain ⟨op0, op1⟩ := hop
 have hops : op = 3 ∨ op = 4 ∨ op = 5 ∨ op = 6 ∨ op = 7 ∨ op = 8 ∨ op = 9 ∨ op = 10 ∨ op = 11 ∨ op = 12 ∨ op = 13 ∨ op = 14 := by omega
 clear op0 op1
 rcases hops with rfl | rfl | rfl | rfl | rfl | rfl | rfl | rfl | rfl | rfl | rfl | rfl
 ·
  have HC := zH (l7Plain_3 _ A c k X Y cx cy xs ys _ K0.out.row (K0.out.lt HF.out) K0.out.nil HNB.out HX.out HY.out HXM.out HYM.out (HL.out (by decide)) (by omega))
  rw [show binP 3 xs ys = eachP (fun x y => .and x y .ret) xs ys from rfl]
  generalize run opsR (eachP (fun x y => .and x y .ret) xs ys) k = T at *
  go_enter Tryz.func53, Tryz.ntmps53
  go_wp2_with fail
  refine HC.out.mono ?_
  rintro e z9 ⟨A9, c9, B9, d9, rfl, hn9, hs9, hd9, hl9, hm9, hb9⟩
  have hr9 := (hb9.block _ (lt_of_block K0.out.res)).trans K0.out.res
  clear y0 y1 y2 HC
  have r0 := (z00 hr9 0).1
  have rf0 := (z00 hr9 0).2
  have r1 := (z00 hr9 1).1
  have rf1 := (z00 hr9 1).2
  have r2 := (z00 hr9 2).1
  have rf2 := (z00 hr9 2).2
  have HS9 := zH hs9
  have HB9 := zH hb9
  have HR9 := zH hr9
  have HL9 := zH hl9
  have HM9 := zH hm9
  have HN9 := zH hn9
  clear hs9 hb9 hr9 hl9 hm9 hn9
  go_wp2
  have hs := z15 HR9.out (.int .i64 T.1.1.ins) (.slice A9 T.1.1.gs.length c9) (.bool T.1.2)
  have k5 := (z00 hs 0).1
  have kf5 := (z00 hs 0).2
  have k6 := (z00 hs 1).1
  have kf6 := (z00 hs 1).2
  have k7 := (z00 hs 2).1
  have kf7 := (z00 hs 2).2
  refine bodyPost_ret (v := .tuple #[.agg #[.int .i64 T.1.1.ins, .slice A9 T.1.1.gs.length c9, .bool T.1.2], .slice B9 T.2.length d9]) (by simp [results, Tryz.results53, go_sem, k5, k6, k7, kf5, kf6, kf7]) rfl ?_
  exact K0.out.outL HF.out HS9.out HB9.out HN9.out hd9 HL9.out HM9.out
 ·
  have HC := zH (l7Plain_4 _ A c k X Y cx cy xs ys _ K0.out.row (K0.out.lt HF.out) K0.out.nil HNB.out HX.out HY.out HXM.out HYM.out (HL.out (by decide)) (by omega))
  rw [show binP 4 xs ys = eachP orP xs ys from rfl]
  generalize run opsR (eachP orP xs ys) k = T at *
  go_enter Tryz.func53, Tryz.ntmps53
  go_wp2_with fail
  refine HC.out.mono ?_
  rintro e z9 ⟨A9, c9, B9, d9, rfl, hn9, hs9, hd9, hl9, hm9, hb9⟩
  have hr9 := (hb9.block _ (lt_of_block K0.out.res)).trans K0.out.res
  clear y0 y1 y2 HC
  have r0 := (z00 hr9 0).1
  have rf0 := (z00 hr9 0).2
  have r1 := (z00 hr9 1).1
  have rf1 := (z00 hr9 1).2
  have r2 := (z00 hr9 2).1
  have rf2 := (z00 hr9 2).2
  have HS9 := zH hs9
  have HB9 := zH hb9
  have HR9 := zH hr9
  have HL9 := zH hl9
  have HM9 := zH hm9
  have HN9 := zH hn9
  clear hs9 hb9 hr9 hl9 hm9 hn9
  go_wp2
  have hs := z15 HR9.out (.int .i64 T.1.1.ins) (.slice A9 T.1.1.gs.length c9) (.bool T.1.2)
  have k5 := (z00 hs 0).1
  have kf5 := (z00 hs 0).2
  have k6 := (z00 hs 1).1
  have kf6 := (z00 hs 1).2
  have k7 := (z00 hs 2).1
  have kf7 := (z00 hs 2).2
  refine bodyPost_ret (v := .tuple #[.agg #[.int .i64 T.1.1.ins, .slice A9 T.1.1.gs.length c9, .bool T.1.2], .slice B9 T.2.length d9]) (by simp [results, Tryz.results53, go_sem, k5, k6, k7, kf5, kf6, kf7]) rfl ?_
  exact K0.out.outL HF.out HS9.out HB9.out HN9.out hd9 HL9.out HM9.out
 ·
  have HC := zH (l7Plain_5 _ A c k X Y cx cy xs ys _ K0.out.row (K0.out.lt HF.out) K0.out.nil HNB.out HX.out HY.out HXM.out HYM.out (HL.out (by decide)) (by omega))
  rw [show binP 5 xs ys = eachP (fun x y => .xor x y .ret) xs ys from rfl]
  generalize run opsR (eachP (fun x y => .xor x y .ret) xs ys) k = T at *
  go_enter Tryz.func53, Tryz.ntmps53
  go_wp2_with fail
  refine HC.out.mono ?_
  rintro e z9 ⟨A9, c9, B9, d9, rfl, hn9, hs9, hd9, hl9, hm9, hb9⟩
  have hr9 := (hb9.block _ (lt_of_block K0.out.res)).trans K0.out.res
  clear y0 y1 y2 HC
  have r0 := (z00 hr9 0).1
  have rf0 := (z00 hr9 0).2
  have r1 := (z00 hr9 1).1
  have rf1 := (z00 hr9 1).2
  have r2 := (z00 hr9 2).1
  have rf2 := (z00 hr9 2).2
  have HS9 := zH hs9
  have HB9 := zH hb9
  have HR9 := zH hr9
  have HL9 := zH hl9
  have HM9 := zH hm9
  have HN9 := zH hn9
  clear hs9 hb9 hr9 hl9 hm9 hn9
  go_wp2
  have hs := z15 HR9.out (.int .i64 T.1.1.ins) (.slice A9 T.1.1.gs.length c9) (.bool T.1.2)
  have k5 := (z00 hs 0).1
  have kf5 := (z00 hs 0).2
  have k6 := (z00 hs 1).1
  have kf6 := (z00 hs 1).2
  have k7 := (z00 hs 2).1
  have kf7 := (z00 hs 2).2
  refine bodyPost_ret (v := .tuple #[.agg #[.int .i64 T.1.1.ins, .slice A9 T.1.1.gs.length c9, .bool T.1.2], .slice B9 T.2.length d9]) (by simp [results, Tryz.results53, go_sem, k5, k6, k7, kf5, kf6, kf7]) rfl ?_
  exact K0.out.outL HF.out HS9.out HB9.out HN9.out hd9 HL9.out HM9.out
 ·
  have HC := zH (l7Add_any _ A c k (-1) X Y cx cy xs ys _ K0.out.row (K0.out.lt HF.out) K0.out.nil HNB.out bok_rb.off HX.out HY.out HXM.out HYM.out (HL.out (by decide)) (by omega))
  rw [show binP 6 xs ys = sumP xs ys (-1) from rfl]
  generalize run opsR (sumP xs ys (-1)) k = T at *
  go_enter Tryz.func53, Tryz.ntmps53
  go_wp2_with fail
  refine HC.out.mono ?_
  rintro e z9 ⟨A9, c9, B9, d9, rfl, hn9, hs9, hd9, hl9, hm9, hb9⟩
  have hr9 := (hb9.block _ (lt_of_block K0.out.res)).trans K0.out.res
  clear y0 y1 y2 HC
  have r0 := (z00 hr9 0).1
  have rf0 := (z00 hr9 0).2
  have r1 := (z00 hr9 1).1
  have rf1 := (z00 hr9 1).2
  have r2 := (z00 hr9 2).1
  have rf2 := (z00 hr9 2).2
  have HS9 := zH hs9
  have HB9 := zH hb9
  have HR9 := zH hr9
  have HL9 := zH hl9
  have HM9 := zH hm9
  have HN9 := zH hn9
  clear hs9 hb9 hr9 hl9 hm9 hn9
  go_wp2
  have hs := z15 HR9.out (.int .i64 T.1.1.ins) (.slice A9 T.1.1.gs.length c9) (.bool T.1.2)
  have k5 := (z00 hs 0).1
  have kf5 := (z00 hs 0).2
  have k6 := (z00 hs 1).1
  have kf6 := (z00 hs 1).2
  have k7 := (z00 hs 2).1
  have kf7 := (z00 hs 2).2
  refine bodyPost_ret (v := .tuple #[.agg #[.int .i64 T.1.1.ins, .slice A9 T.1.1.gs.length c9, .bool T.1.2], .slice B9 T.2.length d9]) (by simp [results, Tryz.results53, go_sem, k5, k6, k7, kf5, kf6, kf7]) rfl ?_
  exact K0.out.outL HF.out HS9.out HB9.out HN9.out hd9 HL9.out HM9.out
 ·
  obtain ⟨ns, hns⟩ : ∃ ns, ns = ys.map Neg.neg := ⟨_, rfl⟩
  have HNR : Hid (∀ m ∈ ns, RB m) := zH fun m hm => by
   rw [hns] at hm
   obtain ⟨x, hx, rfl⟩ := List.mem_map.1 hm
   exact (HYM.out x hx).neg
  have HNSL : Hid (xs.length = ns.length) := zH (by rw [hns, List.length_map]; exact HL.out (by decide))
  have HTU := zH (fun (x9 : World) (h9 : Lay.int.Rd x9 Y ys) => l7Turn_any Y cy ys x9 h9 HYM.out (by omega))
  rw [← hns] at HTU
  rw [show binP 7 xs ys = sumP xs (ys.map Neg.neg) 1 from rfl, ← hns]
  have HADD := zH (fun (Y9 : Option Addr) (cy9 : Nat) (x9 : World) (h1 : Lay.gate.Sl x9 F A k.1.gs) (h2 : ∀ b, F b → b < x9.heap.size) (h4 : Lay.int.Rd x9 X xs) (h5 : Lay.int.Rd x9 Y9 ns) => l7Add_any F A c k 1 X Y9 cx cy9 xs ns x9 h1 h2 HNIL.out HNB.out bok_rb.one h4 h5 HXM.out HNR.out HNSL.out (by omega))
  generalize hT : run opsR (sumP xs ns 1) k = T at *
  clear hT hns
  have HUN := zH (show UnI F w ((w.alloc (.cells #[.int .i64 k.1.ins, .slice A k.1.gs.length c, .bool k.2] 95)).alloc (.cells #[.int .i64 0, .slice none 0 0, .bool false] 95)) k A c T.1 false ((w.alloc (.cells #[.int .i64 k.1.ins, .slice A k.1.gs.length c, .bool k.2] 95)).alloc (.cells #[.int .i64 0, .slice none 0 0, .bool false] 95)) from ⟨K0.out.bel, K0.out.var, fun _ => K0.out.res, fun h => (by cases h), HG.out.below K0.out.bel HF.out, Nat.le_refl _⟩)
  have HXS := zH (show w.heap.size + 1 < ((w.alloc (.cells #[.int .i64 k.1.ins, .slice A k.1.gs.length c, .bool k.2] 95)).alloc (.cells #[.int .i64 0, .slice none 0 0, .bool false] 95)).heap.size by simp)
  have HFX := zH (show ∀ b, F b → b < ((w.alloc (.cells #[.int .i64 k.1.ins, .slice A k.1.gs.length c, .bool k.2] 95)).alloc (.cells #[.int .i64 0, .slice none 0 0, .bool false] 95)).heap.size from fun b hb => by have := HF.out b hb; simp; omega)
  have HNG : Hid (¬ F (w.heap.size + 1)) := zH fun h9 => by have := HF.out _ h9; omega
  clear y0 y1 y2 K0 HX HY
  go_enter Tryz.func53, Tryz.ntmps53
  go_wp2
  generalize hX0 : (w.alloc (.cells #[.int .i64 k.1.ins, .slice A k.1.gs.length c, .bool k.2] 95)).alloc (.cells #[.int .i64 0, .slice none 0 0, .bool false] 95) = X0 at *
  clear hX0
  have HBX : Hid (∀ x b, UnI F w X0 k A c T.1 b x → Lay.int.Rd x X xs ∧ Lay.int.Rd x Y ys) := zH fun x b hx => HXB.out x hx.1
  refine z05 [[], [], [], [(2, 29)], [(0, 27), (1, 28), (3, 30)], [(4, 31)], [(4, 31)], [(5, 32)], [(6, 33)]]
   (fun x9 y9 => Below x9.heap.size x9 y9)
   [(7, fun x9 y9 => x9.grownBy y9 (some (w.heap.size + 1)))]
   (fun f9 x9 => UnI F w X0 k A c T.1 (f9 7) x9)
   [fun vs9 _ => vs9 0 = (.agg #[.int .i64 k.1.ins, .slice A k.1.gs.length c, .bool k.2]),
    fun vs9 _ => vs9 1 = (.slice X xs.length cx),
    fun vs9 _ => vs9 2 = (.slice Y ys.length cy),
    fun vs9 y9 => (fun v z => URow X0 ns v z) (vs9 3) y9,
    fun vs9 y9 => (fun v z => UTup F X0 T v z ∧ ∀ m ∈ T.2, RB m) (vs9 4) y9,
    fun vs9 y9 => (fun v z => UNet F X0 T.1 v z) (vs9 5) y9,
    fun vs9 y9 => (fun v z => URow X0 T.2 v z ∧ ∀ m ∈ T.2, RB m) (vs9 6) y9,
    fun _ _ => True,
    fun vs9 y9 => (fun v z => URow X0 T.2 v z ∧ ∀ m ∈ T.2, RB m) (vs9 8) y9]
   [(0, 27), (1, 28), (2, 29), (3, 30), (4, 31), (5, 32), (6, 33), (8, 9)] (by kernel_rfl) (by kernel_rfl) (by kernel_rfl) (by kernel_rfl)
   (fun _ => Below.refl _ _) ⟨fun _ => World.grownBy.refl _ _, trivial⟩
   ⟨⟨.inr zK, ⟨.inr (.inr zK), trivial⟩⟩,
    ⟨.inr zK, ⟨.inr (.inr zK), trivial⟩⟩,
    ⟨.inr zK, ⟨.inr (.inr zK), trivial⟩⟩,
    ⟨.inr (zS (fun v z => URow X0 ns v z) (fun _ _ _ h9 hR => h9.up hR)), ⟨.inr (.inr (zS (fun v z => URow X0 ns v z) (fun _ _ _ h9 hR => h9.st hR HXS.out))), trivial⟩⟩,
    ⟨.inr (zS (fun v z => UTup F X0 T v z ∧ ∀ m ∈ T.2, RB m) (fun _ _ _ h9 hR => ⟨h9.1.up HFX.out hR, h9.2⟩)), ⟨.inr (.inr (zS (fun v z => UTup F X0 T v z ∧ ∀ m ∈ T.2, RB m) (fun _ _ _ h9 hR => ⟨h9.1.st HFX.out hR HXS.out HNG.out, h9.2⟩))), trivial⟩⟩,
    ⟨.inr (zS (fun v z => UNet F X0 T.1 v z) (fun _ _ _ h9 hR => h9.up HFX.out hR)), ⟨.inr (.inr (zS (fun v z => UNet F X0 T.1 v z) (fun _ _ _ h9 hR => h9.st HFX.out hR HXS.out HNG.out))), trivial⟩⟩,
    ⟨.inr (zS (fun v z => URow X0 T.2 v z ∧ ∀ m ∈ T.2, RB m) (fun _ _ _ h9 hR => ⟨h9.1.up hR, h9.2⟩)), ⟨.inr (.inr (zS (fun v z => URow X0 T.2 v z ∧ ∀ m ∈ T.2, RB m) (fun _ _ _ h9 hR => ⟨h9.1.st hR HXS.out, h9.2⟩))), trivial⟩⟩,
    ⟨.inr zK, ⟨.inr (.inl rfl), trivial⟩⟩,
    ⟨.inr (zS (fun v z => URow X0 T.2 v z ∧ ∀ m ∈ T.2, RB m) (fun _ _ _ h9 hR => ⟨h9.1.up hR, h9.2⟩)), ⟨.inr (.inr (zS (fun v z => URow X0 T.2 v z ∧ ∀ m ∈ T.2, RB m) (fun _ _ _ h9 hR => ⟨h9.1.st hR HXS.out, h9.2⟩))), trivial⟩⟩, trivial⟩ ⟨fun _ _ _ h _ v => (by simpa only [← h] using v),
    fun _ _ _ h _ v => (by simpa only [← h] using v),
    fun _ _ _ h _ v => (by simpa only [← h] using v),
    fun _ _ _ h _ v => (by simpa only [← h] using v),
    fun _ _ _ h _ v => (by simpa only [← h] using v),
    fun _ _ _ h _ v => (by simpa only [← h] using v),
    fun _ _ _ h _ v => (by simpa only [← h] using v),
    fun _ _ _ _ _ _ => trivial,
    fun _ _ _ h _ v => (by simpa only [← h] using v), trivial⟩ (HUN.out.up HF.out (z01 (Below.refl _ _) 1)) ⟨?_, ?_, ?_, ?_, ?_, ?_, ?_, ?_, ?_, trivial⟩ ?_
  ·
   rintro vals xw f hf1 - - hI hF
   dsimp only [owes4, bare]
   simp only [putsD, Act.put, zA, zB, zC]
   have hv9 := hI.2.1
   have y0 := (z00 hv9 0).1
   have y1 := (z00 hv9 1).1
   have y2 := (z00 hv9 2).1
   go_wp2
   exact ⟨rfl, rfl, ⟨zN rfl, fun _ => Below.refl _ _⟩, hI⟩
  ·
   rintro vals xw f hf1 - - hI hF
   dsimp only [owes4, bare]
   simp only [putsD, Act.put, zA, zB, zC]
   go_wp2
   exact ⟨rfl, rfl, ⟨zN rfl, fun _ => Below.refl _ _⟩, hI⟩
  ·
   rintro vals xw f hf1 - - hI hF
   dsimp only [owes4, bare]
   simp only [putsD, Act.put, zA, zB, zC]
   go_wp2
   exact ⟨rfl, rfl, ⟨zN rfl, fun _ => Below.refl _ _⟩, hI⟩
  ·
   rintro vals xw f hf1 - - hI hF
   simp only [saysD, zD, zE, and_true] at hF
   have e1 := hF
   dsimp only [owes4, bare]
   simp only [putsD, Act.put, zA, zB, zC]
   simp only [e1]
   have HI := zH hI
   have hb0 := (HBX.out xw _ hI).2
   have HB0 := zH hb0
   have hsz9 := hI.2.2.2.2.2
   clear hI hb0
   go_wp2_with fail
   refine (HTU.out xw HB0.out).mono ?_
   rintro e wx ⟨B9, d9, rfl, h2, h3, h4⟩
   have H3 := zH h3
   have H4 := zH h4
   clear h3 h4
   go_wp2
   exact ⟨rfl, ⟨B9, d9, rfl, h2, H3.out.mono fun b hb => .inr ⟨Nat.le_trans hsz9 hb.1, hb.2.1⟩⟩, ⟨zN rfl, fun _ => H4.out⟩, HI.out.up HF.out H4.out⟩
  ·
   rintro vals xw f hf1 - - hI hF
   simp only [saysD, zD, zE, and_true] at hF
   obtain ⟨e1, e2, ⟨B2, d2, e3, h4, h5⟩⟩ := hF
   dsimp only [owes4, bare]
   simp only [putsD, Act.put, zA, zB, zC]
   simp only [e1, e2, e3]
   have HI := zH hI
   have hsz9 := hI.2.2.2.2.2
   have HC := zH (HADD.out B2 d2 xw hI.2.2.2.2.1 (fun b hb => Nat.lt_of_lt_of_le (HFX.out b hb) hsz9) (HBX.out xw _ hI).1 (h5.mono fun b hb => hb.elim (fun h => h.elim) (fun h => h.2)))
   clear hI h5
   go_wp2_with fail
   refine HC.out.mono ?_
   rintro e wx ⟨A9, c9, B9, d9, rfl, h6, h7, h8, h9, h10, h11⟩
   have H7 := zH h7
   have H9 := zH h9
   have H10 := zH h10
   have H11 := zH h11
   clear h7 h9 h10 h11 HC
   go_wp2
   exact ⟨rfl, ⟨⟨A9, c9, B9, d9, rfl, h6, H7.out.mono fun b hb => hb.imp id fun z => ⟨Nat.le_trans hsz9 z.1, z.2⟩, h8, H9.out.mono fun b hb => .inr ⟨Nat.le_trans hsz9 hb.1, hb.2⟩, Nat.le_trans hsz9 H11.out.size⟩, H10.out⟩, ⟨zN rfl, fun _ => H11.out⟩, HI.out.up HF.out H11.out⟩
  ·
   rintro vals xw f hf1 - - hI hF
   simp only [saysD, zD, zE, and_true] at hF
   obtain ⟨⟨A9, c9, B9, d9, e1, h2, h3, h4, h5, h6⟩, -⟩ := hF
   dsimp only [owes4, bare]
   simp only [putsD, Act.put, zA, zB, zC]
   simp only [e1]
   go_wp2
   exact ⟨rfl, ⟨A9, c9, rfl, h2, h3, h6⟩, ⟨zN rfl, fun _ => Below.refl _ _⟩, hI⟩
  ·
   rintro vals xw f hf1 - - hI hF
   simp only [saysD, zD, zE, and_true] at hF
   obtain ⟨⟨A9, c9, B9, d9, e1, h2, h3, h4, h5, h6⟩, h7⟩ := hF
   dsimp only [owes4, bare]
   simp only [putsD, Act.put, zA, zB, zC]
   simp only [e1]
   go_wp2
   exact ⟨rfl, ⟨⟨B9, d9, rfl, h4, h5⟩, h7⟩, ⟨zN rfl, fun _ => Below.refl _ _⟩, hI⟩
  ·
   rintro vals xw f hf1 - - hI hF
   simp only [saysD, zD, zE, and_true] at hF
   obtain ⟨A9, c9, e1, h2, h3, h4⟩ := hF
   dsimp only [owes4, bare]
   simp only [putsD, Act.put, zA, zB, zC]
   simp only [e1]
   rw [hf1] at hI
   have HI := zH hI
   have hr9 := hI.2.2.1 rfl
   have r0 := (z00 hr9 0).1
   have r1 := (z00 hr9 1).1
   have r2 := (z00 hr9 2).1
   have rf0 := (z00 hr9 0).2
   have rf1 := (z00 hr9 1).2
   have rf2 := (z00 hr9 2).2
   have H3 := zH h3
   clear hI hr9 h3 h4
   go_wp2
   have hst := HI.out.st (A2 := A9) (c2 := c9) HF.out HXS.out H3.out h2
   exact ⟨rfl, trivial, ⟨fun _ => hst.2, fun h9 => absurd rfl h9⟩, show UnI F w X0 k A c T.1 (did f 7 7) _ from (by rw [z10]; exact hst.1)⟩
  ·
   rintro vals xw f hf1 - - hI hF
   simp only [saysD, zD, zE, and_true] at hF
   obtain ⟨⟨B9, d9, e1, h2, h3⟩, h7⟩ := hF
   dsimp only [owes4, bare]
   simp only [putsD, Act.put, zA, zB, zC]
   simp only [e1]
   go_wp2
   exact ⟨rfl, ⟨⟨B9, d9, rfl, h2, h3⟩, h7⟩, ⟨zN rfl, fun _ => Below.refl _ _⟩, hI⟩
  ·
   intro vals xw f hall hI hF
   rw [show List.range _ = [0, 1, 2, 3, 4, 5, 6, 7, 8] from rfl] at hF
   simp only [says, zD, zE, and_true] at hF
   have i9 : UnI F w X0 k A c T.1 (f 7) xw := hI
   rw [hall 7 (by decide)] at i9
   obtain ⟨i1, i2, _, i4, i5, i6⟩ := i9
   obtain ⟨A8, c8, g1, g2, g3⟩ := i4 rfl
   have hrow9 : URow X0 T.2 (vals 8) xw ∧ ∀ m ∈ T.2, RB m := by obtain ⟨_, _, _, _, _, _, _, _, h9⟩ := hF; exact h9
   have HRB9 := zH hrow9.2
   obtain ⟨B8, d8, e8, hd8, hs8⟩ := hrow9.1
   clear hrow9
   simp only [putsD, Act.put, zA, zB, zC]
   simp only [e8]
   have k5 := (z00 g1 0).1
   have k6 := (z00 g1 1).1
   have k7 := (z00 g1 2).1
   have kf5 := (z00 g1 0).2
   have kf6 := (z00 g1 1).2
   have kf7 := (z00 g1 2).2
   have I1 := zH i1
   have G3 := zH g3
   have HS8 := zH hs8
   clear hI hF i1 i2 i4 i5 g1 g3 hs8 e8
   go_wp2
   refine bodyPost_ret (v := .tuple #[.agg #[.int .i64 T.1.1.ins, .slice A8 T.1.1.gs.length c8, .bool T.1.2], .slice B8 (T.2).length d8]) (by simp [results, Tryz.results53, go_sem, k5, k6, k7, kf5, kf6, kf7]) rfl ?_
   exact ⟨A8, c8, B8, d8, rfl, g2, G3.out.mono fun b hb => hb.imp id fun h9 => ⟨by have := HXS.out; omega, h9.2⟩, hd8, HS8.out.mono fun b hb => hb.elim (fun h => h.elim) fun h9 => ⟨by have := HXS.out; omega, h9.2⟩, HRB9.out, I1.out⟩
 ·
  have HC := zH (l7Mul_any _ A c k X Y cx cy xs ys _ K0.out.row (K0.out.lt HF.out) K0.out.nil HNB.out HX.out HY.out HXM.out HYM.out (HL.out (by decide)) (by omega))
  rw [show binP 8 xs ys = mulP xs ys 0 (List.replicate xs.length (-1)) from rfl]
  generalize run opsR (mulP xs ys 0 (List.replicate xs.length (-1))) k = T at *
  go_enter Tryz.func53, Tryz.ntmps53
  go_wp2_with fail
  refine HC.out.mono ?_
  rintro e z9 ⟨A9, c9, B9, d9, rfl, hn9, hs9, hd9, hl9, hm9, hb9⟩
  have hr9 := (hb9.block _ (lt_of_block K0.out.res)).trans K0.out.res
  clear y0 y1 y2 HC
  have r0 := (z00 hr9 0).1
  have rf0 := (z00 hr9 0).2
  have r1 := (z00 hr9 1).1
  have rf1 := (z00 hr9 1).2
  have r2 := (z00 hr9 2).1
  have rf2 := (z00 hr9 2).2
  have HS9 := zH hs9
  have HB9 := zH hb9
  have HR9 := zH hr9
  have HL9 := zH hl9
  have HM9 := zH hm9
  have HN9 := zH hn9
  clear hs9 hb9 hr9 hl9 hm9 hn9
  go_wp2
  have hs := z15 HR9.out (.int .i64 T.1.1.ins) (.slice A9 T.1.1.gs.length c9) (.bool T.1.2)
  have k5 := (z00 hs 0).1
  have kf5 := (z00 hs 0).2
  have k6 := (z00 hs 1).1
  have kf6 := (z00 hs 1).2
  have k7 := (z00 hs 2).1
  have kf7 := (z00 hs 2).2
  refine bodyPost_ret (v := .tuple #[.agg #[.int .i64 T.1.1.ins, .slice A9 T.1.1.gs.length c9, .bool T.1.2], .slice B9 T.2.length d9]) (by simp [results, Tryz.results53, go_sem, k5, k6, k7, kf5, kf6, kf7]) rfl ?_
  exact K0.out.outL HF.out HS9.out HB9.out HN9.out hd9 HL9.out HM9.out
 ·
  have HC := zH (l7Div_any _ A c k X Y cx cy xs ys _ K0.out.row (K0.out.lt HF.out) K0.out.nil HNB.out HX.out HY.out HXM.out HYM.out (HL.out (by decide)) (by omega))
  rw [show run opsR (binP 9 xs ys) k = ((run opsR (divP xs (ys ++ [-1]) xs.length (List.replicate xs.length (-1)) (List.replicate xs.length (-1))) k).1, (run opsR (divP xs (ys ++ [-1]) xs.length (List.replicate xs.length (-1)) (List.replicate xs.length (-1))) k).2.1) from by rw [show binP 9 xs ys = (divP xs (ys ++ [-1]) xs.length (List.replicate xs.length (-1)) (List.replicate xs.length (-1))).bind fun z => .ret z.1 from rfl, run_bind]; rfl]
  generalize run opsR (divP xs (ys ++ [-1]) xs.length (List.replicate xs.length (-1)) (List.replicate xs.length (-1))) k = T at *
  go_enter Tryz.func53, Tryz.ntmps53
  go_wp2_with fail
  refine HC.out.mono ?_
  rintro e z9 ⟨A9, c9, B8, d8, B7, d7, rfl, hn9, hs9, hd8, hd7, hl8, hl7, hm8, hm7, hb9⟩
  have hr9 := (hb9.block _ (lt_of_block K0.out.res)).trans K0.out.res
  clear y0 y1 y2 HC
  have hlt9 : w.heap.size + 1 < z9.heap.size := lt_of_block hr9
  have r0 := (z00 hr9 0).1
  have rf0 := (z00 hr9 0).2
  have r1 := (z00 hr9 1).1
  have rf1 := (z00 hr9 1).2
  have r2 := (z00 hr9 2).1
  have rf2 := (z00 hr9 2).2
  have HS9 := zH hs9
  have HB9 := zH hb9
  have HR9 := zH hr9
  have HL9 := zH hl8
  have HM9 := zH hm8
  have HN9 := zH hn9
  clear hs9 hb9 hr9 hl8 hm8 hl7 hm7 hn9
  go_wp2
  have hs0 := z15 HR9.out (.int .i64 T.1.1.ins) (.slice A9 T.1.1.gs.length c9) (.bool T.1.2)
  have hal9 : Below (st3 z9 (w.heap.size + 1) (.int .i64 T.1.1.ins) (.slice A9 T.1.1.gs.length c9) (.bool T.1.2)).heap.size (st3 z9 (w.heap.size + 1) (.int .i64 T.1.1.ins) (.slice A9 T.1.1.gs.length c9) (.bool T.1.2)) ((st3 z9 (w.heap.size + 1) (.int .i64 T.1.1.ins) (.slice A9 T.1.1.gs.length c9) (.bool T.1.2)).alloc (.cells #[.int .i64 T.1.1.ins, .slice A9 T.1.1.gs.length c9, .bool T.1.2] 95)) := (Below.refl _ _).alloc (Nat.le_refl _) _
  have hs := (hal9.block _ (lt_of_block hs0)).trans hs0
  have k5 := (z00 hs 0).1
  have kf5 := (z00 hs 0).2
  have k6 := (z00 hs 1).1
  have kf6 := (z00 hs 1).2
  have k7 := (z00 hs 2).1
  have kf7 := (z00 hs 2).2
  refine bodyPost_ret (v := .tuple #[.agg #[.int .i64 T.1.1.ins, .slice A9 T.1.1.gs.length c9, .bool T.1.2], .slice B8 T.2.1.length d8]) (by simp [results, Tryz.results53, go_sem, k5, k6, k7, kf5, kf6, kf7]) rfl ?_
  exact (K0.out.outL HF.out HS9.out HB9.out HN9.out hd8 HL9.out HM9.out).up HF.out hal9
 ·
  have HC := zH (l7Div_any _ A c k X Y cx cy xs ys _ K0.out.row (K0.out.lt HF.out) K0.out.nil HNB.out HX.out HY.out HXM.out HYM.out (HL.out (by decide)) (by omega))
  rw [show run opsR (binP 10 xs ys) k = ((run opsR (divP xs (ys ++ [-1]) xs.length (List.replicate xs.length (-1)) (List.replicate xs.length (-1))) k).1, (run opsR (divP xs (ys ++ [-1]) xs.length (List.replicate xs.length (-1)) (List.replicate xs.length (-1))) k).2.2) from by rw [show binP 10 xs ys = (divP xs (ys ++ [-1]) xs.length (List.replicate xs.length (-1)) (List.replicate xs.length (-1))).bind fun z => .ret z.2 from rfl, run_bind]; rfl]
  generalize run opsR (divP xs (ys ++ [-1]) xs.length (List.replicate xs.length (-1)) (List.replicate xs.length (-1))) k = T at *
  go_enter Tryz.func53, Tryz.ntmps53
  go_wp2_with fail
  refine HC.out.mono ?_
  rintro e z9 ⟨A9, c9, B8, d8, B7, d7, rfl, hn9, hs9, hd8, hd7, hl8, hl7, hm8, hm7, hb9⟩
  have hr9 := (hb9.block _ (lt_of_block K0.out.res)).trans K0.out.res
  clear y0 y1 y2 HC
  have hlt9 : w.heap.size + 1 < z9.heap.size := lt_of_block hr9
  have r0 := (z00 hr9 0).1
  have rf0 := (z00 hr9 0).2
  have r1 := (z00 hr9 1).1
  have rf1 := (z00 hr9 1).2
  have r2 := (z00 hr9 2).1
  have rf2 := (z00 hr9 2).2
  have HS9 := zH hs9
  have HB9 := zH hb9
  have HR9 := zH hr9
  have HL9 := zH hl7
  have HM9 := zH hm7
  have HN9 := zH hn9
  clear hs9 hb9 hr9 hl8 hm8 hl7 hm7 hn9
  go_wp2
  have hs0 := z15 HR9.out (.int .i64 T.1.1.ins) (.slice A9 T.1.1.gs.length c9) (.bool T.1.2)
  have hal9 : Below (st3 z9 (w.heap.size + 1) (.int .i64 T.1.1.ins) (.slice A9 T.1.1.gs.length c9) (.bool T.1.2)).heap.size (st3 z9 (w.heap.size + 1) (.int .i64 T.1.1.ins) (.slice A9 T.1.1.gs.length c9) (.bool T.1.2)) ((st3 z9 (w.heap.size + 1) (.int .i64 T.1.1.ins) (.slice A9 T.1.1.gs.length c9) (.bool T.1.2)).alloc (.cells #[.int .i64 T.1.1.ins, .slice A9 T.1.1.gs.length c9, .bool T.1.2] 95)) := (Below.refl _ _).alloc (Nat.le_refl _) _
  have hs := (hal9.block _ (lt_of_block hs0)).trans hs0
  have k5 := (z00 hs 0).1
  have kf5 := (z00 hs 0).2
  have k6 := (z00 hs 1).1
  have kf6 := (z00 hs 1).2
  have k7 := (z00 hs 2).1
  have kf7 := (z00 hs 2).2
  refine bodyPost_ret (v := .tuple #[.agg #[.int .i64 T.1.1.ins, .slice A9 T.1.1.gs.length c9, .bool T.1.2], .slice B7 T.2.2.length d7]) (by simp [results, Tryz.results53, go_sem, k5, k6, k7, kf5, kf6, kf7]) rfl ?_
  exact (K0.out.outL HF.out HS9.out HB9.out HN9.out hd7 HL9.out HM9.out).up HF.out hal9
 ·
  have HC := zH (l7Shift_11 _ A c k X Y cx cy xs ys _ K0.out.row (K0.out.lt HF.out) K0.out.nil HNB.out HX.out HY.out HXM.out HYM.out (by omega) (by omega))
  rw [show binP 11 xs ys = shiftP true (-1) ys 0 xs from rfl]
  generalize run opsR (shiftP true (-1) ys 0 xs) k = T at *
  go_enter Tryz.func53, Tryz.ntmps53
  go_wp2_with fail
  refine HC.out.mono ?_
  rintro e z9 ⟨A9, c9, B9, d9, rfl, hn9, hs9, hd9, hl9, hm9, hb9⟩
  have hr9 := (hb9.block _ (lt_of_block K0.out.res)).trans K0.out.res
  clear y0 y1 y2 HC
  have r0 := (z00 hr9 0).1
  have rf0 := (z00 hr9 0).2
  have r1 := (z00 hr9 1).1
  have rf1 := (z00 hr9 1).2
  have r2 := (z00 hr9 2).1
  have rf2 := (z00 hr9 2).2
  have HS9 := zH hs9
  have HB9 := zH hb9
  have HR9 := zH hr9
  have HL9 := zH hl9
  have HM9 := zH hm9
  have HN9 := zH hn9
  clear hs9 hb9 hr9 hl9 hm9 hn9
  go_wp2
  have hs := z15 HR9.out (.int .i64 T.1.1.ins) (.slice A9 T.1.1.gs.length c9) (.bool T.1.2)
  have k5 := (z00 hs 0).1
  have kf5 := (z00 hs 0).2
  have k6 := (z00 hs 1).1
  have kf6 := (z00 hs 1).2
  have k7 := (z00 hs 2).1
  have kf7 := (z00 hs 2).2
  refine bodyPost_ret (v := .tuple #[.agg #[.int .i64 T.1.1.ins, .slice A9 T.1.1.gs.length c9, .bool T.1.2], .slice B9 T.2.length d9]) (by simp [results, Tryz.results53, go_sem, k5, k6, k7, kf5, kf6, kf7]) rfl ?_
  exact K0.out.outL HF.out HS9.out HB9.out HN9.out hd9 HL9.out HM9.out
 ·
  have HC := zH (l7Shift_12 _ A c k X Y cx cy xs ys _ K0.out.row (K0.out.lt HF.out) K0.out.nil HNB.out HX.out HY.out HXM.out HYM.out (by omega) (by omega))
  rw [show binP 12 xs ys = shiftP false (-1) ys 0 xs from rfl]
  generalize run opsR (shiftP false (-1) ys 0 xs) k = T at *
  go_enter Tryz.func53, Tryz.ntmps53
  go_wp2_with fail
  refine HC.out.mono ?_
  rintro e z9 ⟨A9, c9, B9, d9, rfl, hn9, hs9, hd9, hl9, hm9, hb9⟩
  have hr9 := (hb9.block _ (lt_of_block K0.out.res)).trans K0.out.res
  clear y0 y1 y2 HC
  have r0 := (z00 hr9 0).1
  have rf0 := (z00 hr9 0).2
  have r1 := (z00 hr9 1).1
  have rf1 := (z00 hr9 1).2
  have r2 := (z00 hr9 2).1
  have rf2 := (z00 hr9 2).2
  have HS9 := zH hs9
  have HB9 := zH hb9
  have HR9 := zH hr9
  have HL9 := zH hl9
  have HM9 := zH hm9
  have HN9 := zH hn9
  clear hs9 hb9 hr9 hl9 hm9 hn9
  go_wp2
  have hs := z15 HR9.out (.int .i64 T.1.1.ins) (.slice A9 T.1.1.gs.length c9) (.bool T.1.2)
  have k5 := (z00 hs 0).1
  have kf5 := (z00 hs 0).2
  have k6 := (z00 hs 1).1
  have kf6 := (z00 hs 1).2
  have k7 := (z00 hs 2).1
  have kf7 := (z00 hs 2).2
  refine bodyPost_ret (v := .tuple #[.agg #[.int .i64 T.1.1.ins, .slice A9 T.1.1.gs.length c9, .bool T.1.2], .slice B9 T.2.length d9]) (by simp [results, Tryz.results53, go_sem, k5, k6, k7, kf5, kf6, kf7]) rfl ?_
  exact K0.out.outL HF.out HS9.out HB9.out HN9.out hd9 HL9.out HM9.out
 ·
  have HC := zH (l7Shift_13 _ A c k X Y cx cy xs ys (xs.getD (xs.length - 1) 0) (by rw [List.getD_eq_getElem?_getD, List.getElem?_eq_getElem (by omega : xs.length - 1 < xs.length)]; rfl) _ K0.out.row (K0.out.lt HF.out) K0.out.nil HNB.out HX.out HY.out HXM.out HYM.out (by omega) (by omega))
  rw [show binP 13 xs ys = shiftP false (xs.getD (xs.length - 1) 0) ys 0 xs from rfl]
  generalize run opsR (shiftP false (xs.getD (xs.length - 1) 0) ys 0 xs) k = T at *
  go_enter Tryz.func53, Tryz.ntmps53
  go_wp2_with fail
  refine HC.out.mono ?_
  rintro e z9 ⟨A9, c9, B9, d9, rfl, hn9, hs9, hd9, hl9, hm9, hb9⟩
  have hr9 := (hb9.block _ (lt_of_block K0.out.res)).trans K0.out.res
  clear y0 y1 y2 HC
  have r0 := (z00 hr9 0).1
  have rf0 := (z00 hr9 0).2
  have r1 := (z00 hr9 1).1
  have rf1 := (z00 hr9 1).2
  have r2 := (z00 hr9 2).1
  have rf2 := (z00 hr9 2).2
  have HS9 := zH hs9
  have HB9 := zH hb9
  have HR9 := zH hr9
  have HL9 := zH hl9
  have HM9 := zH hm9
  have HN9 := zH hn9
  clear hs9 hb9 hr9 hl9 hm9 hn9
  go_wp2
  have hs := z15 HR9.out (.int .i64 T.1.1.ins) (.slice A9 T.1.1.gs.length c9) (.bool T.1.2)
  have k5 := (z00 hs 0).1
  have kf5 := (z00 hs 0).2
  have k6 := (z00 hs 1).1
  have kf6 := (z00 hs 1).2
  have k7 := (z00 hs 2).1
  have kf7 := (z00 hs 2).2
  refine bodyPost_ret (v := .tuple #[.agg #[.int .i64 T.1.1.ins, .slice A9 T.1.1.gs.length c9, .bool T.1.2], .slice B9 T.2.length d9]) (by simp [results, Tryz.results53, go_sem, k5, k6, k7, kf5, kf6, kf7]) rfl ?_
  exact K0.out.outL HF.out HS9.out HB9.out HN9.out hd9 HL9.out HM9.out
 ·
  rw [show run opsR (binP 14 xs ys) k = (k, ys ++ xs) from rfl]
  obtain ⟨zs, hzs⟩ : ∃ zs, zs = ys ++ xs := ⟨_, rfl⟩
  rw [← hzs]
  have HZ := zH hzs
  have HZM : Hid (∀ m ∈ zs, RB m) := zH fun m hm => by rw [hzs] at hm; exact (List.mem_append.1 hm).elim (HYM.out m) (HXM.out m)
  clear hzs
  have HUN := zH (show CatI F w ((w.alloc (.cells #[.int .i64 k.1.ins, .slice A k.1.gs.length c, .bool k.2] 95)).alloc (.cells #[.int .i64 0, .slice none 0 0, .bool false] 95)) k A c false ((w.alloc (.cells #[.int .i64 k.1.ins, .slice A k.1.gs.length c, .bool k.2] 95)).alloc (.cells #[.int .i64 0, .slice none 0 0, .bool false] 95)) from ⟨K0.out.bel, K0.out.var, fun _ => K0.out.res, fun h => (by cases h), HG.out.below K0.out.bel HF.out, Nat.le_refl _⟩)
  have HXS := zH (show w.heap.size + 1 < ((w.alloc (.cells #[.int .i64 k.1.ins, .slice A k.1.gs.length c, .bool k.2] 95)).alloc (.cells #[.int .i64 0, .slice none 0 0, .bool false] 95)).heap.size by simp)
  have HXN := zH (rd_nil HX.out)
  have HYN := zH (rd_nil HY.out)
  clear y0 y1 y2 K0 HX HY HL
  go_enter Tryz.func53, Tryz.ntmps53
  go_wp2
  generalize hX0 : (w.alloc (.cells #[.int .i64 k.1.ins, .slice A k.1.gs.length c, .bool k.2] 95)).alloc (.cells #[.int .i64 0, .slice none 0 0, .bool false] 95) = X0 at *
  clear hX0
  refine wp_region_rel5 [[], [], [], [(1, 80), (2, 81)], [], [(3, 82), (4, 83)], [(0, 79)], [(5, 84)]]
   (fun x9 y9 => Below x9.heap.size x9 y9)
   [(3, fun x9 y9 => Below X0.heap.size x9 y9), (5, fun x9 y9 => Below X0.heap.size x9 y9), (6, fun x9 y9 => x9.grownBy y9 (some (w.heap.size + 1)))]
   (fun f9 x9 => CatI F w X0 k A c (f9 6) x9)
   [fun vs9 _ => vs9 0 = (.agg #[.int .i64 k.1.ins, .slice A k.1.gs.length c, .bool k.2]),
    fun vs9 y9 => (fun v z => CatL X0 v z) (vs9 1) y9,
    fun vs9 _ => vs9 2 = (.slice Y ys.length cy),
    fun vs9 y9 => (fun v z => CatR X0 ys v z) (vs9 3) y9,
    fun vs9 _ => vs9 4 = (.slice X xs.length cx),
    fun vs9 y9 => (fun v z => CatR X0 zs v z) (vs9 5) y9,
    fun _ _ => True,
    fun vs9 y9 => (fun v z => CatR X0 zs v z) (vs9 7) y9]
   [none, some 3, none, some 5, none, none, none, none] [(0, 79), (1, 80), (2, 81), (3, 82), (4, 83), (5, 84), (7, 9)] (by kernel_rfl) (by kernel_rfl) (by kernel_rfl) (by kernel_rfl)
   (fun _ => Below.refl _ _) ⟨fun _ => Below.refl _ _, fun _ => Below.refl _ _, fun _ => World.grownBy.refl _ _, trivial⟩ (by kernel_rfl)
   ⟨⟨.inr zK, ⟨.inr (.inr zK), .inr (.inr zK), .inr (.inr zK), trivial⟩⟩,
    ⟨.inr (zS (fun v z => CatL X0 v z) (fun _ _ _ h9 hR => h9.up hR)), ⟨.inl (by kernel_rfl), .inl (by kernel_rfl), .inr (.inr (zS (fun v z => CatL X0 v z) (fun _ _ _ h9 hR => h9.st hR HXS.out))), trivial⟩⟩,
    ⟨.inr zK, ⟨.inr (.inr zK), .inr (.inr zK), .inr (.inr zK), trivial⟩⟩,
    ⟨.inr (zS (fun v z => CatR X0 ys v z) (fun _ _ _ h9 hR => h9.up hR)), ⟨.inr (.inl rfl), .inl (by kernel_rfl), .inr (.inr (zS (fun v z => CatR X0 ys v z) (fun _ _ _ h9 hR => h9.st hR HXS.out))), trivial⟩⟩,
    ⟨.inr zK, ⟨.inr (.inr zK), .inr (.inr zK), .inr (.inr zK), trivial⟩⟩,
    ⟨.inr (zS (fun v z => CatR X0 zs v z) (fun _ _ _ h9 hR => h9.up hR)), ⟨.inl (by kernel_rfl), .inr (.inl rfl), .inr (.inr (zS (fun v z => CatR X0 zs v z) (fun _ _ _ h9 hR => h9.st hR HXS.out))), trivial⟩⟩,
    ⟨.inr zK, ⟨.inr (.inr zK), .inr (.inr zK), .inr (.inl rfl), trivial⟩⟩,
    ⟨.inr (zS (fun v z => CatR X0 zs v z) (fun _ _ _ h9 hR => h9.up hR)), ⟨.inl (by kernel_rfl), .inl (by kernel_rfl), .inr (.inr (zS (fun v z => CatR X0 zs v z) (fun _ _ _ h9 hR => h9.st hR HXS.out))), trivial⟩⟩, trivial⟩ ⟨fun _ _ _ h _ v => (by simpa only [← h] using v),
    fun _ _ _ h _ v => (by simpa only [← h] using v),
    fun _ _ _ h _ v => (by simpa only [← h] using v),
    fun _ _ _ h _ v => (by simpa only [← h] using v),
    fun _ _ _ h _ v => (by simpa only [← h] using v),
    fun _ _ _ h _ v => (by simpa only [← h] using v),
    fun _ _ _ _ _ _ => trivial,
    fun _ _ _ h _ v => (by simpa only [← h] using v), trivial⟩ (HUN.out.up HF.out HXS.out (z01 (Below.refl _ _) 1)) ⟨?_, ?_, ?_, ?_, ?_, ?_, ?_, ?_, trivial⟩ ?_
  ·
   rintro vals xw f hf1 - - hI hF
   dsimp only [owes4, bare]
   simp only [putsD, Act.put, zA, zB, zC]
   have hv9 := hI.2.1
   have y0 := (z00 hv9 0).1
   have y1 := (z00 hv9 1).1
   have y2 := (z00 hv9 2).1
   go_wp2
   exact ⟨rfl, rfl, ⟨zN rfl, fun _ => ⟨zN rfl, fun _ => ⟨zN rfl, fun _ => Below.refl _ _⟩⟩⟩, hI⟩
  ·
   rintro vals xw f hf1 - - hI hF
   dsimp only [owes4, bare]
   simp only [putsD, Act.put, zA, zB, zC]
   have HI := zH hI
   have hsz9 := hI.2.2.2.2.2
   clear hI
   go_wp2
   exact ⟨rfl, ⟨_, rfl, own_mono (own_lit0I xw) hsz9⟩, ⟨zN rfl, fun _ => ⟨zN rfl, fun _ => ⟨zN rfl, fun _ => (Below.refl _ _).alloc (Nat.le_refl _) _⟩⟩⟩, HI.out.up HF.out HXS.out ((Below.refl _ _).alloc hsz9 _)⟩
  ·
   rintro vals xw f hf1 - - hI hF
   dsimp only [owes4, bare]
   simp only [putsD, Act.put, zA, zB, zC]
   go_wp2
   exact ⟨rfl, rfl, ⟨zN rfl, fun _ => ⟨zN rfl, fun _ => ⟨zN rfl, fun _ => Below.refl _ _⟩⟩⟩, hI⟩
  ·
   rintro vals xw f hf1 - - hI hF
   simp only [saysD, zD, zE, and_true] at hF
   obtain ⟨⟨A9, e1, ho9⟩, e2⟩ := hF
   dsimp only [owes4, bare]
   simp only [putsD, Act.put, zA, zB, zC]
   simp only [e1, e2]
   have HI := zH hI
   have hsz9 := hI.2.2.2.2.2
   have hyr := (HXB.out xw hI.1).2
   clear hI
   at_builtin; refine wpList_append_intsO (zs := ys) (by rfl) (.tmp 80) (.tmp 81) (by rfl) (by rfl) (by rfl) ho9 hyr HYN.out (by simp; omega) hsz9 (by simp) ?_; intro X5 d5 w5 ho5 hb5 hg5
   exact ⟨rfl, ⟨X5, d5, rfl, ho5⟩, ⟨fun _ => hb5, fun h9 => absurd rfl h9⟩, HI.out.up HF.out HXS.out hb5⟩
  ·
   rintro vals xw f hf1 - - hI hF
   dsimp only [owes4, bare]
   simp only [putsD, Act.put, zA, zB, zC]
   go_wp2
   exact ⟨rfl, rfl, ⟨zN rfl, fun _ => ⟨zN rfl, fun _ => ⟨zN rfl, fun _ => Below.refl _ _⟩⟩⟩, hI⟩
  ·
   rintro vals xw f hf1 - - hI hF
   simp only [saysD, zD, zE, and_true] at hF
   obtain ⟨⟨A9, c9, e1, ho9⟩, e2⟩ := hF
   dsimp only [owes4, bare]
   simp only [putsD, Act.put, zA, zB, zC]
   simp only [e1, e2]
   have HI := zH hI
   have hsz9 := hI.2.2.2.2.2
   have hxr := (HXB.out xw hI.1).1
   clear hI
   at_builtin; refine wpList_append_intsO (zs := zs) (by rfl) (.tmp 82) (.tmp 83) (by rfl) (by rfl) (by rfl) ho9 hxr HXN.out (by omega) hsz9 HZ.out ?_; intro X5 d5 w5 ho5 hb5 hg5
   exact ⟨rfl, ⟨X5, d5, rfl, ho5⟩, ⟨zN rfl, fun _ => ⟨fun _ => hb5, fun h9 => absurd rfl h9⟩⟩, HI.out.up HF.out HXS.out hb5⟩
  ·
   rintro vals xw f hf1 - - hI hF
   simp only [saysD, zD, zE, and_true] at hF
   have e1 := hF
   dsimp only [owes4, bare]
   simp only [putsD, Act.put, zA, zB, zC]
   simp only [e1]
   rw [hf1] at hI
   have HI := zH hI
   have hr9 := hI.2.2.1 rfl
   have r0 := (z00 hr9 0).1
   have r1 := (z00 hr9 1).1
   have r2 := (z00 hr9 2).1
   have rf0 := (z00 hr9 0).2
   have rf1 := (z00 hr9 1).2
   have rf2 := (z00 hr9 2).2
   have HR9 := zH hr9
   clear hI hr9
   go_wp2
   have hgr : xw.grownBy (st3 xw (w.heap.size + 1) (.int .i64 k.1.ins) (.slice A k.1.gs.length c) (.bool k.2)) (some (w.heap.size + 1)) := z02 (z02 (z02 (World.grownBy.refl _ _) _ _) _ _) _ _
   exact ⟨rfl, trivial, ⟨zN rfl, fun _ => ⟨zN rfl, fun _ => ⟨fun _ => hgr, fun h9 => absurd rfl h9⟩⟩⟩, show CatI F w X0 k A c (did f 6 6) _ from (by rw [z10]; exact ⟨z09 HI.out.1 (by omega) _ _ _, (st3_other (by omega)).trans HI.out.2.1, fun h => (by cases h), fun _ => z15 HR9.out _ _ _, st3_sl HI.out.2.2.2.2.1 (fun b hb e => by have := HF.out b hb; omega) _ _ _, by rw [z13]; exact HI.out.2.2.2.2.2⟩)⟩
  ·
   rintro vals xw f hf1 - - hI hF
   simp only [saysD, zD, zE, and_true] at hF
   obtain ⟨A9, c9, e1, ho9⟩ := hF
   dsimp only [owes4, bare]
   simp only [putsD, Act.put, zA, zB, zC]
   simp only [e1]
   go_wp2
   exact ⟨rfl, ⟨A9, c9, rfl, ho9⟩, ⟨zN rfl, fun _ => ⟨zN rfl, fun _ => ⟨zN rfl, fun _ => Below.refl _ _⟩⟩⟩, hI⟩
  ·
   intro vals xw f hall hI hF
   rw [show ((List.range _).filter fun i => (([none, some 3, none, some 5, none, none, none, none] : List (Option Nat)).getD i none).isNone) = [0, 2, 4, 5, 6, 7] from by decide] at hF
   simp only [says, zD, zE, and_true] at hF
   have i9 : CatI F w X0 k A c (f 6) xw := hI
   rw [hall 6 (by decide)] at i9
   obtain ⟨i1, i2, _, i4, i5, i6⟩ := i9
   have g1 := i4 rfl
   obtain ⟨B8, d8, e8, ho8⟩ : CatR X0 zs (vals 7) xw := by obtain ⟨_, _, _, _, _, h9⟩ := hF; exact h9
   simp only [putsD, Act.put, zA, zB, zC]
   simp only [e8]
   have k5 := (z00 g1 0).1
   have k6 := (z00 g1 1).1
   have k7 := (z00 g1 2).1
   have kf5 := (z00 g1 0).2
   have kf6 := (z00 g1 1).2
   have kf7 := (z00 g1 2).2
   have I1 := zH i1
   have I5 := zH i5
   have HO8 := zH ho8
   clear hI hF i1 i2 i4 i5 g1 ho8 e8
   go_wp2
   refine bodyPost_ret (v := .tuple #[.agg #[.int .i64 k.1.ins, .slice A k.1.gs.length c, .bool k.2], .slice B8 zs.length d8]) (by simp [results, Tryz.results53, go_sem, k5, k6, k7, kf5, kf6, kf7]) rfl ?_
   obtain ⟨B7, d7, e7, hcap, hsl⟩ := HO8.out.form
   injection e7 with e1 e2 e3
   subst e1 e3
   exact ⟨A, c, B8, d8, rfl, HNIL.out, I5.out.mono fun b hb => .inl hb, hcap, hsl.mono fun b hb => ⟨by have := HXS.out; omega, hb.2⟩, HZM.out, I1.out⟩
def opBin (op : Int) : Bool := decide (3 ≤ op) && decide (op ≤ 14)
def lenBin (op : Int) (xs ys : List Int) : Bool := if op = 14 then decide (xs.length + ys.length ≤ 4) else decide (xs.length = ys.length)
def bitsBinR (n : N) (op : Int) (xs ys : List Int) : N × List Int := bitsOk n (goodL n xs && goodL n ys && opBin op && lenBin op xs ys) (binP op xs ys)
set_option maxHeartbeats 2000000 in
theorem bin_bd {B : Int → Prop} (hB : BOk B) {op : Int} {xs ys : List Int} (hx : ∀ x ∈ xs, B x) (hy : ∀ y ∈ ys, B y) (h0 : 0 < xs.length) (hl : op ≠ 14 → xs.length = ys.length) (ho : opBin op = true) : (binP op xs ys).bd B fun l => (∀ m ∈ l, B m) ∧ (op ≠ 14 → l.length = xs.length) ∧ l.length ≤ xs.length + ys.length := by
 have hr : ∀ m ∈ List.replicate xs.length (-1 : Int), B m := fun m hm => by rw [List.eq_of_mem_replicate hm]; exact hB.off
 have hn : ∀ m ∈ ys.map Neg.neg, B m := fun m hm => by obtain ⟨z, hz, rfl⟩ := List.mem_map.1 hm; exact hB.neg _ (hy z hz)
 have hw : ∀ m ∈ ys ++ [-1], B m := fun m hm => by
  rcases List.mem_append.1 hm with hm | hm
  · exact hy m hm
  · rw [List.mem_singleton.1 hm]; exact hB.off
 have fin : ∀ l : List Int, (∀ m ∈ l, B m) → l.length = xs.length → (∀ m ∈ l, B m) ∧ (op ≠ 14 → l.length = xs.length) ∧ l.length ≤ xs.length + ys.length := fun l h1 h2 => ⟨h1, fun _ => h2, by omega⟩
 by_cases h14 : op = 14
 ·
  subst h14
  show PG.bd B _ (.ret (ys ++ xs))
  exact ⟨fun m hm => (List.mem_append.1 hm).elim (hy m) (hx m), fun h => absurd rfl h, by rw [List.length_append]; omega⟩
 ·
  have hle := hl h14
  unfold binP
  by_cases o3 : op = 3
  ·
   rw [if_pos o3]
   exact each_bd (f := fun x y => PG.and x y PG.ret) (fun x y Ψ hx hy h => ⟨⟨hx, hy⟩, h⟩) _ _ _ hx hy fun l h1 h2 => fin l h1 (h2 hle)
  rw [if_neg o3]
  by_cases o4 : op = 4
  ·
   rw [if_pos o4]
   exact each_bd (f := orP) (fun x y Ψ hx hy h => or_bd hB hx hy h) _ _ _ hx hy fun l h1 h2 => fin l h1 (h2 hle)
  rw [if_neg o4]
  by_cases o5 : op = 5
  ·
   rw [if_pos o5]
   exact each_bd (f := fun x y => PG.xor x y PG.ret) (fun x y Ψ hx hy h => ⟨⟨hx, hy⟩, h⟩) _ _ _ hx hy fun l h1 h2 => fin l h1 (h2 hle)
  rw [if_neg o5]
  by_cases o6 : op = 6
  ·
   rw [if_pos o6]
   exact sum_bd hB _ _ _ _ hB.off hx hy fun l h1 h2 => fin l h1 (h2 hle)
  rw [if_neg o6]
  by_cases o7 : op = 7
  ·
   rw [if_pos o7]
   exact sum_bd hB _ _ _ _ hB.one hx hn fun l h1 h2 => fin l h1 (h2 (by rw [List.length_map]; exact hle))
  rw [if_neg o7]
  by_cases o8 : op = 8
  ·
   rw [if_pos o8]
   exact mul_bd hB hx _ _ _ _ (by omega) hy hr (by simp) fun l h1 h2 => fin l h1 h2
  rw [if_neg o8]
  by_cases o9 : op = 9
  ·
   rw [if_pos o9]
   exact bd_bind _ _ (div_bd hB hx hw (by rw [List.length_append, hle]; rfl) _ _ _ _ (Nat.le_refl _) hr hr (by simp) (by simp) fun z h1 h2 h3 h4 => fin z.1 h1 h3)
  rw [if_neg o9]
  by_cases o10 : op = 10
  ·
   rw [if_pos o10]
   exact bd_bind _ _ (div_bd hB hx hw (by rw [List.length_append, hle]; rfl) _ _ _ _ (Nat.le_refl _) hr hr (by simp) (by simp) fun z h1 h2 h3 h4 => fin z.2 h2 h4)
  rw [if_neg o10]
  by_cases o11 : op = 11
  ·
   rw [if_pos o11]
   exact shift_bd hB hB.off _ _ _ _ _ hy hx rfl fun l h1 h2 => fin l h1 h2
  rw [if_neg o11]
  by_cases o12 : op = 12
  ·
   rw [if_pos o12]
   exact shift_bd hB hB.off _ _ _ _ _ hy hx rfl fun l h1 h2 => fin l h1 h2
  rw [if_neg o12]
  by_cases o13 : op = 13
  ·
   rw [if_pos o13]
   exact shift_bd hB (getD_inP hx (by omega)) _ _ _ _ _ hy hx rfl fun l h1 h2 => fin l h1 h2
  rw [if_neg o13]
  exfalso
  unfold opBin at ho; simp only [Bool.and_eq_true, decide_eq_true_eq] at ho; omega
set_option maxRecDepth 100000 in
set_option maxHeartbeats 8000000 in
theorem specBitsBin_any (n : N) (op : Int) (xs ys : List Int) (A X Y : Option Addr) (c cx cy : Nat) (w : World) (h : Lay.gate.Rd w A n.gs) (hn : n.gs.length ≤ 1048576) (hA : A = none → n.gs.length = 0) (hi : okInts n)
  (hX : Lay.int.Rd w X xs) (hY : Lay.int.Rd w Y ys) (hxi : i64s xs) (hyi : i64s ys) (hop : okInt op) (hlx : xs.length ≤ 1048576) (hly : ys.length ≤ 1048576) :
  Calls Tryz.prog 17 #[.agg #[.int .i64 n.ins, .slice A n.gs.length c], .int .i64 op, .slice X xs.length cx, .slice Y ys.length cy] w (RetBits (pickN (netOk n) (bitsBinR n op xs ys)) w) := by
 obtain ⟨hW, hB0, hB1, hWS⟩ := two_boxes w (.cells #[.int .i64 n.ins, .slice A n.gs.length c] 29) (.cells #[.int .i64 0, .slice none 0 0] 29)
 have HW := zH hW
 have HV := zH hB0
 have HR := zH hB1
 have HG := zH (h.up hW)
 have HX := zH (hX.up hW)
 have HY := zH (hY.up hW)
 have HI := zH hi
 have HXI := zH hxi
 have HYI := zH hyi
 unfold okInt at hop
 obtain ⟨q0, q1⟩ := hop
 have HWS := zH hWS
 have z0 := (z00 hB0 0).1
 have z1 := (z00 hB0 1).1
 obtain ⟨out, hout⟩ : ∃ out, out = pickN (netOk n) (bitsBinR n op xs ys) := ⟨_, rfl⟩
 rw [← hout]
 have HOUT := zH hout
 clear hout h hi hX hY hxi hyi hB0 hB1 hW hWS
 have HCN := zH (specNetOk_any A c n _ HG.out hn HI.out)
 go_enter Tryz.func17, Tryz.ntmps17
 go_wp2_with fail
 refine HCN.out.mono ?_
 generalize hX0 : (w.alloc (.cells #[.int .i64 n.ins, .slice A n.gs.length c] 29)).alloc (.cells #[.int .i64 0, .slice none 0 0] 29) = X0 at *
 clear hX0
 rintro e u1 ⟨rfl, hb9⟩
 clear HCN
 clear z0 z1
 have HV := zH ((hb9.block _ (lt_of_block HV.out)).trans HV.out)
 have HR := zH ((hb9.block _ (lt_of_block HR.out)).trans HR.out)
 have HW := zH (bthen HW.out hb9)
 have HG := zH (HG.out.up hb9)
 have HX := zH (HX.out.up hb9)
 have HY := zH (HY.out.up hb9)
 clear hb9
 have z0 := (z00 HV.out 0).1
 have z1 := (z00 HV.out 1).1
 rcases hok : netOk n with _ | _
 ·
  have hal : Below u1.heap.size u1 (u1.alloc (.cells #[] 3)) := (Below.refl _ _).alloc (Nat.le_refl _) _
  have hr9 := (hal.block _ (lt_of_block HR.out)).trans HR.out
  have r0 := (z00 hr9 0).1
  have r1 := (z00 hr9 1).1
  have rf0 := (z00 hr9 0).2
  have rf1 := (z00 hr9 1).2
  have hs1 := z03 _ (w.heap.size + 1) 0 (.int .i64 0) _ _ hr9
  have hs2 := z03 _ (w.heap.size + 1) 1 (.slice none 0 0) _ _ hs1
  have HS2 := zH hs2
  have HAL := zH hal
  clear hs1 hs2 hr9 hal
  go_wp2
  have k5 := (z00 HS2.out 0).1
  have k6 := (z00 HS2.out 1).1
  have kf5 := (z00 HS2.out 0).2
  have kf6 := (z00 HS2.out 1).2
  refine bodyPost_ret (v := .tuple #[.agg #[.int .i64 0, .slice none 0 0], .slice (some ⟨u1.heap.size, 0, none⟩) 0 0]) (by simp [results, Tryz.results17, go_sem, k5, k6, kf5, kf6]) rfl ?_
  rw [show out = (⟨0, []⟩, []) from by rw [HOUT.out, hok]; rfl]
  exact ⟨none, some ⟨u1.heap.size, 0, none⟩, 0, 0, rfl, Nat.zero_le _, Nat.zero_le _, .nil _ _ _ _, .nil _ _ _ _, z06 (z06 (bthen HW.out HAL.out) (by show w.heap.size ≤ w.heap.size + 1; omega) _) (by show w.heap.size ≤ w.heap.size + 1; omega) _, apart_nil rfl⟩
 have HOUT : Hid (out = bitsBinR n op xs ys) := zH (by rw [HOUT.out, hok]; rfl)
 have hnb : NB n := by have := (netOk_iff n).1 hok; exact ⟨this.1, this.2.1, this.2.2.1⟩
 obtain ⟨n0, n1, n2⟩ := hnb
 clear hok
 have HC := zH (l7Right_any A X c cx n xs u1 HX.out HXI.out hlx hn n0 (by omega))
 go_wp2_with fail
 refine HC.out.mono ?_
 rintro e u2 ⟨rfl, hb9⟩
 clear HC z0 z1
 have HV := zH ((hb9.block _ (lt_of_block HV.out)).trans HV.out)
 have HR := zH ((hb9.block _ (lt_of_block HR.out)).trans HR.out)
 have HW := zH (bthen HW.out hb9)
 have HG := zH (HG.out.up hb9)
 have HX := zH (HX.out.up hb9)
 have HY := zH (HY.out.up hb9)
 clear hb9
 have z0 := (z00 HV.out 0).1
 have z1 := (z00 HV.out 1).1
 rcases hg : goodL n xs with _ | _
 ·
  have hal : Below u2.heap.size u2 (u2.alloc (.cells #[] 3)) := (Below.refl _ _).alloc (Nat.le_refl _) _
  have hr9 := (hal.block _ (lt_of_block HR.out)).trans HR.out
  have r0 := (z00 hr9 0).1
  have r1 := (z00 hr9 1).1
  have rf0 := (z00 hr9 0).2
  have rf1 := (z00 hr9 1).2
  have hs1 := z03 _ (w.heap.size + 1) 0 (.int .i64 0) _ _ hr9
  have hs2 := z03 _ (w.heap.size + 1) 1 (.slice none 0 0) _ _ hs1
  have HS2 := zH hs2
  have HAL := zH hal
  clear hs1 hs2 hr9 hal
  go_wp2
  have k5 := (z00 HS2.out 0).1
  have k6 := (z00 HS2.out 1).1
  have kf5 := (z00 HS2.out 0).2
  have kf6 := (z00 HS2.out 1).2
  refine bodyPost_ret (v := .tuple #[.agg #[.int .i64 0, .slice none 0 0], .slice (some ⟨u2.heap.size, 0, none⟩) 0 0]) (by simp [results, Tryz.results17, go_sem, k5, k6, kf5, kf6]) rfl ?_
  rw [show out = (⟨0, []⟩, []) from by rw [HOUT.out]; unfold bitsBinR; rw [hg]; rfl]
  exact ⟨none, some ⟨u2.heap.size, 0, none⟩, 0, 0, rfl, Nat.zero_le _, Nat.zero_le _, .nil _ _ _ _, .nil _ _ _ _, z06 (z06 (bthen HW.out HAL.out) (by show w.heap.size ≤ w.heap.size + 1; omega) _) (by show w.heap.size ≤ w.heap.size + 1; omega) _, apart_nil rfl⟩
 have HGX := zH hg
 clear hg
 have HC := zH (l7Right_any A Y c cy n ys u2 HY.out HYI.out hly hn n0 (by omega))
 go_wp2_with fail
 refine HC.out.mono ?_
 rintro e u3 ⟨rfl, hb9⟩
 clear HC z0 z1
 have HV := zH ((hb9.block _ (lt_of_block HV.out)).trans HV.out)
 have HR := zH ((hb9.block _ (lt_of_block HR.out)).trans HR.out)
 have HW := zH (bthen HW.out hb9)
 have HG := zH (HG.out.up hb9)
 have HX := zH (HX.out.up hb9)
 have HY := zH (HY.out.up hb9)
 clear hb9
 have z0 := (z00 HV.out 0).1
 have z1 := (z00 HV.out 1).1
 rcases hg : goodL n ys with _ | _
 ·
  have hal : Below u3.heap.size u3 (u3.alloc (.cells #[] 3)) := (Below.refl _ _).alloc (Nat.le_refl _) _
  have hr9 := (hal.block _ (lt_of_block HR.out)).trans HR.out
  have r0 := (z00 hr9 0).1
  have r1 := (z00 hr9 1).1
  have rf0 := (z00 hr9 0).2
  have rf1 := (z00 hr9 1).2
  have hs1 := z03 _ (w.heap.size + 1) 0 (.int .i64 0) _ _ hr9
  have hs2 := z03 _ (w.heap.size + 1) 1 (.slice none 0 0) _ _ hs1
  have HS2 := zH hs2
  have HAL := zH hal
  clear hs1 hs2 hr9 hal
  go_wp2
  have k5 := (z00 HS2.out 0).1
  have k6 := (z00 HS2.out 1).1
  have kf5 := (z00 HS2.out 0).2
  have kf6 := (z00 HS2.out 1).2
  refine bodyPost_ret (v := .tuple #[.agg #[.int .i64 0, .slice none 0 0], .slice (some ⟨u3.heap.size, 0, none⟩) 0 0]) (by simp [results, Tryz.results17, go_sem, k5, k6, kf5, kf6]) rfl ?_
  rw [show out = (⟨0, []⟩, []) from by rw [HOUT.out]; unfold bitsBinR; rw [hg, HGX.out]; rfl]
  exact ⟨none, some ⟨u3.heap.size, 0, none⟩, 0, 0, rfl, Nat.zero_le _, Nat.zero_le _, .nil _ _ _ _, .nil _ _ _ _, z06 (z06 (bthen HW.out HAL.out) (by show w.heap.size ≤ w.heap.size + 1; omega) _) (by show w.heap.size ≤ w.heap.size + 1; omega) _, apart_nil rfl⟩
 have HGY := zH hg
 clear hg
 by_cases hlo9 : op < 3
 ·
  have hal : Below u3.heap.size u3 (u3.alloc (.cells #[] 3)) := (Below.refl _ _).alloc (Nat.le_refl _) _
  have hr9 := (hal.block _ (lt_of_block HR.out)).trans HR.out
  have r0 := (z00 hr9 0).1
  have r1 := (z00 hr9 1).1
  have rf0 := (z00 hr9 0).2
  have rf1 := (z00 hr9 1).2
  have hs1 := z03 _ (w.heap.size + 1) 0 (.int .i64 0) _ _ hr9
  have hs2 := z03 _ (w.heap.size + 1) 1 (.slice none 0 0) _ _ hs1
  have HS2 := zH hs2
  have HAL := zH hal
  clear hs1 hs2 hr9 hal
  go_wp2
  have k5 := (z00 HS2.out 0).1
  have k6 := (z00 HS2.out 1).1
  have kf5 := (z00 HS2.out 0).2
  have kf6 := (z00 HS2.out 1).2
  refine bodyPost_ret (v := .tuple #[.agg #[.int .i64 0, .slice none 0 0], .slice (some ⟨u3.heap.size, 0, none⟩) 0 0]) (by simp [results, Tryz.results17, go_sem, k5, k6, kf5, kf6]) rfl ?_
  rw [show out = (⟨0, []⟩, []) from by rw [HOUT.out]; unfold bitsBinR bitsOk opBin; rw [HGX.out, HGY.out, decide_eq_false (by omega : ¬ 3 ≤ op)]; rfl]
  exact ⟨none, some ⟨u3.heap.size, 0, none⟩, 0, 0, rfl, Nat.zero_le _, Nat.zero_le _, .nil _ _ _ _, .nil _ _ _ _, z06 (z06 (bthen HW.out HAL.out) (by show w.heap.size ≤ w.heap.size + 1; omega) _) (by show w.heap.size ≤ w.heap.size + 1; omega) _, apart_nil rfl⟩
 by_cases hhi9 : 14 < op
 ·
  have hal : Below u3.heap.size u3 (u3.alloc (.cells #[] 3)) := (Below.refl _ _).alloc (Nat.le_refl _) _
  have hr9 := (hal.block _ (lt_of_block HR.out)).trans HR.out
  have r0 := (z00 hr9 0).1
  have r1 := (z00 hr9 1).1
  have rf0 := (z00 hr9 0).2
  have rf1 := (z00 hr9 1).2
  have hs1 := z03 _ (w.heap.size + 1) 0 (.int .i64 0) _ _ hr9
  have hs2 := z03 _ (w.heap.size + 1) 1 (.slice none 0 0) _ _ hs1
  have HS2 := zH hs2
  have HAL := zH hal
  clear hs1 hs2 hr9 hal
  go_wp2
  have k5 := (z00 HS2.out 0).1
  have k6 := (z00 HS2.out 1).1
  have kf5 := (z00 HS2.out 0).2
  have kf6 := (z00 HS2.out 1).2
  refine bodyPost_ret (v := .tuple #[.agg #[.int .i64 0, .slice none 0 0], .slice (some ⟨u3.heap.size, 0, none⟩) 0 0]) (by simp [results, Tryz.results17, go_sem, k5, k6, kf5, kf6]) rfl ?_
  rw [show out = (⟨0, []⟩, []) from by rw [HOUT.out]; unfold bitsBinR bitsOk opBin; rw [HGX.out, HGY.out, decide_eq_false (by omega : ¬ op ≤ 14)]; simp]
  exact ⟨none, some ⟨u3.heap.size, 0, none⟩, 0, 0, rfl, Nat.zero_le _, Nat.zero_le _, .nil _ _ _ _, .nil _ _ _ _, z06 (z06 (bthen HW.out HAL.out) (by show w.heap.size ≤ w.heap.size + 1; omega) _) (by show w.heap.size ≤ w.heap.size + 1; omega) _, apart_nil rfl⟩
 have HOB : Hid (opBin op = true) := zH (by unfold opBin; simp; omega)
 obtain ⟨l1, l2, m1⟩ := goodL_iff.1 HGX.out
 obtain ⟨l3, l4, m2⟩ := goodL_iff.1 HGY.out
 have hxr : ∀ x ∈ xs, RB x := fun x hx => (mark_mb ⟨n0, n1, n2⟩ (m1 x hx)).rb
 have hyr : ∀ y ∈ ys, RB y := fun y hy => (mark_mb ⟨n0, n1, n2⟩ (m2 y hy)).rb
 have HXR := zH hxr
 have HYR := zH hyr
 clear m1 m2 hxr hyr
 by_cases h14 : op = 14
 ·
  have e14 : (op == 14) = true := by simpa using h14
  have e14n : (op != 14) = false := by simpa using h14
  by_cases hle : xs.length + ys.length ≤ 4
  rotate_left
  ·
   have hgt : decide ((4 : Int) < (xs.length : Int) + (ys.length : Int)) = true := by simp; omega
   have hal : Below u3.heap.size u3 (u3.alloc (.cells #[] 3)) := (Below.refl _ _).alloc (Nat.le_refl _) _
   have hr9 := (hal.block _ (lt_of_block HR.out)).trans HR.out
   have r0 := (z00 hr9 0).1
   have r1 := (z00 hr9 1).1
   have rf0 := (z00 hr9 0).2
   have rf1 := (z00 hr9 1).2
   have hs1 := z03 _ (w.heap.size + 1) 0 (.int .i64 0) _ _ hr9
   have hs2 := z03 _ (w.heap.size + 1) 1 (.slice none 0 0) _ _ hs1
   have HS2 := zH hs2
   have HAL := zH hal
   clear hs1 hs2 hr9 hal
   go_wp2
   have k5 := (z00 HS2.out 0).1
   have k6 := (z00 HS2.out 1).1
   have kf5 := (z00 HS2.out 0).2
   have kf6 := (z00 HS2.out 1).2
   refine bodyPost_ret (v := .tuple #[.agg #[.int .i64 0, .slice none 0 0], .slice (some ⟨u3.heap.size, 0, none⟩) 0 0]) (by simp [results, Tryz.results17, go_sem, k5, k6, kf5, kf6]) rfl ?_
   rw [show out = (⟨0, []⟩, []) from by rw [HOUT.out]; unfold bitsBinR bitsOk lenBin; rw [HGX.out, HGY.out, HOB.out, if_pos h14, decide_eq_false hle]; rfl]
   exact ⟨none, some ⟨u3.heap.size, 0, none⟩, 0, 0, rfl, Nat.zero_le _, Nat.zero_le _, .nil _ _ _ _, .nil _ _ _ _, z06 (z06 (bthen HW.out HAL.out) (by show w.heap.size ≤ w.heap.size + 1; omega) _) (by show w.heap.size ≤ w.heap.size + 1; omega) _, apart_nil rfl⟩
  have hgt : decide ((4 : Int) < (xs.length : Int) + (ys.length : Int)) = false := by simp; omega
  have HLB : Hid (lenBin op xs ys = true) := zH (by unfold lenBin; rw [if_pos h14]; simpa using hle)
  have H14 := zH h14
  clear h14
  have HLN9 : Hid (op ≠ 14 → xs.length = ys.length) := zH (fun h => absurd H14.out h)
  have hc9 := l7Bin_any (fun b => b < u3.heap.size) A c (n, true) op X Y cx cy xs ys u3 HG.out (fun _ h => h) hA ⟨n0, n1, n2⟩ ⟨by omega, by omega⟩ HX.out HY.out HXR.out HYR.out HLN9.out (by omega) (by omega) (by omega)
  dsimp only at hc9
  have HC := zH hc9
  have HNN : Hid (NB (run opsR (binP op xs ys) (n, true)).1.1 ∧ (run opsR (binP op xs ys) (n, true)).2.length ≤ 8) := zH (by
   have h9 := bd_runR _ (n, true) (bin_bd bok_rb HXR.out HYR.out (by omega) HLN9.out HOB.out) ⟨n0, n1, n2⟩
   exact ⟨h9.1, by have := h9.2.2.2; omega⟩)
  have HOUT2 : Hid (out = toldR (run opsR (binP op xs ys) (n, true))) := zH (by rw [HOUT.out]; unfold bitsBinR bitsOk; rw [HGX.out, HGY.out, HOB.out, HLB.out]; exact (told_out _).symm)
  clear hc9 HOUT
  generalize run opsR (binP op xs ys) (n, true) = T at *
  go_wp2_with fail
  refine HC.out.mono ?_
  rintro e u5 ⟨A5, c5, B5, d5, rfl, h1, h2, h3, h4, h5, hb9⟩
  have H2 := zH (h2.mono fun b hb => hb.elim (fun h9 => Nat.lt_of_lt_of_le h9 hb9.size) (fun h9 => h9.2))
  have H4 := zH (h4.mono fun b hb => hb.2)
  clear h2 h4 h5 HC z0 z1
  have HV := zH ((hb9.block _ (lt_of_block HV.out)).trans HV.out)
  have HR := zH ((hb9.block _ (lt_of_block HR.out)).trans HR.out)
  have HW := zH (bthen HW.out hb9)
  clear hb9
  have hbn : B5 = none → T.2.length = 0 := fun e => by
   rcases Nat.eq_zero_or_pos T.2.length with h0 | h0
   · exact h0
   · obtain ⟨ad, e9, _⟩ := H4.out h0; rw [e] at e9; cases e9
  have hln := HNN.out.2
  have hnn := HNN.out.1.2.2
  have HC := zH (l7Told_any A5 B5 c5 d5 T.1 T.2 u5 H2.out h1 (by omega) H4.out hbn (by omega))
  clear hbn hnn hln
  go_wp2_with fail
  refine HC.out.mono ?_
  rw [show toldR (T.1, T.2) = out from HOUT2.out.symm]
  rintro e u6 ⟨A6, B6, c6, d6, rfl, g1, g2, g3, g4, hb9, hap9⟩
  have G3 := zH g3
  have G4 := zH g4
  have HS := zH HW.out.size
  have HSZ5 := zH (show w.heap.size + 1 < u5.heap.size from lt_of_block HR.out)
  have HR := zH ((hb9.block _ (lt_of_block HR.out)).trans HR.out)
  have HW := zH (bthen HW.out hb9)
  clear hb9 g3 g4 HC
  have r0 := (z00 HR.out 0).1
  have r1 := (z00 HR.out 1).1
  have rf0 := (z00 HR.out 0).2
  have rf1 := (z00 HR.out 1).2
  go_wp2
  have hs1 := z03 u6 (w.heap.size + 1) 0 (.int .i64 out.1.ins) _ _ HR.out
  have hs2 := z03 _ (w.heap.size + 1) 1 (.slice A6 out.1.gs.length c6) _ _ hs1
  have hgr : u6.grownBy ((u6.setCell ⟨w.heap.size + 1, 0, none⟩ (.int .i64 out.1.ins)).setCell ⟨w.heap.size + 1, 1, none⟩ (.slice A6 out.1.gs.length c6)) (some (w.heap.size + 1)) := z02 (z02 (World.grownBy.refl _ _) _ _) _ _
  have k5 := (z00 hs2 0).1
  have k6 := (z00 hs2 1).1
  have kf5 := (z00 hs2 0).2
  have kf6 := (z00 hs2 1).2
  refine bodyPost_ret (v := .tuple #[.agg #[.int .i64 out.1.ins, .slice A6 out.1.gs.length c6], .slice B6 out.2.length d6]) (by simp [results, Tryz.results17, go_sem, k5, k6, kf5, kf6]) rfl ?_
  exact ⟨A6, B6, c6, d6, rfl, g1, g2, own_mono9 (own_grown9 G3.out hgr HSZ5.out) HS.out, own_mono9 (own_grown9 G4.out hgr HSZ5.out) HS.out, HW.out.grown hgr HW.out.size (fun k hk => by injection hk with hk; omega), hap9⟩
 ·
  have e14 : (op == 14) = false := by simpa using h14
  have e14n : (op != 14) = true := by simpa using h14
  by_cases hle : xs.length = ys.length
  rotate_left
  ·
   have hne : ((xs.length : Int) != (ys.length : Int)) = true := by simpa using (by omega : ¬ (xs.length : Int) = ys.length)
   have hal : Below u3.heap.size u3 (u3.alloc (.cells #[] 3)) := (Below.refl _ _).alloc (Nat.le_refl _) _
   have hr9 := (hal.block _ (lt_of_block HR.out)).trans HR.out
   have r0 := (z00 hr9 0).1
   have r1 := (z00 hr9 1).1
   have rf0 := (z00 hr9 0).2
   have rf1 := (z00 hr9 1).2
   have hs1 := z03 _ (w.heap.size + 1) 0 (.int .i64 0) _ _ hr9
   have hs2 := z03 _ (w.heap.size + 1) 1 (.slice none 0 0) _ _ hs1
   have HS2 := zH hs2
   have HAL := zH hal
   clear hs1 hs2 hr9 hal
   go_wp2
   have k5 := (z00 HS2.out 0).1
   have k6 := (z00 HS2.out 1).1
   have kf5 := (z00 HS2.out 0).2
   have kf6 := (z00 HS2.out 1).2
   refine bodyPost_ret (v := .tuple #[.agg #[.int .i64 0, .slice none 0 0], .slice (some ⟨u3.heap.size, 0, none⟩) 0 0]) (by simp [results, Tryz.results17, go_sem, k5, k6, kf5, kf6]) rfl ?_
   rw [show out = (⟨0, []⟩, []) from by rw [HOUT.out]; unfold bitsBinR bitsOk lenBin; rw [HGX.out, HGY.out, HOB.out, if_neg h14, decide_eq_false hle]; rfl]
   exact ⟨none, some ⟨u3.heap.size, 0, none⟩, 0, 0, rfl, Nat.zero_le _, Nat.zero_le _, .nil _ _ _ _, .nil _ _ _ _, z06 (z06 (bthen HW.out HAL.out) (by show w.heap.size ≤ w.heap.size + 1; omega) _) (by show w.heap.size ≤ w.heap.size + 1; omega) _, apart_nil rfl⟩
  have hne : ((xs.length : Int) != (ys.length : Int)) = false := by rw [hle]; simp
  have HLB : Hid (lenBin op xs ys = true) := zH (by unfold lenBin; rw [if_neg h14]; simpa using hle)
  have HLE := zH hle
  clear hle h14
  have HLN9 : Hid (op ≠ 14 → xs.length = ys.length) := zH (fun _ => HLE.out)
  have hc9 := l7Bin_any (fun b => b < u3.heap.size) A c (n, true) op X Y cx cy xs ys u3 HG.out (fun _ h => h) hA ⟨n0, n1, n2⟩ ⟨by omega, by omega⟩ HX.out HY.out HXR.out HYR.out HLN9.out (by omega) (by omega) (by omega)
  dsimp only at hc9
  have HC := zH hc9
  have HNN : Hid (NB (run opsR (binP op xs ys) (n, true)).1.1 ∧ (run opsR (binP op xs ys) (n, true)).2.length ≤ 8) := zH (by
   have h9 := bd_runR _ (n, true) (bin_bd bok_rb HXR.out HYR.out (by omega) HLN9.out HOB.out) ⟨n0, n1, n2⟩
   exact ⟨h9.1, by have := h9.2.2.2; omega⟩)
  have HOUT2 : Hid (out = toldR (run opsR (binP op xs ys) (n, true))) := zH (by rw [HOUT.out]; unfold bitsBinR bitsOk; rw [HGX.out, HGY.out, HOB.out, HLB.out]; exact (told_out _).symm)
  clear hc9 HOUT
  generalize run opsR (binP op xs ys) (n, true) = T at *
  go_wp2_with fail
  refine HC.out.mono ?_
  rintro e u5 ⟨A5, c5, B5, d5, rfl, h1, h2, h3, h4, h5, hb9⟩
  have H2 := zH (h2.mono fun b hb => hb.elim (fun h9 => Nat.lt_of_lt_of_le h9 hb9.size) (fun h9 => h9.2))
  have H4 := zH (h4.mono fun b hb => hb.2)
  clear h2 h4 h5 HC z0 z1
  have HV := zH ((hb9.block _ (lt_of_block HV.out)).trans HV.out)
  have HR := zH ((hb9.block _ (lt_of_block HR.out)).trans HR.out)
  have HW := zH (bthen HW.out hb9)
  clear hb9
  have hbn : B5 = none → T.2.length = 0 := fun e => by
   rcases Nat.eq_zero_or_pos T.2.length with h0 | h0
   · exact h0
   · obtain ⟨ad, e9, _⟩ := H4.out h0; rw [e] at e9; cases e9
  have hln := HNN.out.2
  have hnn := HNN.out.1.2.2
  have HC := zH (l7Told_any A5 B5 c5 d5 T.1 T.2 u5 H2.out h1 (by omega) H4.out hbn (by omega))
  clear hbn hnn hln
  go_wp2_with fail
  refine HC.out.mono ?_
  rw [show toldR (T.1, T.2) = out from HOUT2.out.symm]
  rintro e u6 ⟨A6, B6, c6, d6, rfl, g1, g2, g3, g4, hb9, hap9⟩
  have G3 := zH g3
  have G4 := zH g4
  have HS := zH HW.out.size
  have HSZ5 := zH (show w.heap.size + 1 < u5.heap.size from lt_of_block HR.out)
  have HR := zH ((hb9.block _ (lt_of_block HR.out)).trans HR.out)
  have HW := zH (bthen HW.out hb9)
  clear hb9 g3 g4 HC
  have r0 := (z00 HR.out 0).1
  have r1 := (z00 HR.out 1).1
  have rf0 := (z00 HR.out 0).2
  have rf1 := (z00 HR.out 1).2
  go_wp2
  have hs1 := z03 u6 (w.heap.size + 1) 0 (.int .i64 out.1.ins) _ _ HR.out
  have hs2 := z03 _ (w.heap.size + 1) 1 (.slice A6 out.1.gs.length c6) _ _ hs1
  have hgr : u6.grownBy ((u6.setCell ⟨w.heap.size + 1, 0, none⟩ (.int .i64 out.1.ins)).setCell ⟨w.heap.size + 1, 1, none⟩ (.slice A6 out.1.gs.length c6)) (some (w.heap.size + 1)) := z02 (z02 (World.grownBy.refl _ _) _ _) _ _
  have k5 := (z00 hs2 0).1
  have k6 := (z00 hs2 1).1
  have kf5 := (z00 hs2 0).2
  have kf6 := (z00 hs2 1).2
  refine bodyPost_ret (v := .tuple #[.agg #[.int .i64 out.1.ins, .slice A6 out.1.gs.length c6], .slice B6 out.2.length d6]) (by simp [results, Tryz.results17, go_sem, k5, k6, kf5, kf6]) rfl ?_
  exact ⟨A6, B6, c6, d6, rfl, g1, g2, own_mono9 (own_grown9 G3.out hgr HSZ5.out) HS.out, own_mono9 (own_grown9 G4.out hgr HSZ5.out) HS.out, HW.out.grown hgr HW.out.size (fun k hk => by injection hk with hk; omega), hap9⟩
def binS (n : N) (op : Int) (xs ys : List Int) : BS × List Int :=
 if op = 14 then catS n xs ys else if xs.length = ys.length ∧ opBin op = true then run opsP (binP op xs ys) ⟨n, none⟩ else (⟨n, some 0⟩, [])
theorem bin_ans {n : N} {op : Int} {xs ys : List Int} : binZ n xs ys (binS n op xs ys) = bitsBinR n op xs ys := by
 unfold binZ bitsBinR bitsOk
 cases hg : (goodL n xs && goodL n ys)
 · simp
 ·
  unfold binS
  by_cases h14 : op = 14
  ·
   subst h14
   have ho : opBin 14 = true := by decide
   rw [if_pos rfl, if_pos rfl, ho]
   unfold lenBin catS bitsOut
   rw [if_pos rfl]
   by_cases hl : xs.length + ys.length ≤ 4
   ·
    have h1 : decide (4 < xs.length + ys.length) = false := by simp; omega
    rw [h1, decide_eq_true hl]
    rfl
   ·
    have h1 : decide (4 < xs.length + ys.length) = true := by simp; omega
    rw [h1, decide_eq_false hl]
    rfl
  ·
   rw [if_neg h14, if_pos rfl]
   unfold lenBin
   rw [if_neg h14]
   by_cases hl : xs.length = ys.length
   ·
    cases ho : opBin op
    · rw [if_neg (by simp)]; simp [bitsOut]
    · rw [if_pos ⟨hl, rfl⟩, decide_eq_true hl]; simp
   · rw [if_neg (fun h => hl h.1), decide_eq_false hl]; simp [bitsOut]
set_option maxRecDepth 100000 in
set_option maxHeartbeats 16000000 in
theorem bBin_any (n : N) (op : Int) (xs ys : List Int) (hop : okInt op) (hgx : goodL n xs = true) (hgy : goodL n ys = true) : BinC op n xs ys (binS n op xs ys) := by
 intro a0 a1 lo q r X Y cx cy w h hX hY
 obtain ⟨l1, l2, m1⟩ := goodL_iff.1 hgx
 obtain ⟨l3, l4, m2⟩ := goodL_iff.1 hgy
 have hxm : ∀ x ∈ xs, MB x := fun x hx => mark_mb h.nb (m1 x hx)
 have hym : ∀ y ∈ ys, MB y := fun y hy => mark_mb h.nb (m2 y hy)
 have HXM := zH hxm
 have HYM := zH hym
 clear m1 m2 hxm hym hgx hgy
 unfold okInt at hop
 obtain ⟨hop0, hop1⟩ := hop
 by_cases h14 : op = 14
 ·
  subst h14
  rw [show binS n 14 xs ys = catS n xs ys from if_pos rfl]
  exact bCat_any a0 a1 lo q r n X Y cx cy xs ys w h hX hY (sl_nonnil hX) (sl_nonnil hY) HXM.out HYM.out (by omega) (by omega)
 have e14 : (op == 14) = false := by simpa using h14
 have H14 := zH h14
 have HBD := zH h
 have HX := zH hX
 have HY := zH hY
 have hlo := h.size
 have g0 := h.g.c0
 have hv : errV a0 a1 (some 0) = sentV a0 := rfl
 clear h14
 by_cases hl : xs.length = ys.length
 rotate_left
 ·
  have hne : ((xs.length : Int) != (ys.length : Int)) = true := by simpa using (by omega : ¬ (xs.length : Int) = ys.length)
  have HF := zH (fail_any a0 a1 lo q r none true 0 w h.toBx)
  rw [hv] at HF
  rw [show binS n op xs ys = (⟨n, some 0⟩, []) by unfold binS; rw [if_neg H14.out, if_neg (fun h => hl h.1)]]
  clear h hX hY hv hl
  go_enter Tryz.func47, Tryz.ntmps47
  go_wp2_with fail
  refine HF.out.mono ?_
  rintro e w1 ⟨rfl, hb1, hx1, hk1⟩
  have y1 := (z00 hx1.box 1).1
  rw [show failE none true 0 = some 0 from rfl] at y1 hx1
  have y2 : w1.cell? ⟨q, 1, none⟩ = some (sentV a0) := y1
  have HB1 := zH hb1
  have HD1 := zH (Bx.bd HBD.out hx1 hk1 (fun h => by cases h))
  clear hb1 hx1 hk1 HF g0 y1
  go_wp2
  go_ret
  exact ⟨none, 0, rfl, Nat.zero_le _, .nil _ _ _ _, (fun m hm => by cases hm), HB1.out, HD1.out⟩
 have hne : ((xs.length : Int) != (ys.length : Int)) = false := by rw [hl]; simp
 have HL := zH hl
 have HF := zH (fail_any a0 a1 lo q r none false 0 w h.toBx)
 rw [hv] at HF
 have y1 := (z00 h.box 1).1
 clear h hX hY hv hl
 by_cases ho : opBin op = true
 rotate_left
 ·
  have hoo : (op == 3) = false ∧ (op == 4) = false ∧ (op == 5) = false ∧ (op == 6) = false ∧ (op == 7) = false ∧ (op == 8) = false ∧ (op == 9) = false ∧ (op == 10) = false ∧ (op == 11) = false ∧ (op == 12) = false ∧ (op == 13) = false := by
   unfold opBin at ho
   simp only [Bool.and_eq_true, decide_eq_true_eq] at ho
   refine ⟨?_, ?_, ?_, ?_, ?_, ?_, ?_, ?_, ?_, ?_, ?_⟩ <;> (rw [beq_eq_false_iff_ne]; omega)
  obtain ⟨o3, o4, o5, o6, o7, o8, o9, o10, o11, o12, o13⟩ := hoo
  rw [show binS n op xs ys = (⟨n, some 0⟩, []) by unfold binS; rw [if_neg H14.out, if_neg (fun h => ho h.2)]]
  clear ho y1
  go_enter Tryz.func47, Tryz.ntmps47
  go_wp2_with fail
  refine HF.out.mono ?_
  rintro e w1 ⟨rfl, hb1, hx1, hk1⟩
  rw [show failE none false 0 = none from rfl] at hx1
  have y1 : w1.cell? ⟨q, 1, none⟩ = some .nilIface := (z00 hx1.box 1).1
  have g1 := hx1.g.c0
  have HB1 := zH hb1
  have HD1 := zH (Bx.bd HBD.out hx1 hk1 (fun _ => rfl))
  have HF := zH (fail_any a0 a1 lo q r none true 0 w1 hx1)
  rw [show errV a0 a1 (some 0) = sentV a0 from rfl] at HF
  clear hb1 hx1 hk1 g0
  go_wp2_with fail
  refine HF.out.mono ?_
  rintro e w2 ⟨rfl, hb2, hx2, hk2⟩
  have HB2 := zH (HB1.out.trans hb2)
  have HD2 := zH (Bx.bd HD1.out hx2 hk2 (fun h => by cases h))
  clear hb2 hx2 hk2 HF y1 g1
  go_wp2
  go_ret
  exact ⟨none, 0, rfl, Nat.zero_le _, .nil _ _ _ _, (fun m hm => by cases hm), HB2.out, HD2.out⟩
 have HBS : Hid (binS n op xs ys = run opsP (binP op xs ys) ⟨n, none⟩) := zH (by unfold binS; rw [if_neg H14.out, if_pos ⟨HL.out, ho⟩])
 rw [HBS.out]
 have hops : op = 3 ∨ op = 4 ∨ op = 5 ∨ op = 6 ∨ op = 7 ∨ op = 8 ∨ op = 9 ∨ op = 10 ∨ op = 11 ∨ op = 12 ∨ op = 13 := by
  have := H14.out
  unfold opBin at ho; simp only [Bool.and_eq_true, decide_eq_true_eq] at ho; omega
 clear ho hop0 hop1 HBS y1 e14 H14
 have hlx : xs.length ≤ 1000 := by omega
 rcases hops with rfl | rfl | rfl | rfl | rfl | rfl | rfl | rfl | rfl | rfl | rfl
 ·
  rw [show binP 3 xs ys = eachP (fun x y => PG.and x y PG.ret) xs ys from rfl]
  generalize hT : run opsP (eachP (fun x y => PG.and x y PG.ret) xs ys) ⟨n, none⟩ = T at *
  have HT := zH hT
  clear hT
  go_enter Tryz.func47, Tryz.ntmps47
  go_wp2_with fail
  refine HF.out.mono ?_
  rintro e w1 ⟨rfl, hb1, hx1, hk1⟩
  rw [show failE none false 0 = none from rfl] at hx1
  have y1 : w1.cell? ⟨q, 1, none⟩ = some .nilIface := (z00 hx1.box 1).1
  have HB1 := zH hb1
  have HD1 := zH (Bx.bd HBD.out hx1 hk1 (fun _ => rfl))
  have HX1 := zH (HX.out.upB hb1)
  have HY1 := zH (HY.out.upB hb1)
  clear hb1 hx1 hk1 g0 HF
  have HC := zH (each_and a0 a1 lo q r X Y cx cy xs ys ⟨n, none⟩ w1 (fun _ => True) trivial (fun _ _ => trivial) HD1.out HX1.out HY1.out HXM.out HYM.out HL.out hlx (fun x y s z hz hx hy _ => bAnd_any a0 a1 lo q r s x y z hz hx hy) (fun x y s hs hx hy => (opsP_and_mb hs hx.rb hy.rb).2))
  rw [HT.out] at HC
  go_wp2_with fail
  refine HC.out.mono ?_
  rintro e w2 ⟨A2, c2, rfl, h1, h2, h3, h4, h5⟩
  have H2 := zH h2
  have H3 := zH h3
  have H4 := zH (HB1.out.trans h4)
  have H5 := zH h5
  clear h2 h3 h4 h5 HC y1
  go_wp2
  go_ret
  exact ⟨A2, c2, rfl, h1, H2.out, H3.out, H4.out, H5.out⟩
 ·
  rw [show binP 4 xs ys = eachP orP xs ys from rfl]
  generalize hT : run opsP (eachP orP xs ys) ⟨n, none⟩ = T at *
  have HT := zH hT
  clear hT
  go_enter Tryz.func47, Tryz.ntmps47
  go_wp2_with fail
  refine HF.out.mono ?_
  rintro e w1 ⟨rfl, hb1, hx1, hk1⟩
  rw [show failE none false 0 = none from rfl] at hx1
  have y1 : w1.cell? ⟨q, 1, none⟩ = some .nilIface := (z00 hx1.box 1).1
  have HB1 := zH hb1
  have HD1 := zH (Bx.bd HBD.out hx1 hk1 (fun _ => rfl))
  have HX1 := zH (HX.out.upB hb1)
  have HY1 := zH (HY.out.upB hb1)
  clear hb1 hx1 hk1 g0 HF
  have HC := zH (each_or a0 a1 lo q r X Y cx cy xs ys ⟨n, none⟩ w1 (fun _ => True) trivial (fun _ _ => trivial) HD1.out HX1.out HY1.out HXM.out HYM.out HL.out hlx (fun x y s z hz hx hy _ => bOr_any a0 a1 lo q r s x y z hz hx hy) (fun x y s hs hx hy => (or_mb hs hx.rb hy.rb).2))
  rw [HT.out] at HC
  go_wp2_with fail
  refine HC.out.mono ?_
  rintro e w2 ⟨A2, c2, rfl, h1, h2, h3, h4, h5⟩
  have H2 := zH h2
  have H3 := zH h3
  have H4 := zH (HB1.out.trans h4)
  have H5 := zH h5
  clear h2 h3 h4 h5 HC y1
  go_wp2
  go_ret
  exact ⟨A2, c2, rfl, h1, H2.out, H3.out, H4.out, H5.out⟩
 ·
  rw [show binP 5 xs ys = eachP (fun x y => PG.xor x y PG.ret) xs ys from rfl]
  generalize hT : run opsP (eachP (fun x y => PG.xor x y PG.ret) xs ys) ⟨n, none⟩ = T at *
  have HT := zH hT
  clear hT
  go_enter Tryz.func47, Tryz.ntmps47
  go_wp2_with fail
  refine HF.out.mono ?_
  rintro e w1 ⟨rfl, hb1, hx1, hk1⟩
  rw [show failE none false 0 = none from rfl] at hx1
  have y1 : w1.cell? ⟨q, 1, none⟩ = some .nilIface := (z00 hx1.box 1).1
  have HB1 := zH hb1
  have HD1 := zH (Bx.bd HBD.out hx1 hk1 (fun _ => rfl))
  have HX1 := zH (HX.out.upB hb1)
  have HY1 := zH (HY.out.upB hb1)
  clear hb1 hx1 hk1 g0 HF
  have HC := zH (each_xor a0 a1 lo q r X Y cx cy xs ys ⟨n, none⟩ w1 (fun _ => True) trivial (fun _ _ => trivial) HD1.out HX1.out HY1.out HXM.out HYM.out HL.out hlx (fun x y s z hz hx hy _ => bXor_any a0 a1 lo q r s x y z hz hx hy) (fun x y s hs hx hy => (opsP_xor_mb hs hx.rb hy.rb).2))
  rw [HT.out] at HC
  go_wp2_with fail
  refine HC.out.mono ?_
  rintro e w2 ⟨A2, c2, rfl, h1, h2, h3, h4, h5⟩
  have H2 := zH h2
  have H3 := zH h3
  have H4 := zH (HB1.out.trans h4)
  have H5 := zH h5
  clear h2 h3 h4 h5 HC y1
  go_wp2
  go_ret
  exact ⟨A2, c2, rfl, h1, H2.out, H3.out, H4.out, H5.out⟩
 ·
  rw [show binP 6 xs ys = sumP xs ys (-1) from rfl]
  generalize hT : run opsP (sumP xs ys (-1)) ⟨n, none⟩ = T at *
  have HT := zH hT
  clear hT
  go_enter Tryz.func47, Tryz.ntmps47
  go_wp2_with fail
  refine HF.out.mono ?_
  rintro e w1 ⟨rfl, hb1, hx1, hk1⟩
  rw [show failE none false 0 = none from rfl] at hx1
  have y1 : w1.cell? ⟨q, 1, none⟩ = some .nilIface := (z00 hx1.box 1).1
  have HB1 := zH hb1
  have HD1 := zH (Bx.bd HBD.out hx1 hk1 (fun _ => rfl))
  have HX1 := zH (HX.out.upB hb1)
  have HY1 := zH (HY.out.upB hb1)
  clear hb1 hx1 hk1 g0 HF
  have HC := zH (bSum_any a0 a1 lo q r (-1) X Y cx cy xs ys ⟨n, none⟩ w1 HD1.out bok_mb.off HX1.out HY1.out HXM.out HYM.out HL.out hlx)
  rw [HT.out] at HC
  go_wp2_with fail
  refine HC.out.mono ?_
  rintro e w2 ⟨A2, c2, rfl, h1, h2, h3, h4, h5⟩
  have H2 := zH h2
  have H3 := zH h3
  have H4 := zH (HB1.out.trans h4)
  have H5 := zH h5
  clear h2 h3 h4 h5 HC y1
  go_wp2
  go_ret
  exact ⟨A2, c2, rfl, h1, H2.out, H3.out, H4.out, H5.out⟩
 ·
  obtain ⟨ns, hns⟩ : ∃ ns, ns = ys.map Neg.neg := ⟨_, rfl⟩
  rw [show binP 7 xs ys = sumP xs (ys.map Neg.neg) 1 from rfl, ← hns]
  have HNS := zH hns
  have HNM : Hid (∀ m ∈ ns, MB m) := zH fun m hm => by
   rw [hns] at hm
   obtain ⟨z, hz, rfl⟩ := List.mem_map.1 hm
   exact (HYM.out z hz).neg
  have HNL : Hid (xs.length = ns.length) := zH (by rw [hns, List.length_map]; exact HL.out)
  generalize hT : run opsP (sumP xs ns 1) ⟨n, none⟩ = T at *
  have HT := zH hT
  clear hT hns
  go_enter Tryz.func47, Tryz.ntmps47
  go_wp2_with fail
  refine HF.out.mono ?_
  rintro e w1 ⟨rfl, hb1, hx1, hk1⟩
  rw [show failE none false 0 = none from rfl] at hx1
  have y1 : w1.cell? ⟨q, 1, none⟩ = some .nilIface := (z00 hx1.box 1).1
  have HB1 := zH hb1
  have HD1 := zH (Bx.bd HBD.out hx1 hk1 (fun _ => rfl))
  have HX1 := zH (HX.out.upB hb1)
  have HY1 := zH (HY.out.upB hb1)
  clear hb1 hx1 hk1 g0 HF
  have HC := zH (negated_any a0 a1 lo q r Y cy ys ⟨n, none⟩ w1 HD1.out HY1.out HYM.out (by omega))
  rw [← HNS.out] at HC
  go_wp2_with fail
  refine HC.out.mono ?_
  rintro e w5 ⟨A5, c5, rfl, hc5, hp5, hm5, hb5, hd5⟩
  dsimp only at hc5 hp5 hm5 hd5
  have HC := zH (bSum_any a0 a1 lo q r 1 X A5 cx c5 xs ns ⟨n, none⟩ w5 hd5 bok_mb.one (HX1.out.upB hb5) hp5 HXM.out HNM.out HNL.out hlx)
  rw [HT.out] at HC
  have HB1 := zH (HB1.out.trans hb5)
  clear hc5 hp5 hm5 hb5 hd5
  go_wp2_with fail
  refine HC.out.mono ?_
  rintro e w2 ⟨A2, c2, rfl, h1, h2, h3, h4, h5⟩
  have H2 := zH h2
  have H3 := zH h3
  have H4 := zH (HB1.out.trans h4)
  have H5 := zH h5
  clear h2 h3 h4 h5 HC y1
  go_wp2
  go_ret
  exact ⟨A2, c2, rfl, h1, H2.out, H3.out, H4.out, H5.out⟩
 ·
  rw [show binP 8 xs ys = mulP xs ys 0 (List.replicate xs.length (-1)) from rfl]
  generalize hT : run opsP (mulP xs ys 0 (List.replicate xs.length (-1))) ⟨n, none⟩ = T at *
  have HT := zH hT
  clear hT
  go_enter Tryz.func47, Tryz.ntmps47
  go_wp2_with fail
  refine HF.out.mono ?_
  rintro e w1 ⟨rfl, hb1, hx1, hk1⟩
  rw [show failE none false 0 = none from rfl] at hx1
  have y1 : w1.cell? ⟨q, 1, none⟩ = some .nilIface := (z00 hx1.box 1).1
  have HB1 := zH hb1
  have HD1 := zH (Bx.bd HBD.out hx1 hk1 (fun _ => rfl))
  have HX1 := zH (HX.out.upB hb1)
  have HY1 := zH (HY.out.upB hb1)
  clear hb1 hx1 hk1 g0 HF
  have HC := zH (bMul_any a0 a1 lo q r X Y cx cy xs ys ⟨n, none⟩ w1 HD1.out HX1.out HY1.out HXM.out HYM.out HL.out (by omega))
  rw [HT.out] at HC
  go_wp2_with fail
  refine HC.out.mono ?_
  rintro e w2 ⟨A2, c2, rfl, h1, h2, h3, h4, h5⟩
  have H2 := zH h2
  have H3 := zH h3
  have H4 := zH (HB1.out.trans h4)
  have H5 := zH h5
  clear h2 h3 h4 h5 HC y1
  go_wp2
  go_ret
  exact ⟨A2, c2, rfl, h1, H2.out, H3.out, H4.out, H5.out⟩
 ·
  rw [show run opsP (binP 9 xs ys) ⟨n, none⟩ = ((run opsP (divP xs (ys ++ [-1]) xs.length (List.replicate xs.length (-1)) (List.replicate xs.length (-1))) ⟨n, none⟩).1, (run opsP (divP xs (ys ++ [-1]) xs.length (List.replicate xs.length (-1)) (List.replicate xs.length (-1))) ⟨n, none⟩).2.1) from by rw [show binP 9 xs ys = (divP xs (ys ++ [-1]) xs.length (List.replicate xs.length (-1)) (List.replicate xs.length (-1))).bind fun z => .ret z.1 from rfl, run_bind]; rfl]
  generalize hT : run opsP (divP xs (ys ++ [-1]) xs.length (List.replicate xs.length (-1)) (List.replicate xs.length (-1))) ⟨n, none⟩ = T at *
  have HT := zH hT
  clear hT
  go_enter Tryz.func47, Tryz.ntmps47
  go_wp2_with fail
  refine HF.out.mono ?_
  rintro e w1 ⟨rfl, hb1, hx1, hk1⟩
  rw [show failE none false 0 = none from rfl] at hx1
  have y1 : w1.cell? ⟨q, 1, none⟩ = some .nilIface := (z00 hx1.box 1).1
  have HB1 := zH hb1
  have HD1 := zH (Bx.bd HBD.out hx1 hk1 (fun _ => rfl))
  have HX1 := zH (HX.out.upB hb1)
  have HY1 := zH (HY.out.upB hb1)
  clear hb1 hx1 hk1 g0 HF
  have HC := zH (bDivide_any a0 a1 lo q r X Y cx cy xs ys ⟨n, none⟩ w1 HD1.out HX1.out HY1.out HXM.out HYM.out HL.out (by omega) (by omega))
  rw [HT.out] at HC
  go_wp2_with fail
  refine HC.out.mono ?_
  rintro e w2 ⟨A2, c2, A3, c3, rfl, ⟨h1, h2, h3⟩, ⟨k1, k2, k3⟩, h4, h5⟩
  have H2 := zH (And.intro h2 h3)
  have K2 := zH (And.intro k2 k3)
  have H4 := zH (HB1.out.trans h4)
  have H5 := zH h5
  clear h2 h3 k2 k3 h4 h5 HC y1
  go_wp2
  go_ret
  exact ⟨A2, c2, rfl, h1, H2.out.1, H2.out.2, H4.out, H5.out⟩
 ·
  rw [show run opsP (binP 10 xs ys) ⟨n, none⟩ = ((run opsP (divP xs (ys ++ [-1]) xs.length (List.replicate xs.length (-1)) (List.replicate xs.length (-1))) ⟨n, none⟩).1, (run opsP (divP xs (ys ++ [-1]) xs.length (List.replicate xs.length (-1)) (List.replicate xs.length (-1))) ⟨n, none⟩).2.2) from by rw [show binP 10 xs ys = (divP xs (ys ++ [-1]) xs.length (List.replicate xs.length (-1)) (List.replicate xs.length (-1))).bind fun z => .ret z.2 from rfl, run_bind]; rfl]
  generalize hT : run opsP (divP xs (ys ++ [-1]) xs.length (List.replicate xs.length (-1)) (List.replicate xs.length (-1))) ⟨n, none⟩ = T at *
  have HT := zH hT
  clear hT
  go_enter Tryz.func47, Tryz.ntmps47
  go_wp2_with fail
  refine HF.out.mono ?_
  rintro e w1 ⟨rfl, hb1, hx1, hk1⟩
  rw [show failE none false 0 = none from rfl] at hx1
  have y1 : w1.cell? ⟨q, 1, none⟩ = some .nilIface := (z00 hx1.box 1).1
  have HB1 := zH hb1
  have HD1 := zH (Bx.bd HBD.out hx1 hk1 (fun _ => rfl))
  have HX1 := zH (HX.out.upB hb1)
  have HY1 := zH (HY.out.upB hb1)
  clear hb1 hx1 hk1 g0 HF
  have HC := zH (bDivide_any a0 a1 lo q r X Y cx cy xs ys ⟨n, none⟩ w1 HD1.out HX1.out HY1.out HXM.out HYM.out HL.out (by omega) (by omega))
  rw [HT.out] at HC
  go_wp2_with fail
  refine HC.out.mono ?_
  rintro e w2 ⟨A2, c2, A3, c3, rfl, ⟨h1, h2, h3⟩, ⟨k1, k2, k3⟩, h4, h5⟩
  have H2 := zH (And.intro h2 h3)
  have K2 := zH (And.intro k2 k3)
  have H4 := zH (HB1.out.trans h4)
  have H5 := zH h5
  clear h2 h3 k2 k3 h4 h5 HC y1
  go_wp2
  go_ret
  exact ⟨A3, c3, rfl, k1, K2.out.1, K2.out.2, H4.out, H5.out⟩
 ·
  rw [show binP 11 xs ys = shiftP true (-1) ys 0 xs from rfl]
  generalize hT : run opsP (shiftP true (-1) ys 0 xs) ⟨n, none⟩ = T at *
  have HT := zH hT
  clear hT
  go_enter Tryz.func47, Tryz.ntmps47
  go_wp2_with fail
  refine HF.out.mono ?_
  rintro e w1 ⟨rfl, hb1, hx1, hk1⟩
  rw [show failE none false 0 = none from rfl] at hx1
  have y1 : w1.cell? ⟨q, 1, none⟩ = some .nilIface := (z00 hx1.box 1).1
  have HB1 := zH hb1
  have HD1 := zH (Bx.bd HBD.out hx1 hk1 (fun _ => rfl))
  have HX1 := zH (HX.out.upB hb1)
  have HY1 := zH (HY.out.upB hb1)
  clear hb1 hx1 hk1 g0 HF
  have HC := zH (bShift_up a0 a1 lo q r (-1) X Y cx cy xs ys ⟨n, none⟩ w1 HD1.out bok_mb.off HX1.out HY1.out HXM.out HYM.out (by omega) (by omega) (by omega))
  rw [HT.out] at HC
  go_wp2_with fail
  refine HC.out.mono ?_
  rintro e w2 ⟨A2, c2, rfl, h1, h2, h3, h4, h5⟩
  have H2 := zH h2
  have H3 := zH h3
  have H4 := zH (HB1.out.trans h4)
  have H5 := zH h5
  clear h2 h3 h4 h5 HC y1
  go_wp2
  go_ret
  exact ⟨A2, c2, rfl, h1, H2.out, H3.out, H4.out, H5.out⟩
 ·
  rw [show binP 12 xs ys = shiftP false (-1) ys 0 xs from rfl]
  generalize hT : run opsP (shiftP false (-1) ys 0 xs) ⟨n, none⟩ = T at *
  have HT := zH hT
  clear hT
  go_enter Tryz.func47, Tryz.ntmps47
  go_wp2_with fail
  refine HF.out.mono ?_
  rintro e w1 ⟨rfl, hb1, hx1, hk1⟩
  rw [show failE none false 0 = none from rfl] at hx1
  have y1 : w1.cell? ⟨q, 1, none⟩ = some .nilIface := (z00 hx1.box 1).1
  have HB1 := zH hb1
  have HD1 := zH (Bx.bd HBD.out hx1 hk1 (fun _ => rfl))
  have HX1 := zH (HX.out.upB hb1)
  have HY1 := zH (HY.out.upB hb1)
  clear hb1 hx1 hk1 g0 HF
  have HC := zH (bShift_down a0 a1 lo q r (-1) X Y cx cy xs ys ⟨n, none⟩ w1 HD1.out bok_mb.off HX1.out HY1.out HXM.out HYM.out (by omega) (by omega) (by omega))
  rw [HT.out] at HC
  go_wp2_with fail
  refine HC.out.mono ?_
  rintro e w2 ⟨A2, c2, rfl, h1, h2, h3, h4, h5⟩
  have H2 := zH h2
  have H3 := zH h3
  have H4 := zH (HB1.out.trans h4)
  have H5 := zH h5
  clear h2 h3 h4 h5 HC y1
  go_wp2
  go_ret
  exact ⟨A2, c2, rfl, h1, H2.out, H3.out, H4.out, H5.out⟩
 ·
  obtain ⟨j, hj⟩ : ∃ j : Nat, j + 1 = xs.length := ⟨xs.length - 1, by omega⟩
  have hjx : j < xs.length := by omega
  have hjI : (xs.length : Int) - 1 = (j : Int) := by omega
  obtain ⟨fl, hfl⟩ : ∃ fl, fl = xs[j] := ⟨_, rfl⟩
  have HFL : Hid (MB fl) := zH (by rw [hfl]; exact HXM.out _ (List.getElem_mem _))
  rw [show binP 13 xs ys = shiftP false fl ys 0 xs from by rw [show binP 13 xs ys = shiftP false (xs.getD (xs.length - 1) 0) ys 0 xs from rfl, show xs.length - 1 = j by omega, getD_at hjx, hfl]]
  generalize hT : run opsP (shiftP false fl ys 0 xs) ⟨n, none⟩ = T at *
  have HT := zH hT
  have HFE := zH hfl
  clear hT hfl hj
  have hjx2 : (j : Int) < xs.length := by omega
  go_enter Tryz.func47, Tryz.ntmps47
  go_wp2_with fail
  refine HF.out.mono ?_
  rintro e w1 ⟨rfl, hb1, hx1, hk1⟩
  rw [show failE none false 0 = none from rfl] at hx1
  have y1 : w1.cell? ⟨q, 1, none⟩ = some .nilIface := (z00 hx1.box 1).1
  have HB1 := zH hb1
  have HD1 := zH (Bx.bd HBD.out hx1 hk1 (fun _ => rfl))
  have HX1 := zH (HX.out.upB hb1)
  have HY1 := zH (HY.out.upB hb1)
  clear hb1 hx1 hk1 g0 HF
  obtain ⟨adx, rfl, -, cx9⟩ := HX1.out.at_int hjx
  rw [← HFE.out] at cx9
  have HC := zH (bShift_down a0 a1 lo q r fl (some adx) Y cx cy xs ys ⟨n, none⟩ w1 HD1.out HFL.out HX1.out HY1.out HXM.out HYM.out (by omega) (by omega) (by omega))
  rw [HT.out] at HC
  go_wp2_with fail
  clear cx9
  refine HC.out.mono ?_
  rintro e w2 ⟨A2, c2, rfl, h1, h2, h3, h4, h5⟩
  have H2 := zH h2
  have H3 := zH h3
  have H4 := zH (HB1.out.trans h4)
  have H5 := zH h5
  clear h2 h3 h4 h5 HC y1
  go_wp2
  go_ret
  exact ⟨A2, c2, rfl, h1, H2.out, H3.out, H4.out, H5.out⟩
end Go.Proofs.YtjghcaghigebjaaGreatDoor
namespace Go.Proofs.YtjghcaghigebjaaGreatDoor
open Go Go.RowKit Go.ChangeShapes Go.WideShapes Go.ChangeAt Go.Deep
theorem bitsBin_len {n : N} {op : Int} {xs ys : List Int} : (pickN (netOk n) (bitsBinR n op xs ys)).1.gs.length ≤ 1048576 ∧ (pickN (netOk n) (bitsBinR n op xs ys)).2.length ≤ 1048576 := pickN_len fun hok => by
 unfold bitsBinR bitsOk
 split
 ·
  rename_i hc
  simp only [Bool.and_eq_true] at hc
  obtain ⟨⟨⟨hx, hy⟩, ho⟩, hl⟩ := hc
  have hn := (netOk_iff n).1 hok
  have hnb : NB n := ⟨hn.1, hn.2.1, hn.2.2.1⟩
  obtain ⟨l1, l2, m1⟩ := goodL_iff.1 hx
  obtain ⟨l3, l4, m2⟩ := goodL_iff.1 hy
  rw [← told_out]
  unfold toldR
  split
  ·
   dsimp only
   have h1 := bd_runR _ (n, true) (bin_bd bok_rb (fun x hx => (mark_mb hnb (m1 x hx)).rb) (fun y hy => (mark_mb hnb (m2 y hy)).rb) (by omega) (fun h14 => by unfold lenBin at hl; rw [if_neg h14] at hl; simpa using hl) ho) hnb
   have h2 := h1.1.2.2
   have h3 := h1.2.2.2
   exact ⟨by omega, by omega⟩
  · exact ⟨Nat.zero_le _, Nat.zero_le _⟩
 · exact ⟨Nat.zero_le _, Nat.zero_le _⟩
theorem binS_len {n : N} {op : Int} {xs ys : List Int} (hnb : NB n) (hx : goodL n xs = true) (hy : goodL n ys = true) : (binS n op xs ys).2.length ≤ 1000 := by
 obtain ⟨l1, l2, m1⟩ := goodL_iff.1 hx
 obtain ⟨l3, l4, m2⟩ := goodL_iff.1 hy
 unfold binS
 split
 · unfold catS; simp; omega
 ·
  rename_i h14
  split
  ·
   rename_i h
   have h1 := (bd_runP _ ⟨n, none⟩ (bin_bd bok_mb (fun x hx => mark_mb hnb (m1 x hx)) (fun y hy => mark_mb hnb (m2 y hy)) (by omega) (fun _ => h.1) h.2) hnb).2.2.2
   omega
  · exact Nat.zero_le _
theorem implBitsBin_v (a0 a1 : Addr) (l0 : Nat) (x0 : N) (A : Option Addr) (c : Nat) (x1 : Int) (x2 : List Int) (X : Option Addr) (cx : Nat) (x3 : List Int) (Y : Option Addr) (cy : Nat) (w : World) (h : Lay.gate.Rd w A x0.gs) (hX : Lay.int.Rd w X x2) (hY : Lay.int.Rd w Y x3) (s0 : smNet x0) (s1 : okInt x1) (s2 : smInts x2) (s3 : smInts x3) (hg : Glb a0 a1 l0 w) (hl : l0 ≤ w.heap.size) :
  Calls Tryz.prog 12 #[.agg #[.int .i64 x0.ins, .slice A x0.gs.length c], .int .i64 x1, .slice X x2.length cx, .slice Y x3.length cy] w (RetBits (pickN (netOk x0) (bitsBinR x0 x1 x2 x3)) w) := by
 rcases hok : netOk x0 with _ | _
 ·
  have := implBitsBin_any a0 a1 l0 x0 x1 x2 x3 A X Y c cx cy w hg hl h s0.1 (sl_nonnil h) s0.2.1 hX hY s2.2 s3.2 (⟨x0, none⟩, []) (fun h => by rw [hok] at h; cases h) (Nat.zero_le _) s2.1 s3.1
  rw [hok] at this
  exact this
 ·
  have hn := (netOk_iff x0).1 hok
  have hnb : NB x0 := ⟨hn.1, hn.2.1, hn.2.2.1⟩
  by_cases hgg : (goodL x0 x2 && goodL x0 x3) = true
  ·
   have hg2 := hgg
   rw [Bool.and_eq_true] at hg2
   have := implBitsBin_any a0 a1 l0 x0 x1 x2 x3 A X Y c cx cy w hg hl h s0.1 (sl_nonnil h) s0.2.1 hX hY s2.2 s3.2 (binS x0 x1 x2 x3) (fun _ h1 h2 => bBin_any x0 x1 x2 x3 s1 h1 h2) (binS_len hnb hg2.1 hg2.2) s2.1 s3.1
   rw [bin_ans, hok] at this
   exact this
  ·
   have := implBitsBin_any a0 a1 l0 x0 x1 x2 x3 A X Y c cx cy w hg hl h s0.1 (sl_nonnil h) s0.2.1 hX hY s2.2 s3.2 (⟨x0, none⟩, []) (fun _ h1 h2 => absurd (by rw [h1, h2]; rfl) hgg) (Nat.zero_le _) s2.1 s3.1
   rw [hok] at this
   rw [show bitsBinR x0 x1 x2 x3 = binZ x0 x2 x3 (⟨x0, none⟩, []) by
    rw [← bin_ans]; unfold binZ; rw [if_neg hgg, if_neg hgg]]
   exact this
theorem specBitsBin_v (x0 : N) (A : Option Addr) (c : Nat) (x1 : Int) (x2 : List Int) (X : Option Addr) (cx : Nat) (x3 : List Int) (Y : Option Addr) (cy : Nat) (w : World) (h : Lay.gate.Rd w A x0.gs) (hX : Lay.int.Rd w X x2) (hY : Lay.int.Rd w Y x3) (s0 : smNet x0) (s1 : okInt x1) (s2 : smInts x2) (s3 : smInts x3) :
  Calls Tryz.prog 17 #[.agg #[.int .i64 x0.ins, .slice A x0.gs.length c], .int .i64 x1, .slice X x2.length cx, .slice Y x3.length cy] w (RetBits (pickN (netOk x0) (bitsBinR x0 x1 x2 x3)) w) :=
 specBitsBin_any x0 x1 x2 x3 A X Y c cx cy w h s0.1 (sl_nonnil h) s0.2.1 hX hY s2.2 s3.2 s1 s2.1 s3.1
end Go.Proofs.YtjghcaghigebjaaGreatDoor
namespace Go.Proofs.YtjghcaghigebjaaGreatDoor
open Go Go.RowKit
def SayT (S : Nat → Prop) (k : Nat) (v : Value) (y : World) : Prop := ∃ n' A' c' m', v = .tuple #[.agg #[.int .i64 (N.ins n'), .slice A' (N.gs n').length c'], .int .i64 m'] ∧ smallN k n' ∧ Lay.gate.Sl y (Ab S y) A' n'.gs
def SayN (S : Nat → Prop) (k : Nat) (v : Value) (y : World) : Prop := ∃ n' A' c', v = .agg #[.int .i64 (N.ins n'), .slice A' (N.gs n').length c'] ∧ smallN k n' ∧ Lay.gate.Sl y (Ab S y) A' n'.gs
def SayI (v : Value) : Prop := ∃ b, v = .int .i64 b ∧ -3000000 ≤ b ∧ b ≤ 3000000
theorem SayT.gr {S T : Nat → Prop} {k : Nat} {v : Value} {x y : World} (h : SayT S k v x) (hg : Gr T x y) (hT : ∀ b, T b → S b) : SayT S k v y := by
 obtain ⟨n', A', c', m', h1, h2, h3⟩ := h
 exact ⟨n', A', c', m', h1, h2, h3.gr (hg.mono hT)⟩
theorem SayN.gr {S T : Nat → Prop} {k : Nat} {v : Value} {x y : World} (h : SayN S k v x) (hg : Gr T x y) (hT : ∀ b, T b → S b) : SayN S k v y := by
 obtain ⟨n', A', c', h1, h2, h3⟩ := h
 exact ⟨n', A', c', h1, h2, h3.gr (hg.mono hT)⟩
def NetQ (S T : Nat → Prop) (r : Nat) (q0 : Int) (k : Nat) (w : World) (b3 : Nat) (o : Obj) (d1 d2 done : Bool) (x : World) : Prop :=
 Gr T w x ∧ (∃ q, Rdr x r q ∧ q0 ≤ q ∧ q ≤ q0 + (if d1 = true then 2 else 0) + (if d2 = true then 2 else 0)) ∧ (done = false → x.heap[b3]? = some o) ∧ NetIn (smallN k) S b3 x
theorem NetQ.low {S T : Nat → Prop} {r : Nat} {q0 : Int} {k : Nat} {w x x' : World} {b3 : Nat} {o : Obj} {d1 d2 done : Bool} (h : NetQ S T r q0 k w b3 o d1 d2 done x) (hb : Below x.heap.size x x') : NetQ S T r q0 k w b3 o d1 d2 done x' := by
 obtain ⟨h1, ⟨q, h2, h3, h4⟩, h5, h6⟩ := h
 exact ⟨h1.up hb, ⟨q, h2.up hb, h3, h4⟩, fun hd => (hb.block _ (Array.getElem?_eq_some_iff.1 (h5 hd)).1).trans (h5 hd), h6.gr (T := fun _ => False) (.below hb) (fun h => h) (fun _ h => h.elim)⟩
theorem NetQ.draw {S T : Nat → Prop} {r : Nat} {q0 q : Int} {k : Nat} {w x x' : World} {b3 : Nat} {o : Obj} {d1 d2 e1 e2 : Bool} {done : Bool} (h : NetQ S T r q0 k w b3 o d1 d2 done x) (hd : Drawn r q 2 x x') (hq0 : q0 ≤ q) (hq : q + 2 ≤ q0 + (if e1 = true then 2 else 0) + (if e2 = true then 2 else 0)) (hT : T r) (hTS : ∀ b, T b → S b) (hr : b3 ≠ r) : NetQ S T r q0 k w b3 o e1 e2 done x' ∧ Gr T x x' := by
 obtain ⟨h1, _, h5, h6⟩ := h
 obtain ⟨q', d1, d2, d3, d4⟩ := hd
 have hg : Gr T x x' := d4.mono fun b hb => by rw [hb]; exact hT
 exact ⟨⟨h1.trans hg, ⟨q', d3, by omega, by omega⟩, fun hd => d4.heap (by exact hr) (h5 hd), h6.gr d4 (by exact hr) (fun b hb => by rw [hb]; exact hTS r hT)⟩, hg⟩
set_option maxRecDepth 100000 in
set_option maxHeartbeats 4000000 in
theorem l7Net_any (S0 : Nat → Prop) (r : Nat) (p : Int) (w : World) (h : Rdr w r p) (hS0 : ∀ b, S0 b → b < w.heap.size) (hSr : S0 r) (p0 : 0 ≤ p) (p1 : p ≤ 600000000) :
  Calls Tryz.prog 101 #[.pointer (some ⟨r, 0, none⟩)] w (RetDN S0 r p 2000 (bentN 4) w) := by
 have hrl := h.lt
 have hal0 : Below w.heap.size w (w.alloc (.cells #[.int .i64 0, .slice none 0 0] 29)) := (Below.refl _ _).alloc (Nat.le_refl _) _
 have hb2 : (w.alloc (.cells #[.int .i64 0, .slice none 0 0] 29)).heap[w.heap.size]? = some (.cells #[.int .i64 0, .slice none 0 0] 29 (0, 0)) := heap_alloc_new _ _
 have hsz0 : (w.alloc (.cells #[.int .i64 0, .slice none 0 0] 29)).heap.size = w.heap.size + 1 := by simp
 have hR0 := h.up hal0
 have hg0 : Gr (IsR r) w (w.alloc (.cells #[.int .i64 0, .slice none 0 0] 29)) := .below hal0
 have hal1 : Below (w.alloc (.cells #[.int .i64 0, .slice none 0 0] 29)).heap.size (w.alloc (.cells #[.int .i64 0, .slice none 0 0] 29)) ((w.alloc (.cells #[.int .i64 0, .slice none 0 0] 29)).alloc (.cells #[.int .i64 8, .int .i64 8, .int .i64 6, .int .i64 4, .int .i64 3] 3)) := (Below.refl _ _).alloc (Nat.le_refl _) _
 have hsl := lit_sl (S := IsR r) (w.alloc (.cells #[.int .i64 0, .slice none 0 0] 29)) [8, 8, 6, 4, 3] _ 3 rfl (by show ¬ _ = r; rw [hsz0]; omega)
 have hnum := num_any r p _ 5 _ _ (hR0.up hal1) hsl (by simp) (by simp) (by omega) (by omega)
 rw [hsz0] at hnum
 have HN := zH hnum
 clear hnum
 have hb2 := (hal1.block _ (lt_of_block hb2)).trans hb2
 have hg1 := hg0.up hal1
 have HB2 := zH hb2
 clear hal0 hal1 h hsl hR0 hg0 hsz0 hb2
 go_enter Tryz.func101, Tryz.ntmps101
 go_wp2_with fail
 refine HN.out.mono ?_
 clear HN
 generalize (w.alloc (.cells #[.int .i64 0, .slice none 0 0] 29)).alloc (.cells #[.int .i64 8, .int .i64 8, .int .i64 6, .int .i64 4, .int .i64 3] 3) = w0 at *
 rintro e w1 ⟨k, hk, rfl, hR1, hg1'⟩
 have hk8 : 0 ≤ k ∧ k ≤ 8 := by simp at hk; omega
 obtain ⟨k0, k1⟩ := hk8
 have HB2 := zH (hg1'.heap (by show ¬ _ = r; omega) HB2.out)
 have hgg1 := hg1.trans hg1'
 have hsz1 := hgg1.size
 have hb2l := lt_of_block HB2.out
 clear hk hg1 hg1'
 have hal : Below w1.heap.size w1 (w1.alloc (.cells #[.int .i64 k, .slice none 0 0] 29)) := (Below.refl _ _).alloc (Nat.le_refl _) _
 have HB3 := zH (heap_alloc_new w1 (.cells #[.int .i64 k, .slice none 0 0] 29))
 have HB2 := zH ((hal.block _ (lt_of_block HB2.out)).trans HB2.out)
 have hR2 := hR1.up hal
 have hgg2 := hgg1.up hal
 have HSZ2 := zH (show (w1.alloc (.cells #[.int .i64 k, .slice none 0 0] 29)).heap.size = w1.heap.size + 1 by simp)
 clear hal hR1 hgg1
 go_wp2_with fail
 have hsz2 := HSZ2.out
 clear HSZ2
 generalize w1.alloc (.cells #[.int .i64 k, .slice none 0 0] 29) = w2 at *
 generalize hb3e : w1.heap.size = b3 at *
 generalize hb2e : w.heap.size = b2 at *
 have HB2E := zH hb2e
 have i3 : b2 < b3 := by omega
 have i4 : r < b2 := by omega
 clear hb2e hb3e hsz1 hrl
 refine (pick_any r (p + 1) 4 w2 hR2 (by omega) (by omega) (by omega) (by omega)).mono ?_
 rintro e w4 ⟨n, rfl, n0, n1, _, hR4, hg4⟩
 have hn1 : n ≤ 3 := by have := n1 (by omega); omega
 have hg4 := Gr.one (S := IsR r) hg4 rfl
 have HB2 := zH (hg4.heap (by show ¬ _ = r; omega) HB2.out)
 have HB3 := zH (hg4.heap (by show ¬ _ = r; omega) HB3.out)
 have hgg4 := hgg2.trans hg4
 have hsz4 := hg4.size
 obtain ⟨n, rfl⟩ := Int.eq_ofNat_of_zero_le n0
 clear hgg2 hg4 n1 hR2 hsz2
 obtain ⟨S, hS⟩ : ∃ S : Nat → Prop, ∀ b, S b ↔ S0 b ∨ b = b2 ∨ b = b3 := ⟨fun b => S0 b ∨ b = b2 ∨ b = b3, fun _ => Iff.rfl⟩
 have HS := zH hS
 have hSlt : ∀ b, S b → b < b3 + 1 := fun b hb => by
  rcases (hS b).1 hb with h9 | h9 | h9
  · have := hS0 b h9; omega
  · omega
  · omega
 have hTS : ∀ b, (b = r ∨ b = b3) → S b := fun b hb => by
  rcases hb with rfl | rfl
  · exact (hS _).2 (.inl hSr)
  · exact (hS _).2 (.inr (.inr rfl))
 have HS0 : Hid (∀ b, S0 b → S b) := zH fun b hb => (hS b).2 (.inl hb)
 have HSr : Hid (S r) := zH ((hS _).2 (.inl hSr))
 have HSL := zH (And.intro hSlt hTS)
 have hb3lt := lt_of_block HB3.out
 clear hSlt hTS hS hS0
 go_wp2
 go_loopw [4] (fun i wr => ∃ (j : Nat) (m : N) (A : Option Addr) (c : Nat) (q : Int), j ≤ n ∧ i = .int .i64 j ∧ smallN (n - j) m ∧ wr.heap[b3]? = some (.cells #[.int .i64 m.ins, .slice A m.gs.length c] 29 (0, 0)) ∧ wr.heap[b2]? = some (.cells #[.int .i64 0, .slice none 0 0] 29 (0, 0)) ∧
  Lay.gate.Sl wr (Ab S wr) A m.gs ∧ Rdr wr r q ∧ p ≤ q ∧ q ≤ p + 2 + 40 * (n - j) ∧ Gr (IsR r) w wr) (fun i _ => (intOf i).toNat)
 case atStart => exact ⟨n, ⟨k, []⟩, none, 0, p + 1 + 1, Nat.le_refl _, rfl, ⟨k0, k1, by simp, fun g hg => by cases hg⟩, HB3.out, HB2.out, .nil _ _ _ _, hR4, by omega, by omega, hgg4⟩
 case round =>
  obtain ⟨j, m, A, c, q, hj, rfl, hsm, hb3, hb2, hsl, hR, q0, q1, hg⟩ := hrel
  have HB3 := zH hb3
  have HB2 := zH hb2
  have HSM := zH hsm
  have hmi : 0 ≤ m.ins ∧ m.ins ≤ 8 ∧ m.gs.length ≤ 100 := ⟨hsm.1, hsm.2.1, by have := hsm.2.2.1; omega⟩
  have hlt3 := lt_of_block hb3
  have HSLR := zH hsl
  have HR := zH hR
  have HG := zH hg
  have HHA := zH (fun e => sl_none hsl e)
  clear hb3 hb2 hsm hsl hR hg
  by_cases hlt : 0 < j
  ·
   have hj1 : (0 : Int) < j := by omega
   go_wp2
   refine z05 [[], [], [], [(1, 17), (2, 18)], [], [], [(4, 20), (5, 21)], [(0, 16), (3, 19), (6, 22)], [(7, 23)], [(8, 15)], [(8, 15)], [(9, 24)]]
    (Gr (fun b => b = r ∨ b = b3))
    []
    (fun f9 x9 => NetQ S (fun b => b = r ∨ b = b3) r q (n - j + 1) wr b3 (.cells #[.int .i64 m.ins, .slice A m.gs.length c] 29 (0, 0)) (f9 3) (f9 6) (f9 11) x9)
    [fun vs9 _ => vs9 0 = (.agg #[.int .i64 m.ins, .slice A m.gs.length c]),
  fun vs9 _ => vs9 1 = (.pointer (some ⟨r, 0, none⟩)),
  fun vs9 _ => vs9 2 = (.agg #[.int .i64 m.ins, .slice A m.gs.length c]),
  fun vs9 y9 => (fun v _ => SayI v) (vs9 3) y9,
  fun vs9 _ => vs9 4 = (.pointer (some ⟨r, 0, none⟩)),
  fun vs9 _ => vs9 5 = (.agg #[.int .i64 m.ins, .slice A m.gs.length c]),
  fun vs9 y9 => (fun v _ => SayI v) (vs9 6) y9,
  fun vs9 y9 => (fun v yy => SayT S (n - j + 1) v yy) (vs9 7) y9,
  fun vs9 y9 => (fun v yy => SayT S (n - j + 1) v yy) (vs9 8) y9,
  fun vs9 y9 => (fun v yy => SayN S (n - j + 1) v yy) (vs9 9) y9,
  fun _ _ => True,
  fun _ _ => True]
    [(0, 16), (1, 17), (2, 18), (3, 19), (4, 20), (5, 21), (6, 22), (7, 23), (8, 15), (9, 24), (10, 25)] (by kernel_rfl) (by kernel_rfl) (by kernel_rfl) (by kernel_rfl)
    (fun _ => Gr.refl _ _) trivial
    ⟨⟨.inr zK, trivial⟩,
  ⟨.inr zK, trivial⟩,
  ⟨.inr zK, trivial⟩,
  ⟨.inr (zS (fun v _ => SayI v) (fun _ _ _ h _ => h)), trivial⟩,
  ⟨.inr zK, trivial⟩,
  ⟨.inr zK, trivial⟩,
  ⟨.inr (zS (fun v _ => SayI v) (fun _ _ _ h _ => h)), trivial⟩,
  ⟨.inr (zS (fun v yy => SayT S (n - j + 1) v yy) (fun _ _ _ h hR => h.gr hR HSL.out.2)), trivial⟩,
  ⟨.inr (zS (fun v yy => SayT S (n - j + 1) v yy) (fun _ _ _ h hR => h.gr hR HSL.out.2)), trivial⟩,
  ⟨.inr (zS (fun v yy => SayN S (n - j + 1) v yy) (fun _ _ _ h hR => h.gr hR HSL.out.2)), trivial⟩,
  ⟨.inr zK, trivial⟩,
  ⟨.inr zK, trivial⟩, trivial⟩ ⟨fun _ _ _ h _ v => (by simpa only [← h] using v),
  fun _ _ _ h _ v => (by simpa only [← h] using v),
  fun _ _ _ h _ v => (by simpa only [← h] using v),
  fun _ _ _ h _ v => (by simpa only [← h] using v),
  fun _ _ _ h _ v => (by simpa only [← h] using v),
  fun _ _ _ h _ v => (by simpa only [← h] using v),
  fun _ _ _ h _ v => (by simpa only [← h] using v),
  fun _ _ _ h _ v => (by simpa only [← h] using v),
  fun _ _ _ h _ v => (by simpa only [← h] using v),
  fun _ _ _ h _ v => (by simpa only [← h] using v),
  fun _ _ _ _ _ _ => trivial,
  fun _ _ _ _ _ _ => trivial, trivial⟩ (⟨.below (z01 (Below.refl _ _) 1), ⟨q, HR.out.up (z01 (Below.refl _ _) 1), by omega, by simp⟩, fun _ => ((z01 (Below.refl _ _) 1 : Below wr.heap.size wr _).block _ (lt_of_block HB3.out)).trans HB3.out, NetIn.gr (T := fun _ => False) (show NetIn (smallN (n - j + 1)) S b3 wr from ⟨m, A, c, HB3.out, HSM.out.mono (by omega), HSLR.out⟩) (.below (z01 (Below.refl _ _) 1)) (fun h => h) (fun _ h => h.elim)⟩) ⟨?_, ?_, ?_, ?_, ?_, ?_, ?_, ?_, ?_, ?_, ?_, ?_, trivial⟩ ?_
   ·
    intro vals xw f hf1 hf2 hf3 hI hF
    have k11 : f 11 = false := hf3 11 (by kernel_rfl)
    clear hf2 hf3
    dsimp only [owes4, bare]
    simp only [putsD, Act.put, zA, zB, zC]
    have hk9 := hI.2.2.1 k11
    have c0 : xw.cell? ⟨b3, 0, none⟩ = some (.int .i64 m.ins) := (z00 hk9 0).1
    have c1 : xw.cell? ⟨b3, 1, none⟩ = some (.slice A m.gs.length c) := (z00 hk9 1).1
    clear hk9
    go_wp2
    exact ⟨rfl, rfl, Gr.refl _ _, hI⟩
   ·
    rintro vals xw f hf1 - - hI hF
    dsimp only [owes4, bare]
    simp only [putsD, Act.put, zA, zB, zC]
    go_wp2
    exact ⟨rfl, rfl, Gr.refl _ _, hI⟩
   ·
    intro vals xw f hf1 hf2 hf3 hI hF
    have k11 : f 11 = false := hf3 11 (by kernel_rfl)
    clear hf2 hf3
    dsimp only [owes4, bare]
    simp only [putsD, Act.put, zA, zB, zC]
    have hk9 := hI.2.2.1 k11
    have c0 : xw.cell? ⟨b3, 0, none⟩ = some (.int .i64 m.ins) := (z00 hk9 0).1
    have c1 : xw.cell? ⟨b3, 1, none⟩ = some (.slice A m.gs.length c) := (z00 hk9 1).1
    clear hk9
    go_wp2
    exact ⟨rfl, rfl, Gr.refl _ _, hI⟩
   ·
    rintro vals xw f hf1 - - hI hF
    simp only [saysD, zD, zE, and_true] at hF
    obtain ⟨e1, e2⟩ := hF
    dsimp only [owes4, bare]
    simp only [putsD, Act.put, zA, zB, zC]
    simp only [e1, e2]
    have HI := zH hI
    obtain ⟨_, ⟨q', hq, q'0, q'1⟩, _, _⟩ := hI
    rw [hf1] at q'1
    have hq9 : q' ≤ q + 4 := by revert q'1; cases f 6 <;> simp <;> omega
    go_wp2_with fail
    refine (l6Lit_any r q' m A c xw hq (by omega) (by omega) (by omega) (by omega) (by omega)).mono ?_
    rintro e wx ⟨b, rfl, ⟨b0, b1, b2', _⟩, hd⟩
    have HD := zH (HI.out.draw (e1 := true) (e2 := (f 6)) hd q'0 (by revert q'1; cases f 6 <;> simp <;> omega) (.inl rfl) HSL.out.2 (by omega))
    clear hd
    go_wp2
    exact ⟨rfl, ⟨b, rfl, b1, b2'⟩, HD.out.2, HD.out.1⟩
   ·
    rintro vals xw f hf1 - - hI hF
    dsimp only [owes4, bare]
    simp only [putsD, Act.put, zA, zB, zC]
    go_wp2
    exact ⟨rfl, rfl, Gr.refl _ _, hI⟩
   ·
    intro vals xw f hf1 hf2 hf3 hI hF
    have k11 : f 11 = false := hf3 11 (by kernel_rfl)
    clear hf2 hf3
    dsimp only [owes4, bare]
    simp only [putsD, Act.put, zA, zB, zC]
    have hk9 := hI.2.2.1 k11
    have c0 : xw.cell? ⟨b3, 0, none⟩ = some (.int .i64 m.ins) := (z00 hk9 0).1
    have c1 : xw.cell? ⟨b3, 1, none⟩ = some (.slice A m.gs.length c) := (z00 hk9 1).1
    clear hk9
    go_wp2
    exact ⟨rfl, rfl, Gr.refl _ _, hI⟩
   ·
    rintro vals xw f hf1 - - hI hF
    simp only [saysD, zD, zE, and_true] at hF
    obtain ⟨e1, e2⟩ := hF
    dsimp only [owes4, bare]
    simp only [putsD, Act.put, zA, zB, zC]
    simp only [e1, e2]
    have HI := zH hI
    obtain ⟨_, ⟨q', hq, q'0, q'1⟩, _, _⟩ := hI
    rw [hf1] at q'1
    have hq9 : q' ≤ q + 4 := by revert q'1; cases f 3 <;> simp <;> omega
    go_wp2_with fail
    refine (l6Lit_any r q' m A c xw hq (by omega) (by omega) (by omega) (by omega) (by omega)).mono ?_
    rintro e wx ⟨b, rfl, ⟨b0, b1, b2', _⟩, hd⟩
    have HD := zH (HI.out.draw (e1 := (f 3)) (e2 := true) hd q'0 (by revert q'1; cases f 3 <;> simp <;> omega) (.inl rfl) HSL.out.2 (by omega))
    clear hd
    go_wp2
    exact ⟨rfl, ⟨b, rfl, b1, b2'⟩, HD.out.2, HD.out.1⟩
   ·
    rintro vals xw f hf1 - - hI hF
    simp only [saysD, zD, zE, and_true] at hF
    obtain ⟨e1, ⟨a, e2, a1, a2⟩, b, e3, b1, b2'⟩ := hF
    dsimp only [owes4, bare]
    simp only [putsD, Act.put, zA, zB, zC]
    simp only [e1, e2, e3]
    have HI := zH hI
    have hslx := HSLR.out.gr (hI.1.mono HSL.out.2)
    have hsx := hI.1.size
    clear hI
    go_wp2_with fail
    refine (l6And_any (Ab S xw) A c m a b xw hslx (fun b h => h.1) (by omega) HHA.out (by omega) (by omega) (by omega) (by omega)).mono ?_
    rintro e wx ⟨A', c', rfl, _, hs', hb'⟩
    have HM := zH (sl_made hs' (fun b hb => by have := HSL.out.1 b hb; omega) hb')
    have HI2 := zH (HI.out.low hb')
    have HSM2 : Hid (smallN (n - j + 1) (and1 m a b).1) := zH (and1_small HSM.out (by unfold okInt; omega) (by unfold okInt; omega))
    have HBB := zH hb'
    clear hs' hb' hslx
    go_wp2
    exact ⟨rfl, ⟨_, A', c', _, rfl, HSM2.out, HM.out⟩, .below HBB.out, HI2.out⟩
   ·
    rintro vals xw f hf1 - - hI hF
    simp only [saysD, zD, zE, and_true] at hF
    obtain ⟨n', A', c', m', e1, hP⟩ := hF
    dsimp only [owes4, bare]
    simp only [putsD, Act.put, zA, zB, zC]
    simp only [e1]
    go_wp2
    exact ⟨rfl, ⟨n', A', c', m', rfl, hP⟩, Gr.refl _ _, hI⟩
   ·
    rintro vals xw f hf1 - - hI hF
    simp only [saysD, zD, zE, and_true] at hF
    obtain ⟨n', A', c', m', e1, hP⟩ := hF
    dsimp only [owes4, bare]
    simp only [putsD, Act.put, zA, zB, zC]
    simp only [e1]
    go_wp2
    exact ⟨rfl, ⟨n', A', c', rfl, hP⟩, Gr.refl _ _, hI⟩
   ·
    rintro vals xw f hf1 - - hI hF
    simp only [saysD, zD, zE, and_true] at hF
    obtain ⟨n', A', c', m', e1, hP⟩ := hF
    dsimp only [owes4, bare]
    simp only [putsD, Act.put, zA, zB, zC]
    simp only [e1]
    go_wp2
    exact ⟨rfl, trivial, Gr.refl _ _, hI⟩
   ·
    rintro vals xw f hf1 - - hI hF
    simp only [saysD, zD, zE, and_true] at hF
    obtain ⟨n', A', c', e1, hs', hl'⟩ := hF
    dsimp only [owes4, bare]
    simp only [putsD, Act.put, zA, zB, zC]
    simp only [e1]
    obtain ⟨i1, ⟨q', i2, i3, i4⟩, i5, _⟩ := hI
    have hk := i5 hf1
    have v0 := (z00 hk 0).1
    have v1 := (z00 hk 1).1
    have f0 := (z00 hk 0).2
    have f1 := (z00 hk 1).2
    have hh := z03 _ b3 1 (.slice A' n'.gs.length c') _ _ (z03 xw b3 0 (.int .i64 n'.ins) _ _ hk)
    have hg : Gr (fun z => z = b3) xw ((xw.setCell ⟨b3, 0, none⟩ (.int .i64 n'.ins)).setCell ⟨b3, 1, none⟩ (.slice A' n'.gs.length c')) := ((Gr.refl (fun z => z = b3) xw).set _ _ _ (.inl (by rfl))).set _ _ _ (.inl (by rfl))
    have HL := zH (And.intro hh (And.intro hg (And.intro i1 (And.intro i2 (And.intro hs' hl')))))
    have HK := zH hk
    clear hk hg hs' hl' e1 hh i1 i2 i5
    go_wp2
    have hgT := HL.out.2.1.mono (T := (fun b => b = r ∨ b = b3)) fun z hz => .inr hz
    exact ⟨rfl, trivial, hgT, HL.out.2.2.1.trans hgT, ⟨q', HL.out.2.2.2.1.far HL.out.2.1 (by omega) ⟨_, _, _, HK.out, by simp⟩, i3, i4⟩, fun h => absurd ((z10 f 11).symm.trans h) (by simp), n', A', c', HL.out.1, HL.out.2.2.2.2.1, HL.out.2.2.2.2.2.gr (HL.out.2.1.mono fun b hb => HSL.out.2 b (.inr hb))⟩
   ·
    intro vals xw f hall hI hF
    rw [show List.range _ = [0, 1, 2, 3, 4, 5, 6, 7, 8, 9, 10, 11] from rfl] at hF
    simp only [says, zD, zE, and_true] at hF
    obtain ⟨hgx, ⟨q', hq', q'0, q'1⟩, _, n', A', c', hk', hs', hl'⟩ := hI
    simp only [hall 3 (by decide), hall 6 (by decide), if_true] at q'1
    simp only [putsD, Act.put, zA, zB, zC]
    have HB23 := zH (hgx.heap (by show ¬ (_ = r ∨ _ = b3); omega) HB2.out)
    have HGW := zH (HG.out.then hgx (fun b hb => hb.imp id (fun h => by rw [HB2E.out]; omega)))
    have HK' := zH hk'
    have HSM' := zH hs'
    clear hF hk' hs' hgx
    go_wp2
    go_roundw
    case rel => exact ⟨j - 1, n', A', c', q', by omega, by go_num, HSM'.out.mono (by omega), HK'.out, HB23.out, hl', hq', by omega, by omega, HGW.out⟩
    case measure => simp [intOf]; omega
  ·
   have hj0 : j = 0 := by omega
   subst hj0
   have v0 := (z00 HB3.out 0).1
   have v1 := (z00 HB3.out 1).1
   have HC := zH (l6Bent_any S r 3 q m A c wr HR.out HSLR.out (fun b hb => by have := HSL.out.1 b hb; omega) HSr.out (HSM.out.mono (by omega)) (by omega) (by omega) (by omega))
   go_wp2_with fail
   clear v0 v1
   refine HC.out.mono ?_
   rintro e w5 ⟨y, A5, c5, rfl, hs5, hbn, q5, q50, q51, hR5, hg5⟩
   have HB2 := zH (hg5.heap (by show ¬ _ = r; omega) HB2.out)
   have HGG := zH (HG.out.trans hg5)
   have HS5 := zH hs5
   have HBN := zH hbn
   have HR5 := zH hR5
   clear hs5 hbn hR5 hg5 HC
   have u0 := (z00 HB2.out 0).1
   have u1 := (z00 HB2.out 1).1
   have f0 := (z00 HB2.out 0).2
   have f1 := (z00 HB2.out 1).2
   have hq1 := z03 _ b2 0 (.int .i64 y.ins) _ _ HB2.out
   have hq2 := z03 _ b2 1 (.slice A5 y.gs.length c5) _ _ hq1
   have HQ2 := zH hq2
   clear hq1 hq2
   go_wp2
   have k5 := (z00 HQ2.out 0).1
   have k6 := (z00 HQ2.out 1).1
   have kf5 := (z00 HQ2.out 0).2
   have kf6 := (z00 HQ2.out 1).2
   refine bodyPost_ret (v := .agg #[.int .i64 y.ins, .slice A5 y.gs.length c5]) (by simp [results, Tryz.results101, go_sem, k5, k6, kf5, kf6]) rfl ⟨y, A5, c5, rfl, ?_, HBN.out, q5, by omega, by omega, ?_, ?_⟩
   ·
    have hset : Gr S w5 ((w5.setCell ⟨b2, 0, none⟩ (.int .i64 y.ins)).setCell ⟨b2, 1, none⟩ (.slice A5 y.gs.length c5)) := ((Gr.refl _ _).set _ _ _ (.inl ((HS.out b2).2 (.inr (.inl rfl))))).set _ _ _ (.inl ((HS.out b2).2 (.inr (.inl rfl))))
    exact (HS5.out.gr hset).ab_mono fun b _ hb => HS0.out b hb
   · exact (HR5.out.set (by omega)).set (by omega)
   · exact (HGG.out.set _ _ _ (.inr (by rw [HB2E.out]; exact Nat.le_refl _))).set _ _ _ (.inr (by rw [HB2E.out]; exact Nat.le_refl _))
end Go.Proofs.YtjghcaghigebjaaGreatDoor
