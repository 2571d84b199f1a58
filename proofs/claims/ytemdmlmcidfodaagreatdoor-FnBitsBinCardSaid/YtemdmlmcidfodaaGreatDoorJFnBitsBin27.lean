/- A drawn region, each operation once: what is said of an operation's value may hold until a later operation alone. No program is named here. -/
import Derived.Test.YtemdmlmcidfodaaGreatDoorJFnBitsBin0
import Derived.Test.YtemdmlmcidfodaaGreatDoorJFnBitsBin10
namespace Go.Proofs.YtemdmlmcidfodaaGreatDoor
open Go Go.RowKit
variable {P : Program} {Q : Exit -> Act -> World -> Prop}
def untilOk (ops : List Oper) (D : List (List Nat)) (U : List (Option Nat)) : Bool :=
 (List.range ops.length).all fun k => (D.getD k []).all fun j => match U.getD j none with | none => true | some u => decide (u = k) || z1b ops ops.length u k
theorem untilOk_spec {ops : List Oper} {D : List (List Nat)} {U : List (Option Nat)} (h : untilOk ops D U = true) {k j u : Nat} (hk : k < ops.length) (hj : j ∈ D.getD k []) (hu : U.getD j none = some u) : u = k \/ z1b ops ops.length u k = true:=by
 have h1:=List.all_eq_true.1 (List.all_eq_true.1 h k (List.mem_range.2 hk)) j hj; rw [hu] at h1
 simpa using h1
structure RelInv5 (ops : List Oper) (I : (Nat -> Bool) -> World -> Prop) (L : List Say) (U : List (Option Nat)) (a : Act) (listed : Array Bool) (a' : Act) (x : World) (vals : Nat -> Value) : Prop where
 size : listed.size = ops.length
 closed : ∀ j k,waits ops k j = true -> listed.getD k false = true -> listed.getD j false = true
 tsize : a'.tmps.size = a.tmps.size
 defers : a'.defers = a.defers
 old : ∀ t,(∀ j,listed.getD j false = true -> z0l ops j ≠ some t) -> a'.tmps[t]? = a.tmps[t]?
 new : ∀ j t,listed.getD j false = true -> z0l ops j = some t -> a'.tmps[t]? = some (vals j)
 inv : I (fun i => listed.getD i false) x
 fact : ∀ j,listed.getD j false = true -> (∀ u,U.getD j none = some u -> listed.getD u false = false) -> L.getD j (fun _ _ => True) vals x
theorem rel5_any {ops : List Oper} {D : List (List Nat)} {R : Nat -> World -> World -> Prop} {I : (Nat -> Bool) -> World -> Prop} {L : List Say} {U : List (Option Nat)} {a : Act} (hRr : ∀ k x,R k x x) (hL : ∀ j k,k < ops.length -> j ≠ k -> z1b ops ops.length j k = false -> U.getD j none ≠ some k -> (∀ u,U.getD j none = some u -> z1b ops ops.length k u = false) -> ∀ vs x x',L.getD j (fun _ _ => True) vs x -> R k x x' -> L.getD j (fun _ _ => True) vs x') (hLo : Locals D 0 L) (hU : untilOk ops D U = true) (hB : relOk4 ops D a.tmps.size = true)
  (hs : ∀ k o,ops[k]? = some o -> obligR4 P ops D (R k) I L a k o)
  (hfin : ∀ vals x f,(∀ i,i < ops.length -> f i = true) -> I f x -> says L vals x ((List.range ops.length).filter fun i => (U.getD i none).isNone) -> Q .normal (puts ops vals (List.range ops.length) a) x) :
  ∀ (fuel : Nat) (listed : Array Bool) (a' : Act) (x : World) (vals : Nat -> Value),cnt (fun i => listed.getD i false) ops.length <= fuel →
   RelInv5 ops I L U a listed a' x vals -> wpAny P .any ops.toArray Q fuel listed a' x:=by
 have hdd : ∀ i j t,z0l ops i = some t -> z0l ops j = some t -> i = j:=fun i j t hi hj => by
  have hjl : j < ops.length:=z1k hj; have ho : ops[j]? = some ops[j]:=List.getElem?_eq_getElem hjl; exact (z1i hB j _ ho).2.2.2.2.2.2 i t (z1k hi) hi (by simpa [z0l,ho] using hj)
 have hds : ∀ j t,z0l ops j = some t -> t < a.tmps.size:=fun j t hj => by
  have hjl : j < ops.length:=z1k hj; have ho : ops[j]? = some ops[j]:=List.getElem?_eq_getElem hjl; exact (z1i hB j _ ho).2.2.2.1 t (by simpa [z0l,ho] using hj)
 have hdone : ∀ (listed : Array Bool) (a' : Act) (x : World) (vals : Nat -> Value),(∀ i,i < ops.length -> listed.getD i false = true) -> RelInv5 ops I L U a listed a' x vals -> Q .normal a' x:=by
  intro listed a' x vals hall inv; have ha : a' = puts ops vals (List.range ops.length) a:=by
   have ht : a'.tmps = (puts ops vals (List.range ops.length) a).tmps:=by
    apply Array.ext_getElem?
    intro t
    by_cases h : ∃ j,z0l ops j = some t
    ·
     obtain ⟨j,hj⟩:=h; rw [inv.new j t (hall j (z1k hj)) hj,puts_get (fun i j => hdd i j t) _ _ j (List.mem_range.2 (z1k hj)) hj (hds j t hj)]
    · rw [inv.old t (fun j _ e => h ⟨j,e⟩),puts_ne _ _ (fun i _ e => h ⟨i,e⟩)]
   have hdf : a'.defers = (puts ops vals (List.range ops.length) a).defers:=by rw [z1n]; exact inv.defers
   cases a'
   cases hp : puts ops vals (List.range ops.length) a
   rw [hp] at ht hdf; simp only at ht hdf; rw [ht,hdf]
  rw [ha]; exact hfin vals x _ hall inv.inv (says_iff.2 fun i hi => inv.fact i (hall i (List.mem_range.1 (List.mem_filter.1 hi).1)) (fun u hu => by have:=(List.mem_filter.1 hi).2; rw [hu] at this; cases this))
 have hmin : ∀ (listed : Array Bool),listed.size = ops.length -> ∀ i,i < ops.length -> listed.getD i false = false -> Region.ready .any ops.toArray listed ≠ []:=by
  intro listed hsz i
  induction i using Nat.strongRecOn with
  | _ i ih =>
   intro hi hun hr; have ho : ops[i]? = some ops[i]:=List.getElem?_eq_getElem hi
   by_cases h : ∀ e ∈ ops[i].after,Region.binds .any e = true -> listed.getD e.on false = true
   ·
    have : i ∈ Region.ready .any ops.toArray listed:=mem_ready.2 ⟨getD_in (by omega) hun,ops[i],by simp [ho],h⟩; rw [hr] at this; cases this
   ·
    simp only [Classical.not_forall] at h; obtain ⟨e,he,hb,hl⟩:=h; have hlt:=(z1i hB i _ ho).2.2.1 e he hb; exact ih e.on hlt (by omega) (by simpa using hl) hr
 intro fuel
 induction fuel with
 | zero =>
  intro listed a' x vals hc inv; have hall:=cnt_zero (f:=fun i => listed.getD i false) (Nat.le_zero.1 hc); refine ⟨?_,hdone _ _ _ _ hall inv⟩
  cases hr : Region.ready .any ops.toArray listed with
  | nil => rfl
  | cons k rs =>
   exfalso
   have hk : k ∈ Region.ready .any ops.toArray listed:=by rw [hr]; simp
   obtain ⟨h0,o,ho,_⟩:=mem_ready.1 hk; have hlt : k < ops.length:=by
    have:=(Array.getElem?_eq_some_iff.1 ho).1; simpa using this
   have h1 : listed.getD k false = true:=hall k hlt; rw [getD_both h0] at h1; cases h1
 | succ fuel ih =>
  intro listed a' x vals hc inv; refine ⟨fun hr => ?_,fun k hk => ?_⟩
  ·
   refine hdone _ _ _ _ (fun i hi => ?_) inv
   cases h : listed.getD i false with
   | true => rfl
   | false => exact absurd hr (hmin listed inv.size i hi h)
  ·
   obtain ⟨h0,o,hoA,hwait⟩:=mem_ready.1 hk; have ho : ops[k]? = some o:=by simpa using hoA
   have hkl : k < ops.length:=(List.getElem?_eq_some_iff.1 ho).1; have h0f : listed.getD k false = false:=getD_both h0; have hsz : k < listed.size:=by rw [inv.size]; exact hkl
   obtain ⟨hg,hsel,_,hdsz,hD,hlook,hdist⟩:=z1i hB k o ho; have hw : ∀ m,waits ops k m = true -> listed.getD m false = true:=fun m hm => by
    obtain ⟨o',ho',e,he,hb,rfl⟩:=waits_spec.1 hm; have : o' = o:=Option.some.inj (ho'.symm.trans ho); subst this; exact hwait e he hb
   have hDl : ∀ j ∈ D.getD k [],listed.getD j false = true:=fun j hj => hw j (hD j hj).1
   have hdk : z0l ops k = o.dst:=by simp [z0l,ho]
   -- the operation runs as it does in the small state
   have hexec : execOp a'.eval o = execOp (puts ops vals (D.getD k []) a).eval o:=execOp_congr o hsel fun y hy => by
    cases y with
    | tmp t =>
     have ht : a'.tmps[t]? = (puts ops vals (D.getD k []) a).tmps[t]?:=by
      by_cases h : ∃ j,z0l ops j = some t
      ·
       obtain ⟨j,hj⟩:=h
       rcases hlook j (z1k hj) (looks_spec ho hj hy) with hm | hm
       · rw [inv.new j t (hDl j hm) hj,puts_get (fun i j => hdd i j t) _ _ j hm hj (hds j t hj)]
       ·
        have hjf : listed.getD j false = true -> False:=fun hjl => by
         have:=z0r inv.closed _ j k (fun m hm => inv.closed m j hm hjl) hm; rw [this] at h0f; cases h0f
        rw [inv.old t (fun i hi e => by have:=hdd i j t e hj; subst this; exact hjf hi),puts_ne _ _ (fun i hi e => by have:=hdd i j t e hj; subst this; exact hjf (hDl i hi))]
      · rw [inv.old t (fun j _ e => h ⟨j,e⟩),puts_ne _ _ (fun i _ e => h ⟨i,e⟩)]
     show a'.tmps.getD t undef = (puts ops vals (D.getD k []) a).tmps.getD t undef
     rw [Array.getD_eq_getD_getElem?,Array.getD_eq_getD_getElem?,ht]
    | _ => rfl
   have hcs:=(cnt_set (f:=fun i => listed.getD i false) (g:=fun i => (listed.setIfInBounds k true).getD i false) h0f (getD_set (listed:=listed) hsz) (n:=ops.length)).2 hkl; have hob:=hs k o ho vals x (fun i => listed.getD i false) h0f (fun r h => z0r inv.closed _ k r (fun m hm => hw m hm) h) (fun r hr => by
    cases h : listed.getD r false with
    | false => rfl
    | true => exact absurd ((z0r inv.closed _ r k (fun m hm => inv.closed m r hm h) hr).symm.trans h0f) (by simp)) inv.inv (says_iff.2 fun j hj => inv.fact j (hDl j hj) (fun u hu => by
    rcases untilOk_spec hU hkl hj hu with rfl | hr
    · exact h0f
    ·
     cases hlu : listed.getD u false with
     | false => rfl
     | true => exact absurd ((z0r inv.closed _ u k (fun m hm => inv.closed m u hm hlu) hr).symm.trans h0f) (by simp)))
   have hbs : (puts ops vals (D.getD k []) a).tmps.size = a.tmps.size:=puts_size _ _; have hbd : (puts ops vals (D.getD k []) a).defers = a.defers:=z1n _ _; have next : ∀ v x',(L.getD k (fun _ _ => True) (upd vals k (got o ((puts ops vals (D.getD k []) a).put o.dst v))) x' /\ R k x x' /\ I (did (fun i => listed.getD i false) k) x') →
     wpAny P .any ops.toArray Q fuel (listed.setIfInBounds k true) (a'.put o.dst v) x':=by
    intro v x' hq; obtain ⟨hV,hR,hI'⟩:=hq; have hgs:=getD_set (listed:=listed) hsz; have hold : ∀ j,(listed.setIfInBounds k true).getD j false = true -> j ≠ k -> listed.getD j false = true:=fun j hj hne => by
     rw [hgs,if_neg hne] at hj; exact hj
    refine ih _ _ x' (fun j => if j = k then got o ((puts ops vals (D.getD k []) a).put o.dst v) else vals j) ?_ ⟨by simp [inv.size],fun j m hm hl => ?_,by rw [put_size]; exact inv.tsize,by rw [z23]; exact inv.defers,fun t ht => ?_,fun j t hj hdj => ?_,by rw [show (fun i => (listed.setIfInBounds k true).getD i false) = fun j => if j = k then true else listed.getD j false from funext hgs]; exact hI',fun j hj hun => ?_⟩
    · omega
    ·
     rw [hgs]
     by_cases e : j = k
     · rw [if_pos e]
     ·
      rw [if_neg e]
      by_cases e' : m = k
      · subst e'; exact hw j hm
      · exact inv.closed j m hm (hold m hl e')
    ·
     rw [z22 _ _ _ _ (by
      have:=ht k (by rw [hgs,if_pos rfl])
      rwa [hdk] at this)]
     refine inv.old t fun j hj => ht j ?_
     rw [hgs]; split <;> first | rfl | exact hj
    ·
     by_cases e : j = k
     ·
      subst e; rw [hdk] at hdj; have htl:=hdsz t hdj; rw [if_pos rfl,hdj,put_get _ _ _ (by rw [inv.tsize]; exact htl)]; simp only [got,hdj]; rw [Array.getD_eq_getD_getElem?,put_get _ _ _ (by rw [hbs]; exact htl)]
      rfl
     ·
      rw [if_neg e,z22 _ _ _ _ (fun e' => e (hdist j t (z1k hdj) hdj e'))]; exact inv.new j t (hold j hj e) hdj
    ·
     by_cases e : j = k
     · subst e; exact hV
     ·
      have hjl:=hold j hj e; have hrj : z1b ops ops.length j k = false:=by
       cases h : z1b ops ops.length j k with
       | false => rfl
       | true => rw [z0r inv.closed _ j k (fun m hm => inv.closed m j hm hjl) h] at h0f; cases h0f
      have hnk : U.getD j none ≠ some k:=fun hu => by
       have:=hun k hu; rw [hgs,if_pos rfl] at this; cases this
      have hold9 : ∀ u,U.getD j none = some u -> listed.getD u false = false:=fun u hu => by
       have:=hun u hu; rw [hgs] at this
       by_cases e9 : u = k
       · rw [e9]; exact h0f
       · rwa [if_neg e9] at this
      have hru : ∀ u,U.getD j none = some u -> z1b ops ops.length k u = false:=fun u hu => by
       cases h9 : z1b ops ops.length k u with
       | false => rfl
       | true => exact absurd ((z0r inv.closed _ k u (fun m hm => hw m hm) h9).symm.trans (hold9 u hu)) (by simp)
      have hfj:=hL j k hkl e hrj hnk hru vals x x' (inv.fact j hjl hold9) hR; refine hLo.get j vals _ x' (by simp [upd,e]) (fun m hm => ?_) hfj; have hmk : m ≠ k:=fun e' => by
       have hjlt:=listed_lt inv.size hjl; have hw':=((z1i hB j ops[j] (List.getElem?_eq_getElem hjlt)).2.2.2.2.1 m (by simpa using hm)).1; rw [e'] at hw'; rw [inv.closed k j hw' hjl] at h0f; cases h0f
      simp [upd,hmk]
   unfold wpOp; rw [hoA]; dsimp only; have hgv : ∀ g b,o.guard = some (g,b) -> ∃ d,z0l ops g = some d /\ a'.tmps[d]? = some (vals g):=fun g b hgb => by
    obtain ⟨h1,d,h2⟩:=hg g b hgb; exact ⟨d,h2,inv.new g d (hDl g h1) h2⟩
   have hyield : ∀ g b,o.guard = some (g,b) -> (Region.wanted o (yielded ops.toArray a'.tmps) = true ↔ vals g = .bool b):=fun g b hgb => by
    obtain ⟨d,h1,h2⟩:=hgv g b hgb; have hy : yielded ops.toArray a'.tmps g = match some (vals g) with | some (.bool b) => some b | _ => none:=by
     unfold yielded; rw [show (ops.toArray[g]?).bind (·.dst) = some d from by simpa [z0l] using h1]; simp only [Option.bind_some,h2]
     cases vals g <;> rfl
    unfold Region.wanted; rw [hgb]; simp only [hy]
    constructor
    ·
     intro h
     split at h
     ·
      rename_i b' he
      injection he with he
      rw [he]; have : b' = b:=by simpa using h
      rw [this]
     · cases h
    ·
     intro h; rw [h]; simp
   have hskip : Region.wanted o (yielded ops.toArray a'.tmps) = false -> wpAny P .any ops.toArray Q fuel (listed.setIfInBounds k true) (a'.put o.dst undef) x:=fun hw0 => by
    cases hgd : o.guard with
    | none => unfold Region.wanted at hw0; rw [hgd] at hw0; cases hw0
    | some p =>
     obtain ⟨g,b⟩:=p; have hne : vals g ≠ .bool b:=fun e => by rw [(hyield g b hgd).2 e] at hw0; cases hw0
     obtain ⟨h1,h2⟩:=hob.2 g b hgd hne; refine next undef x ⟨?_,hRr k x,h2⟩; have : got o ((puts ops vals (D.getD k []) a).put o.dst undef) = undef:=by
      unfold got
      cases hd : o.dst with
      | none => rfl
      | some d =>
       simp only; rw [Array.getD_eq_getD_getElem?,put_get _ _ _ (by rw [hbs]; exact hdsz d hd)]
       rfl
     rw [this]; exact h1
   by_cases hwant : Region.wanted o (yielded ops.toArray a'.tmps) = true
   rotate_left
   ·
    rw [if_neg hwant]; exact hskip (by simpa using hwant)
   rw [if_pos hwant]; have hob:=hob.1 fun g b hgd => (hyield g b hgd).1 hwant
   refine .inl ?_; unfold Oper.wp at hob ⊢; rw [hexec]; generalize (execOp (puts ops vals (D.getD k []) a).eval o).run P x = r at hob ⊢
   cases r with
   | ok n w' =>
    cases n <;> simp only [Oper.upon] at hob ⊢
    case value v => exact next v w' hob.2
    case skip => exact next _ w' hob.2
    case defer d =>
     have:=hob.1; rw [z23] at this; exact absurd (congrArg List.length this) (by simp)
    case enter f args =>
     refine Calls.mono hob fun e w'' he => ?_
     cases e with
     | returned u => exact next u w'' he.2
     | panicked c => exact he.elim
     | outgrown => obtain ⟨_,_,h⟩:=he; exact h.elim
    case row row args => exact Rows.mono hob fun u w'' he => next u w'' he.2
   | halt e w' =>
    cases e <;> simp only [Oper.upon] at hob ⊢ <;> exact hob.elim
def StabS5 (ops : List Oper) (U : List (Option Nat)) (V : Say) (i : Nat) : List (Nat × (World -> World -> Prop)) -> Prop
 | [] => True
 | p :: l => ((z1b ops ops.length i p.1 || (match U.getD i none with | none => false | some u => u == p.1 || z1b ops ops.length p.1 u)) = true \/ i = p.1 \/ ∀ vs x x',V vs x -> p.2 x x' -> V vs x') /\ StabS5 ops U V i l
def Stabs5 (ops : List Oper) (U : List (Option Nat)) (R0 : World -> World -> Prop) (Rs : List (Nat × (World -> World -> Prop))) : Nat -> List Say -> Prop
 | _,[] => True
 | i,V :: l => ((isLast ops i = true \/ ∀ vs x x',V vs x -> R0 x x' -> V vs x') /\ StabS5 ops U V i Rs) /\ Stabs5 ops U R0 Rs (i + 1) l
theorem relOf_stab5 {ops : List Oper} {U : List (Option Nat)} {R0 : World -> World -> Prop} {V : Say} {i k : Nat} (hik : i ≠ k) (hr : z1b ops ops.length i k = false) (hu : U.getD i none ≠ some k) (hk : ∀ u,U.getD i none = some u -> z1b ops ops.length k u = false) (h0 : ∀ vs x x',V vs x -> R0 x x' -> V vs x') : ∀ {l : List (Nat × (World -> World -> Prop))},StabS5 ops U V i l -> ∀ vs x x',V vs x -> relOf R0 l k x x' -> V vs x'
 | [],_,vs,x,x',hv,h => h0 vs x x' hv h
 | p :: l,hs,vs,x,x',hv,h => by
  by_cases e : k = p.1
  ·
   rcases hs.1 with h1 | h1 | h1
   ·
    rw [Bool.or_eq_true] at h1
    rcases h1 with h1 | h1
    · rw [e,h1] at hr; cases hr
    ·
     cases hU : U.getD i none with
     | none => rw [hU] at h1; cases h1
     | some u =>
      rw [hU] at h1; simp only [Bool.or_eq_true,beq_iff_eq] at h1
      rcases h1 with h1 | h1
      · exact absurd (by rw [hU,h1,e]) hu
      ·
       have:=hk u hU; rw [e,h1] at this; cases this
   · exact absurd (h1.trans e.symm) hik
   · exact h1 vs x x' hv (h.1 e)
  · exact relOf_stab5 hik hr hu hk h0 hs.2 vs x x' hv (h.2 e)
theorem Stabs5.get {ops : List Oper} {U : List (Option Nat)} {R0 : World -> World -> Prop} {Rs : List (Nat × (World -> World -> Prop))} {k : Nat} (hk : k < ops.length) : ∀ {L : List Say} {m : Nat},Stabs5 ops U R0 Rs m L -> ∀ i,m + i ≠ k -> z1b ops ops.length (m + i) k = false -> U.getD (m + i) none ≠ some k -> (∀ u,U.getD (m + i) none = some u -> z1b ops ops.length k u = false) -> ∀ vs x x',L.getD i (fun _ _ => True) vs x -> relOf R0 Rs k x x' -> L.getD i (fun _ _ => True) vs x'
 | [],_,_,i,_,_,_,_,vs,x,x',_,_ => by simp
 | V :: l,m,h,0,hik,hr,hu,hku,vs,x,x',hv,hR => by
  rcases h.1.1 with h1 | h1
  · exact (relOf_last (R0:=R0) (V:=V) hik hr hk h1).elim
  · simpa using relOf_stab5 hik hr hu hku h1 h.1.2 vs x x' (by simpa using hv) hR
 | V :: l,m,h,i + 1,hik,hr,hu,hku,vs,x,x',hv,hR => by
  have e : m + (i + 1) = m + 1 + i:=by omega
  rw [e] at hik hr hu hku
  simpa using Stabs5.get hk h.2 i hik hr hu hku vs x x' (by simpa using hv) hR
theorem wp_region_rel5 {id : Nat} {ops : List Oper} {a : Act} {w : World} (D : List (List (Nat × Tmp))) (R0 : World -> World -> Prop) (Rs : List (Nat × (World -> World -> Prop))) (I : (Nat -> Bool) -> World -> Prop) (L : List Say) (U : List (Option Nat)) (all : List (Nat × Tmp)) (hm : P.follows .mixedOrders = true)
  (hB : relOk4 ops (idxs D) a.tmps.size = true) (hD : D.all (fitsD ops) = true)
  (hall : (List.range ops.length).filterMap (fun i => (z0l ops i).map fun t => (i,t)) = all)
  (hRr : ∀ x,R0 x x) (hRs : Refls Rs) (hU : untilOk ops (idxs D) U = true) (hL : Stabs5 ops U R0 Rs 0 L) (hLo : Locals (idxs D) 0 L) (h0 : I (fun _ => false) (w.drewN 1))
  (hs : sharesR4 P ops (relOf R0 Rs) I L a 0 ops D)
  (hfin : ∀ vals x f,(∀ i,i < ops.length -> f i = true) -> I f x -> says L vals x ((List.range ops.length).filter fun i => (U.getD i none).isNone) -> Q .normal (z01 vals all a) x) : (Code.region id ops.toArray true).wp P Q a w:=by
 refine wp_region_any hm ?_; have z0 : ∀ j,(Array.replicate ops.toArray.size false).getD j false = false:=fun j => getD_replicate_false _ _
 have hle : ∀ (f : Nat -> Bool) (n : Nat),cnt f n <= n:=fun f n => by
  induction n with
  | zero => exact Nat.le_refl _
  | succ n ih => simp only [cnt]; split <;> omega
 have hrel:=rel5_any (P:=P) (Q:=Q) (ops:=ops) (a:=a) (D:=idxs D) (R:=relOf R0 Rs) (I:=I) (L:=L) (U:=U) (relOf_refl hRr hRs) (fun j k hk hjk hr hu hku vs x x' => Stabs5.get hk hL j (by rw [Nat.zero_add]; exact hjk) (by rw [Nat.zero_add]; exact hr) (by rw [Nat.zero_add]; exact hu) (by rw [Nat.zero_add]; exact hku) vs x x') hLo hU hB; refine hrel (fun k o hk => ?_) (fun vals x f hn hI hf => ?_) _ _ _ _ (fun _ => undef) (Nat.le_trans (hle _ _) (by simp)) ?_
 rotate_left
 · rw [puts_all,hall]; exact hfin vals x f hn hI hf
 · exact ⟨by simp,fun j k _ hl => (by rw [z0] at hl; cases hl),rfl,rfl,fun _ _ => rfl,fun j t hj => (by rw [z0] at hj; cases hj),by rw [show (fun i => (Array.replicate ops.toArray.size false).getD i false) = fun _ => false from funext z0]; exact h0,fun j hj _ => (by rw [z0] at hj; cases hj)⟩
 ·
  have hsh:=sharesR4_get hs k o hk; rw [Nat.zero_add] at hsh; have hfit : fitsD ops (D.getD k []) = true:=by
   rcases Nat.lt_or_ge k D.length with h | h
   · rw [show D.getD k [] = D[k] by simp [h]]; exact List.all_eq_true.1 hD _ (List.getElem_mem h)
   · rw [show D.getD k [] = [] by simp [h]]; rfl
  have hDk : (idxs D).getD k [] = (D.getD k []).map (·.1):=by
   unfold idxs
   rcases Nat.lt_or_ge k D.length with h | h
   · simp [h]
   · simp [h]
  intro vals x f hn hl hl2 hI hf; rw [hDk,says_saysD] at hf; have h:=hsh vals x f hn hl hl2 hI hf; rw [hDk,puts_putsD hfit]; have hun : wpList P #[] (relQ4 (relOf R0 Rs k) I L vals f k o (z01 vals (D.getD k []) a) x) [bare o] (z01 vals (D.getD k []) a) x -> o.wp P (z01 vals (D.getD k []) a) x (relQ4 (relOf R0 Rs k) I L vals f k o (z01 vals (D.getD k []) a) x .normal) (relQ4 (relOf R0 Rs k) I L vals f k o (z01 vals (D.getD k []) a) x):=fun h => by
   rcases wpList_bare h with h | ⟨_,_,h⟩
   · exact h
   · exact h.elim
  generalize o.guard = gd at h ⊢
  cases gd with
  | none => exact ⟨fun _ => hun h,fun g b e => by cases e⟩
  | some p =>
   obtain ⟨g,b⟩:=p; exact ⟨fun e => hun (h.1 (e g b rfl)),fun g' b' e hne => by injection e with e; injection e with e1 e2; subst e1; subst e2; exact h.2 hne⟩
end Go.Proofs.YtemdmlmcidfodaaGreatDoor
