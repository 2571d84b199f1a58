/- Drawn regions that draw from a reader; literals. -/
import Derived.Test.YtemdmlmcidfodaaGreatDoorJFnBitsBin0
import Derived.Test.YtemdmlmcidfodaaGreatDoorJFnBitsBin2
import Derived.Test.YtemdmlmcidfodaaGreatDoorJFnBitsBin3
import Derived.Test.YtemdmlmcidfodaaGreatDoorJFnBitsBin9
namespace Go.Proofs.YtemdmlmcidfodaaGreatDoor
open Go Go.RowKit
variable {P : Program} {Q : Exit -> Act -> World -> Prop}
def did (f : Nat -> Bool) (k : Nat) : Nat -> Bool:=fun j => if j = k then true else f j
theorem z0h (f : Nat -> Bool) (k : Nat) : did f k k = true:=if_pos rfl
theorem did_ne {f : Nat -> Bool} {k j : Nat} (h : Nat.beq j k = false) : did f k j = f j:=if_neg (Nat.ne_of_beq_eq_false h)
def relQ4 (R : World -> World -> Prop) (I : (Nat -> Bool) -> World -> Prop) (L : List Say) (vals : Nat -> Value) (f : Nat -> Bool) (k : Nat) (o : Oper) (a : Act) (x : World) : Exit -> Act -> World -> Prop
 | .normal,a',x' => a'.defers = a.defers /\ L.getD k (fun _ _ => True) (upd vals k (got o a')) x' /\ R x x' /\ I (did f k) x'
 | _,_,_ => False
def obligR4 (P : Program) (ops : List Oper) (D : List (List Nat)) (R : World -> World -> Prop) (I : (Nat -> Bool) -> World -> Prop) (L : List Say) (a : Act) (k : Nat) (o : Oper) : Prop :=
 ∀ (vals : Nat -> Value) (x : World) (f : Nat -> Bool),f k = false -> (∀ j,z1b ops ops.length k j = true -> f j = true) -> (∀ j,z1b ops ops.length j k = true -> f j = false) -> I f x -> says L vals x (D.getD k []) →
  ((∀ g b,o.guard = some (g,b) -> vals g = .bool b) -> o.wp P (puts ops vals (D.getD k []) a) x (relQ4 R I L vals f k o (puts ops vals (D.getD k []) a) x .normal) (relQ4 R I L vals f k o (puts ops vals (D.getD k []) a) x)) ∧
  (∀ g b,o.guard = some (g,b) -> vals g ≠ .bool b -> L.getD k (fun _ _ => True) (upd vals k undef) x /\ I (did f k) x)
structure RelInv4 (ops : List Oper) (I : (Nat -> Bool) -> World -> Prop) (L : List Say) (a : Act) (listed : Array Bool) (a' : Act) (x : World) (vals : Nat -> Value) : Prop where
 size : listed.size = ops.length
 closed : ∀ j k,waits ops k j = true -> listed.getD k false = true -> listed.getD j false = true
 tsize : a'.tmps.size = a.tmps.size
 defers : a'.defers = a.defers
 old : ∀ t,(∀ j,listed.getD j false = true -> z0l ops j ≠ some t) -> a'.tmps[t]? = a.tmps[t]?
 new : ∀ j t,listed.getD j false = true -> z0l ops j = some t -> a'.tmps[t]? = some (vals j)
 inv : I (fun i => listed.getD i false) x
 fact : ∀ j,listed.getD j false = true -> L.getD j (fun _ _ => True) vals x
def z03 (P : Program) (R : World -> World -> Prop) (I : (Nat -> Bool) -> World -> Prop) (L : List Say) (vals : Nat -> Value) (a : Act) (x : World) (f : Nat -> Bool) (k : Nat) (o : Oper) (gd : Option (Nat × Bool)) : Prop :=
 match gd with
 | none => wpList P #[] (relQ4 R I L vals f k o a x) [bare o] a x
 | some (g,b) => (vals g = .bool b -> wpList P #[] (relQ4 R I L vals f k o a x) [bare o] a x) /\ (vals g ≠ .bool b -> L.getD k (fun _ _ => True) (upd vals k undef) x /\ I (did f k) x)
def relOk4 (ops : List Oper) (D : List (List Nat)) (size : Nat) : Bool :=
 (List.range ops.length).all fun k =>
  (match ops[k]? with
   | some o => (match o.guard with | none => true | some (g,_) => (D.getD k []).contains g && (z0l ops g).isSome) && (match o.op with | .select .. => false | _ => true) && (o.after.all fun e => !Region.binds .any e || decide (e.on < k)) && (match o.dst with | some d => decide (d < size) | none => true)
   | none => false) &&
  ((D.getD k []).all fun j => waits ops k j && decide (j < ops.length)) &&
  (decide ((D.getD k []).Nodup)) &&
  (List.range ops.length).all fun j =>
   (!looks ops k j || (D.getD k []).contains j || z1b ops ops.length j k) &&
   (decide (j = k) || (match z0l ops j,z0l ops k with | some d,some e => d != e | _,_ => true))
theorem z1i {ops : List Oper} {D : List (List Nat)} {size : Nat} (h : relOk4 ops D size = true) (k : Nat) (o : Oper) (hk : ops[k]? = some o) :
  (∀ g b,o.guard = some (g,b) -> g ∈ D.getD k [] /\ ∃ d,z0l ops g = some d) /\ (∀ cs b,o.op ≠ .select cs b) /\ (∀ e ∈ o.after,Region.binds .any e = true -> e.on < k) /\ (∀ d,o.dst = some d -> d < size) ∧
  (∀ j ∈ D.getD k [],waits ops k j = true /\ j < ops.length) /\ (∀ j,j < ops.length -> looks ops k j = true -> j ∈ D.getD k [] \/ z1b ops ops.length j k = true) ∧
  (∀ j d,j < ops.length -> z0l ops j = some d -> o.dst = some d -> j = k):=by
 have hlt : k < ops.length:=(List.getElem?_eq_some_iff.1 hk).1; unfold relOk4 at h; have h:=List.all_eq_true.1 h k (List.mem_range.2 hlt); have hdk : z0l ops k = o.dst:=by simp [z0l,hk]
 simp only [hk,Bool.and_eq_true,hdk] at h; obtain ⟨⟨⟨⟨⟨⟨h1,h2⟩,h3⟩,h4⟩,h5⟩,_⟩,h6⟩:=h; have h6 : ∀ j,j < ops.length -> _:=fun j hj => List.all_eq_true.1 h6 j (List.mem_range.2 hj)
 refine ⟨fun g b hg => ?_,fun cs b e => (by rw [e] at h2; cases h2),fun e he hb => ?_,fun d hd => by rw [hd] at h4; simpa using h4,fun j hj => ?_,fun j hj hl => ?_,fun j d hj hd hd' => ?_⟩
 ·
  rw [hg] at h1; simp only [Bool.and_eq_true,List.contains_iff_mem] at h1; exact ⟨h1.1,Option.isSome_iff_exists.1 h1.2⟩
 ·
  have:=(Array.all_eq_true_iff_forall_mem.1 h3) e he
  simpa [hb] using this
 ·
  have:=List.all_eq_true.1 h5 j hj
  simpa using this
 ·
  have:=h6 j hj; simp only [Bool.and_eq_true,hl] at this
  simpa using this.1
 ·
  have:=h6 j hj; simp only [Bool.and_eq_true,hd,hd'] at this
  simpa using this.2
theorem rel4_any {ops : List Oper} {D : List (List Nat)} {R : Nat -> World -> World -> Prop} {I : (Nat -> Bool) -> World -> Prop} {L : List Say} {a : Act} (hRr : ∀ k x,R k x x) (hL : ∀ j k,k < ops.length -> j ≠ k -> z1b ops ops.length j k = false -> ∀ vs x x',L.getD j (fun _ _ => True) vs x -> R k x x' -> L.getD j (fun _ _ => True) vs x') (hLo : Locals D 0 L) (hB : relOk4 ops D a.tmps.size = true)
  (hs : ∀ k o,ops[k]? = some o -> obligR4 P ops D (R k) I L a k o)
  (hfin : ∀ vals x f,(∀ i,i < ops.length -> f i = true) -> I f x -> says L vals x (List.range ops.length) -> Q .normal (puts ops vals (List.range ops.length) a) x) :
  ∀ (fuel : Nat) (listed : Array Bool) (a' : Act) (x : World) (vals : Nat -> Value),cnt (fun i => listed.getD i false) ops.length <= fuel →
   RelInv4 ops I L a listed a' x vals -> wpAny P .any ops.toArray Q fuel listed a' x:=by
 have hdd : ∀ i j t,z0l ops i = some t -> z0l ops j = some t -> i = j:=fun i j t hi hj => by
  have hjl : j < ops.length:=z1k hj; have ho : ops[j]? = some ops[j]:=List.getElem?_eq_getElem hjl; exact (z1i hB j _ ho).2.2.2.2.2.2 i t (z1k hi) hi (by simpa [z0l,ho] using hj)
 have hds : ∀ j t,z0l ops j = some t -> t < a.tmps.size:=fun j t hj => by
  have hjl : j < ops.length:=z1k hj; have ho : ops[j]? = some ops[j]:=List.getElem?_eq_getElem hjl; exact (z1i hB j _ ho).2.2.2.1 t (by simpa [z0l,ho] using hj)
 have hdone : ∀ (listed : Array Bool) (a' : Act) (x : World) (vals : Nat -> Value),(∀ i,i < ops.length -> listed.getD i false = true) -> RelInv4 ops I L a listed a' x vals -> Q .normal a' x:=by
  intro listed a' x vals hall inv; have ha : a' = puts ops vals (List.range ops.length) a:=by
   have ht : a'.tmps = (puts ops vals (List.range ops.length) a).tmps:=by
    apply Array.ext_getElem?
    intro t
    by_cases h : ∃ j,z0l ops j = some t
    ·
     obtain ⟨j,hj⟩:=h; rw [inv.new j t (hall j (z1k hj)) hj,puts_get (fun i j => hdd i j t) _ _ j (List.mem_range.2 (z1k hj)) hj (hds j t hj)]
    · rw [inv.old t (fun j _ e => h ⟨j,e⟩),puts_ne _ _ (fun i _ e => h ⟨i,e⟩)]
   have hdf : a'.defers = (puts ops vals (List.range ops.length) a).defers:=by rw [z1n]; exact inv.defers
   cases a'
   cases hp : puts ops vals (List.range ops.length) a
   rw [hp] at ht hdf; simp only at ht hdf; rw [ht,hdf]
  rw [ha]; exact hfin vals x _ hall inv.inv (says_iff.2 fun i hi => inv.fact i (hall i (List.mem_range.1 hi)))
 have hmin : ∀ (listed : Array Bool),listed.size = ops.length -> ∀ i,i < ops.length -> listed.getD i false = false -> Region.ready .any ops.toArray listed ≠ []:=by
  intro listed hsz i
  induction i using Nat.strongRecOn with
  | _ i ih =>
   intro hi hun hr; have ho : ops[i]? = some ops[i]:=List.getElem?_eq_getElem hi
   by_cases h : ∀ e ∈ ops[i].after,Region.binds .any e = true -> listed.getD e.on false = true
   ·
    have : i ∈ Region.ready .any ops.toArray listed:=mem_ready.2 ⟨getD_in (by omega) hun,ops[i],by simp [ho],h⟩; rw [hr] at this; cases this
   ·
    simp only [Classical.not_forall] at h; obtain ⟨e,he,hb,hl⟩:=h; have hlt:=(z1i hB i _ ho).2.2.1 e he hb; exact ih e.on hlt (by omega) (by simpa using hl) hr
 intro fuel
 induction fuel with
 | zero =>
  intro listed a' x vals hc inv; have hall:=cnt_zero (f:=fun i => listed.getD i false) (Nat.le_zero.1 hc); refine ⟨?_,hdone _ _ _ _ hall inv⟩
  cases hr : Region.ready .any ops.toArray listed with
  | nil => rfl
  | cons k rs =>
   exfalso
   have hk : k ∈ Region.ready .any ops.toArray listed:=by rw [hr]; simp
   obtain ⟨h0,o,ho,_⟩:=mem_ready.1 hk; have hlt : k < ops.length:=by
    have:=(Array.getElem?_eq_some_iff.1 ho).1; simpa using this
   have h1 : listed.getD k false = true:=hall k hlt; rw [getD_both h0] at h1; cases h1
 | succ fuel ih =>
  intro listed a' x vals hc inv; refine ⟨fun hr => ?_,fun k hk => ?_⟩
  ·
   refine hdone _ _ _ _ (fun i hi => ?_) inv
   cases h : listed.getD i false with
   | true => rfl
   | false => exact absurd hr (hmin listed inv.size i hi h)
  ·
   obtain ⟨h0,o,hoA,hwait⟩:=mem_ready.1 hk; have ho : ops[k]? = some o:=by simpa using hoA
   have hkl : k < ops.length:=(List.getElem?_eq_some_iff.1 ho).1; have h0f : listed.getD k false = false:=getD_both h0; have hsz : k < listed.size:=by rw [inv.size]; exact hkl
   obtain ⟨hg,hsel,_,hdsz,hD,hlook,hdist⟩:=z1i hB k o ho; have hw : ∀ m,waits ops k m = true -> listed.getD m false = true:=fun m hm => by
    obtain ⟨o',ho',e,he,hb,rfl⟩:=waits_spec.1 hm; have : o' = o:=Option.some.inj (ho'.symm.trans ho); subst this; exact hwait e he hb
   have hDl : ∀ j ∈ D.getD k [],listed.getD j false = true:=fun j hj => hw j (hD j hj).1
   have hdk : z0l ops k = o.dst:=by simp [z0l,ho]
   -- the operation runs as it does in the small state
   have hexec : execOp a'.eval o = execOp (puts ops vals (D.getD k []) a).eval o:=execOp_congr o hsel fun y hy => by
    cases y with
    | tmp t =>
     have ht : a'.tmps[t]? = (puts ops vals (D.getD k []) a).tmps[t]?:=by
      by_cases h : ∃ j,z0l ops j = some t
      ·
       obtain ⟨j,hj⟩:=h
       rcases hlook j (z1k hj) (looks_spec ho hj hy) with hm | hm
       · rw [inv.new j t (hDl j hm) hj,puts_get (fun i j => hdd i j t) _ _ j hm hj (hds j t hj)]
       ·
        have hjf : listed.getD j false = true -> False:=fun hjl => by
         have:=z0r inv.closed _ j k (fun m hm => inv.closed m j hm hjl) hm; rw [this] at h0f; cases h0f
        rw [inv.old t (fun i hi e => by have:=hdd i j t e hj; subst this; exact hjf hi),puts_ne _ _ (fun i hi e => by have:=hdd i j t e hj; subst this; exact hjf (hDl i hi))]
      · rw [inv.old t (fun j _ e => h ⟨j,e⟩),puts_ne _ _ (fun i _ e => h ⟨i,e⟩)]
     show a'.tmps.getD t undef = (puts ops vals (D.getD k []) a).tmps.getD t undef
     rw [Array.getD_eq_getD_getElem?,Array.getD_eq_getD_getElem?,ht]
    | _ => rfl
   have hcs:=(cnt_set (f:=fun i => listed.getD i false) (g:=fun i => (listed.setIfInBounds k true).getD i false) h0f (getD_set (listed:=listed) hsz) (n:=ops.length)).2 hkl; have hob:=hs k o ho vals x (fun i => listed.getD i false) h0f (fun r h => z0r inv.closed _ k r (fun m hm => hw m hm) h) (fun r hr => by
    cases h : listed.getD r false with
    | false => rfl
    | true => exact absurd ((z0r inv.closed _ r k (fun m hm => inv.closed m r hm h) hr).symm.trans h0f) (by simp)) inv.inv (says_iff.2 fun j hj => inv.fact j (hDl j hj))
   have hbs : (puts ops vals (D.getD k []) a).tmps.size = a.tmps.size:=puts_size _ _; have hbd : (puts ops vals (D.getD k []) a).defers = a.defers:=z1n _ _; have next : ∀ v x',(L.getD k (fun _ _ => True) (upd vals k (got o ((puts ops vals (D.getD k []) a).put o.dst v))) x' /\ R k x x' /\ I (did (fun i => listed.getD i false) k) x') →
     wpAny P .any ops.toArray Q fuel (listed.setIfInBounds k true) (a'.put o.dst v) x':=by
    intro v x' hq; obtain ⟨hV,hR,hI'⟩:=hq; have hgs:=getD_set (listed:=listed) hsz; have hold : ∀ j,(listed.setIfInBounds k true).getD j false = true -> j ≠ k -> listed.getD j false = true:=fun j hj hne => by
     rw [hgs,if_neg hne] at hj; exact hj
    refine ih _ _ x' (fun j => if j = k then got o ((puts ops vals (D.getD k []) a).put o.dst v) else vals j) ?_ ⟨by simp [inv.size],fun j m hm hl => ?_,by rw [put_size]; exact inv.tsize,by rw [z23]; exact inv.defers,fun t ht => ?_,fun j t hj hdj => ?_,by rw [show (fun i => (listed.setIfInBounds k true).getD i false) = fun j => if j = k then true else listed.getD j false from funext hgs]; exact hI',fun j hj => ?_⟩
    · omega
    ·
     rw [hgs]
     by_cases e : j = k
     · rw [if_pos e]
     ·
      rw [if_neg e]
      by_cases e' : m = k
      · subst e'; exact hw j hm
      · exact inv.closed j m hm (hold m hl e')
    ·
     rw [z22 _ _ _ _ (by
      have:=ht k (by rw [hgs,if_pos rfl])
      rwa [hdk] at this)]
     refine inv.old t fun j hj => ht j ?_
     rw [hgs]; split <;> first | rfl | exact hj
    ·
     by_cases e : j = k
     ·
      subst e; rw [hdk] at hdj; have htl:=hdsz t hdj; rw [if_pos rfl,hdj,put_get _ _ _ (by rw [inv.tsize]; exact htl)]; simp only [got,hdj]; rw [Array.getD_eq_getD_getElem?,put_get _ _ _ (by rw [hbs]; exact htl)]
      rfl
     ·
      rw [if_neg e,z22 _ _ _ _ (fun e' => e (hdist j t (z1k hdj) hdj e'))]; exact inv.new j t (hold j hj e) hdj
    ·
     by_cases e : j = k
     · subst e; exact hV
     ·
      have hjl:=hold j hj e; have hrj : z1b ops ops.length j k = false:=by
       cases h : z1b ops ops.length j k with
       | false => rfl
       | true => rw [z0r inv.closed _ j k (fun m hm => inv.closed m j hm hjl) h] at h0f; cases h0f
      have hfj:=hL j k hkl e hrj vals x x' (inv.fact j hjl) hR; refine hLo.get j vals _ x' (by simp [upd,e]) (fun m hm => ?_) hfj; have hmk : m ≠ k:=fun e' => by
       have hjlt:=listed_lt inv.size hjl; have hw':=((z1i hB j ops[j] (List.getElem?_eq_getElem hjlt)).2.2.2.2.1 m (by simpa using hm)).1; rw [e'] at hw'; rw [inv.closed k j hw' hjl] at h0f; cases h0f
      simp [upd,hmk]
   unfold wpOp; rw [hoA]; dsimp only; have hgv : ∀ g b,o.guard = some (g,b) -> ∃ d,z0l ops g = some d /\ a'.tmps[d]? = some (vals g):=fun g b hgb => by
    obtain ⟨h1,d,h2⟩:=hg g b hgb; exact ⟨d,h2,inv.new g d (hDl g h1) h2⟩
   have hyield : ∀ g b,o.guard = some (g,b) -> (Region.wanted o (yielded ops.toArray a'.tmps) = true ↔ vals g = .bool b):=fun g b hgb => by
    obtain ⟨d,h1,h2⟩:=hgv g b hgb; have hy : yielded ops.toArray a'.tmps g = match some (vals g) with | some (.bool b) => some b | _ => none:=by
     unfold yielded; rw [show (ops.toArray[g]?).bind (·.dst) = some d from by simpa [z0l] using h1]; simp only [Option.bind_some,h2]
     cases vals g <;> rfl
    unfold Region.wanted; rw [hgb]; simp only [hy]
    constructor
    ·
     intro h
     split at h
     ·
      rename_i b' he
      injection he with he
      rw [he]; have : b' = b:=by simpa using h
      rw [this]
     · cases h
    ·
     intro h; rw [h]; simp
   have hskip : Region.wanted o (yielded ops.toArray a'.tmps) = false -> wpAny P .any ops.toArray Q fuel (listed.setIfInBounds k true) (a'.put o.dst undef) x:=fun hw0 => by
    cases hgd : o.guard with
    | none => unfold Region.wanted at hw0; rw [hgd] at hw0; cases hw0
    | some p =>
     obtain ⟨g,b⟩:=p; have hne : vals g ≠ .bool b:=fun e => by rw [(hyield g b hgd).2 e] at hw0; cases hw0
     obtain ⟨h1,h2⟩:=hob.2 g b hgd hne; refine next undef x ⟨?_,hRr k x,h2⟩; have : got o ((puts ops vals (D.getD k []) a).put o.dst undef) = undef:=by
      unfold got
      cases hd : o.dst with
      | none => rfl
      | some d =>
       simp only; rw [Array.getD_eq_getD_getElem?,put_get _ _ _ (by rw [hbs]; exact hdsz d hd)]
       rfl
     rw [this]; exact h1
   by_cases hwant : Region.wanted o (yielded ops.toArray a'.tmps) = true
   rotate_left
   ·
    rw [if_neg hwant]; exact hskip (by simpa using hwant)
   rw [if_pos hwant]; have hob:=hob.1 fun g b hgd => (hyield g b hgd).1 hwant
   refine .inl ?_; unfold Oper.wp at hob ⊢; rw [hexec]; generalize (execOp (puts ops vals (D.getD k []) a).eval o).run P x = r at hob ⊢
   cases r with
   | ok n w' =>
    cases n <;> simp only [Oper.upon] at hob ⊢
    case value v => exact next v w' hob.2
    case skip => exact next _ w' hob.2
    case defer d =>
     have:=hob.1; rw [z23] at this; exact absurd (congrArg List.length this) (by simp)
    case enter f args =>
     refine Calls.mono hob fun e w'' he => ?_
     cases e with
     | returned u => exact next u w'' he.2
     | panicked c => exact he.elim
     | outgrown => obtain ⟨_,_,h⟩:=he; exact h.elim
    case row row args => exact Rows.mono hob fun u w'' he => next u w'' he.2
   | halt e w' =>
    cases e <;> simp only [Oper.upon] at hob ⊢ <;> exact hob.elim
def shareR4 (P : Program) (ops : List Oper) (R : World -> World -> Prop) (I : (Nat -> Bool) -> World -> Prop) (L : List Say) (a : Act) (k : Nat) (o : Oper) (d : List (Nat × Tmp)) : Prop :=
 ∀ (vals : Nat -> Value) (x : World) (f : Nat -> Bool),f k = false -> (∀ j,z1b ops ops.length k j = true -> f j = true) -> (∀ j,z1b ops ops.length j k = true -> f j = false) -> I f x -> z05 L vals x d →
  z03 P R I L vals (z01 vals d a) x f k o o.guard
def sharesR4 (P : Program) (ops : List Oper) (R : Nat -> World -> World -> Prop) (I : (Nat -> Bool) -> World -> Prop) (L : List Say) (a : Act) : Nat -> List Oper -> List (List (Nat × Tmp)) -> Prop
 | _,[],_ => True
 | _,_ :: _,[] => False
 | k,o :: l,d :: ds => shareR4 P ops (R k) I L a k o d /\ sharesR4 P ops R I L a (k + 1) l ds
theorem sharesR4_get {ops : List Oper} {R : Nat -> World -> World -> Prop} {I : (Nat -> Bool) -> World -> Prop} {L : List Say} {a : Act} : ∀ {l : List Oper} {ds : List (List (Nat × Tmp))} {k : Nat},sharesR4 P ops R I L a k l ds →
  ∀ i o,l[i]? = some o -> shareR4 P ops (R (k + i)) I L a (k + i) o (ds.getD i [])
 | [],_,_,_,i,o,h => by simp at h
 | _ :: _,[],_,h,_,_,_ => h.elim
 | o' :: l,d :: ds,k,h,0,o,ho => by
  simp only [List.getElem?_cons_zero,Option.some.injEq] at ho; subst ho; exact h.1
 | o' :: l,d :: ds,k,h,i + 1,o,ho => by
  simp only [List.getElem?_cons_succ] at ho; have:=sharesR4_get h.2 i o ho; rw [show k + (i + 1) = k + 1 + i by omega]
  simpa using this
theorem z0a {id : Nat} {ops : List Oper} {a : Act} {w : World} (D : List (List (Nat × Tmp))) (R0 : World -> World -> Prop) (Rs : List (Nat × (World -> World -> Prop))) (I : (Nat -> Bool) -> World -> Prop) (L : List Say) (all : List (Nat × Tmp)) (hm : P.follows .mixedOrders = true)
  (hB : relOk4 ops (idxs D) a.tmps.size = true) (hD : D.all (fitsD ops) = true)
  (hall : (List.range ops.length).filterMap (fun i => (z0l ops i).map fun t => (i,t)) = all)
  (hRr : ∀ x,R0 x x) (hRs : Refls Rs) (hL : Stabs3 ops R0 Rs 0 L) (hLo : Locals (idxs D) 0 L) (h0 : I (fun _ => false) (w.drewN 1))
  (hs : sharesR4 P ops (relOf R0 Rs) I L a 0 ops D)
  (hfin : ∀ vals x f,(∀ i,i < ops.length -> f i = true) -> I f x -> says L vals x (List.range ops.length) -> Q .normal (z01 vals all a) x) : (Code.region id ops.toArray true).wp P Q a w:=by
 refine wp_region_any hm ?_; have z0 : ∀ j,(Array.replicate ops.toArray.size false).getD j false = false:=fun j => getD_replicate_false _ _
 have hle : ∀ (f : Nat -> Bool) (n : Nat),cnt f n <= n:=fun f n => by
  induction n with
  | zero => exact Nat.le_refl _
  | succ n ih => simp only [cnt]; split <;> omega
 have hrel:=rel4_any (P:=P) (Q:=Q) (ops:=ops) (a:=a) (D:=idxs D) (R:=relOf R0 Rs) (I:=I) (L:=L) (relOf_refl hRr hRs) (fun j k hk hjk hr vs x x' => Stabs3.get hk hL j (by rw [Nat.zero_add]; exact hjk) (by rw [Nat.zero_add]; exact hr) vs x x') hLo hB; refine hrel (fun k o hk => ?_) (fun vals x f hn hI hf => ?_) _ _ _ _ (fun _ => undef) (Nat.le_trans (hle _ _) (by simp)) ?_
 rotate_left
 · rw [puts_all,hall]; exact hfin vals x f hn hI hf
 · exact ⟨by simp,fun j k _ hl => (by rw [z0] at hl; cases hl),rfl,rfl,fun _ _ => rfl,fun j t hj => (by rw [z0] at hj; cases hj),by rw [show (fun i => (Array.replicate ops.toArray.size false).getD i false) = fun _ => false from funext z0]; exact h0,fun j hj => (by rw [z0] at hj; cases hj)⟩
 ·
  have hsh:=sharesR4_get hs k o hk; rw [Nat.zero_add] at hsh; have hfit : fitsD ops (D.getD k []) = true:=by
   rcases Nat.lt_or_ge k D.length with h | h
   · rw [show D.getD k [] = D[k] by simp [h]]; exact List.all_eq_true.1 hD _ (List.getElem_mem h)
   · rw [show D.getD k [] = [] by simp [h]]; rfl
  have hDk : (idxs D).getD k [] = (D.getD k []).map (·.1):=by
   unfold idxs
   rcases Nat.lt_or_ge k D.length with h | h
   · simp [h]
   · simp [h]
  intro vals x f hn hl hl2 hI hf; rw [hDk,says_saysD] at hf; have h:=hsh vals x f hn hl hl2 hI hf; rw [hDk,puts_putsD hfit]; have hun : wpList P #[] (relQ4 (relOf R0 Rs k) I L vals f k o (z01 vals (D.getD k []) a) x) [bare o] (z01 vals (D.getD k []) a) x -> o.wp P (z01 vals (D.getD k []) a) x (relQ4 (relOf R0 Rs k) I L vals f k o (z01 vals (D.getD k []) a) x .normal) (relQ4 (relOf R0 Rs k) I L vals f k o (z01 vals (D.getD k []) a) x):=fun h => by
   rcases wpList_bare h with h | ⟨_,_,h⟩
   · exact h
   · exact h.elim
  generalize o.guard = gd at h ⊢
  cases gd with
  | none => exact ⟨fun _ => hun h,fun g b e => by cases e⟩
  | some p =>
   obtain ⟨g,b⟩:=p; exact ⟨fun e => hun (h.1 (e g b rfl)),fun g' b' e hne => by injection e with e; injection e with e1 e2; subst e1; subst e2; exact h.2 hne⟩
end Go.Proofs.YtemdmlmcidfodaaGreatDoor
namespace Go.Proofs.YtemdmlmcidfodaaGreatDoor
open Go Go.RowKit
theorem z0y {Q : Exit -> Act -> World -> Prop} {ops : Array Oper} {rest : List Oper} {o : Oper} {a : Act} {w : World} {lo : Nat} {A : Option Addr} {c : Nat} {xs ys : List Int} {x : Int} {b : Nat} {t : TypeId} {fr : Nat × Nat} (hgd : o.guard = none) (s y : Operand)
  (ho : o.op = .call { callee:=.builtin .append,args:=#[s,y],argTypes:=#[67,67] }) (hs : a.eval s = .slice A xs.length c) (hy : a.eval y = .slice (some ⟨b,0,none⟩) 1 1)
  (hown : z0u w lo (.slice A xs.length c) xs) (hb : w.heap[b]? = some (.cells #[.int .i64 x] t fr)) (hn : xs.length <= 1048576) (hlo : lo <= w.heap.size) (hys : ys = xs ++ [x])
  (h : ∀ A' c' w',z0u w' lo (.slice A' ys.length c') ys -> w.grownBy w' (Value.slice A xs.length c).ownBlock -> wpList Tryz.prog ops Q rest (a.put o.dst (.slice A' ys.length c')) w') : wpList Tryz.prog ops Q (o :: rest) a w:=by
 obtain ⟨i0,hi0,hz0,hz1,hz2⟩:=info_parts z1x; have hl : ys.length = xs.length + 1:=by rw [hys]; simp
 have hc : ys.map (Value.int .i64) = xs.map (Value.int .i64) ++ [.int .i64 x]:=by rw [hys]; simp
 refine z0w (P:=Tryz.prog) w hgd s y 67 ho lo 110 i0 _ 1 8 Tryz.underlying67 hi0 hz0 hz1 hz2 (by rfl) (by omega) _ xs.length (xs.map (Value.int .i64)) hs hown (some ⟨b,0,none⟩) 1 1 [.int .i64 x] hy (src_block hb rfl) (by intro u hu; simp at hu; subst hu; rfl) ys.length hl.symm (by unfold maxLen; omega) (by omega) hlo (by simp) ?_; intro A' c' w' h2 _ h3; exact h A' c' w' (by unfold z0u; rw [hc]; exact h2) h3
theorem z0u.grown {x x' : World} {base c : Nat} {A : Option Addr} {l : List Int} (h : z0u x base (.slice A l.length c) l) (hg : x.grownBy x' (Value.slice A l.length c).ownBlock) (hb : base <= x.heap.size) {lo : Nat} (hl : lo <= base) : BelS lo x x' /\ Below base x x':=by
 have hB : Below base x x':=(Below.refl base x).grown hg hb fun g hg' => (h.lt g hg').1
 have hk : ∀ (i : Nat) (o : Obj),x.heap[i]? = some o -> (CK o \/ BK o) -> x'.heap[i]? = some o:=fun i o hi hc => by
  refine (hg.block i (Array.getElem?_eq_some_iff.1 hi).1 fun e => ?_).trans hi
  rcases h.2 with ⟨e',_⟩ | ⟨g,cap,cur,e',_,hgg,_⟩
  · rw [e'] at e; cases e
  ·
   rw [e'] at e
   injection e with e
   subst e; rw [hi] at hgg
   injection hgg with hgg
   subst hgg
   rcases hc with hc | hc
   · exact sig_nck.1 hc
   · exact sig_nck.2 hc
 exact ⟨⟨hB.mono hl,fun i o hi hc => hk i o hi (.inl hc),fun i o hi hc => hk i o hi (.inr hc)⟩,hB⟩
theorem BelB.then {lo : Nat} {W x x' : World} (h : BelB lo W x) (hb : Below W.heap.size x x') (hl : lo <= W.heap.size) : BelB lo W x' :=
 ⟨h.bel.trans (hb.mono hl),fun i o hi hc hk => (hb.block i (Array.getElem?_eq_some_iff.1 hi).1).trans (h.kd i o hi hc hk)⟩
def EachI (a0 a1 : Addr) (lo : Nat) (W : World) (q r : Nat) (s s' : BS) (A : Option Addr) (c : Nat) (l : List Int) (called done : Bool) (x : World) : Prop :=
 BelB lo W x /\ Bd a0 a1 lo x q r (if called = true then s' else s) /\ (done = false -> z0u x W.heap.size (.slice A l.length c) l)
theorem EachI.up {a0 a1 : Addr} {lo : Nat} {W : World} {q r : Nat} {s s' : BS} {A : Option Addr} {c : Nat} {l : List Int} {called done : Bool} {x x' : World} (h : EachI a0 a1 lo W q r s s' A c l called done x) (hb : Below x.heap.size x x') : EachI a0 a1 lo W q r s s' A c l called done x' :=
 ⟨h.1.trans (.of hb h.2.1.size),h.2.1.up hb,fun hd => z0e (h.2.2 hd) hb (Nat.le_refl _)⟩
def RetL (a0 a1 : Addr) (lo : Nat) (w : World) (q r : Nat) (res : BS × List Int) (e : Ending) (w' : World) : Prop :=
 ∃ A c,e = .returned (.slice A res.2.length c) /\ res.2.length <= c /\ Lay.int.Pl w' A res.2 /\ (∀ m ∈ res.2,MB m) /\ BelB lo w w' /\ Bd a0 a1 lo w' q r res.1
theorem mux_mb {c x y : Int} {s : BS} (h : NB s.n) (hc : RB c) (hx : RB x) (hy : RB y) : NB (run opsP (muxP c x y) s).1.n /\ MB (run opsP (muxP c x y) s).2:=by
 have h1:=z1e (x:=c) (y:=x) h hc hx; have h2:=z1e (x:=-c) (y:=y) h1.1 hc.neg hy; have h3:=z1e (x:=-(opsP.and s c x).2) (y:=-(opsP.and (opsP.and s c x).1 (-c) y).2) h2.1 h1.2.rb.neg h2.2.rb.neg; exact ⟨h3.1,h3.2.neg⟩
def Stay (Q : World -> Nat -> Prop) : Prop:=∀ w w' b,w'.heap[b]? = w.heap[b]? -> Q w b -> Q w' b
theorem Stay.any : Stay (fun _ _ => True):=fun _ _ _ _ _ => trivial
theorem Stay.own (lo : Nat) : Stay (fun w b => lo <= b /\ ∀ o,w.frozen? ⟨b,o,none⟩ = false):=fun w w' b h hq => ⟨hq.1,fun o => by
 rw [<- hq.2 o]; exact World.frozen?_of_block (a:=⟨b,o,none⟩) h⟩
def OwnL {α : Type} (L : Lay α) (Q : World -> Nat -> Prop) (e : TypeId) (w : World) (lo : Nat) (v : Value) (xs : List α) : Prop :=
 ∃ cs,w.ownsRow lo e L.size v xs.length cs /\ ∀ i x,xs[i]? = some x -> ∃ vs,L.R w (fun b => b < w.heap.size /\ v.ownBlock ≠ some b /\ Q w b) x vs /\ ∀ j u,vs[j]? = some u -> cs[i * L.size + j]? = some u
section
variable {α : Type} {L : Lay α} {Q : World -> Nat -> Prop} {e : TypeId} {lo : Nat} {w : World} {v : Value} {xs : List α}
theorem OwnL.nil (L : Lay α) (Q : World -> Nat -> Prop) (e : TypeId) (w : World) (lo : Nat) : OwnL L Q e w lo (.slice none 0 0) []:=⟨[],World.ownsRow_nil _ _ _ _,fun i x h => by simp at h⟩
theorem OwnL.keep {w' : World} (h : OwnL L Q e w lo v xs) (hQ : Stay Q) (hg : w.grownBy w' none) : OwnL L Q e w' lo v xs:=by
 obtain ⟨cs,h1,h2⟩:=h; refine ⟨cs,rows_kept h1 hg (by simp),fun i x hx => ?_⟩; obtain ⟨vs,hr,hu⟩:=h2 i x hx; refine ⟨vs,L.mono (fun b hb => ?_) (L.keep (fun b hb => hg.block b hb.1 (by simp)) hr),hu⟩; exact ⟨Nat.lt_of_lt_of_le hb.1 hg.size,hb.2.1,hQ _ _ _ (hg.block b hb.1 (by simp)) hb.2.2⟩
theorem grown_of_below {a b : World} {row : Option Nat} (h : Below a.heap.size a b) : a.grownBy b row:=⟨h.os,h.tape,h.output,h.size,fun i hi _ => h.block i hi⟩
theorem OwnL.up {w' : World} (h : OwnL L Q e w lo v xs) (hQ : Stay Q) (hb : Below w.heap.size w w') : OwnL L Q e w' lo v xs:=h.keep hQ (grown_of_below hb)
theorem OwnL.form (h : OwnL L Q e w lo v xs) : ∃ A c,v = .slice A xs.length c /\ xs.length <= c:=by
 obtain ⟨cs,h1,h2⟩:=h
 rcases h1.2 with ⟨e1,e2⟩ | ⟨g,cap,cur,e1,_,_,h3,_⟩
 · exact ⟨none,0,by rw [e1,e2],by omega⟩
 · exact ⟨_,cap,e1,h3⟩
theorem OwnL.cap {A : Option Addr} {n c : Nat} (h : OwnL L Q e w lo (.slice A n c) xs) : n = xs.length /\ xs.length <= c:=by
 obtain ⟨A',c',e1,h1⟩:=h.form
 injection e1 with e1 e2 e3
 exact ⟨e2,by omega⟩
theorem OwnL.sl {A : Option Addr} {c : Nat} (h : OwnL L Q e w lo (.slice A xs.length c) xs) : L.Sl w (fun b => b < w.heap.size /\ (lo <= b /\ (∀ o,w.frozen? ⟨b,o,.none⟩ = false) \/ Q w b)) A xs:=by
 obtain ⟨cs,h1,h2⟩:=h; intro h0
 rcases h1.2 with ⟨e1,e2⟩ | ⟨g,cap,cur,e1,hg,_⟩
 · omega
 ·
  injection e1 with e1 e2 e3
  subst e1; refine ⟨_,rfl,⟨(h1.lt g rfl).2,.inl ⟨hg,fun o => h1.frozenAt o⟩⟩,fun k x hx => ?_⟩; obtain ⟨vs,hr,hu⟩:=h2 k x hx; exact ⟨vs,L.mono (fun b hb => ⟨hb.1,.inr hb.2.2⟩) hr,fun j u hj => h1.cells (g:=g) rfl _ _ (hu j u hj)⟩
theorem OwnL.rd {A : Option Addr} {c : Nat} (h : OwnL L Q e w lo (.slice A xs.length c) xs) : L.Rd w A xs:=h.sl.mono fun _ h => h.1
theorem OwnL.own {A : Option Addr} {c : Nat} (h : OwnL L (fun w b => lo <= b /\ ∀ o,w.frozen? ⟨b,o,none⟩ = false) e w lo (.slice A xs.length c) xs) : L.Sl w (Own lo w) A xs :=
 h.sl.mono fun _ h => ⟨h.2.elim (fun h => h.1) (fun h => h.1),h.1,h.2.elim (fun h => h.2) (fun h => h.2)⟩
theorem OwnL.at {A : Option Addr} {c : Nat} (h : OwnL L Q e w lo (.slice A xs.length c) xs) {k : Nat} (hk : k < xs.length) : ∃ ad,A = some ad /\ ad.block < w.heap.size:=by
 obtain ⟨ad,e1,hf,_⟩:=h.rd (by omega); exact ⟨ad,e1,hf⟩
end
theorem OwnL.lt {α : Type} {L : Lay α} {Q : World -> Nat -> Prop} {e : TypeId} {w : World} {lo : Nat} {v : Value} {xs : List α} (h : OwnL L Q e w lo v xs) : ∀ g,v.ownBlock = some g -> lo <= g /\ g < w.heap.size:=by
 obtain ⟨cs,h1,_⟩:=h; exact fun g hg => h1.lt g hg
end Go.Proofs.YtemdmlmcidfodaaGreatDoor
namespace Go.Proofs.YtemdmlmcidfodaaGreatDoor
open Go Go.RowKit
theorem z1d {w w' : World} {base : Nat} {e : TypeId} {size n : Nat} {v : Value} {xs : List Value} (h : w.ownsRow base e size v n xs) (hk : ∀ g,v.ownBlock = some g -> w'.heap[g]? = w.heap[g]?) : w'.ownsRow base e size v n xs:=by
 refine ⟨h.1,?_⟩
 rcases h.2 with hn | ⟨g,cap,cur,rfl,hb,hgg,rest⟩
 · exact .inl hn
 · exact .inr ⟨g,cap,cur,rfl,hb,(hk g rfl).trans hgg,rest⟩
structure Gr (S : Nat -> Prop) (w w' : World) : Prop where
 os : w'.os = w.os
 tape : w'.tape = w.tape
 output : w'.output = w.output
 size : w.heap.size <= w'.heap.size
 block : ∀ i,i < w.heap.size -> ¬ S i -> w'.heap[i]? = w.heap[i]?
theorem Gr.refl (S : Nat -> Prop) (w : World) : Gr S w w:=⟨rfl,rfl,rfl,Nat.le_refl _,fun _ _ _ => rfl⟩
theorem Gr.trans {S : Nat -> Prop} {a b c : World} (h : Gr S a b) (k : Gr S b c) : Gr S a c :=
 ⟨k.os.trans h.os,k.tape.trans h.tape,k.output.trans h.output,Nat.le_trans h.size k.size,fun i hi hn => (k.block i (Nat.lt_of_lt_of_le hi h.size) hn).trans (h.block i hi hn)⟩
theorem Gr.mono {S T : Nat -> Prop} {a b : World} (h : Gr S a b) (hST : ∀ x,S x -> T x) : Gr T a b:=⟨h.os,h.tape,h.output,h.size,fun i hi hn => h.block i hi (fun e => hn (hST i e))⟩
theorem Gr.below {S : Nat -> Prop} {w w' : World} (h : Below w.heap.size w w') : Gr S w w':=⟨h.os,h.tape,h.output,h.size,fun i hi _ => h.block i hi⟩
theorem Gr.up {S : Nat -> Prop} {a w w' : World} (h : Gr S a w) (hb : Below w.heap.size w w') : Gr S a w':=h.trans (.below hb)
theorem Gr.one {S : Nat -> Prop} {w w' : World} {g : Nat} (h : w.grownBy w' (some g)) (hg : S g) : Gr S w w':=⟨h.os,h.tape,h.output,h.size,fun i hi hn => h.block i hi (fun e => by injection e with e; exact hn (e ▸ hg))⟩
theorem Gr.set {S : Nat -> Prop} {a w : World} (h : Gr S a w) (g o : Nat) (u : Value) (hg : S g \/ a.heap.size <= g) : Gr S a (w.setCell ⟨g,o,none⟩ u) :=
 ⟨h.os,h.tape,h.output,by rw [size_setCell]; exact h.size,fun i hi hn => (Below.heap_setCell w ⟨g,o,none⟩ u i (fun e => hg.elim (fun h9 => hn (by rw [e]; exact h9)) (fun h9 => by rw [e] at hi; exact absurd hi (by show ¬ g < _; omega)))).trans (h.block i hi hn)⟩
theorem Gr.own {S : Nat -> Prop} {a w w' : World} {row : Option Nat} (h : Gr S a w) (k : w.grownBy w' row) (hr : ∀ g,row = some g -> a.heap.size <= g) : Gr S a w' :=
 ⟨k.os.trans h.os,k.tape.trans h.tape,k.output.trans h.output,Nat.le_trans h.size k.size,fun i hi hn => (k.block i (Nat.lt_of_lt_of_le hi h.size) (fun e => by have:=hr i e.symm; omega)).trans (h.block i hi hn)⟩
theorem Gr.then {S T : Nat -> Prop} {a b c : World} (h : Gr S a b) (k : Gr T b c) (hT : ∀ x,T x -> S x \/ a.heap.size <= x) : Gr S a c :=
 ⟨k.os.trans h.os,k.tape.trans h.tape,k.output.trans h.output,Nat.le_trans h.size k.size,fun i hi hn => (k.block i (Nat.lt_of_lt_of_le hi h.size) (fun e => (hT i e).elim hn (fun h9 => by omega))).trans (h.block i hi hn)⟩
theorem Gr.to_below {S : Nat -> Prop} {a b : World} (h : Gr S a b) (hS : ∀ x,S x -> a.heap.size <= x) : Below a.heap.size a b:=⟨h.os,h.tape,h.output,h.size,fun i hi => h.block i hi (fun e => by have:=hS i e; omega)⟩
theorem Gr.heap {S : Nat -> Prop} {w w' : World} {g : Nat} {o : Obj} (h : Gr S w w') (hg : ¬ S g) (hb : w.heap[g]? = some o) : w'.heap[g]? = some o:=(h.block g (Array.getElem?_eq_some_iff.1 hb).1 hg).trans hb
theorem Rdr.gr {S : Nat -> Prop} {w w' : World} {r : Nat} {p : Int} (h : Rdr w r p) (k : Gr S w w') (hS : ∀ x,S x -> r < x) : Rdr w' r p :=
 h.keep fun b hb => k.block b (Nat.lt_of_le_of_lt hb h.lt) (fun e => by have:=hS b e; omega)
theorem Rdr.own {w w' : World} {r : Nat} {p : Int} {row : Option Nat} (h : Rdr w r p) (k : w.grownBy w' row) (hr : ∀ g,row = some g -> r < g) : Rdr w' r p :=
 h.keep fun b hb => k.block b (Nat.lt_of_le_of_lt hb h.lt) (fun e => by have:=hr b e.symm; omega)
theorem Rdr.set {w : World} {r g o : Nat} {p : Int} {u : Value} (h : Rdr w r p) (hg : r < g) : Rdr (w.setCell ⟨g,o,none⟩ u) r p :=
 h.keep fun b hb => Below.heap_setCell w ⟨g,o,none⟩ u b (fun e => by have : b = g:=e; omega)
def Ab (S : Nat -> Prop) (w : World) (b : Nat) : Prop:=b < w.heap.size /\ ¬ S b
theorem Lay.Sl.gr {α : Type} {L : Lay α} {w w' : World} {S : Nat -> Prop} {A : Option Addr} {xs : List α} (h : L.Sl w (Ab S w) A xs) (hg : Gr S w w') : L.Sl w' (Ab S w') A xs :=
 (h.keep fun b hb => hg.block b hb.1 hb.2).mono fun b hb => ⟨Nat.lt_of_lt_of_le hb.1 hg.size,hb.2⟩
theorem Lay.Sl.ab_rd {α : Type} {L : Lay α} {w : World} {S : Nat -> Prop} {A : Option Addr} {xs : List α} (h : L.Sl w (Ab S w) A xs) : L.Rd w A xs:=h.mono fun _ h => h.1
theorem Lay.Sl.ab_mono {α : Type} {L : Lay α} {w : World} {S T : Nat -> Prop} {A : Option Addr} {xs : List α} (h : L.Sl w (Ab S w) A xs) (hT : ∀ b,b < w.heap.size -> T b -> S b) : L.Sl w (Ab T w) A xs:=h.mono fun b h => ⟨h.1,fun e => h.2 (hT b h.1 e)⟩
abbrev NotIn (S : Nat -> Prop) : World -> Nat -> Prop:=fun _ b => ¬ S b
theorem OwnL.gr {α : Type} {L : Lay α} {e : TypeId} {w w' : World} {lo : Nat} {S : Nat -> Prop} {v : Value} {xs : List α} (h : OwnL L (NotIn S) e w lo v xs) (hg : Gr S w w') (hr : ∀ b,S b -> b < lo) : OwnL L (NotIn S) e w' lo v xs:=by
 obtain ⟨cs,h1,h2⟩:=h; refine ⟨cs,z1d h1 fun g hg' => hg.block g (h1.lt g hg').2 (fun e => by have:=hr g e; have:=(h1.lt g hg').1; omega),fun i x hx => ?_⟩; obtain ⟨vs,hr,hu⟩:=h2 i x hx; exact ⟨vs,L.mono (fun b hb => ⟨Nat.lt_of_lt_of_le hb.1 hg.size,hb.2.1,hb.2.2⟩) (L.keep (fun b hb => hg.block b hb.1 hb.2.2) hr),hu⟩
theorem OwnL.ab {α : Type} {L : Lay α} {e : TypeId} {w : World} {lo : Nat} {S : Nat -> Prop} {A : Option Addr} {c : Nat} {xs : List α} (h : OwnL L (NotIn S) e w lo (.slice A xs.length c) xs) (hr : ∀ b,S b -> b < lo) : L.Sl w (Ab S w) A xs :=
 h.sl.mono fun b hb => ⟨hb.1,hb.2.elim (fun h e => by have:=hr b e; have:=h.1; omega) id⟩
def Drawn (r : Nat) (p N : Int) (w w' : World) : Prop:=∃ p',p <= p' /\ p' <= p + N /\ Rdr w' r p' /\ Gr (fun b => b = r) w w'
theorem num_any (r : Nat) (p : Int) (B : Option Addr) (d : Nat) (xs : List Int) (w : World) (h : Rdr w r p) (hs : Lay.int.Sl w (Ab (fun b => b = r) w) B xs) (h0 : 0 < xs.length) (hn : xs.length <= 1048576) (p0 : 0 <= p) (p1 : p <= 1000000000) :
  Calls Tryz.prog 47 #[.pointer (some ⟨r,0,none⟩),.slice B xs.length d] w fun e w' => ∃ x ∈ xs,e = .returned (.int .i64 x) /\ Rdr w' r (p + 1) /\ Gr (fun b => b = r) w w':=by
 go_enter Tryz.func47,Tryz.ntmps47
 go_wp2_with fail
 refine (z17 r p xs.length w h p0 p1 (by omega) (by omega)).mono ?_; rintro e w' ⟨k,rfl,k0,k1,_,hR,hg⟩; have hk:=k1 (by omega); have hg:=Gr.one (S:=fun b => b = r) hg rfl; obtain ⟨n,rfl⟩:=Int.eq_ofNat_of_zero_le k0; have hnl : n < xs.length:=by omega
 obtain ⟨ad,rfl,_,hc⟩:=(hs.gr hg).at_int hnl; have hm : xs[n] ∈ xs:=List.getElem_mem hnl; generalize xs[n] = x at *; have HR:=zH (And.intro hm (And.intro hR hg)); clear hR hg hm k1 hs h
 go_wp2
 go_ret
 exact ⟨x,HR.out.1,rfl,HR.out.2⟩
abbrev IsR (r : Nat) : Nat -> Prop:=fun b => b = r
theorem sl_none {α : Type} {L : Lay α} {w : World} {F : Nat -> Prop} {A : Option Addr} {xs : List α} (h : L.Sl w F A xs) : A = none -> xs.length = 0:=fun e => by
 rcases Nat.eq_zero_or_pos xs.length with h0 | h0
 · exact h0
 · obtain ⟨ad,e',_⟩:=h h0; rw [e] at e'; cases e'
theorem z0p (w : World) (o o' : Obj) : Below w.heap.size w ((w.alloc o).alloc o') /\ ((w.alloc o).alloc o').heap[w.heap.size]? = some o /\ ((w.alloc o).alloc o').heap[w.heap.size + 1]? = some o' /\ ((w.alloc o).alloc o').heap.size = w.heap.size + 1 + 1:=by
 have h1:=heap_alloc_new w o; have h2:=heap_alloc_new (w.alloc o) o'; exact ⟨((Below.refl _ _).alloc (Nat.le_refl _) _).alloc (by simp) _,(((Below.refl _ _).alloc (Nat.le_refl _) _).block _ (by simp)).trans h1,by simpa using h2,by simp⟩
theorem mem_lit {xs : List Int} {x : Int} (h : x ∈ xs) (hx : ∀ y ∈ xs,z15 y) : z15 x:=hx x h
theorem lit_sl {S : Nat -> Prop} (w : World) (xs : List Int) (cs : Array Value) (t : TypeId) (hc : cs = (xs.map (Value.int .i64)).toArray) (hS : ¬ S w.heap.size) : Lay.int.Sl (w.alloc (.cells cs t)) (Ab S (w.alloc (.cells cs t))) (some ⟨w.heap.size,0,none⟩) xs:=by
 intro _; refine ⟨_,rfl,⟨by simp,hS⟩,fun k x hx => ⟨[.int .i64 x],rfl,fun j u hu => ?_⟩⟩
 rcases j with _ | j
 ·
  injection hu with hu
  subst hu; have hb:=(z00 (heap_alloc_new w (.cells cs t)) k).1; have ha : (⟨w.heap.size,0,none⟩ : Addr).add (k * Lay.int.size + 0) = ⟨w.heap.size,k,none⟩:=by
   show (⟨w.heap.size,0,none⟩ : Addr).add (k * 1 + 0) = _
   rw [Nat.mul_one,Nat.add_zero]; unfold Addr.add; split
   · rename_i h; rw [h]
   · simp
  rw [ha,hb,hc]; simp [hx]
 · simp at hu
def RG (T : Nat -> Prop) (sts : List (Nat × Obj × Obj)) (x x' : World) : Prop:=Gr T x x' /\ ∀ s ∈ sts,x.heap[s.1]? = some s.2.2 -> x'.heap[s.1]? = some s.2.2
def IG (T : Nat -> Prop) (r : Nat) (q0 N : Int) (w : World) (sts : List (Nat × Obj × Obj)) (n : Nat) (x : World) : Prop :=
 Gr T w x /\ (∃ q,Rdr x r q /\ q0 <= q /\ q <= q0 + N * n) /\ ∀ s ∈ sts,x.heap[s.1]? = some s.2.1 \/ x.heap[s.1]? = some s.2.2
theorem ig_step {T : Nat -> Prop} {r : Nat} {q0 N : Int} {w : World} {sts : List (Nat × Obj × Obj)} {n : Nat} {x : World} (h : IG T r q0 N w sts n x) (hN : 0 <= N) : IG T r q0 N w sts (n + 1) x:=by
 obtain ⟨h1,⟨q,h2,h3,h4⟩,h5⟩:=h; refine ⟨h1,⟨q,h2,h3,?_⟩,h5⟩
 push_cast
 rw [Int.mul_add,Int.mul_one]
 omega
theorem ig_start {T : Nat -> Prop} {r : Nat} {q0 N : Int} {w : World} {sts : List (Nat × Obj × Obj)} (h : Rdr w r q0) (hs : ∀ s ∈ sts,w.heap[s.1]? = some s.2.1) : IG T r q0 N w sts 0 (w.drewN 1) :=
 ⟨.below (z02 (Below.refl _ _) 1),⟨q0,h.up (z02 (Below.refl _ _) 1),by omega,by simp⟩,fun s h => .inl (hs s h)⟩
theorem ig_draw {T : Nat -> Prop} {r : Nat} {q0 N M q : Int} {w : World} {sts : List (Nat × Obj × Obj)} {n : Nat} {x x' : World} (h : IG T r q0 N w sts n x) (hd : Drawn r q M x x') (hq0 : q0 <= q) (hq : q <= q0 + N * n) (hM : M <= N) (hT : T r) (hs : ∀ s ∈ sts,s.1 ≠ r) :
  IG T r q0 N w sts (n + 1) x' /\ RG T sts x x':=by
 obtain ⟨h1,_,h5⟩:=h; obtain ⟨q',d1,d2,d3,d4⟩:=hd; have hg : Gr T x x':=d4.mono fun b hb => by rw [hb]; exact hT
 have hh : ∀ s ∈ sts,∀ o,x.heap[s.1]? = some o -> x'.heap[s.1]? = some o:=fun s h o => d4.heap (hs s h)
 refine ⟨⟨h1.trans hg,⟨q',d3,by omega,?_⟩,fun s hm => (h5 s hm).imp (hh s hm _) (hh s hm _)⟩,hg,fun s hm => hh s hm _⟩
 push_cast
 rw [Int.mul_add,Int.mul_one]
 omega
theorem Rdr.far {w w' : World} {r b : Nat} {p : Int} (h : Rdr w r p) (hg : Gr (fun y => y = b) w w') (hbr : b ≠ r) (hk : ∃ cs t fr,w.heap[b]? = some (.cells cs t fr) /\ ∀ u ∈ cs.toList,∀ z,u ≠ .int .u8 z) : Rdr w' r p:=by
 obtain ⟨A,c,bs,hb,hl,hs⟩:=h; obtain ⟨cs,t,fr,hkb,hku⟩:=hk; refine ⟨A,c,bs,hg.heap (fun e => hbr e.symm) hb,hl,fun hn => ?_⟩; obtain ⟨ad,e,hf,hc⟩:=hs hn; have hne : ad.block ≠ b:=fun e9 => by
  obtain ⟨vs,hr,hcell⟩:=hc 0 bs[0] (List.getElem?_eq_getElem hn); have h0:=hcell 0 (.int .u8 (bs[0].toNat : Int)) (by rw [hr]; rfl); unfold World.cell? at h0; rw [z12,e9,hkb] at h0; dsimp only at h0
  split at h0
  · cases h0
  · exact hku _ (by rw [Array.mem_toList_iff]; exact Array.mem_of_getElem? h0) _ rfl
 refine ⟨ad,e,hf,fun k x hx => ?_⟩; obtain ⟨vs,hr,hcell⟩:=hc k x hx; refine ⟨vs,hr,fun j u hu => ?_⟩; have h9:=hcell j u hu; exact (World.cell?_of_block (hg.block _ (by have:=World.block_lt_of_cell? w _ h9; exact this) (by rw [z12]; exact hne))).trans h9
end Go.Proofs.YtemdmlmcidfodaaGreatDoor
