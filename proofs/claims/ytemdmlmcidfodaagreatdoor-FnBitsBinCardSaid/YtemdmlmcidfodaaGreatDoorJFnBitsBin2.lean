/- Contracts of the reference's reader of codes: l12Open, pick. -/
import Derived.StillTail
import Derived.Test.YtemdmlmcidfodaaGreatDoorJFnBitsBin0
import Derived.Test.YtemdmlmcidfodaaGreatDoorJFnBitsBin1
namespace Go.Proofs.YtemdmlmcidfodaaGreatDoor
open Go Go.RowKit
structure Fact where
 V : Value -> World -> Prop
 stab : ∀ v w w',V v w -> Below w.heap.size w w' -> V v w'
 flat : Bool
 hflat : flat = true -> ∀ v w w',V v w -> V v w'
def Fact.any : Fact:=⟨fun _ _ => True,fun _ _ _ _ _ => trivial,true,fun _ _ _ _ _ => trivial⟩
def Fact.eq (u : Value) : Fact:=⟨fun v _ => v = u,fun _ _ _ h _ => h,true,fun _ _ _ _ h => h⟩
def Fact.of (V : Value -> World -> Prop) (h : ∀ v w w',V v w -> Below w.heap.size w w' -> V v w') : Fact:=⟨V,h,false,fun h => by cases h⟩
def z0l (ops : List Oper) (i : Nat) : Option Tmp:=(ops[i]?).bind Oper.dst
def puts (ops : List Oper) (vals : Nat -> Value) : List Nat -> Act -> Act
 | [],a => a
 | i :: l,a => puts ops vals l (a.put (z0l ops i) (vals i))
def facts (L : List Fact) (vals : Nat -> Value) (x : World) : List Nat -> Prop
 | [] => True
 | i :: l => (L.getD i .any).V (vals i) x /\ facts L vals x l
def got (o : Oper) (a : Act) : Value:=match o.dst with | some d => a.tmps.getD d undef | none => undef
def softQ (L : List Fact) (hard wild : List Nat) (B : Nat) (k : Nat) (o : Oper) (a : Act) (x : World) : Exit -> Act -> World -> Prop
 | .normal,a',x' => a'.defers = a.defers /\ (L.getD k .any).V (got o a') x' /\ (k ∈ hard \/ Below x.heap.size x x') /\ (k ∈ wild \/ k ∉ hard \/ Below B x x')
 | _,_,_ => False
def waits (ops : List Oper) (k j : Nat) : Bool:=match ops[k]? with | some o => o.after.any fun e => Region.binds .any e && e.on == j | none => false
def z1b (ops : List Oper) : Nat -> Nat -> Nat -> Bool
 | 0,k,j => waits ops k j
 | n + 1,k,j => waits ops k j || (List.range ops.length).any fun m => waits ops k m && z1b ops n m j
def looks (ops : List Oper) (k j : Nat) : Bool:=match ops[k]?,z0l ops j with | some o,some d => (o.op.operands.toList.filterMap fun | .tmp t => some t | _ => none).contains d | _,_ => false
def softOk (ops : List Oper) (D : List (List Nat)) (L : List Fact) (hard wild plain keep : List Nat) (size : Nat) : Bool :=
 (keep.all fun j => decide (j < ops.length)) && (List.range ops.length).all fun k =>
  (match ops[k]? with
   | some o => o.guard.isNone && (match o.op with | .select .. => false | _ => true) && (o.after.all fun e => !Region.binds .any e || decide (e.on < k)) && (match o.dst with | some d => decide (d < size) | none => true)
   | none => false) &&
  ((D.getD k []).all fun j => waits ops k j && decide (j < ops.length)) &&
  (decide ((D.getD k []).Nodup)) &&
  (List.range ops.length).all fun j =>
   (!looks ops k j || (D.getD k []).contains j) &&
   (decide (j = k) || (match z0l ops j,z0l ops k with | some d,some e => d != e | _,_ => true)) &&
   (decide (j = k) ||
    ((!hard.contains k || z1b ops ops.length j k || (!(keep.contains j || (List.range ops.length).any fun r => (D.getD r []).contains j && r != k && !z1b ops ops.length k r) || (L.getD j .any).flat)) &&
     (!wild.contains k || z1b ops ops.length k j || plain.contains j)))
variable {P : Program} {Q : Exit -> Act -> World -> Prop}
def oblig (P : Program) (ops : List Oper) (D : List (List Nat)) (L : List Fact) (hard wild plain : List Nat) (a : Act) (w : World) (k : Nat) (o : Oper) : Prop :=
 ∀ (vals : Nat -> Value) (x : World),(k ∈ plain \/ Below w.heap.size w x) -> facts L vals x (D.getD k []) →
  o.wp P (puts ops vals (D.getD k []) a) x (softQ L hard wild w.heap.size k o (puts ops vals (D.getD k []) a) x .normal) (softQ L hard wild w.heap.size k o (puts ops vals (D.getD k []) a) x)
theorem facts_iff {L : List Fact} {vals : Nat -> Value} {x : World} : ∀ {l : List Nat},facts L vals x l ↔ ∀ i ∈ l,(L.getD i .any).V (vals i) x
 | [] => by simp [facts]
 | i :: l => by simp [facts,facts_iff (l:=l)]
theorem put_size (a : Act) (d : Option Tmp) (v : Value) : (a.put d v).tmps.size = a.tmps.size:=by cases d <;> simp [Act.put]
theorem z23 (a : Act) (d : Option Tmp) (v : Value) : (a.put d v).defers = a.defers:=by cases d <;> rfl
theorem z22 (a : Act) (d : Option Tmp) (v : Value) (t : Nat) (h : d ≠ some t) : (a.put d v).tmps[t]? = a.tmps[t]?:=by
 cases d with
 | none => rfl
 | some d => simp only [Act.put]; exact Array.getElem?_setIfInBounds_ne (fun e => h (congrArg some e))
theorem put_get (a : Act) (v : Value) (t : Nat) (h : t < a.tmps.size) : (a.put (some t) v).tmps[t]? = some v:=by
 simp [Act.put,h]
theorem puts_size {ops : List Oper} {vals : Nat -> Value} : ∀ (l : List Nat) (a : Act),(puts ops vals l a).tmps.size = a.tmps.size
 | [],_ => rfl
 | i :: l,a => by rw [puts,puts_size l,put_size]
theorem z1n {ops : List Oper} {vals : Nat -> Value} : ∀ (l : List Nat) (a : Act),(puts ops vals l a).defers = a.defers
 | [],_ => rfl
 | i :: l,a => by rw [puts,z1n l,z23]
theorem puts_ne {ops : List Oper} {vals : Nat -> Value} {t : Nat} : ∀ (l : List Nat) (a : Act),(∀ i ∈ l,z0l ops i ≠ some t) -> (puts ops vals l a).tmps[t]? = a.tmps[t]?
 | [],_,_ => rfl
 | i :: l,a,h => by rw [puts,puts_ne l _ (fun j hj => h j (by simp [hj])),z22 _ _ _ _ (h i (by simp))]
theorem puts_get {ops : List Oper} {vals : Nat -> Value} {t : Nat} (hd : ∀ i j,z0l ops i = some t -> z0l ops j = some t -> i = j) :
  ∀ (l : List Nat) (a : Act) (i : Nat),i ∈ l -> z0l ops i = some t -> t < a.tmps.size -> (puts ops vals l a).tmps[t]? = some (vals i)
 | [],_,_,h,_,_ => by cases h
 | j :: l,a,i,h,hi,ht => by
  rw [puts]
  by_cases hl : i ∈ l
  · exact puts_get hd l _ i hl hi (by rw [put_size]; exact ht)
  ·
   have hij : i = j:=by simpa [hl] using h
   subst hij; rw [puts_ne l _ (fun m hm e => hl (hd i m hi e ▸ hm)),hi,put_get _ _ _ ht]
structure SoftInv (ops : List Oper) (D : List (List Nat)) (L : List Fact) (plain keep : List Nat) (a : Act) (w : World) (listed : Array Bool) (a' : Act) (x : World) (vals : Nat -> Value) : Prop where
 size : listed.size = ops.length
 closed : ∀ j k,waits ops k j = true -> listed.getD k false = true -> listed.getD j false = true
 tsize : a'.tmps.size = a.tmps.size
 defers : a'.defers = a.defers
 old : ∀ t,(∀ j,listed.getD j false = true -> z0l ops j ≠ some t) -> a'.tmps[t]? = a.tmps[t]?
 new : ∀ j t,listed.getD j false = true -> z0l ops j = some t -> a'.tmps[t]? = some (vals j)
 cond : (∃ r,r < ops.length /\ listed.getD r false = false /\ r ∉ plain) -> Below w.heap.size w x
 fact : ∀ j,listed.getD j false = true -> (j ∈ keep \/ ∃ r,r < ops.length /\ listed.getD r false = false /\ j ∈ D.getD r []) -> (L.getD j .any).V (vals j) x
def cnt (f : Nat -> Bool) : Nat -> Nat
 | 0 => 0
 | n + 1 => cnt f n + (if f n then 0 else 1)
theorem cnt_zero {f : Nat -> Bool} : ∀ {n : Nat},cnt f n = 0 -> ∀ i,i < n -> f i = true
 | 0,_,i,hi => absurd hi (by omega)
 | n + 1,h,i,hi => by
  simp only [cnt] at h
  rcases Nat.lt_or_ge i n with h' | h'
  · exact cnt_zero (by omega) i h'
  ·
   have : i = n:=by omega
   subst this
   cases hf : f i with
   | true => rfl
   | false => simp [hf] at h
theorem cnt_set {f g : Nat -> Bool} {k : Nat} (hf : f k = false) (hg : ∀ i,g i = if i = k then true else f i) : ∀ {n : Nat},(n <= k -> cnt g n = cnt f n) /\ (k < n -> cnt g n + 1 = cnt f n)
 | 0 => ⟨fun _ => rfl,fun h => absurd h (by omega)⟩
 | n + 1 => by
  obtain ⟨h1,h2⟩:=cnt_set hf hg (n:=n); refine ⟨fun h => ?_,fun h => ?_⟩
  ·
   have hn : g n = f n:=by rw [hg n]; exact if_neg (by omega)
   simp only [cnt]; rw [h1 (by omega),hn]
  ·
   simp only [cnt]
   rcases Nat.lt_or_ge k n with h' | h'
   ·
    have:=h2 h'; have hn : g n = f n:=by rw [hg n]; exact if_neg (by omega)
    rw [hn]; omega
   ·
    have : k = n:=by omega
    subst this; have hn : g k = true:=by rw [hg k]; exact if_pos rfl
    rw [h1 (Nat.le_refl _),hn,hf]; simp
theorem getD_set {listed : Array Bool} {k : Nat} (hk : k < listed.size) (i : Nat) : (listed.setIfInBounds k true).getD i false = if i = k then true else listed.getD i false:=by
 by_cases h : i = k
 · subst h; simp [hk]
 · rw [if_neg h]; exact getD_set_ne false (fun e => h e.symm)
theorem waits_spec {ops : List Oper} {k j : Nat} : waits ops k j = true ↔ ∃ o,ops[k]? = some o /\ ∃ e ∈ o.after,Region.binds .any e = true /\ e.on = j:=by
 unfold waits
 cases h : ops[k]? with
 | none => simp
 | some o =>
  simp only [Option.some.injEq,exists_eq_left']; rw [Array.any_eq_true']; simp only [Bool.and_eq_true,beq_iff_eq]
theorem z0r {ops : List Oper} {listed : Array Bool} (hc : ∀ j k,waits ops k j = true -> listed.getD k false = true -> listed.getD j false = true) :
  ∀ (n k j : Nat),(∀ m,waits ops k m = true -> listed.getD m false = true) -> z1b ops n k j = true -> listed.getD j false = true
 | 0,k,j,hk,h => hk j h
 | n + 1,k,j,hk,h => by
  simp only [z1b,Bool.or_eq_true,List.any_eq_true,Bool.and_eq_true] at h
  rcases h with h | ⟨m,_,hm,hr⟩
  · exact hk j h
  · exact z0r hc n m j (fun m' hm' => hc m' m hm' (hk m hm)) hr
theorem softOk_spec {ops : List Oper} {D : List (List Nat)} {L : List Fact} {hard wild plain keep : List Nat} {size : Nat} (h : softOk ops D L hard wild plain keep size = true) (k : Nat) (o : Oper) (hk : ops[k]? = some o) :
  o.guard = none /\ (∀ cs b,o.op ≠ .select cs b) /\ (∀ e ∈ o.after,Region.binds .any e = true -> e.on < k) /\ (∀ d,o.dst = some d -> d < size) ∧
  (∀ j ∈ D.getD k [],waits ops k j = true /\ j < ops.length) /\ (∀ j,j < ops.length -> looks ops k j = true -> j ∈ D.getD k []) ∧
  (∀ j d,j < ops.length -> z0l ops j = some d -> o.dst = some d -> j = k) ∧
  (∀ j,j < ops.length -> j ≠ k -> (k ∈ hard -> z1b ops ops.length j k = false -> (j ∈ keep \/ ∃ r,r < ops.length /\ j ∈ D.getD r [] /\ r ≠ k /\ z1b ops ops.length k r = false) -> (L.getD j .any).flat = true) /\ (k ∈ wild -> z1b ops ops.length k j = false -> j ∈ plain)):=by
 have hlt : k < ops.length:=(List.getElem?_eq_some_iff.1 hk).1; unfold softOk at h; rw [Bool.and_eq_true] at h; have h:=List.all_eq_true.1 h.2 k (List.mem_range.2 hlt); have hdk : z0l ops k = o.dst:=by simp [z0l,hk]
 simp only [hk,Bool.and_eq_true,hdk] at h; obtain ⟨⟨⟨⟨⟨⟨h1,h2⟩,h3⟩,h4⟩,h5⟩,_⟩,h6⟩:=h; have h6 : ∀ j,j < ops.length -> _:=fun j hj => List.all_eq_true.1 h6 j (List.mem_range.2 hj)
 refine ⟨by simpa using h1,fun cs b e => (by rw [e] at h2; cases h2),fun e he hb => ?_,fun d hd => by rw [hd] at h4; simpa using h4,fun j hj => ?_,fun j hj hl => ?_,fun j d hj hd hd' => ?_,fun j hj hne => ?_⟩
 ·
  have:=(Array.all_eq_true_iff_forall_mem.1 h3) e he
  simpa [hb] using this
 ·
  have:=List.all_eq_true.1 h5 j hj
  simpa using this
 ·
  have:=h6 j hj; simp only [Bool.and_eq_true,hl] at this
  simpa using this.1.1
 ·
  have:=h6 j hj; simp only [Bool.and_eq_true,hd,hd'] at this
  simpa using this.1.2
 ·
  have:=h6 j hj; simp only [Bool.and_eq_true] at this; have this:=this.2; simp only [hne,decide_false,Bool.false_or,Bool.and_eq_true] at this; obtain ⟨t1,t2⟩:=this; refine ⟨fun hh hjk hr => ?_,fun hh hr => ?_⟩
  ·
   have hh' : hard.contains k = true:=by simpa using hh
   simp only [hh',hjk,Bool.not_true,Bool.false_or,Bool.or_eq_true,Bool.not_eq_true'] at t1
   rcases t1 with t1 | t1
   ·
    exfalso
    rw [Bool.or_eq_false_iff] at t1
    rcases hr with hr | ⟨r,hr,hjr,hrk,hn⟩
    · have:=t1.1; simp [hr] at this
    ·
     have:=List.any_eq_false.1 t1.2 r (List.mem_range.2 hr); simp [hrk,hn] at this; exact this hjr
   · exact t1
  ·
   have hh' : wild.contains k = true:=by simpa using hh
   simp only [hh',Bool.not_true,Bool.false_or,Bool.or_eq_true,hr] at t2
   simpa using t2
theorem looks_spec {ops : List Oper} {k j : Nat} {o : Oper} {t : Tmp} (hk : ops[k]? = some o) (hj : z0l ops j = some t) (ht : Operand.tmp t ∈ o.op.operands) : looks ops k j = true:=by
 unfold looks; rw [hk,hj]; simp only [List.contains_iff_mem]; exact List.mem_filterMap.2 ⟨.tmp t,by simpa using ht,rfl⟩
theorem z1k {ops : List Oper} {j : Nat} {t : Tmp} (h : z0l ops j = some t) : j < ops.length:=by
 unfold z0l at h
 cases hj : ops[j]? with
 | none => rw [hj] at h; cases h
 | some o => exact (List.getElem?_eq_some_iff.1 hj).1
theorem listed_lt {ops : List Oper} {listed : Array Bool} {j : Nat} (hs : listed.size = ops.length) (h : listed.getD j false = true) : j < ops.length:=by
 rcases Nat.lt_or_ge j listed.size with h' | h'
 · omega
 · simp [Array.getElem?_eq_none h'] at h
theorem soft_any {ops : List Oper} {D : List (List Nat)} {L : List Fact} {hard wild plain keep : List Nat} {a : Act} {w : World} (hB : softOk ops D L hard wild plain keep a.tmps.size = true)
  (hs : ∀ k o,ops[k]? = some o -> oblig P ops D L hard wild plain a w k o)
  (hfin : ∀ vals x,facts L vals x keep -> Q .normal (puts ops vals (List.range ops.length) a) x) :
  ∀ (fuel : Nat) (listed : Array Bool) (a' : Act) (x : World) (vals : Nat -> Value),cnt (fun i => listed.getD i false) ops.length <= fuel →
   SoftInv ops D L plain keep a w listed a' x vals -> wpAny P .any ops.toArray Q fuel listed a' x:=by
 have hdd : ∀ i j t,z0l ops i = some t -> z0l ops j = some t -> i = j:=fun i j t hi hj => by
  have hjl : j < ops.length:=z1k hj; have ho : ops[j]? = some ops[j]:=List.getElem?_eq_getElem hjl; exact (softOk_spec hB j _ ho).2.2.2.2.2.2.1 i t (z1k hi) hi (by simpa [z0l,ho] using hj)
 have hds : ∀ j t,z0l ops j = some t -> t < a.tmps.size:=fun j t hj => by
  have hjl : j < ops.length:=z1k hj; have ho : ops[j]? = some ops[j]:=List.getElem?_eq_getElem hjl; exact (softOk_spec hB j _ ho).2.2.2.1 t (by simpa [z0l,ho] using hj)
 have hdone : ∀ (listed : Array Bool) (a' : Act) (x : World) (vals : Nat -> Value),(∀ i,i < ops.length -> listed.getD i false = true) -> SoftInv ops D L plain keep a w listed a' x vals -> Q .normal a' x:=by
  intro listed a' x vals hall inv; have ha : a' = puts ops vals (List.range ops.length) a:=by
   have ht : a'.tmps = (puts ops vals (List.range ops.length) a).tmps:=by
    apply Array.ext_getElem?
    intro t
    by_cases h : ∃ j,z0l ops j = some t
    ·
     obtain ⟨j,hj⟩:=h; rw [inv.new j t (hall j (z1k hj)) hj,puts_get (fun i j => hdd i j t) _ _ j (List.mem_range.2 (z1k hj)) hj (hds j t hj)]
    · rw [inv.old t (fun j _ e => h ⟨j,e⟩),puts_ne _ _ (fun i _ e => h ⟨i,e⟩)]
   have hdf : a'.defers = (puts ops vals (List.range ops.length) a).defers:=by rw [z1n]; exact inv.defers
   cases a'
   cases hp : puts ops vals (List.range ops.length) a
   rw [hp] at ht hdf; simp only at ht hdf; rw [ht,hdf]
  rw [ha]; refine hfin vals x (facts_iff.2 fun i hi => ?_); have hk : i < ops.length:=by
   unfold softOk at hB; rw [Bool.and_eq_true] at hB
   simpa using List.all_eq_true.1 hB.1 i hi
  exact inv.fact i (hall i hk) (.inl hi)
 have hmin : ∀ (listed : Array Bool),listed.size = ops.length -> ∀ i,i < ops.length -> listed.getD i false = false -> Region.ready .any ops.toArray listed ≠ []:=by
  intro listed hsz i
  induction i using Nat.strongRecOn with
  | _ i ih =>
   intro hi hun hr; have ho : ops[i]? = some ops[i]:=List.getElem?_eq_getElem hi
   by_cases h : ∀ e ∈ ops[i].after,Region.binds .any e = true -> listed.getD e.on false = true
   ·
    have : i ∈ Region.ready .any ops.toArray listed:=mem_ready.2 ⟨getD_in (by omega) hun,ops[i],by simp [ho],h⟩; rw [hr] at this; cases this
   ·
    simp only [Classical.not_forall] at h; obtain ⟨e,he,hb,hl⟩:=h; have hlt:=(softOk_spec hB i _ ho).2.2.1 e he hb; exact ih e.on hlt (by omega) (by simpa using hl) hr
 intro fuel
 induction fuel with
 | zero =>
  intro listed a' x vals hc inv; have hall:=cnt_zero (f:=fun i => listed.getD i false) (Nat.le_zero.1 hc); refine ⟨?_,hdone _ _ _ _ hall inv⟩
  cases hr : Region.ready .any ops.toArray listed with
  | nil => rfl
  | cons k rs =>
   exfalso
   have hk : k ∈ Region.ready .any ops.toArray listed:=by rw [hr]; simp
   obtain ⟨h0,o,ho,_⟩:=mem_ready.1 hk; have hlt : k < ops.length:=by
    have:=(Array.getElem?_eq_some_iff.1 ho).1; simpa using this
   have h1 : listed.getD k false = true:=hall k hlt; rw [getD_both h0] at h1; cases h1
 | succ fuel ih =>
  intro listed a' x vals hc inv; refine ⟨fun hr => ?_,fun k hk => ?_⟩
  ·
   refine hdone _ _ _ _ (fun i hi => ?_) inv
   cases h : listed.getD i false with
   | true => rfl
   | false => exact absurd hr (hmin listed inv.size i hi h)
  ·
   obtain ⟨h0,o,hoA,hwait⟩:=mem_ready.1 hk; have ho : ops[k]? = some o:=by simpa using hoA
   have hkl : k < ops.length:=(List.getElem?_eq_some_iff.1 ho).1; have h0f : listed.getD k false = false:=getD_both h0; have hsz : k < listed.size:=by rw [inv.size]; exact hkl
   obtain ⟨hg,hsel,_,hdsz,hD,hlook,hdist,hhard⟩:=softOk_spec hB k o ho; have hw : ∀ m,waits ops k m = true -> listed.getD m false = true:=fun m hm => by
    obtain ⟨o',ho',e,he,hb,rfl⟩:=waits_spec.1 hm; have : o' = o:=Option.some.inj (ho'.symm.trans ho); subst this; exact hwait e he hb
   have hDl : ∀ j ∈ D.getD k [],listed.getD j false = true:=fun j hj => hw j (hD j hj).1
   have hdk : z0l ops k = o.dst:=by simp [z0l,ho]
   -- the operation runs as it does in the small state
   have hexec : execOp a'.eval o = execOp (puts ops vals (D.getD k []) a).eval o:=execOp_congr o hsel fun y hy => by
    cases y with
    | tmp t =>
     have ht : a'.tmps[t]? = (puts ops vals (D.getD k []) a).tmps[t]?:=by
      by_cases h : ∃ j,z0l ops j = some t
      ·
       obtain ⟨j,hj⟩:=h; have hm:=hlook j (z1k hj) (looks_spec ho hj hy); rw [inv.new j t (hDl j hm) hj,puts_get (fun i j => hdd i j t) _ _ j hm hj (hds j t hj)]
      · rw [inv.old t (fun j _ e => h ⟨j,e⟩),puts_ne _ _ (fun i _ e => h ⟨i,e⟩)]
     show a'.tmps.getD t undef = (puts ops vals (D.getD k []) a).tmps.getD t undef
     rw [Array.getD_eq_getD_getElem?,Array.getD_eq_getD_getElem?,ht]
    | _ => rfl
   have hob:=hs k o ho vals x
    (by
     by_cases hp : k ∈ plain
     · exact .inl hp
     · exact .inr (inv.cond ⟨k,hkl,h0f,hp⟩))
    (facts_iff.2 fun j hj => inv.fact j (hDl j hj) (.inr ⟨k,hkl,h0f,hj⟩))
   have hbs : (puts ops vals (D.getD k []) a).tmps.size = a.tmps.size:=puts_size _ _; have hbd : (puts ops vals (D.getD k []) a).defers = a.defers:=z1n _ _; have next : ∀ v x',softQ L hard wild w.heap.size k o (puts ops vals (D.getD k []) a) x .normal ((puts ops vals (D.getD k []) a).put o.dst v) x' →
     wpAny P .any ops.toArray Q fuel (listed.setIfInBounds k true) (a'.put o.dst v) x':=by
    intro v x' hq; obtain ⟨_,hV,hbel,hbel2⟩:=hq; have hgs:=getD_set (listed:=listed) hsz; have hold : ∀ j,(listed.setIfInBounds k true).getD j false = true -> j ≠ k -> listed.getD j false = true:=fun j hj hne => by
     rw [hgs,if_neg hne] at hj; exact hj
    have hun : ∀ r,(listed.setIfInBounds k true).getD r false = false -> r ≠ k /\ listed.getD r false = false:=fun r hr => by
     rw [hgs] at hr
     by_cases e : r = k
     · rw [if_pos e] at hr; cases hr
     · rw [if_neg e] at hr; exact ⟨e,hr⟩
    have hnr : ∀ r,listed.getD r false = false -> z1b ops ops.length k r = false:=fun r hr => by
     cases h : z1b ops ops.length k r with
     | false => rfl
     | true => rw [z0r inv.closed _ k r hw h] at hr; cases hr
    refine ih _ _ x' (fun j => if j = k then got o ((puts ops vals (D.getD k []) a).put o.dst v) else vals j) ?_ ⟨by simp [inv.size],fun j m hm hl => ?_,by rw [put_size]; exact inv.tsize,by rw [z23]; exact inv.defers,fun t ht => ?_,fun j t hj hdj => ?_,fun hr => ?_,fun j hj hr => ?_⟩
    ·
     have:=(cnt_set (f:=fun i => listed.getD i false) (g:=fun i => (listed.setIfInBounds k true).getD i false) h0f hgs (n:=ops.length)).2 hkl
     omega
    ·
     rw [hgs]
     by_cases e : j = k
     · rw [if_pos e]
     ·
      rw [if_neg e]
      by_cases e' : m = k
      · subst e'; exact hw j hm
      · exact inv.closed j m hm (hold m hl e')
    ·
     rw [z22 _ _ _ _ (by
      have:=ht k (by rw [hgs,if_pos rfl])
      rwa [hdk] at this)]
     refine inv.old t fun j hj => ht j ?_
     rw [hgs]; split <;> first | rfl | exact hj
    ·
     by_cases e : j = k
     ·
      subst e; rw [hdk] at hdj; have htl:=hdsz t hdj; rw [if_pos rfl,hdj,put_get _ _ _ (by rw [inv.tsize]; exact htl)]; simp only [got,hdj]; rw [Array.getD_eq_getD_getElem?,put_get _ _ _ (by rw [hbs]; exact htl)]
      rfl
     ·
      rw [if_neg e,z22 _ _ _ _ (fun e' => e (hdist j t (z1k hdj) hdj e'))]; exact inv.new j t (hold j hj e) hdj
    ·
     obtain ⟨r,hrl,hru,hrp⟩:=hr; obtain ⟨hrk,hru'⟩:=hun r hru; have hcd:=inv.cond ⟨r,hrl,hru',hrp⟩
     rcases hbel2 with hh | hh | hb
     · exact absurd ((hhard r hrl hrk).2 hh (hnr r hru')) hrp
     ·
      rcases hbel with hb | hb
      · exact absurd hb hh
      · exact hcd.trans (hb.mono hcd.size)
     · exact hcd.trans hb
    ·
     by_cases e : j = k
     · subst e; rw [if_pos rfl]; exact hV
     ·
      rw [if_neg e]; have hjl:=hold j hj e; have hjlt : j < ops.length:=listed_lt inv.size hjl; have hold' : j ∈ keep \/ ∃ r,r < ops.length /\ listed.getD r false = false /\ j ∈ D.getD r []:=by
       rcases hr with hr | ⟨r,hrl,hru,hjr⟩
       · exact .inl hr
       · exact .inr ⟨r,hrl,(hun r hru).2,hjr⟩
      have hVj:=inv.fact j hjl hold'
      rcases hbel with hh | hb
      ·
       have hjk : z1b ops ops.length j k = false:=by
        cases h : z1b ops ops.length j k with
        | false => rfl
        | true => rw [z0r inv.closed _ j k (fun m hm => inv.closed m j hm hjl) h] at h0f; cases h0f
       refine (L.getD j .any).hflat ((hhard j hjlt e).1 hh hjk ?_) _ _ _ hVj
       rcases hr with hr | ⟨r,hrl,hru,hjr⟩
       · exact .inl hr
       · exact .inr ⟨r,hrl,hjr,(hun r hru).1,hnr r (hun r hru).2⟩
      · exact (L.getD j .any).stab _ _ _ hVj hb
   unfold wpOp; rw [hoA]; have hwant : Region.wanted o (yielded ops.toArray a'.tmps) = true:=by unfold Region.wanted; rw [hg]
   simp only [hwant,if_true]; refine .inl ?_; unfold Oper.wp at hob ⊢; rw [hexec]; generalize (execOp (puts ops vals (D.getD k []) a).eval o).run P x = r at hob ⊢
   cases r with
   | ok n w' =>
    cases n <;> simp only [Oper.upon] at hob ⊢
    case value v => exact next v w' hob
    case skip => exact next _ w' hob
    case defer d =>
     have:=hob.1; rw [z23] at this; exact absurd (congrArg List.length this) (by simp)
    case enter f args =>
     refine Calls.mono hob fun e w'' he => ?_
     cases e with
     | returned u => exact next u w'' he
     | panicked c => exact he.elim
     | outgrown => obtain ⟨_,_,h⟩:=he; exact h.elim
    case row row args => exact Rows.mono hob fun u w'' he => next u w'' he
   | halt e w' =>
    cases e <;> simp only [Oper.upon] at hob ⊢ <;> exact hob.elim
theorem wp_region_soft {id : Nat} {ops : List Oper} {a : Act} {w : World} (D : List (List Nat)) (L : List Fact) (hard wild plain keep : List Nat) (hm : P.follows .mixedOrders = true)
  (hB : softOk ops D L hard wild plain keep a.tmps.size = true)
  (hs : ∀ k o,ops[k]? = some o -> oblig P ops D L hard wild plain a w k o)
  (hfin : ∀ vals x,facts L vals x keep -> Q .normal (puts ops vals (List.range ops.length) a) x) : (Code.region id ops.toArray true).wp P Q a w:=by
 refine wp_region_any hm ?_; have h0 : ∀ j,(Array.replicate ops.toArray.size false).getD j false = false:=fun j => getD_replicate_false _ _
 refine soft_any hB hs hfin _ _ _ _ (fun _ => undef) ?_ ⟨by simp,fun j k _ hl => ?_,rfl,rfl,fun _ _ => rfl,fun j t hj => ?_,fun _ => z02 (Below.refl _ _) 1,fun j hj => ?_⟩
 ·
  have hle : ∀ (f : Nat -> Bool) (n : Nat),cnt f n <= n:=fun f n => by
   induction n with
   | zero => exact Nat.le_refl _
   | succ n ih => simp only [cnt]; split <;> omega
  exact Nat.le_trans (hle _ _) (by simp)
 · rw [h0] at hl; cases hl
 · rw [h0] at hj; cases hj
 · rw [h0] at hj; cases hj
def z01 (vals : Nat -> Value) : List (Nat × Tmp) -> Act -> Act
 | [],a => a
 | (i,t) :: l,a => z01 vals l (a.put (some t) (vals i))
def z0c (L : List Fact) (vals : Nat -> Value) (x : World) : List (Nat × Tmp) -> Prop
 | [] => True
 | (i,_) :: l => (L.getD i .any).V (vals i) x /\ z0c L vals x l
def fitsD (ops : List Oper) (l : List (Nat × Tmp)) : Bool:=l.all fun p => z0l ops p.1 == some p.2
theorem puts_putsD {ops : List Oper} {vals : Nat -> Value} : ∀ {l : List (Nat × Tmp)} {a : Act},fitsD ops l = true -> puts ops vals (l.map (·.1)) a = z01 vals l a
 | [],_,_ => rfl
 | (i,t) :: l,a,h => by
  simp only [fitsD,List.all_cons,Bool.and_eq_true,beq_iff_eq] at h; simp only [List.map_cons,puts,z01,h.1]; exact puts_putsD h.2
theorem facts_factsD {L : List Fact} {vals : Nat -> Value} {x : World} : ∀ {l : List (Nat × Tmp)},facts L vals x (l.map (·.1)) = z0c L vals x l
 | [] => rfl
 | (i,t) :: l => by simp only [List.map_cons,facts,z0c,facts_factsD (l:=l)]
theorem puts_all {ops : List Oper} {vals : Nat -> Value} : ∀ (l : List Nat) (a : Act),puts ops vals l a = z01 vals (l.filterMap fun i => (z0l ops i).map fun t => (i,t)) a
 | [],_ => rfl
 | i :: l,a => by
  cases h : z0l ops i with
  | none => simp only [puts,h,List.filterMap_cons,Option.map_none]; exact puts_all l a
  | some t => simp only [puts,h,List.filterMap_cons,Option.map_some,z01]; exact puts_all l _
def share (P : Program) (L : List Fact) (hard wild plain : List Nat) (a : Act) (w : World) (k : Nat) (o : Oper) (d : List (Nat × Tmp)) : Prop :=
 ∀ (vals : Nat -> Value) (x : World),(k ∈ plain \/ Below w.heap.size w x) -> z0c L vals x d →
  wpList P #[] (softQ L hard wild w.heap.size k o (z01 vals d a) x) [o] (z01 vals d a) x
def shares (P : Program) (L : List Fact) (hard wild plain : List Nat) (a : Act) (w : World) : Nat -> List Oper -> List (List (Nat × Tmp)) -> Prop
 | _,[],_ => True
 | _,_ :: _,[] => False
 | k,o :: l,d :: ds => share P L hard wild plain a w k o d /\ shares P L hard wild plain a w (k + 1) l ds
theorem shares_get {L : List Fact} {hard wild plain : List Nat} {a : Act} {w : World} : ∀ {l : List Oper} {ds : List (List (Nat × Tmp))} {k : Nat},shares P L hard wild plain a w k l ds →
  ∀ i o,l[i]? = some o -> share P L hard wild plain a w (k + i) o (ds.getD i [])
 | [],_,_,_,i,o,h => by simp at h
 | _ :: _,[],_,h,_,_,_ => h.elim
 | o' :: l,d :: ds,k,h,0,o,ho => by
  simp only [List.getElem?_cons_zero,Option.some.injEq] at ho; subst ho; exact h.1
 | o' :: l,d :: ds,k,h,i + 1,o,ho => by
  simp only [List.getElem?_cons_succ] at ho; have:=shares_get h.2 i o ho; rw [show k + (i + 1) = k + 1 + i by omega]
  simpa using this
theorem z0d {id : Nat} {ops : List Oper} {a : Act} {w : World} (D : List (List (Nat × Tmp))) (L : List Fact) (hard wild plain keep : List Nat) (all : List (Nat × Tmp)) (hm : P.follows .mixedOrders = true)
  (hB : softOk ops (D.map (·.map (·.1))) L hard wild plain keep a.tmps.size = true) (hD : D.all (fitsD ops) = true)
  (hall : (List.range ops.length).filterMap (fun i => (z0l ops i).map fun t => (i,t)) = all)
  (hs : shares P L hard wild plain a w 0 ops D)
  (hfin : ∀ vals x,facts L vals x keep -> Q .normal (z01 vals all a) x) : (Code.region id ops.toArray true).wp P Q a w:=by
 refine wp_region_soft (D.map (·.map (·.1))) L hard wild plain keep hm hB (fun k o hk => ?_) (fun vals x hf => by rw [puts_all,hall]; exact hfin vals x hf); have hg:=(softOk_spec hB k o hk).1; have hsh:=shares_get hs k o hk; rw [Nat.zero_add] at hsh; have hfit : fitsD ops (D.getD k []) = true:=by
  rcases Nat.lt_or_ge k D.length with h | h
  · rw [show D.getD k [] = D[k] by simp [h]]; exact List.all_eq_true.1 hD _ (List.getElem_mem h)
  · rw [show D.getD k [] = [] by simp [h]]; rfl
 have hDk : (D.map (·.map (·.1))).getD k [] = (D.getD k []).map (·.1):=by
  rcases Nat.lt_or_ge k D.length with h | h
  · simp [h]
  · simp [h]
 intro vals x hc hf; rw [hDk,facts_factsD] at hf; have h:=hsh vals x hc hf; rw [hDk,puts_putsD hfit]; unfold wpList at h; rw [if_pos (by unfold Region.wanted; rw [hg])] at h
 rcases h with h | ⟨_,_,_,h⟩
 · exact h
 · exact h.elim
def Fact.row (base : Nat) (e : TypeId) (size n : Nat) (cs : List Value) : Fact :=
 .of (fun v x => ∃ A c,v = .slice A n c /\ x.ownsRow base e size (.slice A n c) n cs) fun _ _ _ ⟨A,c,h,ho⟩ hb => ⟨A,c,h,z0e ho hb (Nat.le_refl _)⟩
def Fact.lit (e : TypeId) (m : Nat) (cs : Array Value) : Fact :=
 .of (fun v x => ∃ b,v = .slice (some ⟨b,0,none⟩) m m /\ b < x.heap.size /\ ∃ fr,x.heap[b]? = some (.cells cs e fr)) fun _ _ _ ⟨b,h,hlt,fr,hh⟩ hb => ⟨b,h,Nat.lt_of_lt_of_le hlt hb.size,fr,(hb.block b hlt).trans hh⟩
theorem run_append_lit (w : World) (base : Nat) (t ty e : TypeId) (i : TypeInfo) (z : Value) (size bytes : Nat) (ht : P.underlying t = some (.slice e)) (hi : P.info? e = some i) (hz : i.zero = some z)
  (hsize : i.size = size) (hby : i.bytes = bytes) (hzs : z.cells.size = size) (hsz : 0 < size)
  (p : Addr) (hown : w.ownsRow base e size (.slice (some p) 0 0) 0 [])
  (A : Option Addr) (m c : Nat) (news : List Value) (hr : Src w size A m news) (h1 : ∀ u ∈ news,u.oneCell' = true)
  (h63 : m <= maxLen) (hbytes : m * bytes <= 140737488355328) (hbase : base <= w.heap.size) (hA : A = none -> m = 0) :
  ∃ A' c' w',(Builtin.append_ #[t,t] ty #[.slice (some p) 0 0,.slice A m c]).run P w = .ok (.slice A' m c') w' /\ w'.ownsRow base e size (.slice A' m c') m news /\ Below w.heap.size w w':=by
 by_cases hm : m = 0
 ·
  subst hm; have hn : news = []:=List.eq_nil_of_length_eq_zero (by simpa using hr.1); subst hn; refine ⟨some p,0,w,?_,hown,Below.refl _ _⟩
  rcases A with _ | ad
  · exact run_append_of_nil w base t ty e i size ht hi _ 0 [] hown c
  · simp [Builtin.append_,run_underlying ht,sizeOf,typeInfo,hi,Builtin.lenOf,Builtin.firstCells,loadCells,loadCellsFrom,storeCells]
 ·
  obtain ⟨A',c',w',hrun,h2,_⟩:=run_append_src (P:=P) w base t ty e i z size bytes ht hi hz hsize hby hzs hsz _ 0 [] hown A m c news hr h1 m (by omega) h63 hbytes hbase hA; refine ⟨A',c',w',hrun,by simpa using h2,?_⟩; obtain ⟨ad,rfl,hc⟩:=hr.2 (by omega); subst hsize hby
  have hg:=run_append_grow (P:=P) w t ty e i z ht hi hz p 0 0 [] (by simp) (by simp) ad m c news hr.1 hc (by omega) (by unfold maxLen at h63; omega) (growslice_fits (by omega) (by simpa using hbytes)); rw [hg] at hrun
  injection hrun with _ hw
  rw [<- hw]; exact (z02 (Below.refl _ _) 1).alloc (Nat.le_refl _) _
theorem wpList_append_lit {ops : Array Oper} {rest : List Oper} {o : Oper} {a : Act} (w : World) (hgd : o.guard = none) (s x : Operand) (t : TypeId)
  (ho : o.op = .call { callee:=.builtin .append,args:=#[s,x],argTypes:=#[t,t] })
  (base : Nat) (e : TypeId) (i : TypeInfo) (z : Value) (size bytes : Nat) (ht : P.underlying t = some (.slice e)) (hi : P.info? e = some i) (hz : i.zero = some z)
  (hsize : i.size = size) (hby : i.bytes = bytes) (hzs : z.cells.size = size) (hsz : 0 < size)
  (p : Addr) (hs : a.eval s = .slice (some p) 0 0) (hown : w.ownsRow base e size (.slice (some p) 0 0) 0 [])
  (A : Option Addr) (m c : Nat) (news : List Value) (hx : a.eval x = .slice A m c) (hr : Src w size A m news) (h1 : ∀ u ∈ news,u.oneCell' = true)
  (h63 : m <= maxLen) (hbytes : m * bytes <= 140737488355328) (hbase : base <= w.heap.size) (hA : A = none -> m = 0)
  (h : ∀ A' c' w',w'.ownsRow base e size (.slice A' m c') m news -> Below w.heap.size w w' -> wpList P ops Q rest (a.put o.dst (.slice A' m c')) w') : wpList P ops Q (o :: rest) a w :=
 wpList_plain hgd fun _ hK => by
  obtain ⟨A',c',w',hrun,h2,h3⟩:=run_append_lit (P:=P) w base t o.type e i z size bytes ht hi hz hsize hby hzs hsz p hown A m c news hr h1 h63 hbytes hbase hA; unfold Oper.wp execOp; simp only [ho,resolve,invoke,builtin,Sem.run_bind,Sem.run_pure,Result.andThen_ok,List.map_toArray,List.map_cons,List.map_nil,hs,hx,hrun]; exact hK _ _ (h A' c' w' h2 h3)
def Fact.lit0 (base : Nat) (e : TypeId) (size : Nat) : Fact :=
 .of (fun v x => ∃ p,v = .slice (some p) 0 0 /\ x.ownsRow base e size (.slice (some p) 0 0) 0 []) fun _ _ _ ⟨p,h,ho⟩ hb => ⟨p,h,z0e ho hb (Nat.le_refl _)⟩
end Go.Proofs.YtemdmlmcidfodaaGreatDoor
namespace Go.Proofs.YtemdmlmcidfodaaGreatDoor
open Go Go.RowKit Go.ChangeShapes Go.WideShapes Go.ChangeAt Go.Deep
def smInts (xs : List Int) : Prop:=xs.length <= 1048576 /\ i64s xs
def RetZ (r : Int) (w : World) (e : Ending) (w' : World) : Prop:=e = .returned (.int .i64 r) /\ Below w.heap.size w w'
def CopyI (xs : List Int) (w : World) (e : Ending) (w' : World) : Prop:=∃ A c,e = .returned (.slice A xs.length c) /\ xs.length <= c /\ Lay.int.Sl w' (Own w.heap.size w') A xs /\ Below w.heap.size w w'
theorem OwnI.own {w : World} {base c : Nat} {A : Option Addr} {xs : List Int} (h : OwnI w base (.slice A xs.length c) xs) : Lay.int.Sl w (Own base w) A xs:=fun hn => by
 obtain ⟨A',c',e,_,hs⟩:=h.form
 injection e with e1 e2 e3
 subst e1; obtain ⟨ad,e,hf,hc⟩:=hs hn; refine ⟨ad,e,⟨hf.1,hf.2,fun o => ?_⟩,hc⟩; subst e
 rcases h.2 with ⟨e,_⟩ | ⟨g,cap,cur,e,_,hg,_⟩
 · cases e
 ·
  injection e with e1 e2 e3
  injection e1 with e1
  subst e1; unfold World.frozen?; rw [hg]; simp
theorem OwnI.cap {w : World} {base c : Nat} {A : Option Addr} {xs : List Int} (h : OwnI w base (.slice A xs.length c) xs) : xs.length <= c:=by
 obtain ⟨A',c',e,hl,hs⟩:=h.form
 injection e with e1 e2 e3
 omega
def Fact.boolC (W : World) (b : Bool) : Fact:=.of (fun v xw => v = .bool b /\ Below W.heap.size W xw) fun _ _ _ ⟨h1,h2⟩ hb => ⟨h1,z09 h2 hb⟩
end Go.Proofs.YtemdmlmcidfodaaGreatDoor
namespace Go.Proofs.YtemdmlmcidfodaaGreatDoor
open Go Go.RowKit
def Rdr (w : World) (r : Nat) (p : Int) : Prop :=
 ∃ A c bs,w.heap[r]? = some (.cells #[.slice A bs.length c,.int .i64 p] 90 (0,0)) /\ bs.length <= 2000 /\ Lay.byte.Sl w (fun b => b < r) A bs
theorem Rdr.keep {w w' : World} {r : Nat} {p : Int} (h : Rdr w r p) (hk : ∀ b,b <= r -> w'.heap[b]? = w.heap[b]?) : Rdr w' r p:=by
 obtain ⟨A,c,bs,hb,hl,hs⟩:=h; exact ⟨A,c,bs,(hk r (Nat.le_refl _)).trans hb,hl,hs.keep fun b hb => hk b (Nat.le_of_lt hb)⟩
theorem Rdr.lt {w : World} {r : Nat} {p : Int} (h : Rdr w r p) : r < w.heap.size:=by
 obtain ⟨A,c,bs,hb,_⟩:=h; exact lt_of_block hb
theorem Rdr.up {w w' : World} {r : Nat} {p : Int} (h : Rdr w r p) (hb : Below w.heap.size w w') : Rdr w' r p :=
 h.keep fun b hbr => hb.block b (Nat.lt_of_le_of_lt hbr h.lt)
def OpenPost (w : World) (e : Ending) (w' : World) : Prop:=∃ r,e = .returned (.pointer (some ⟨r,0,none⟩)) /\ w.heap.size <= r /\ Rdr w' r 0 /\ Below w.heap.size w w'
theorem open_any (A : Option Addr) (c : Nat) (bs : List UInt8) (w : World) (h : Lay.byte.Rd w A bs) (hc : bs.length <= c) (hn : bs.length <= 9223372036854775807) :
  Calls Tryz.prog 21 #[.slice A bs.length c] w (OpenPost w):=by
 by_cases hl : 2000 < bs.length
 ·
  go_enter Tryz.func21,Tryz.ntmps21
  go_wp2
  go_ret
  refine ⟨w.heap.size,rfl,Nat.le_refl _,⟨A,c,bs.take 2000,?_,by simp; omega,?_⟩,(Below.refl _ _).alloc (Nat.le_refl _) _⟩
  ·
   have e : (bs.take 2000).length = 2000:=by simp; omega
   rw [e]; exact heap_alloc_new w _
  · exact (h.take 2000).keep fun b hb => Below.heap_alloc w _ b hb
 ·
  go_enter Tryz.func21,Tryz.ntmps21
  go_wp2
  go_ret
  refine ⟨w.heap.size,rfl,Nat.le_refl _,⟨A,c,bs,?_,by omega,?_⟩,(Below.refl _ _).alloc (Nat.le_refl _) _⟩
  · exact heap_alloc_new w _
  · exact h.keep fun b hb => Below.heap_alloc w _ b hb
def PickPost (w : World) (r : Nat) (p n : Int) (e : Ending) (w' : World) : Prop :=
 ∃ k : Int,e = .returned (.int .i64 k) /\ 0 <= k /\ (1 <= n -> k < n) /\ (n < 1 -> k = 0) /\ Rdr w' r (p + 1) /\ w.grownBy w' (some r)
theorem pick_end {w : World} {r : Nat} {p n k : Int} (m : Nat) (h : Rdr w r p) (k0 : 0 <= k) (k1 : 1 <= n -> k < n) (k2 : n < 1 -> k = 0) :
  PickPost w r p n (.returned (.int .i64 k)) ((w.setCell ⟨r,1,none⟩ (.int .i64 (p + 1))).drewN m):=by
 have hlt:=h.lt; refine ⟨k,rfl,k0,k1,k2,?_,⟨rfl,rfl,rfl,by simp [World.setCell,World.drewN],fun i hi hne => Below.heap_setCell w ⟨r,1,none⟩ _ i (fun e => hne (by rw [e]))⟩⟩; obtain ⟨A,c,bs,hb,hl,hs⟩:=h; refine ⟨A,c,bs,?_,hl,hs.keep fun b hb => Below.heap_setCell w ⟨r,1,none⟩ _ b (Nat.ne_of_lt hb)⟩
 show (w.setCell ⟨r,1,none⟩ (.int .i64 (p + 1))).heap[r]? = _
 simp [World.setCell,Array.getElem?_modify,hb]
theorem far_cell {w : World} {a b : Addr} {v u : Value} (h : w.cell? a = some u) (hne : a.block ≠ b.block) : (w.setCell b v).cell? a = some u:=by
 rw [World.cell?_setCell_other w b a v (fun e => hne (by rw [e]))]; exact h
theorem ofInt_i64 (a : Nat) (ha : a < 9223372036854775808) : (BitVec.ofInt 64 (a : Int)).toNat = a:=by
 rw [BitVec.ofInt_natCast,BitVec.toNat_ofNat]; exact Nat.mod_eq_of_lt (by omega)
theorem i64_xor_nat (a b : Nat) (ha : a < 9223372036854775808) (hb : b < 9223372036854775808) : bits .xor .i64 (a : Int) (b : Int) = ((a ^^^ b : Nat) : Int):=by
 have hx : a ^^^ b < 2 ^ 63:=Nat.xor_lt_two_pow (by omega) (by omega)
 show IntKind.i64.wrap ((BitVec.ofInt 64 (a : Int) ^^^ BitVec.ofInt 64 (b : Int)).toNat : Int) = _
 rw [BitVec.toNat_xor,ofInt_i64 a ha,ofInt_i64 b hb,IntKind.wrap_i64]
 omega
theorem mix_wraps (P y z D : Nat) (hP : P <= 1000000000) (hy : y < 256) (hz : z < 256) (hD : D <= 1000000000) :
  IntKind.i64.wrap ((P : Int) * 7) = (P : Int) * 7 /\ IntKind.i64.wrap ((P : Int) * 7 + 3) = (P : Int) * 7 + 3 /\ IntKind.i64.wrap (y : Int) = (y : Int) /\ IntKind.i64.wrap ((y : Int) * 131) = (y : Int) * 131 ∧
  IntKind.i64.wrap (z : Int) = (z : Int) /\ IntKind.i64.wrap ((z : Int) * 1117) = (z : Int) * 1117 /\ IntKind.i64.wrap ((y : Int) * 131 + (z : Int) * 1117) = (y : Int) * 131 + (z : Int) * 1117 ∧
  IntKind.i64.wrap ((P : Int) * 29) = (P : Int) * 29 /\ IntKind.i64.wrap ((y : Int) * 131 + (z : Int) * 1117 + (P : Int) * 29) = (y : Int) * 131 + (z : Int) * 1117 + (P : Int) * 29 ∧
  IntKind.i64.wrap (D : Int) = (D : Int) /\ IntKind.i64.wrap ((D : Int) * 53) = (D : Int) * 53 ∧
  IntKind.i64.wrap ((y : Int) * 131 + (z : Int) * 1117 + (P : Int) * 29 + (D : Int) * 53) = (y : Int) * 131 + (z : Int) * 1117 + (P : Int) * 29 + (D : Int) * 53 :=
 ⟨IntWalk.i64_in _ (by omega),IntWalk.i64_in _ (by omega),IntWalk.i64_in _ (by omega),IntWalk.i64_in _ (by omega),IntWalk.i64_in _ (by omega),IntWalk.i64_in _ (by omega),
  IntWalk.i64_in _ (by omega),IntWalk.i64_in _ (by omega),IntWalk.i64_in _ (by omega),IntWalk.i64_in _ (by omega),IntWalk.i64_in _ (by omega),IntWalk.i64_in _ (by omega)⟩
set_option maxRecDepth 100000 in
set_option maxHeartbeats 1000000 in
theorem z17 (r : Nat) (p n : Int) (w : World) (h : Rdr w r p) (p0 : 0 <= p) (p1 : p <= 1000000000) (n1 : n <= 9223372036854775807) (n0 : -9223372036854775808 <= n) :
  Calls Tryz.prog 22 #[.pointer (some ⟨r,0,none⟩),.int .i64 n] w (PickPost w r p n):=by
 obtain ⟨A,c,bs,hb,hl,hs⟩:=h; have hc0 : w.cell? ⟨r,0,none⟩ = some (.slice A bs.length c):=by simp [World.cell?,hb]
 have hc1 : w.cell? ⟨r,1,none⟩ = some (.int .i64 p):=by simp [World.cell?,hb]
 have hf : w.frozen? ⟨r,1,none⟩ = false:=by simp [World.frozen?,hb]
 have Hb:=zH hb; clear hb; have hR : Rdr w r p:=⟨A,c,bs,Hb.out,hl,hs⟩; have HR:=zH hR; clear hR
 by_cases hn : n < 1
 ·
  go_enter Tryz.func22,Tryz.ntmps22
  go_wp2
  go_ret
  exact pick_end 0 HR.out (by omega) (by omega) (fun _ => rfl)
 ·
  by_cases he : bs.length = 0
  ·
   go_enter Tryz.func22,Tryz.ntmps22
   go_wp2
   go_ret
   exact pick_end 0 HR.out (by omega) (by omega) (fun _ => rfl)
  ·
   by_cases hk : p < bs.length
   ·
    have hkn : p.toNat < bs.length:=by omega
    obtain ⟨ad,rfl,hfr,hcb⟩:=hs.at_byte hkn; have hcb' : (w.setCell ⟨r,1,none⟩ (.int .i64 (p + 1))).cell? (ad.add p.toNat) = some (.int .u8 (bs[p.toNat].toNat : Int)):=far_cell hcb (by rw [z12]; exact Nat.ne_of_lt hfr); have hb0 : (0 : Int) <= bs[p.toNat].toNat:=by omega
    have hb1 : (bs[p.toNat].toNat : Int) < 256:=by have:=bs[p.toNat].toNat_lt; omega
    generalize (bs[p.toNat].toNat : Int) = y at *
    go_enter Tryz.func22,Tryz.ntmps22
    go_wp2
    go_ret
    exact pick_end 0 HR.out (Int.emod_nonneg _ (by omega)) (fun _ => Int.emod_lt_of_pos _ (by omega)) (fun h => by omega)
   ·
    have hq0 : 0 < bs.length:=by omega
    obtain ⟨P,rfl⟩:=Int.eq_ofNat_of_zero_le p0; obtain ⟨X,hx,t1⟩ : ∃ X : Nat,X < bs.length /\ (P : Int).tmod bs.length = X:=⟨P % bs.length,Nat.mod_lt _ hq0,by rw [Int.tmod_eq_emod_of_nonneg (by omega)]; simp⟩; obtain ⟨Y,hy,t2⟩ : ∃ Y : Nat,Y < bs.length /\ ((P : Int) * 7 + 3).tmod bs.length = Y:=⟨(P * 7 + 3) % bs.length,Nat.mod_lt _ hq0,by rw [Int.tmod_eq_emod_of_nonneg (by omega)]; simp⟩; obtain ⟨D,hd,t3⟩ : ∃ D : Nat,D <= P /\ (P : Int).tdiv bs.length = D:=⟨P / bs.length,Nat.div_le_self _ _,by rw [Int.tdiv_eq_ediv_of_nonneg (by omega)]; simp⟩; obtain ⟨ad,rfl,hfr,hcb⟩:=hs.at_byte hx; obtain ⟨ad',e,_,hcb2⟩:=hs.at_byte hy
    cases e
    have hcb' : (w.setCell ⟨r,1,none⟩ (.int .i64 ((P : Int) + 1))).cell? (ad.add _) = some _:=far_cell hcb (by rw [z12]; exact Nat.ne_of_lt hfr); have hcb2' : (w.setCell ⟨r,1,none⟩ (.int .i64 ((P : Int) + 1))).cell? (ad.add _) = some _:=far_cell hcb2 (by rw [z12]; exact Nat.ne_of_lt hfr); have hb1:=bs[X].toNat_lt; have hb2:=bs[Y].toNat_lt; generalize bs[X].toNat = y at *; generalize bs[Y].toNat = z at *; clear hcb hcb2; have hx' : (X : Int) < bs.length:=by omega
    have hy' : (Y : Int) < bs.length:=by omega
    obtain ⟨e1,e2,e3,e4,e5,e6,e7,e8,e9,e10,e11,e12⟩:=mix_wraps P y z D (by omega) hb1 hb2 (by omega); have hlen : ((bs.length : Int) == 0) = false:=beq_eq_false_iff_ne.2 (by omega)
    go_enter Tryz.func22,Tryz.ntmps22
    go_wp2
    go_quiet (fail)
    clear e1 e2 e3 e4 e5 e6 e7 e8 e9 e10 e11 e12 t1 t2 t3 hlen
    go_wp2
    go_ret
    have hM : (y : Int) * 131 + (z : Int) * 1117 + (P : Int) * 29 + (D : Int) * 53 = ((y * 131 + z * 1117 + P * 29 + D * 53 : Nat) : Int):=by omega
    have hlt : y * 131 + z * 1117 + P * 29 + D * 53 < 9223372036854775808:=by omega
    show PickPost w r P n (.returned (.int .i64 ((bits BinOp.xor IntKind.i64 ((y : Int) * 131 + z * 1117 + P * 29 + D * 53) (((y : Int) * 131 + z * 1117 + P * 29 + D * 53) / 64)).tmod n))) _
    rw [hM]; generalize y * 131 + z * 1117 + P * 29 + D * 53 = M at *; rw [show ((M : Int) / 64) = ((M / 64 : Nat) : Int) from by omega,i64_xor_nat _ _ hlt (by omega)]; generalize (M ^^^ M / 64) = Q; rw [Int.tmod_eq_emod_of_nonneg (by omega)]; exact pick_end nq HR.out (Int.emod_nonneg _ (by omega)) (fun _ => Int.emod_lt_of_pos _ (by omega)) (fun h => by omega)
end Go.Proofs.YtemdmlmcidfodaaGreatDoor
