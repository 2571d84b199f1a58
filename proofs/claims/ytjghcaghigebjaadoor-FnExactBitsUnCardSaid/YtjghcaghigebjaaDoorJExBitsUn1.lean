/- A drawn region by facts: each operation once, in whatever world its turn comes; what it leaves is said by a fact that lives on. No program is named here. Rows of integers: what comes in, copies, comparisons, marks; one form for all. Contracts of the reference's reader of codes: l12Open, pick. Contracts of NetLit and BitsVal, the program's and the reference's. What growing and setting leave. No program is named here. Gates and nets, how they lie in memory; the laws' copies and comparisons of them. The reference's absolute value. Contracts of the reference's nets. Contracts of the reference's nets: NetOk, the gates' making. Maps keyed by gates. The reference's gates: and, xor. -/
import Derived.StillTail
import Derived.Maps.OwnSet
import Derived.DeepKeys4
import Derived.Test.YtjghcaghigebjaaDoorJExBitsUn0
/-! A drawn region by facts: each operation once, in whatever world its turn comes; what it leaves is said by a fact that lives on. No program is named here. -/
namespace Go.Proofs.YtjghcaghigebjaaDoor
open Go Go.RowKit

/-- What is said of an operation's value. -/
structure Fact where
  V : Value → World → Prop
  stab : ∀ v w w', V v w → Below w.heap.size w w' → V v w'
  flat : Bool
  hflat : flat = true → ∀ v w w', V v w → V v w'
def Fact.any : Fact := ⟨fun _ _ => True, fun _ _ _ _ _ => trivial, true, fun _ _ _ _ _ => trivial⟩
def Fact.eq (u : Value) : Fact := ⟨fun v _ => v = u, fun _ _ _ h _ => h, true, fun _ _ _ _ h => h⟩
def Fact.of (V : Value → World → Prop) (h : ∀ v w w', V v w → Below w.heap.size w w' → V v w') : Fact := ⟨V, h, false, fun h => by cases h⟩

def dstOf (ops : List Oper) (i : Nat) : Option Tmp := (ops[i]?).bind Oper.dst
def puts (ops : List Oper) (vals : Nat → Value) : List Nat → Act → Act
  | [], a => a
  | i :: l, a => puts ops vals l (a.put (dstOf ops i) (vals i))
def facts (L : List Fact) (vals : Nat → Value) (x : World) : List Nat → Prop
  | [] => True
  | i :: l => (L.getD i .any).V (vals i) x ∧ facts L vals x l
/-- What the operation has left. -/
def got (o : Oper) (a : Act) : Value := match o.dst with | some d => a.tmps.getD d undef | none => undef
def softQ (L : List Fact) (hard wild : List Nat) (B : Nat) (k : Nat) (o : Oper) (a : Act) (x : World) : Exit → Act → World → Prop
  | .normal, a', x' => a'.defers = a.defers ∧ (L.getD k .any).V (got o a') x' ∧ (k ∈ hard ∨ Below x.heap.size x x') ∧ (k ∈ wild ∨ k ∉ hard ∨ Below B x x')
  | _, _, _ => False

def waits (ops : List Oper) (k j : Nat) : Bool := match ops[k]? with | some o => o.after.any fun e => Region.binds .any e && e.on == j | none => false
def reach (ops : List Oper) : Nat → Nat → Nat → Bool
  | 0, k, j => waits ops k j
  | n + 1, k, j => waits ops k j || (List.range ops.length).any fun m => waits ops k m && reach ops n m j
def looks (ops : List Oper) (k j : Nat) : Bool := match ops[k]?, dstOf ops j with | some o, some d => (o.op.operands.toList.filterMap fun | .tmp t => some t | _ => none).contains d | _, _ => false
def softOk (ops : List Oper) (D : List (List Nat)) (L : List Fact) (hard wild plain keep : List Nat) (size : Nat) : Bool :=
  (keep.all fun j => decide (j < ops.length)) && (List.range ops.length).all fun k =>
    (match ops[k]? with
      | some o => o.guard.isNone && (match o.op with | .select .. => false | _ => true) && (o.after.all fun e => !Region.binds .any e || decide (e.on < k)) && (match o.dst with | some d => decide (d < size) | none => true)
      | none => false) &&
    ((D.getD k []).all fun j => waits ops k j && decide (j < ops.length)) &&
    (decide ((D.getD k []).Nodup)) &&
    (List.range ops.length).all fun j =>
      (!looks ops k j || (D.getD k []).contains j) &&
      (decide (j = k) || (match dstOf ops j, dstOf ops k with | some d, some e => d != e | _, _ => true)) &&
      (decide (j = k) ||
        ((!hard.contains k || reach ops ops.length j k || (!(keep.contains j || (List.range ops.length).any fun r => (D.getD r []).contains j && r != k && !reach ops ops.length k r) || (L.getD j .any).flat)) &&
          (!wild.contains k || reach ops ops.length k j || plain.contains j)))

variable {P : Program} {Q : Exit → Act → World → Prop}

def oblig (P : Program) (ops : List Oper) (D : List (List Nat)) (L : List Fact) (hard wild plain : List Nat) (a : Act) (w : World) (k : Nat) (o : Oper) : Prop :=
  ∀ (vals : Nat → Value) (x : World), (k ∈ plain ∨ Below w.heap.size w x) → facts L vals x (D.getD k []) →
    o.wp P (puts ops vals (D.getD k []) a) x (softQ L hard wild w.heap.size k o (puts ops vals (D.getD k []) a) x .normal) (softQ L hard wild w.heap.size k o (puts ops vals (D.getD k []) a) x)

theorem facts_iff {L : List Fact} {vals : Nat → Value} {x : World} : ∀ {l : List Nat}, facts L vals x l ↔ ∀ i ∈ l, (L.getD i .any).V (vals i) x
  | [] => by simp [facts]
  | i :: l => by simp [facts, facts_iff (l := l)]

theorem put_size (a : Act) (d : Option Tmp) (v : Value) : (a.put d v).tmps.size = a.tmps.size := by cases d <;> simp [Act.put]
theorem put_defers (a : Act) (d : Option Tmp) (v : Value) : (a.put d v).defers = a.defers := by cases d <;> rfl
theorem put_get_ne (a : Act) (d : Option Tmp) (v : Value) (t : Nat) (h : d ≠ some t) : (a.put d v).tmps[t]? = a.tmps[t]? := by
  cases d with
  | none => rfl
  | some d => simp only [Act.put]; exact Array.getElem?_setIfInBounds_ne (fun e => h (congrArg some e))
theorem put_get (a : Act) (v : Value) (t : Nat) (h : t < a.tmps.size) : (a.put (some t) v).tmps[t]? = some v := by
  simp [Act.put, h]

theorem puts_size {ops : List Oper} {vals : Nat → Value} : ∀ (l : List Nat) (a : Act), (puts ops vals l a).tmps.size = a.tmps.size
  | [], _ => rfl
  | i :: l, a => by rw [puts, puts_size l, put_size]
theorem puts_defers {ops : List Oper} {vals : Nat → Value} : ∀ (l : List Nat) (a : Act), (puts ops vals l a).defers = a.defers
  | [], _ => rfl
  | i :: l, a => by rw [puts, puts_defers l, put_defers]
theorem puts_ne {ops : List Oper} {vals : Nat → Value} {t : Nat} : ∀ (l : List Nat) (a : Act), (∀ i ∈ l, dstOf ops i ≠ some t) → (puts ops vals l a).tmps[t]? = a.tmps[t]?
  | [], _, _ => rfl
  | i :: l, a, h => by rw [puts, puts_ne l _ (fun j hj => h j (by simp [hj])), put_get_ne _ _ _ _ (h i (by simp))]
theorem puts_get {ops : List Oper} {vals : Nat → Value} {t : Nat} (hd : ∀ i j, dstOf ops i = some t → dstOf ops j = some t → i = j) :
    ∀ (l : List Nat) (a : Act) (i : Nat), i ∈ l → dstOf ops i = some t → t < a.tmps.size → (puts ops vals l a).tmps[t]? = some (vals i)
  | [], _, _, h, _, _ => by cases h
  | j :: l, a, i, h, hi, ht => by
    rw [puts]
    by_cases hl : i ∈ l
    · exact puts_get hd l _ i hl hi (by rw [put_size]; exact ht)
    · have hij : i = j := by simpa [hl] using h
      subst hij
      rw [puts_ne l _ (fun m hm e => hl (hd i m hi e ▸ hm)), hi, put_get _ _ _ ht]

/-- Listed is closed: what an operation waits for is listed ahead of it. -/
structure SoftInv (ops : List Oper) (D : List (List Nat)) (L : List Fact) (plain keep : List Nat) (a : Act) (w : World) (listed : Array Bool) (a' : Act) (x : World) (vals : Nat → Value) : Prop where
  size : listed.size = ops.length
  closed : ∀ j k, waits ops k j = true → listed.getD k false = true → listed.getD j false = true
  tsize : a'.tmps.size = a.tmps.size
  defers : a'.defers = a.defers
  old : ∀ t, (∀ j, listed.getD j false = true → dstOf ops j ≠ some t) → a'.tmps[t]? = a.tmps[t]?
  new : ∀ j t, listed.getD j false = true → dstOf ops j = some t → a'.tmps[t]? = some (vals j)
  cond : (∃ r, r < ops.length ∧ listed.getD r false = false ∧ r ∉ plain) → Below w.heap.size w x
  fact : ∀ j, listed.getD j false = true → (j ∈ keep ∨ ∃ r, r < ops.length ∧ listed.getD r false = false ∧ j ∈ D.getD r []) → (L.getD j .any).V (vals j) x

def cnt (f : Nat → Bool) : Nat → Nat
  | 0 => 0
  | n + 1 => cnt f n + (if f n then 0 else 1)
theorem cnt_zero {f : Nat → Bool} : ∀ {n : Nat}, cnt f n = 0 → ∀ i, i < n → f i = true
  | 0, _, i, hi => absurd hi (by omega)
  | n + 1, h, i, hi => by
    simp only [cnt] at h
    rcases Nat.lt_or_ge i n with h' | h'
    · exact cnt_zero (by omega) i h'
    · have : i = n := by omega
      subst this
      cases hf : f i with
      | true => rfl
      | false => simp [hf] at h
theorem cnt_set {f g : Nat → Bool} {k : Nat} (hf : f k = false) (hg : ∀ i, g i = if i = k then true else f i) : ∀ {n : Nat}, (n ≤ k → cnt g n = cnt f n) ∧ (k < n → cnt g n + 1 = cnt f n)
  | 0 => ⟨fun _ => rfl, fun h => absurd h (by omega)⟩
  | n + 1 => by
    obtain ⟨h1, h2⟩ := cnt_set hf hg (n := n)
    refine ⟨fun h => ?_, fun h => ?_⟩
    · have hn : g n = f n := by rw [hg n]; exact if_neg (by omega)
      simp only [cnt]; rw [h1 (by omega), hn]
    · simp only [cnt]
      rcases Nat.lt_or_ge k n with h' | h'
      · have := h2 h'
        have hn : g n = f n := by rw [hg n]; exact if_neg (by omega)
        rw [hn]; omega
      · have : k = n := by omega
        subst this
        have hn : g k = true := by rw [hg k]; exact if_pos rfl
        rw [h1 (Nat.le_refl _), hn, hf]; simp

theorem getD_set {listed : Array Bool} {k : Nat} (hk : k < listed.size) (i : Nat) : (listed.setIfInBounds k true).getD i false = if i = k then true else listed.getD i false := by
  by_cases h : i = k
  · subst h; simp [hk]
  · rw [if_neg h]; exact getD_set_ne false (fun e => h e.symm)

theorem waits_spec {ops : List Oper} {k j : Nat} : waits ops k j = true ↔ ∃ o, ops[k]? = some o ∧ ∃ e ∈ o.after, Region.binds .any e = true ∧ e.on = j := by
  unfold waits
  cases h : ops[k]? with
  | none => simp
  | some o =>
    simp only [Option.some.injEq, exists_eq_left']
    rw [Array.any_eq_true']
    simp only [Bool.and_eq_true, beq_iff_eq]

theorem reach_listed {ops : List Oper} {listed : Array Bool} (hc : ∀ j k, waits ops k j = true → listed.getD k false = true → listed.getD j false = true) :
    ∀ (n k j : Nat), (∀ m, waits ops k m = true → listed.getD m false = true) → reach ops n k j = true → listed.getD j false = true
  | 0, k, j, hk, h => hk j h
  | n + 1, k, j, hk, h => by
    simp only [reach, Bool.or_eq_true, List.any_eq_true, Bool.and_eq_true] at h
    rcases h with h | ⟨m, _, hm, hr⟩
    · exact hk j h
    · exact reach_listed hc n m j (fun m' hm' => hc m' m hm' (hk m hm)) hr

theorem softOk_spec {ops : List Oper} {D : List (List Nat)} {L : List Fact} {hard wild plain keep : List Nat} {size : Nat} (h : softOk ops D L hard wild plain keep size = true) (k : Nat) (o : Oper) (hk : ops[k]? = some o) :
    o.guard = none ∧ (∀ cs b, o.op ≠ .select cs b) ∧ (∀ e ∈ o.after, Region.binds .any e = true → e.on < k) ∧ (∀ d, o.dst = some d → d < size) ∧
    (∀ j ∈ D.getD k [], waits ops k j = true ∧ j < ops.length) ∧ (∀ j, j < ops.length → looks ops k j = true → j ∈ D.getD k []) ∧
    (∀ j d, j < ops.length → dstOf ops j = some d → o.dst = some d → j = k) ∧
    (∀ j, j < ops.length → j ≠ k → (k ∈ hard → reach ops ops.length j k = false → (j ∈ keep ∨ ∃ r, r < ops.length ∧ j ∈ D.getD r [] ∧ r ≠ k ∧ reach ops ops.length k r = false) → (L.getD j .any).flat = true) ∧ (k ∈ wild → reach ops ops.length k j = false → j ∈ plain)) := by
  have hlt : k < ops.length := (List.getElem?_eq_some_iff.1 hk).1
  unfold softOk at h
  rw [Bool.and_eq_true] at h
  have h := List.all_eq_true.1 h.2 k (List.mem_range.2 hlt)
  have hdk : dstOf ops k = o.dst := by simp [dstOf, hk]
  simp only [hk, Bool.and_eq_true, hdk] at h
  obtain ⟨⟨⟨⟨⟨⟨h1, h2⟩, h3⟩, h4⟩, h5⟩, _⟩, h6⟩ := h
  have h6 : ∀ j, j < ops.length → _ := fun j hj => List.all_eq_true.1 h6 j (List.mem_range.2 hj)
  refine ⟨by simpa using h1, fun cs b e => (by rw [e] at h2; cases h2), fun e he hb => ?_, fun d hd => by rw [hd] at h4; simpa using h4, fun j hj => ?_, fun j hj hl => ?_, fun j d hj hd hd' => ?_, fun j hj hne => ?_⟩
  · have := (Array.all_eq_true_iff_forall_mem.1 h3) e he
    simpa [hb] using this
  · have := List.all_eq_true.1 h5 j hj
    simpa using this
  · have := h6 j hj
    simp only [Bool.and_eq_true, hl] at this
    simpa using this.1.1
  · have := h6 j hj
    simp only [Bool.and_eq_true, hd, hd'] at this
    simpa using this.1.2
  · have := h6 j hj
    simp only [Bool.and_eq_true] at this
    have this := this.2
    simp only [hne, decide_false, Bool.false_or, Bool.and_eq_true] at this
    obtain ⟨t1, t2⟩ := this
    refine ⟨fun hh hjk hr => ?_, fun hh hr => ?_⟩
    · have hh' : hard.contains k = true := by simpa using hh
      simp only [hh', hjk, Bool.not_true, Bool.false_or, Bool.or_eq_true, Bool.not_eq_true'] at t1
      rcases t1 with t1 | t1
      · exfalso
        rw [Bool.or_eq_false_iff] at t1
        rcases hr with hr | ⟨r, hr, hjr, hrk, hn⟩
        · have := t1.1; simp [hr] at this
        · have := List.any_eq_false.1 t1.2 r (List.mem_range.2 hr)
          simp [hrk, hn] at this
          exact this hjr
      · exact t1
    · have hh' : wild.contains k = true := by simpa using hh
      simp only [hh', Bool.not_true, Bool.false_or, Bool.or_eq_true, hr] at t2
      simpa using t2

theorem looks_spec {ops : List Oper} {k j : Nat} {o : Oper} {t : Tmp} (hk : ops[k]? = some o) (hj : dstOf ops j = some t) (ht : Operand.tmp t ∈ o.op.operands) : looks ops k j = true := by
  unfold looks
  rw [hk, hj]
  simp only [List.contains_iff_mem]
  exact List.mem_filterMap.2 ⟨.tmp t, by simpa using ht, rfl⟩

theorem dst_lt {ops : List Oper} {j : Nat} {t : Tmp} (h : dstOf ops j = some t) : j < ops.length := by
  unfold dstOf at h
  cases hj : ops[j]? with
  | none => rw [hj] at h; cases h
  | some o => exact (List.getElem?_eq_some_iff.1 hj).1

theorem listed_lt {ops : List Oper} {listed : Array Bool} {j : Nat} (hs : listed.size = ops.length) (h : listed.getD j false = true) : j < ops.length := by
  rcases Nat.lt_or_ge j listed.size with h' | h'
  · omega
  · simp [Array.getElem?_eq_none h'] at h

theorem soft_any {ops : List Oper} {D : List (List Nat)} {L : List Fact} {hard wild plain keep : List Nat} {a : Act} {w : World} (hB : softOk ops D L hard wild plain keep a.tmps.size = true)
    (hs : ∀ k o, ops[k]? = some o → oblig P ops D L hard wild plain a w k o)
    (hfin : ∀ vals x, facts L vals x keep → Q .normal (puts ops vals (List.range ops.length) a) x) :
    ∀ (fuel : Nat) (listed : Array Bool) (a' : Act) (x : World) (vals : Nat → Value), cnt (fun i => listed.getD i false) ops.length ≤ fuel →
      SoftInv ops D L plain keep a w listed a' x vals → wpAny P .any ops.toArray Q fuel listed a' x := by
  have hdd : ∀ i j t, dstOf ops i = some t → dstOf ops j = some t → i = j := fun i j t hi hj => by
    have hjl : j < ops.length := dst_lt hj
    have ho : ops[j]? = some ops[j] := List.getElem?_eq_getElem hjl
    exact (softOk_spec hB j _ ho).2.2.2.2.2.2.1 i t (dst_lt hi) hi (by simpa [dstOf, ho] using hj)
  have hds : ∀ j t, dstOf ops j = some t → t < a.tmps.size := fun j t hj => by
    have hjl : j < ops.length := dst_lt hj
    have ho : ops[j]? = some ops[j] := List.getElem?_eq_getElem hjl
    exact (softOk_spec hB j _ ho).2.2.2.1 t (by simpa [dstOf, ho] using hj)
  have hdone : ∀ (listed : Array Bool) (a' : Act) (x : World) (vals : Nat → Value), (∀ i, i < ops.length → listed.getD i false = true) → SoftInv ops D L plain keep a w listed a' x vals → Q .normal a' x := by
    intro listed a' x vals hall inv
    have ha : a' = puts ops vals (List.range ops.length) a := by
      have ht : a'.tmps = (puts ops vals (List.range ops.length) a).tmps := by
        apply Array.ext_getElem?
        intro t
        by_cases h : ∃ j, dstOf ops j = some t
        · obtain ⟨j, hj⟩ := h
          rw [inv.new j t (hall j (dst_lt hj)) hj, puts_get (fun i j => hdd i j t) _ _ j (List.mem_range.2 (dst_lt hj)) hj (hds j t hj)]
        · rw [inv.old t (fun j _ e => h ⟨j, e⟩), puts_ne _ _ (fun i _ e => h ⟨i, e⟩)]
      have hdf : a'.defers = (puts ops vals (List.range ops.length) a).defers := by rw [puts_defers]; exact inv.defers
      cases a'
      cases hp : puts ops vals (List.range ops.length) a
      rw [hp] at ht hdf
      simp only at ht hdf
      rw [ht, hdf]
    rw [ha]
    refine hfin vals x (facts_iff.2 fun i hi => ?_)
    have hk : i < ops.length := by
      unfold softOk at hB
      rw [Bool.and_eq_true] at hB
      simpa using List.all_eq_true.1 hB.1 i hi
    exact inv.fact i (hall i hk) (.inl hi)
  have hmin : ∀ (listed : Array Bool), listed.size = ops.length → ∀ i, i < ops.length → listed.getD i false = false → Region.ready .any ops.toArray listed ≠ [] := by
    intro listed hsz i
    induction i using Nat.strongRecOn with
    | _ i ih =>
      intro hi hun hr
      have ho : ops[i]? = some ops[i] := List.getElem?_eq_getElem hi
      by_cases h : ∀ e ∈ ops[i].after, Region.binds .any e = true → listed.getD e.on false = true
      · have : i ∈ Region.ready .any ops.toArray listed := mem_ready.2 ⟨getD_in (by omega) hun, ops[i], by simp [ho], h⟩
        rw [hr] at this; cases this
      · simp only [Classical.not_forall] at h
        obtain ⟨e, he, hb, hl⟩ := h
        have hlt := (softOk_spec hB i _ ho).2.2.1 e he hb
        exact ih e.on hlt (by omega) (by simpa using hl) hr
  intro fuel
  induction fuel with
  | zero =>
    intro listed a' x vals hc inv
    have hall := cnt_zero (f := fun i => listed.getD i false) (Nat.le_zero.1 hc)
    refine ⟨?_, hdone _ _ _ _ hall inv⟩
    cases hr : Region.ready .any ops.toArray listed with
    | nil => rfl
    | cons k rs =>
      exfalso
      have hk : k ∈ Region.ready .any ops.toArray listed := by rw [hr]; simp
      obtain ⟨h0, o, ho, _⟩ := mem_ready.1 hk
      have hlt : k < ops.length := by
        have := (Array.getElem?_eq_some_iff.1 ho).1; simpa using this
      have h1 : listed.getD k false = true := hall k hlt
      rw [getD_both h0] at h1; cases h1
  | succ fuel ih =>
    intro listed a' x vals hc inv
    refine ⟨fun hr => ?_, fun k hk => ?_⟩
    · refine hdone _ _ _ _ (fun i hi => ?_) inv
      cases h : listed.getD i false with
      | true => rfl
      | false => exact absurd hr (hmin listed inv.size i hi h)
    · obtain ⟨h0, o, hoA, hwait⟩ := mem_ready.1 hk
      have ho : ops[k]? = some o := by simpa using hoA
      have hkl : k < ops.length := (List.getElem?_eq_some_iff.1 ho).1
      have h0f : listed.getD k false = false := getD_both h0
      have hsz : k < listed.size := by rw [inv.size]; exact hkl
      obtain ⟨hg, hsel, _, hdsz, hD, hlook, hdist, hhard⟩ := softOk_spec hB k o ho
      have hw : ∀ m, waits ops k m = true → listed.getD m false = true := fun m hm => by
        obtain ⟨o', ho', e, he, hb, rfl⟩ := waits_spec.1 hm
        have : o' = o := Option.some.inj (ho'.symm.trans ho)
        subst this
        exact hwait e he hb
      have hDl : ∀ j ∈ D.getD k [], listed.getD j false = true := fun j hj => hw j (hD j hj).1
      have hdk : dstOf ops k = o.dst := by simp [dstOf, ho]
      -- the operation runs as it does in the small state
      have hexec : execOp a'.eval o = execOp (puts ops vals (D.getD k []) a).eval o := execOp_congr o hsel fun y hy => by
        cases y with
        | tmp t =>
          have ht : a'.tmps[t]? = (puts ops vals (D.getD k []) a).tmps[t]? := by
            by_cases h : ∃ j, dstOf ops j = some t
            · obtain ⟨j, hj⟩ := h
              have hm := hlook j (dst_lt hj) (looks_spec ho hj hy)
              rw [inv.new j t (hDl j hm) hj, puts_get (fun i j => hdd i j t) _ _ j hm hj (hds j t hj)]
            · rw [inv.old t (fun j _ e => h ⟨j, e⟩), puts_ne _ _ (fun i _ e => h ⟨i, e⟩)]
          show a'.tmps.getD t undef = (puts ops vals (D.getD k []) a).tmps.getD t undef
          rw [Array.getD_eq_getD_getElem?, Array.getD_eq_getD_getElem?, ht]
        | _ => rfl
      have hob := hs k o ho vals x
        (by
          by_cases hp : k ∈ plain
          · exact .inl hp
          · exact .inr (inv.cond ⟨k, hkl, h0f, hp⟩))
        (facts_iff.2 fun j hj => inv.fact j (hDl j hj) (.inr ⟨k, hkl, h0f, hj⟩))
      have hbs : (puts ops vals (D.getD k []) a).tmps.size = a.tmps.size := puts_size _ _
      have hbd : (puts ops vals (D.getD k []) a).defers = a.defers := puts_defers _ _
      have next : ∀ v x', softQ L hard wild w.heap.size k o (puts ops vals (D.getD k []) a) x .normal ((puts ops vals (D.getD k []) a).put o.dst v) x' →
          wpAny P .any ops.toArray Q fuel (listed.setIfInBounds k true) (a'.put o.dst v) x' := by
        intro v x' hq
        obtain ⟨_, hV, hbel, hbel2⟩ := hq
        have hgs := getD_set (listed := listed) hsz
        have hold : ∀ j, (listed.setIfInBounds k true).getD j false = true → j ≠ k → listed.getD j false = true := fun j hj hne => by
          rw [hgs, if_neg hne] at hj; exact hj
        have hun : ∀ r, (listed.setIfInBounds k true).getD r false = false → r ≠ k ∧ listed.getD r false = false := fun r hr => by
          rw [hgs] at hr
          by_cases e : r = k
          · rw [if_pos e] at hr; cases hr
          · rw [if_neg e] at hr; exact ⟨e, hr⟩
        have hnr : ∀ r, listed.getD r false = false → reach ops ops.length k r = false := fun r hr => by
          cases h : reach ops ops.length k r with
          | false => rfl
          | true => rw [reach_listed inv.closed _ k r hw h] at hr; cases hr
        refine ih _ _ x' (fun j => if j = k then got o ((puts ops vals (D.getD k []) a).put o.dst v) else vals j) ?_ ⟨by simp [inv.size], fun j m hm hl => ?_, by rw [put_size]; exact inv.tsize, by rw [put_defers]; exact inv.defers, fun t ht => ?_, fun j t hj hdj => ?_, fun hr => ?_, fun j hj hr => ?_⟩
        · have := (cnt_set (f := fun i => listed.getD i false) (g := fun i => (listed.setIfInBounds k true).getD i false) h0f hgs (n := ops.length)).2 hkl
          omega
        · rw [hgs]
          by_cases e : j = k
          · rw [if_pos e]
          · rw [if_neg e]
            by_cases e' : m = k
            · subst e'; exact hw j hm
            · exact inv.closed j m hm (hold m hl e')
        · rw [put_get_ne _ _ _ _ (by
            have := ht k (by rw [hgs, if_pos rfl])
            rwa [hdk] at this)]
          refine inv.old t fun j hj => ht j ?_
          rw [hgs]; split <;> first | rfl | exact hj
        · by_cases e : j = k
          · subst e
            rw [hdk] at hdj
            have htl := hdsz t hdj
            rw [if_pos rfl, hdj, put_get _ _ _ (by rw [inv.tsize]; exact htl)]
            simp only [got, hdj]
            rw [Array.getD_eq_getD_getElem?, put_get _ _ _ (by rw [hbs]; exact htl)]
            rfl
          · rw [if_neg e, put_get_ne _ _ _ _ (fun e' => e (hdist j t (dst_lt hdj) hdj e'))]
            exact inv.new j t (hold j hj e) hdj
        · obtain ⟨r, hrl, hru, hrp⟩ := hr
          obtain ⟨hrk, hru'⟩ := hun r hru
          have hcd := inv.cond ⟨r, hrl, hru', hrp⟩
          rcases hbel2 with hh | hh | hb
          · exact absurd ((hhard r hrl hrk).2 hh (hnr r hru')) hrp
          · rcases hbel with hb | hb
            · exact absurd hb hh
            · exact hcd.trans (hb.mono hcd.size)
          · exact hcd.trans hb
        · by_cases e : j = k
          · subst e; rw [if_pos rfl]; exact hV
          · rw [if_neg e]
            have hjl := hold j hj e
            have hjlt : j < ops.length := listed_lt inv.size hjl
            have hold' : j ∈ keep ∨ ∃ r, r < ops.length ∧ listed.getD r false = false ∧ j ∈ D.getD r [] := by
              rcases hr with hr | ⟨r, hrl, hru, hjr⟩
              · exact .inl hr
              · exact .inr ⟨r, hrl, (hun r hru).2, hjr⟩
            have hVj := inv.fact j hjl hold'
            rcases hbel with hh | hb
            · have hjk : reach ops ops.length j k = false := by
                cases h : reach ops ops.length j k with
                | false => rfl
                | true => rw [reach_listed inv.closed _ j k (fun m hm => inv.closed m j hm hjl) h] at h0f; cases h0f
              refine (L.getD j .any).hflat ((hhard j hjlt e).1 hh hjk ?_) _ _ _ hVj
              rcases hr with hr | ⟨r, hrl, hru, hjr⟩
              · exact .inl hr
              · exact .inr ⟨r, hrl, hjr, (hun r hru).1, hnr r (hun r hru).2⟩
            · exact (L.getD j .any).stab _ _ _ hVj hb
      unfold wpOp
      rw [hoA]
      have hwant : Region.wanted o (yielded ops.toArray a'.tmps) = true := by unfold Region.wanted; rw [hg]
      simp only [hwant, if_true]
      refine .inl ?_
      unfold Oper.wp at hob ⊢
      rw [hexec]
      generalize (execOp (puts ops vals (D.getD k []) a).eval o).run P x = r at hob ⊢
      cases r with
      | ok n w' =>
        cases n <;> simp only [Oper.upon] at hob ⊢
        case value v => exact next v w' hob
        case skip => exact next _ w' hob
        case defer d =>
          have := hob.1
          rw [put_defers] at this
          exact absurd (congrArg List.length this) (by simp)
        case enter f args =>
          refine Calls.mono hob fun e w'' he => ?_
          cases e with
          | returned u => exact next u w'' he
          | panicked c => exact he.elim
          | outgrown => obtain ⟨_, _, h⟩ := he; exact h.elim
        case row row args => exact Rows.mono hob fun u w'' he => next u w'' he
      | halt e w' =>
        cases e <;> simp only [Oper.upon] at hob ⊢ <;> exact hob.elim

/-- A drawn region, each operation once. -/
theorem wp_region_soft {id : Nat} {ops : List Oper} {a : Act} {w : World} (D : List (List Nat)) (L : List Fact) (hard wild plain keep : List Nat) (hm : P.follows .mixedOrders = true)
    (hB : softOk ops D L hard wild plain keep a.tmps.size = true)
    (hs : ∀ k o, ops[k]? = some o → oblig P ops D L hard wild plain a w k o)
    (hfin : ∀ vals x, facts L vals x keep → Q .normal (puts ops vals (List.range ops.length) a) x) : (Code.region id ops.toArray true).wp P Q a w := by
  refine wp_region_any hm ?_
  have h0 : ∀ j, (Array.replicate ops.toArray.size false).getD j false = false := fun j => getD_replicate_false _ _
  refine soft_any hB hs hfin _ _ _ _ (fun _ => undef) ?_ ⟨by simp, fun j k _ hl => ?_, rfl, rfl, fun _ _ => rfl, fun j t hj => ?_, fun _ => below_drewN (Below.refl _ _) 1, fun j hj => ?_⟩
  · have hle : ∀ (f : Nat → Bool) (n : Nat), cnt f n ≤ n := fun f n => by
      induction n with
      | zero => exact Nat.le_refl _
      | succ n ih => simp only [cnt]; split <;> omega
    exact Nat.le_trans (hle _ _) (by simp)
  · rw [h0] at hl; cases hl
  · rw [h0] at hj; cases hj
  · rw [h0] at hj; cases hj

def putsD (vals : Nat → Value) : List (Nat × Tmp) → Act → Act
  | [], a => a
  | (i, t) :: l, a => putsD vals l (a.put (some t) (vals i))
def factsD (L : List Fact) (vals : Nat → Value) (x : World) : List (Nat × Tmp) → Prop
  | [] => True
  | (i, _) :: l => (L.getD i .any).V (vals i) x ∧ factsD L vals x l
def fitsD (ops : List Oper) (l : List (Nat × Tmp)) : Bool := l.all fun p => dstOf ops p.1 == some p.2
theorem puts_putsD {ops : List Oper} {vals : Nat → Value} : ∀ {l : List (Nat × Tmp)} {a : Act}, fitsD ops l = true → puts ops vals (l.map (·.1)) a = putsD vals l a
  | [], _, _ => rfl
  | (i, t) :: l, a, h => by
    simp only [fitsD, List.all_cons, Bool.and_eq_true, beq_iff_eq] at h
    simp only [List.map_cons, puts, putsD, h.1]
    exact puts_putsD h.2
theorem facts_factsD {L : List Fact} {vals : Nat → Value} {x : World} : ∀ {l : List (Nat × Tmp)}, facts L vals x (l.map (·.1)) = factsD L vals x l
  | [] => rfl
  | (i, t) :: l => by simp only [List.map_cons, facts, factsD, facts_factsD (l := l)]
theorem puts_all {ops : List Oper} {vals : Nat → Value} : ∀ (l : List Nat) (a : Act), puts ops vals l a = putsD vals (l.filterMap fun i => (dstOf ops i).map fun t => (i, t)) a
  | [], _ => rfl
  | i :: l, a => by
    cases h : dstOf ops i with
    | none => simp only [puts, h, List.filterMap_cons, Option.map_none]; exact puts_all l a
    | some t => simp only [puts, h, List.filterMap_cons, Option.map_some, putsD]; exact puts_all l _

/-- One operation's share: in whatever later world, from the state that holds what it looks at. -/
def share (P : Program) (L : List Fact) (hard wild plain : List Nat) (a : Act) (w : World) (k : Nat) (o : Oper) (d : List (Nat × Tmp)) : Prop :=
  ∀ (vals : Nat → Value) (x : World), (k ∈ plain ∨ Below w.heap.size w x) → factsD L vals x d →
    wpList P #[] (softQ L hard wild w.heap.size k o (putsD vals d a) x) [o] (putsD vals d a) x
def shares (P : Program) (L : List Fact) (hard wild plain : List Nat) (a : Act) (w : World) : Nat → List Oper → List (List (Nat × Tmp)) → Prop
  | _, [], _ => True
  | _, _ :: _, [] => False
  | k, o :: l, d :: ds => share P L hard wild plain a w k o d ∧ shares P L hard wild plain a w (k + 1) l ds
theorem shares_get {L : List Fact} {hard wild plain : List Nat} {a : Act} {w : World} : ∀ {l : List Oper} {ds : List (List (Nat × Tmp))} {k : Nat}, shares P L hard wild plain a w k l ds →
    ∀ i o, l[i]? = some o → share P L hard wild plain a w (k + i) o (ds.getD i [])
  | [], _, _, _, i, o, h => by simp at h
  | _ :: _, [], _, h, _, _, _ => h.elim
  | o' :: l, d :: ds, k, h, 0, o, ho => by
    simp only [List.getElem?_cons_zero, Option.some.injEq] at ho
    subst ho; exact h.1
  | o' :: l, d :: ds, k, h, i + 1, o, ho => by
    simp only [List.getElem?_cons_succ] at ho
    have := shares_get h.2 i o ho
    rw [show k + (i + 1) = k + 1 + i by omega]
    simpa using this

/-- A drawn region, each operation once: D: of each operation the ones that it looks at, with their slots; L: what is said of each one's value; hard: those that write old memory; plain: those that want nothing of the world ahead; keep: whose facts the end wants; all: all slots. -/
theorem wp_region_shares {id : Nat} {ops : List Oper} {a : Act} {w : World} (D : List (List (Nat × Tmp))) (L : List Fact) (hard wild plain keep : List Nat) (all : List (Nat × Tmp)) (hm : P.follows .mixedOrders = true)
    (hB : softOk ops (D.map (·.map (·.1))) L hard wild plain keep a.tmps.size = true) (hD : D.all (fitsD ops) = true)
    (hall : (List.range ops.length).filterMap (fun i => (dstOf ops i).map fun t => (i, t)) = all)
    (hs : shares P L hard wild plain a w 0 ops D)
    (hfin : ∀ vals x, facts L vals x keep → Q .normal (putsD vals all a) x) : (Code.region id ops.toArray true).wp P Q a w := by
  refine wp_region_soft (D.map (·.map (·.1))) L hard wild plain keep hm hB (fun k o hk => ?_) (fun vals x hf => by rw [puts_all, hall]; exact hfin vals x hf)
  have hg := (softOk_spec hB k o hk).1
  have hsh := shares_get hs k o hk
  rw [Nat.zero_add] at hsh
  have hfit : fitsD ops (D.getD k []) = true := by
    rcases Nat.lt_or_ge k D.length with h | h
    · rw [show D.getD k [] = D[k] by simp [h]]; exact List.all_eq_true.1 hD _ (List.getElem_mem h)
    · rw [show D.getD k [] = [] by simp [h]]; rfl
  have hDk : (D.map (·.map (·.1))).getD k [] = (D.getD k []).map (·.1) := by
    rcases Nat.lt_or_ge k D.length with h | h
    · simp [h]
    · simp [h]
  intro vals x hc hf
  rw [hDk, facts_factsD] at hf
  have h := hsh vals x hc hf
  rw [hDk, puts_putsD hfit]
  unfold wpList at h
  rw [if_pos (by unfold Region.wanted; rw [hg])] at h
  rcases h with h | ⟨_, _, _, h⟩
  · exact h
  · exact h.elim

/-- A row of the call's own. -/
def Fact.row (base : Nat) (e : TypeId) (size n : Nat) (cs : List Value) : Fact :=
  .of (fun v x => ∃ A c, v = .slice A n c ∧ x.ownsRow base e size (.slice A n c) n cs) fun _ _ _ ⟨A, c, h, ho⟩ hb => ⟨A, c, h, own_below ho hb (Nat.le_refl _)⟩
/-- The slice of a new block of m elements. -/
def Fact.lit (e : TypeId) (m : Nat) (cs : Array Value) : Fact :=
  .of (fun v x => ∃ b, v = .slice (some ⟨b, 0, none⟩) m m ∧ b < x.heap.size ∧ ∃ fr, x.heap[b]? = some (.cells cs e fr)) fun _ _ _ ⟨b, h, hlt, fr, hh⟩ hb => ⟨b, h, Nat.lt_of_lt_of_le hlt hb.size, fr, (hb.block b hlt).trans hh⟩

/-- append onto the empty slice of a block of its own writes no old block. -/
theorem run_append_lit (w : World) (base : Nat) (t ty e : TypeId) (i : TypeInfo) (z : Value) (size bytes : Nat) (ht : P.underlying t = some (.slice e)) (hi : P.info? e = some i) (hz : i.zero = some z)
    (hsize : i.size = size) (hby : i.bytes = bytes) (hzs : z.cells.size = size) (hsz : 0 < size)
    (p : Addr) (hown : w.ownsRow base e size (.slice (some p) 0 0) 0 [])
    (A : Option Addr) (m c : Nat) (news : List Value) (hr : Src w size A m news) (h1 : ∀ u ∈ news, u.oneCell' = true)
    (h63 : m ≤ maxLen) (hbytes : m * bytes ≤ 140737488355328) (hbase : base ≤ w.heap.size) (hA : A = none → m = 0) :
    ∃ A' c' w', (Builtin.append_ #[t, t] ty #[.slice (some p) 0 0, .slice A m c]).run P w = .ok (.slice A' m c') w' ∧ w'.ownsRow base e size (.slice A' m c') m news ∧ Below w.heap.size w w' := by
  by_cases hm : m = 0
  · subst hm
    have hn : news = [] := List.eq_nil_of_length_eq_zero (by simpa using hr.1)
    subst hn
    refine ⟨some p, 0, w, ?_, hown, Below.refl _ _⟩
    rcases A with _ | ad
    · exact run_append_of_nil w base t ty e i size ht hi _ 0 [] hown c
    · simp [Builtin.append_, run_underlying ht, sizeOf, typeInfo, hi, Builtin.lenOf, Builtin.firstCells, loadCells, loadCellsFrom, storeCells]
  · obtain ⟨A', c', w', hrun, h2, _⟩ := run_append_src (P := P) w base t ty e i z size bytes ht hi hz hsize hby hzs hsz _ 0 [] hown A m c news hr h1 m (by omega) h63 hbytes hbase hA
    refine ⟨A', c', w', hrun, by simpa using h2, ?_⟩
    obtain ⟨ad, rfl, hc⟩ := hr.2 (by omega)
    subst hsize hby
    have hg := run_append_grow (P := P) w t ty e i z ht hi hz p 0 0 [] (by simp) (by simp) ad m c news hr.1 hc (by omega) (by unfold maxLen at h63; omega) (growslice_fits (by omega) (by simpa using hbytes))
    rw [hg] at hrun
    injection hrun with _ hw
    rw [← hw]
    exact (below_drewN (Below.refl _ _) 1).alloc (Nat.le_refl _) _

theorem wpList_append_lit {ops : Array Oper} {rest : List Oper} {o : Oper} {a : Act} (w : World) (hgd : o.guard = none) (s x : Operand) (t : TypeId)
    (ho : o.op = .call { callee := .builtin .append, args := #[s, x], argTypes := #[t, t] })
    (base : Nat) (e : TypeId) (i : TypeInfo) (z : Value) (size bytes : Nat) (ht : P.underlying t = some (.slice e)) (hi : P.info? e = some i) (hz : i.zero = some z)
    (hsize : i.size = size) (hby : i.bytes = bytes) (hzs : z.cells.size = size) (hsz : 0 < size)
    (p : Addr) (hs : a.eval s = .slice (some p) 0 0) (hown : w.ownsRow base e size (.slice (some p) 0 0) 0 [])
    (A : Option Addr) (m c : Nat) (news : List Value) (hx : a.eval x = .slice A m c) (hr : Src w size A m news) (h1 : ∀ u ∈ news, u.oneCell' = true)
    (h63 : m ≤ maxLen) (hbytes : m * bytes ≤ 140737488355328) (hbase : base ≤ w.heap.size) (hA : A = none → m = 0)
    (h : ∀ A' c' w', w'.ownsRow base e size (.slice A' m c') m news → Below w.heap.size w w' → wpList P ops Q rest (a.put o.dst (.slice A' m c')) w') : wpList P ops Q (o :: rest) a w :=
  wpList_plain hgd fun _ hK => by
    obtain ⟨A', c', w', hrun, h2, h3⟩ := run_append_lit (P := P) w base t o.type e i z size bytes ht hi hz hsize hby hzs hsz p hown A m c news hr h1 h63 hbytes hbase hA
    unfold Oper.wp execOp
    simp only [ho, resolve, invoke, builtin, Sem.run_bind, Sem.run_pure, Result.andThen_ok, List.map_toArray, List.map_cons, List.map_nil, hs, hx, hrun]
    exact hK _ _ (h A' c' w' h2 h3)
/-- The empty slice of a block of its own. -/
def Fact.lit0 (base : Nat) (e : TypeId) (size : Nat) : Fact :=
  .of (fun v x => ∃ p, v = .slice (some p) 0 0 ∧ x.ownsRow base e size (.slice (some p) 0 0) 0 []) fun _ _ _ ⟨p, h, ho⟩ hb => ⟨p, h, own_below ho hb (Nat.le_refl _)⟩
end Go.Proofs.YtjghcaghigebjaaDoor

/-! Rows of integers: what comes in, copies, comparisons, marks; one form for all. -/
namespace Go.Proofs.YtjghcaghigebjaaDoor
open Go Go.RowKit Go.ChangeShapes Go.WideShapes Go.ChangeAt Go.Deep

def okList (l : List Int) : Prop := l.length ≤ maxLen ∧ ∀ x ∈ l, okInt x
theorem opens_ints : Opens Tryd.prog 25 Lay.int.slice (fun xs => xs.length ≤ maxLen ∧ ∀ x ∈ xs, okInt x) := Opens.slice Tryd.underlying25 (by kernel_rfl) (by decide) (Opens.int Tryd.underlying3)
/-- Small enough for every count. -/
def smInts (xs : List Int) : Prop := xs.length ≤ 1048576 ∧ i64s xs
theorem smInts_of {xs : List Int} (h : xs.length ≤ maxLen ∧ ∀ i ∈ xs, okInt i) (hn : xs.length ≤ 1048576) : smInts xs := ⟨hn, h.2⟩
def RetZ (r : Int) (w : World) (e : Ending) (w' : World) : Prop := e = .returned (.int .i64 r) ∧ Below w.heap.size w w'
/-- A copy of an integer row. -/
def CopyI (xs : List Int) (w : World) (e : Ending) (w' : World) : Prop := ∃ A c, e = .returned (.slice A xs.length c) ∧ xs.length ≤ c ∧ Lay.int.Sl w' (Own w.heap.size w') A xs ∧ Below w.heap.size w w'
theorem toInts_u (xs : List Int) (A : Option Addr) (c : Nat) (w : World) (h : Lay.int.Rd w A xs) (hs : smInts xs) :
    Calls Tryd.prog 13 #[.slice A xs.length c] w (CopyI xs w) := toIntO_any A c xs _ w h (fun _ h => h) hs.1
theorem eqInts_u (xs : List Int) (A B : Option Addr) (c d : Nat) (w : World) (h : Lay.int.Rd w A xs) (h' : Lay.int.Rd w B xs) (hs : xs.length ≤ 1048576) :
    Calls Tryd.prog 16 #[.slice A xs.length c, .slice B xs.length d] w (RetB w true) := by
  have := eqIntS_later A B c d xs xs _ _ w h h' hs hs
  rw [eqL_self] at this
  exact this
def MkD (F : Nat → Prop) (k1 : Int) (w : World) (e : Ending) (w' : World) : Prop := e = .returned (.int .i64 k1) ∧ Dab F w w'
/-- The marks: the next one, what turned, what the row reads as. -/
def MkI (A : Option Addr) (n lo hi : Nat) (k0 : Int) (w : World) (e : Ending) (w' : World) : Prop := e = .returned (.int .i64 (k0 + n)) ∧ Dab (Rng lo hi) w w' ∧ Lay.int.Sl w' (Cp lo hi w') A (upI n k0)
theorem markInts_u (xs : List Int) (A : Option Addr) (c lo hi : Nat) (k0 : Int) (w : World) (h : Lay.int.Sl w (Cp lo hi w) A xs) (hs : xs.length ≤ 1048576) (h0 : 0 ≤ k0) (h1 : k0 ≤ 500000000) :
    Calls Tryd.prog 18 #[.slice A xs.length c, .int .i64 k0] w (MkI A xs.length lo hi k0 w) :=
  (markIntS_sl A c xs k0 _ w h (fun _ h => h.2.2.2) hs h0 (by omega)).mono fun _ _ ⟨h, h', h2⟩ => ⟨h, h'.rng, h2.cp_mk h'⟩
theorem heldInts_u (n : Nat) (A : Option Addr) (c : Nat) (k0 : Int) (w : World) (h : Lay.int.Rd w A (upI n k0)) (hs : n ≤ 1048576) (h0 : 0 ≤ k0) (h1 : k0 ≤ 500000000) :
    Calls Tryd.prog 20 #[.slice A n c, .int .i64 k0] w (RetZ (k0 + n) w) :=
  (heldIntS_any A c n k0 _ w h hs h0 (by omega)).mono fun _ _ ⟨h, m, hm⟩ => ⟨h, by rw [hm]; exact below_drewN (Below.refl _ _) m⟩
/-- A row of the call's own is a copy that may be written. -/
theorem OwnI.own {w : World} {base c : Nat} {A : Option Addr} {xs : List Int} (h : OwnI w base (.slice A xs.length c) xs) : Lay.int.Sl w (Own base w) A xs := fun hn => by
  obtain ⟨A', c', e, _, hs⟩ := h.form
  injection e with e1 e2 e3
  subst e1
  obtain ⟨ad, e, hf, hc⟩ := hs hn
  refine ⟨ad, e, ⟨hf.1, hf.2, fun o => ?_⟩, hc⟩
  subst e
  rcases h.2 with ⟨e, _⟩ | ⟨g, cap, cur, e, _, hg, _⟩
  · cases e
  · injection e with e1 e2 e3
    injection e1 with e1
    subst e1
    unfold World.frozen?
    rw [hg]
    simp
theorem OwnI.cap {w : World} {base c : Nat} {A : Option Addr} {xs : List Int} (h : OwnI w base (.slice A xs.length c) xs) : xs.length ≤ c := by
  obtain ⟨A', c', e, hl, hs⟩ := h.form
  injection e with e1 e2 e3
  omega
def Fact.copyI (x : List Int) : Fact := .of (fun v xw => ∃ A c, v = .slice A x.length c ∧ x.length ≤ c ∧ Lay.int.Rd xw A x) fun _ _ _ ⟨A, c, h1, h2, h3⟩ hb => ⟨A, c, h1, h2, h3.up hb⟩
def Fact.boolC (W : World) (b : Bool) : Fact := .of (fun v xw => v = .bool b ∧ Below W.heap.size W xw) fun _ _ _ ⟨h1, h2⟩ hb => ⟨h1, bthen h2 hb⟩
end Go.Proofs.YtjghcaghigebjaaDoor

/-! Contracts of the reference's reader of codes: l12Open, pick. -/
namespace Go.Proofs.YtjghcaghigebjaaDoor
open Go Go.RowKit

/-- Block r is a reader at place p, of at most 2000 bytes that lie below it. -/
def Rdr (w : World) (r : Nat) (p : Int) : Prop :=
  ∃ A c bs, w.heap[r]? = some (.cells #[.slice A bs.length c, .int .i64 p] 128 (0, 0)) ∧ bs.length ≤ 2000 ∧ Lay.byte.Sl w (fun b => b < r) A bs

/-- The reader stays over what leaves its block and the blocks below it alone. -/
theorem Rdr.keep {w w' : World} {r : Nat} {p : Int} (h : Rdr w r p) (hk : ∀ b, b ≤ r → w'.heap[b]? = w.heap[b]?) : Rdr w' r p := by
  obtain ⟨A, c, bs, hb, hl, hs⟩ := h
  exact ⟨A, c, bs, (hk r (Nat.le_refl _)).trans hb, hl, hs.keep fun b hb => hk b (Nat.le_of_lt hb)⟩
theorem Rdr.lt {w : World} {r : Nat} {p : Int} (h : Rdr w r p) : r < w.heap.size := by
  obtain ⟨A, c, bs, hb, _⟩ := h
  exact lt_of_block hb
theorem Rdr.up {w w' : World} {r : Nat} {p : Int} (h : Rdr w r p) (hb : Below w.heap.size w w') : Rdr w' r p :=
  h.keep fun b hbr => hb.block b (Nat.lt_of_le_of_lt hbr h.lt)

def OpenPost (w : World) (e : Ending) (w' : World) : Prop := ∃ r, e = .returned (.pointer (some ⟨r, 0, none⟩)) ∧ w.heap.size ≤ r ∧ Rdr w' r 0 ∧ Below w.heap.size w w'

theorem open_any (A : Option Addr) (c : Nat) (bs : List UInt8) (w : World) (h : Lay.byte.Rd w A bs) (hc : bs.length ≤ c) (hn : bs.length ≤ 9223372036854775807) :
    Calls Tryd.prog 55 #[.slice A bs.length c] w (OpenPost w) := by
  by_cases hl : 2000 < bs.length
  · go_enter Tryd.func55, Tryd.ntmps55
    go_wp2
    go_ret
    refine ⟨w.heap.size, rfl, Nat.le_refl _, ⟨A, c, bs.take 2000, ?_, by simp; omega, ?_⟩, (Below.refl _ _).alloc (Nat.le_refl _) _⟩
    · have e : (bs.take 2000).length = 2000 := by simp; omega
      rw [e]
      exact heap_alloc_new w _
    · exact (h.take 2000).keep fun b hb => Below.heap_alloc w _ b hb
  · go_enter Tryd.func55, Tryd.ntmps55
    go_wp2
    go_ret
    refine ⟨w.heap.size, rfl, Nat.le_refl _, ⟨A, c, bs, ?_, by omega, ?_⟩, (Below.refl _ _).alloc (Nat.le_refl _) _⟩
    · exact heap_alloc_new w _
    · exact h.keep fun b hb => Below.heap_alloc w _ b hb

/-- A number below n, and the reader one place on. -/
def PickPost (w : World) (r : Nat) (p n : Int) (e : Ending) (w' : World) : Prop :=
  ∃ k : Int, e = .returned (.int .i64 k) ∧ 0 ≤ k ∧ (1 ≤ n → k < n) ∧ (n < 1 → k = 0) ∧ Rdr w' r (p + 1) ∧ w.grownBy w' (some r)

theorem pick_end {w : World} {r : Nat} {p n k : Int} (m : Nat) (h : Rdr w r p) (k0 : 0 ≤ k) (k1 : 1 ≤ n → k < n) (k2 : n < 1 → k = 0) :
    PickPost w r p n (.returned (.int .i64 k)) ((w.setCell ⟨r, 1, none⟩ (.int .i64 (p + 1))).drewN m) := by
  have hlt := h.lt
  refine ⟨k, rfl, k0, k1, k2, ?_, ⟨rfl, rfl, rfl, by simp [World.setCell, World.drewN], fun i hi hne => Below.heap_setCell w ⟨r, 1, none⟩ _ i (fun e => hne (by rw [e]))⟩⟩
  obtain ⟨A, c, bs, hb, hl, hs⟩ := h
  refine ⟨A, c, bs, ?_, hl, hs.keep fun b hb => Below.heap_setCell w ⟨r, 1, none⟩ _ b (Nat.ne_of_lt hb)⟩
  show (w.setCell ⟨r, 1, none⟩ (.int .i64 (p + 1))).heap[r]? = _
  simp [World.setCell, Array.getElem?_modify, hb]

theorem far_cell {w : World} {a b : Addr} {v u : Value} (h : w.cell? a = some u) (hne : a.block ≠ b.block) : (w.setCell b v).cell? a = some u := by
  rw [World.cell?_setCell_other w b a v (fun e => hne (by rw [e]))]; exact h

theorem ofInt_i64 (a : Nat) (ha : a < 9223372036854775808) : (BitVec.ofInt 64 (a : Int)).toNat = a := by
  rw [BitVec.ofInt_natCast, BitVec.toNat_ofNat]; exact Nat.mod_eq_of_lt (by omega)
theorem i64_xor_nat (a b : Nat) (ha : a < 9223372036854775808) (hb : b < 9223372036854775808) : bits .xor .i64 (a : Int) (b : Int) = ((a ^^^ b : Nat) : Int) := by
  have hx : a ^^^ b < 2 ^ 63 := Nat.xor_lt_two_pow (by omega) (by omega)
  show IntKind.i64.wrap ((BitVec.ofInt 64 (a : Int) ^^^ BitVec.ofInt 64 (b : Int)).toNat : Int) = _
  rw [BitVec.toNat_xor, ofInt_i64 a ha, ofInt_i64 b hb, IntKind.wrap_i64]
  omega

theorem mix_wraps (P y z D : Nat) (hP : P ≤ 1000000000) (hy : y < 256) (hz : z < 256) (hD : D ≤ 1000000000) :
    IntKind.i64.wrap ((P : Int) * 7) = (P : Int) * 7 ∧ IntKind.i64.wrap ((P : Int) * 7 + 3) = (P : Int) * 7 + 3 ∧ IntKind.i64.wrap (y : Int) = (y : Int) ∧ IntKind.i64.wrap ((y : Int) * 131) = (y : Int) * 131 ∧
    IntKind.i64.wrap (z : Int) = (z : Int) ∧ IntKind.i64.wrap ((z : Int) * 1117) = (z : Int) * 1117 ∧ IntKind.i64.wrap ((y : Int) * 131 + (z : Int) * 1117) = (y : Int) * 131 + (z : Int) * 1117 ∧
    IntKind.i64.wrap ((P : Int) * 29) = (P : Int) * 29 ∧ IntKind.i64.wrap ((y : Int) * 131 + (z : Int) * 1117 + (P : Int) * 29) = (y : Int) * 131 + (z : Int) * 1117 + (P : Int) * 29 ∧
    IntKind.i64.wrap (D : Int) = (D : Int) ∧ IntKind.i64.wrap ((D : Int) * 53) = (D : Int) * 53 ∧
    IntKind.i64.wrap ((y : Int) * 131 + (z : Int) * 1117 + (P : Int) * 29 + (D : Int) * 53) = (y : Int) * 131 + (z : Int) * 1117 + (P : Int) * 29 + (D : Int) * 53 :=
  ⟨IntWalk.i64_in _ (by omega), IntWalk.i64_in _ (by omega), IntWalk.i64_in _ (by omega), IntWalk.i64_in _ (by omega), IntWalk.i64_in _ (by omega), IntWalk.i64_in _ (by omega),
    IntWalk.i64_in _ (by omega), IntWalk.i64_in _ (by omega), IntWalk.i64_in _ (by omega), IntWalk.i64_in _ (by omega), IntWalk.i64_in _ (by omega), IntWalk.i64_in _ (by omega)⟩

set_option maxRecDepth 100000 in
set_option maxHeartbeats 1000000 in
theorem pick_any (r : Nat) (p n : Int) (w : World) (h : Rdr w r p) (p0 : 0 ≤ p) (p1 : p ≤ 1000000000) (n1 : n ≤ 9223372036854775807) (n0 : -9223372036854775808 ≤ n) :
    Calls Tryd.prog 58 #[.pointer (some ⟨r, 0, none⟩), .int .i64 n] w (PickPost w r p n) := by
  obtain ⟨A, c, bs, hb, hl, hs⟩ := h
  have hc0 : w.cell? ⟨r, 0, none⟩ = some (.slice A bs.length c) := by simp [World.cell?, hb]
  have hc1 : w.cell? ⟨r, 1, none⟩ = some (.int .i64 p) := by simp [World.cell?, hb]
  have hf : w.frozen? ⟨r, 1, none⟩ = false := by simp [World.frozen?, hb]
  have Hb := Lib.hid hb
  clear hb
  have hR : Rdr w r p := ⟨A, c, bs, Hb.out, hl, hs⟩
  have HR := Lib.hid hR
  clear hR
  by_cases hn : n < 1
  · go_enter Tryd.func58, Tryd.ntmps58
    go_wp2
    go_ret
    exact pick_end 0 HR.out (by omega) (by omega) (fun _ => rfl)
  · by_cases he : bs.length = 0
    · go_enter Tryd.func58, Tryd.ntmps58
      go_wp2
      go_ret
      exact pick_end 0 HR.out (by omega) (by omega) (fun _ => rfl)
    · by_cases hk : p < bs.length
      · have hkn : p.toNat < bs.length := by omega
        obtain ⟨ad, rfl, hfr, hcb⟩ := hs.at_byte hkn
        have hcb' : (w.setCell ⟨r, 1, none⟩ (.int .i64 (p + 1))).cell? (ad.add p.toNat) = some (.int .u8 (bs[p.toNat].toNat : Int)) := far_cell hcb (by rw [block_of_add]; exact Nat.ne_of_lt hfr)
        have hb0 : (0 : Int) ≤ bs[p.toNat].toNat := by omega
        have hb1 : (bs[p.toNat].toNat : Int) < 256 := by have := bs[p.toNat].toNat_lt; omega
        generalize (bs[p.toNat].toNat : Int) = y at *
        go_enter Tryd.func58, Tryd.ntmps58
        go_wp2
        go_ret
        exact pick_end 0 HR.out (Int.emod_nonneg _ (by omega)) (fun _ => Int.emod_lt_of_pos _ (by omega)) (fun h => by omega)
      · have hq0 : 0 < bs.length := by omega
        obtain ⟨P, rfl⟩ := Int.eq_ofNat_of_zero_le p0
        obtain ⟨X, hx, t1⟩ : ∃ X : Nat, X < bs.length ∧ (P : Int).tmod bs.length = X := ⟨P % bs.length, Nat.mod_lt _ hq0, by rw [Int.tmod_eq_emod_of_nonneg (by omega)]; simp⟩
        obtain ⟨Y, hy, t2⟩ : ∃ Y : Nat, Y < bs.length ∧ ((P : Int) * 7 + 3).tmod bs.length = Y := ⟨(P * 7 + 3) % bs.length, Nat.mod_lt _ hq0, by rw [Int.tmod_eq_emod_of_nonneg (by omega)]; simp⟩
        obtain ⟨D, hd, t3⟩ : ∃ D : Nat, D ≤ P ∧ (P : Int).tdiv bs.length = D := ⟨P / bs.length, Nat.div_le_self _ _, by rw [Int.tdiv_eq_ediv_of_nonneg (by omega)]; simp⟩
        obtain ⟨ad, rfl, hfr, hcb⟩ := hs.at_byte hx
        obtain ⟨ad', e, _, hcb2⟩ := hs.at_byte hy
        cases e
        have hcb' : (w.setCell ⟨r, 1, none⟩ (.int .i64 ((P : Int) + 1))).cell? (ad.add _) = some _ := far_cell hcb (by rw [block_of_add]; exact Nat.ne_of_lt hfr)
        have hcb2' : (w.setCell ⟨r, 1, none⟩ (.int .i64 ((P : Int) + 1))).cell? (ad.add _) = some _ := far_cell hcb2 (by rw [block_of_add]; exact Nat.ne_of_lt hfr)
        have hb1 := bs[X].toNat_lt
        have hb2 := bs[Y].toNat_lt
        generalize bs[X].toNat = y at *
        generalize bs[Y].toNat = z at *
        clear hcb hcb2
        have hx' : (X : Int) < bs.length := by omega
        have hy' : (Y : Int) < bs.length := by omega
        obtain ⟨e1, e2, e3, e4, e5, e6, e7, e8, e9, e10, e11, e12⟩ := mix_wraps P y z D (by omega) hb1 hb2 (by omega)
        have hlen : ((bs.length : Int) == 0) = false := beq_eq_false_iff_ne.2 (by omega)
        go_enter Tryd.func58, Tryd.ntmps58
        go_wp2
        go_quiet (fail)
        clear e1 e2 e3 e4 e5 e6 e7 e8 e9 e10 e11 e12 t1 t2 t3 hlen
        go_wp2
        go_ret
        have hM : (y : Int) * 131 + (z : Int) * 1117 + (P : Int) * 29 + (D : Int) * 53 = ((y * 131 + z * 1117 + P * 29 + D * 53 : Nat) : Int) := by omega
        have hlt : y * 131 + z * 1117 + P * 29 + D * 53 < 9223372036854775808 := by omega
        show PickPost w r P n (.returned (.int .i64 ((bits BinOp.xor IntKind.i64 ((y : Int) * 131 + z * 1117 + P * 29 + D * 53) (((y : Int) * 131 + z * 1117 + P * 29 + D * 53) / 64)).tmod n))) _
        rw [hM]
        generalize y * 131 + z * 1117 + P * 29 + D * 53 = M at *
        rw [show ((M : Int) / 64) = ((M / 64 : Nat) : Int) from by omega, i64_xor_nat _ _ hlt (by omega)]
        generalize (M ^^^ M / 64) = Q
        rw [Int.tmod_eq_emod_of_nonneg (by omega)]
        exact pick_end nq HR.out (Int.emod_nonneg _ (by omega)) (fun _ => Int.emod_lt_of_pos _ (by omega)) (fun h => by omega)
end Go.Proofs.YtjghcaghigebjaaDoor

/-! Contracts of NetLit and BitsVal, the program's and the reference's. -/
namespace Go.Proofs.YtjghcaghigebjaaDoor
open Go Go.RowKit

def sigOf (s m : Int) : Bool := decide (s ≠ 0 ∧ -m ≤ s ∧ s ≤ m)
def netLit (vals : List Bool) (m : Int) : Bool := sigOf m vals.length && (vals.getD (m.natAbs - 1) false == decide (0 < m))

theorem of_any (s m : Int) (w : World) (h0 : -9223372036854775808 ≤ s) (h1 : s ≤ 9223372036854775807) (m0 : 0 ≤ m) (m1 : m ≤ 9223372036854775807) :
    Calls Tryd.prog 62 #[.int .i64 s, .int .i64 m] w fun e w' => e = .returned (.bool (sigOf s m)) ∧ w = w' := by
  by_cases hs : s = 0
  · subst hs
    go_enter Tryd.func62, Tryd.ntmps62
    go_wp2
    go_ret
    exact ⟨by simp [sigOf], rfl⟩
  · by_cases ha : -m ≤ s
    · go_enter Tryd.func62, Tryd.ntmps62
      go_wp2
      go_ret
      exact ⟨ret_bool (by simp [sigOf, hs, ha]), rfl⟩
    · go_enter Tryd.func62, Tryd.ntmps62
      go_wp2
      go_ret
      exact ⟨ret_bool (by simp [sigOf, hs]; omega), rfl⟩

theorem node_any (n : Int) (w : World) (h0 : -9223372036854775808 < n) (h1 : n ≤ 9223372036854775807) :
    Calls Tryd.prog 63 #[.int .i64 n] w fun e w' => e = .returned (.int .i64 n.natAbs) ∧ w = w' := by
  by_cases h : n < 0
  all_goals
    go_enter Tryd.func63, Tryd.ntmps63
    go_wp2
    go_ret
    exact ⟨ret_int (by omega), rfl⟩

theorem netLit_yes {vals : List Bool} {m : Int} (h : sigOf m vals.length = true) (hk : m.natAbs - 1 < vals.length) : netLit vals m = (vals[m.natAbs - 1] == decide (0 < m)) := by
  simp [netLit, h, List.getD_eq_getElem?_getD, List.getElem?_eq_getElem hk]

theorem implNetLit_any (A : Option Addr) (c : Nat) (vals : List Bool) (m : Int) (F : Nat → Prop) (w : World) (h : Lay.bool.Sl w F A vals) (hn : vals.length ≤ 9223372036854775807)
    (h0 : -9223372036854775808 ≤ m) (h1 : m ≤ 9223372036854775807) :
    Calls Tryd.prog 28 #[.slice A vals.length c, .int .i64 m] w fun e w' => e = .returned (.bool (netLit vals m)) ∧ w = w' := by
  by_cases hs : sigOf m vals.length = true
  · have hs' : m ≠ 0 ∧ -(vals.length : Int) ≤ m ∧ m ≤ vals.length := by simpa [sigOf] using hs
    have hk : m.natAbs - 1 < vals.length := by omega
    obtain ⟨ad, rfl, hf, hc⟩ := h.at_bool hk
    have hN := Lib.hid (netLit_yes hs hk)
    have hb0 : (0 : Int) ≤ (m.natAbs : Int) - 1 := by omega
    have hb1 : (m.natAbs : Int) - 1 < vals.length := by omega
    have he : ((m.natAbs : Int) - 1).toNat = m.natAbs - 1 := by omega
    have hm : 0 ≤ (m.natAbs : Int) := by omega
    go_enter Tryd.func28, Tryd.ntmps28
    go_wp2_with (first | (go_at_call 62; refine (of_any _ _ _ h0 h1 (by omega) (by omega)).mono ?_; rintro e w' ⟨rfl, rfl⟩) | (go_at_call 63; refine (node_any _ _ (by omega) h1).mono ?_; rintro e w' ⟨rfl, rfl⟩))
    go_ret
    exact ⟨ret_bool (by rw [hN.out]), rfl⟩
  · have hN : netLit vals m = false := by simp [netLit, hs]
    have hN := Lib.hid hN
    have hs : sigOf m vals.length = false := by simpa using hs
    go_enter Tryd.func28, Tryd.ntmps28
    go_wp2_with (first | (go_at_call 62; refine (of_any _ _ _ h0 h1 (by omega) (by omega)).mono ?_; rintro e w' ⟨rfl, rfl⟩))
    go_ret
    exact ⟨ret_bool (by rw [hN.out]), rfl⟩

theorem netLit_pos {vals : List Bool} {m : Int} (hp : 0 < m) (hk : m.toNat - 1 < vals.length) : netLit vals m = vals[m.toNat - 1] := by
  have e : m.natAbs - 1 = m.toNat - 1 := by omega
  have hs : sigOf m vals.length = true := by simp [sigOf]; omega
  simp [netLit, hs, List.getD_eq_getElem?_getD, e, List.getElem?_eq_getElem hk, hp]
theorem netLit_neg {vals : List Bool} {m : Int} (hp : m < 0) (hk : (-m).toNat - 1 < vals.length) : netLit vals m = !vals[(-m).toNat - 1] := by
  have e : m.natAbs - 1 = (-m).toNat - 1 := by omega
  have hs : sigOf m vals.length = true := by simp [sigOf]; omega
  have hp' : ¬ 0 < m := by omega
  simp [netLit, hs, List.getD_eq_getElem?_getD, e, List.getElem?_eq_getElem hk, hp']
theorem netLit_not {vals : List Bool} {m : Int} (h : ¬ (m ≠ 0 ∧ -(vals.length : Int) ≤ m ∧ m ≤ vals.length)) : netLit vals m = false := by
  have hs : sigOf m vals.length = false := by simp only [sigOf, decide_eq_false_iff_not]; exact h
  simp [netLit, hs]

def bitsOf (f : Int → Bool) : List Int → Int
  | [] => 0
  | m :: ms => (if f m then 1 else 0) + 2 * bitsOf f ms
def bitsVal (vals : List Bool) (a : List Int) : Int := if 4 < a.length then 0 else bitsOf (netLit vals) a
theorem bitsOf_lt (f : Int → Bool) (a : List Int) : 0 ≤ bitsOf f a ∧ bitsOf f a < 2 ^ a.length := by
  induction a with
  | nil => simp [bitsOf]
  | cons m ms ih =>
    have e : (2 : Int) ^ (m :: ms).length = 2 * 2 ^ ms.length := by rw [List.length_cons, Int.pow_succ, Int.mul_comm]
    rw [e]
    unfold bitsOf
    split <;> omega
theorem bitsOf_snoc (f : Int → Bool) (a : List Int) (m : Int) : bitsOf f (a ++ [m]) = bitsOf f a + if f m then 2 ^ a.length else 0 := by
  induction a with
  | nil => simp [bitsOf]
  | cons x xs ih =>
    have e : (2 : Int) ^ (x :: xs).length = 2 * 2 ^ xs.length := by rw [List.length_cons, Int.pow_succ, Int.mul_comm]
    rw [List.cons_append, e]
    unfold bitsOf
    rw [ih]
    split <;> split <;> omega
theorem i64_or_nat (a b : Nat) (ha : a < 9223372036854775808) (hb : b < 9223372036854775808) : bits .or .i64 (a : Int) (b : Int) = ((a ||| b : Nat) : Int) := by
  have hx : a ||| b < 2 ^ 63 := Nat.or_lt_two_pow (by omega) (by omega)
  show IntKind.i64.wrap ((BitVec.ofInt 64 (a : Int) ||| BitVec.ofInt 64 (b : Int)).toNat : Int) = _
  rw [BitVec.toNat_or, ofInt_i64 a ha, ofInt_i64 b hb, IntKind.wrap_i64]
  omega
theorem bitsOf_or (f : Int → Bool) (a : List Int) (hl : a.length ≤ 4) : bits .or .i64 (bitsOf f a) (2 ^ a.length) = bitsOf f a + 2 ^ a.length := by
  obtain ⟨h0, h1⟩ := bitsOf_lt f a
  generalize bitsOf f a = n at *
  obtain ⟨k, rfl⟩ := Int.eq_ofNat_of_zero_le h0
  generalize a.length = l at *
  have h1' : k < 2 ^ l := by exact_mod_cast h1
  have hl' : 2 ^ l ≤ 2 ^ 4 := Nat.pow_le_pow_right (by omega) hl
  have e : ((2 : Int) ^ l) = ((2 ^ l : Nat) : Int) := by simp
  rw [e, i64_or_nat _ _ (by omega) (by omega), Nat.or_comm]
  have := Nat.two_pow_add_eq_or_of_lt h1' 1
  rw [Nat.mul_one] at this
  rw [← this]; omega

theorem wrap_two (k : Nat) (h : k ≤ 4) : wrap64 ((2 : Int) ^ k) = 2 ^ k := by
  have : k = 0 ∨ k = 1 ∨ k = 2 ∨ k = 3 ∨ k = 4 := by omega
  rcases this with rfl | rfl | rfl | rfl | rfl <;> simp [wrap64]
theorem take_snoc {α : Type} (a : List α) (k : Nat) (h : k < a.length) : a.take (k + 1) = a.take k ++ [a[k]] := List.take_succ_eq_append_getElem h

set_option maxHeartbeats 400000 in
theorem implBitsVal_any (A B : Option Addr) (c d : Nat) (vals : List Bool) (a : List Int) (F G : Nat → Prop) (w : World) (h : Lay.bool.Sl w F A vals) (hn : vals.length ≤ 9223372036854775807)
    (h' : Lay.int.Sl w G B a) (hr : ∀ x ∈ a, -9223372036854775808 ≤ x ∧ x ≤ 9223372036854775807) (hn' : a.length ≤ 9223372036854775807) :
    Calls Tryd.prog 27 #[.slice A vals.length c, .slice B a.length d] w fun e w' => e = .returned (.int .i64 (bitsVal vals a)) ∧ w = w' := by
  by_cases hl : 4 < a.length
  · go_enter Tryd.func27, Tryd.ntmps27
    go_wp2
    go_ret
    exact ⟨ret_int (by simp [bitsVal, hl]), rfl⟩
  · go_enter Tryd.func27, Tryd.ntmps27
    go_wp2
    go_loop [5, 13] (fun n i => ∃ k : Nat, k ≤ a.length ∧ i = .int .i64 k ∧ n = .int .i64 (bitsOf (netLit vals) (a.take k))) (fun _ i => a.length - (intOf i).toNat)
    case atStart => exact ⟨0, Nat.zero_le _, rfl, rfl⟩
    case round =>
      obtain ⟨k, hk, rfl, rfl⟩ := hrel
      by_cases hlt : k < a.length
      · obtain ⟨ad, rfl, hf, hc⟩ := h'.at_int hlt
        have hrk := hr a[k] (List.getElem_mem _)
        have hlen : (a.take k).length = k := by simp; omega
        have hsn := bitsOf_snoc (netLit vals) (a.take k) a[k]
        rw [← take_snoc a k hlt, hlen] at hsn
        have hor := bitsOf_or (netLit vals) (a.take k) (by omega)
        rw [hlen] at hor
        have HS := Lib.hid hsn
        have HO := Lib.hid hor
        have hbd := bitsOf_lt (netLit vals) (a.take k)
        clear hsn hor hlen hbd
        by_cases hv : netLit vals a[k] = true
        · go_wp2_with (go_at_call 28; refine (implNetLit_any _ _ _ _ _ _ h hn hrk.1 hrk.2).mono ?_; rintro e w' ⟨rfl, rfl⟩)
          go_round
          case rel => exact ⟨k + 1, by omega, by go_num, by rw [HS.out, if_pos hv, wrap_two k (by omega), HO.out]⟩
          case measure => simp [intOf]; omega
        · go_wp2_with (go_at_call 28; refine (implNetLit_any _ _ _ _ _ _ h hn hrk.1 hrk.2).mono ?_; rintro e w' ⟨rfl, rfl⟩)
          go_round
          case rel => exact ⟨k + 1, by omega, by go_num, by rw [HS.out, if_neg hv, Int.add_zero]⟩
          case measure => simp [intOf]; omega
      · have hk : k = a.length := by omega
        subst hk
        go_wp2
        go_ret
        exact ⟨ret_int (by simp [bitsVal, hl]), rfl⟩

theorem bitsOf_drop (f : Int → Bool) (a : List Int) (k : Nat) (h : k < a.length) : bitsOf f (a.drop k) = 2 * bitsOf f (a.drop (k + 1)) + if f a[k] then 1 else 0 := by
  rw [List.drop_eq_getElem_cons h]
  show (if f a[k] = true then (1 : Int) else 0) + 2 * bitsOf f (a.drop (k + 1)) = _
  omega

theorem bitsOf_small (f : Int → Bool) (a : List Int) (h : a.length ≤ 4) : 0 ≤ bitsOf f a ∧ bitsOf f a < 16 := by
  obtain ⟨h0, h1⟩ := bitsOf_lt f a
  have h2 : 2 ^ a.length ≤ 2 ^ 4 := Nat.pow_le_pow_right (by omega) h
  have e : ((2 : Int) ^ a.length) = ((2 ^ a.length : Nat) : Int) := by simp
  omega

end Go.Proofs.YtjghcaghigebjaaDoor

/-! What growing and setting leave. No program is named here. -/
namespace Go.Proofs.YtjghcaghigebjaaDoor
open Go Go.RowKit

theorem grown_then {a w w' : World} {row : Option Nat} (h : Below a.heap.size a w) (h' : w.grownBy w' row) : a.grownBy w' row :=
  ⟨h'.os.trans h.os, h'.tape.trans h.tape, h'.output.trans h.output, Nat.le_trans h.size h'.size, fun i hi hne => (h'.block i (Nat.lt_of_lt_of_le hi h.size) hne).trans (h.block i hi)⟩
theorem heap_set_same (w : World) (r : Nat) (o : Nat) (u : Value) (cs : Array Value) (t : TypeId) (h : w.heap[r]? = some (.cells cs t (0, 0))) : (w.setCell ⟨r, o, none⟩ u).heap[r]? = some (.cells (cs.setIfInBounds o u) t (0, 0)) := by
  unfold World.setCell
  simp only [Array.getElem?_modify, if_true]
  rw [h]
  rfl
theorem cell_of_block {w : World} {r : Nat} {cs : Array Value} {t : TypeId} (h : w.heap[r]? = some (.cells cs t (0, 0))) (i : Nat) : w.cell? ⟨r, i, none⟩ = cs[i]? ∧ w.frozen? ⟨r, i, none⟩ = false := by
  unfold World.cell? World.frozen?
  simp [h]
theorem size_setCell (w : World) (a : Addr) (v : Value) : (w.setCell a v).heap.size = w.heap.size := by simp [World.setCell]
theorem rows_kept {w w' : World} {base : Nat} {e : TypeId} {size n : Nat} {v : Value} {xs : List Value} {b : Option Nat} (h : w.ownsRow base e size v n xs) (hg : w.grownBy w' b) (hd : ∀ g, v.ownBlock = some g → b ≠ some g) : w'.ownsRow base e size v n xs :=
  h.kept hg (by
    rcases hv : v.ownBlock with _ | g
    · exact .inl rfl
    · exact .inr (fun e => hd g hv e.symm))
theorem rows_set {w : World} {base : Nat} {e : TypeId} {size n : Nat} {v : Value} {xs : List Value} (h : w.ownsRow base e size v n xs) (r o : Nat) (u : Value) (hd : v.ownBlock ≠ some r) : (w.setCell ⟨r, o, none⟩ u).ownsRow base e size v n xs :=
  rows_kept h (only_setCell (World.grownBy.refl w (some r)) o u) (fun g e e' => hd (e.trans e'.symm))

end Go.Proofs.YtjghcaghigebjaaDoor

/-! Gates and nets, how they lie in memory; the laws' copies and comparisons of them. -/
namespace Go.Proofs.YtjghcaghigebjaaDoor
open Go Go.RowKit

structure G where
  x : Bool
  a : Int
  b : Int
  deriving DecidableEq
structure N where
  ins : Int
  gs : List G
  deriving DecidableEq

def Lay.gate : Lay G := Lay.flat 3 (fun g => [.bool g.x, .int .i64 g.a, .int .i64 g.b]) (fun _ => rfl)
theorem Lay.Sl.at_gate {w : World} {F : Nat → Prop} {A : Option Addr} {xs : List G} (h : Lay.gate.Sl w F A xs) {k : Nat} (hk : k < xs.length) :
    ∃ ad, A = some ad ∧ F ad.block ∧ w.cell? (ad.add (k * 3)) = some (.bool xs[k].x) ∧ w.cell? ⟨(ad.add (k * 3)).block, (ad.add (k * 3)).off + 1, none⟩ = some (.int .i64 xs[k].a) ∧ w.cell? ⟨(ad.add (k * 3)).block, (ad.add (k * 3)).off + 2, none⟩ = some (.int .i64 xs[k].b) := by
  obtain ⟨ad, e, hf, hc⟩ := h (by omega)
  obtain ⟨vs, rfl, hcell⟩ := hc k xs[k] (List.getElem?_eq_getElem hk)
  refine ⟨ad, e, hf, hcell 0 _ rfl, ?_, ?_⟩
  · show w.cell? ((ad.add (k * 3)).add 1) = _
    rw [add_of_add]; exact hcell 1 _ rfl
  · show w.cell? ((ad.add (k * 3)).add 2) = _
    rw [add_of_add]; exact hcell 2 _ rfl
/-- A gate's cells in a later world. -/
theorem gate_up {w w' : World} {B : Nat} {ad : Addr} {k : Nat} {g : G} (hb : Below B w w') (hB : ad.block < B)
    (h : w.cell? (ad.add (k * 3)) = some (.bool g.x) ∧ w.cell? ⟨(ad.add (k * 3)).block, (ad.add (k * 3)).off + 1, none⟩ = some (.int .i64 g.a) ∧ w.cell? ⟨(ad.add (k * 3)).block, (ad.add (k * 3)).off + 2, none⟩ = some (.int .i64 g.b)) :
    w'.cell? (ad.add (k * 3)) = some (.bool g.x) ∧ w'.cell? ⟨(ad.add (k * 3)).block, (ad.add (k * 3)).off + 1, none⟩ = some (.int .i64 g.a) ∧ w'.cell? ⟨(ad.add (k * 3)).block, (ad.add (k * 3)).off + 2, none⟩ = some (.int .i64 g.b) :=
  ⟨(hb.cell (by rw [block_of_add]; exact hB)).trans h.1, (hb.cell (by show (ad.add (k * 3)).block < B; rw [block_of_add]; exact hB)).trans h.2.1, (hb.cell (by show (ad.add (k * 3)).block < B; rw [block_of_add]; exact hB)).trans h.2.2⟩

def gcells (g : G) : List Value := [.bool g.x, .int .i64 g.a, .int .i64 g.b]
/-- The cells of a row of gates of which the first k are done. -/
def gatesDone (xs : List G) (k : Nat) : List Value := (xs.take k).flatMap gcells ++ (List.replicate (xs.length - k) [Value.bool false, .int .i64 0, .int .i64 0]).flatten
theorem gcells_len (l : List G) : (l.flatMap gcells).length = l.length * 3 := by
  induction l with
  | nil => rfl
  | cons g l ih => rw [List.flatMap_cons, List.length_append, ih]; simp [gcells]; omega
theorem gatesDone_set (xs : List G) (k : Nat) (h : k < xs.length) :
    (((gatesDone xs k).set (k * 3) (.bool xs[k].x)).set (k * 3 + 1) (.int .i64 xs[k].a)).set (k * 3 + 2) (.int .i64 xs[k].b) = gatesDone xs (k + 1) := by
  have hl : ((xs.take k).flatMap gcells).length = k * 3 := by rw [gcells_len]; simp; omega
  have hl0 : ¬ k * 3 < ((xs.take k).flatMap gcells).length := by omega
  have hl1 : ¬ k * 3 + 1 < ((xs.take k).flatMap gcells).length := by omega
  have hl2 : ¬ k * 3 + 2 < ((xs.take k).flatMap gcells).length := by omega
  unfold gatesDone
  rw [show xs.length - k = (xs.length - (k + 1)) + 1 from by omega, List.replicate_succ, List.flatten_cons, take_snoc xs k h, List.flatMap_append]
  generalize (List.replicate (xs.length - (k + 1)) [Value.bool false, .int .i64 0, .int .i64 0]).flatten = R
  rw [List.set_append, if_neg hl0, List.set_append, if_neg hl1, List.set_append, if_neg hl2, hl]
  simp [gcells]
theorem madeCells_three (a b c : Value) (n : Nat) : (madeCells #[a, b, c] (n * 3)).toList = (List.replicate n [a, b, c]).flatten := by
  induction n with
  | zero => simp [madeCells]
  | succ n ih =>
    rw [List.replicate_succ', List.flatten_append, ← ih]
    unfold madeCells
    rw [show (n + 1) * 3 = n * 3 + 1 + 1 + 1 from by omega, Array.range_succ, Array.range_succ, Array.range_succ]
    have e0 : (n * 3) % 3 = 0 := by omega
    have e1 : (n * 3 + 1) % 3 = 1 := by omega
    have e2 : (n * 3 + 1 + 1) % 3 = 2 := by omega
    simp [e0, e1, e2]

theorem szGateS_any (A : Option Addr) (c n : Nat) (left : Int) (w : World) (hn : n ≤ 9223372036854775807) (h0 : 0 ≤ left) (h1 : left ≤ 1048576) :
    Calls Tryd.prog 39 #[.slice A n c, .int .i64 left] w fun e w' => e = .returned (.int .i64 (if left < n then -1 else left - n)) ∧ w = w' := by
  by_cases h : left < n
  all_goals
    go_enter Tryd.func39, Tryd.ntmps39
    go_wp2
    go_ret
    exact ⟨ret_int (by simp [h]), rfl⟩

theorem szNet_any (A : Option Addr) (c n : Nat) (ins left : Int) (w : World) (hn : n ≤ 9223372036854775807) (h0 : 0 ≤ left) (h1 : left ≤ 1048576) :
    Calls Tryd.prog 10 #[.agg #[.int .i64 ins, .slice A n c], .int .i64 left] w fun e w' => e = .returned (.int .i64 (if left < n then -1 else left - n)) ∧ Below w.heap.size w w' := by
  by_cases h : left < n
  all_goals
    go_enter Tryd.func10, Tryd.ntmps10
    go_wp2_with (go_at_call 39; refine (szGateS_any A c n left _ hn h0 h1).mono ?_; rintro e w' ⟨rfl, rfl⟩)
    go_ret
    exact ⟨ret_int (by simp [h]), (Below.refl _ _).alloc (Nat.le_refl _) _⟩

theorem decide_G (g h : G) : decide (g = h) = (g.x == h.x && g.a == h.a && g.b == h.b) := by
  cases g; cases h
  rw [Bool.eq_iff_iff]; simp [and_assoc]
theorem eqGate_any (g h : G) (w : World) :
    Calls Tryd.prog 88 #[.agg #[.bool g.x, .int .i64 g.a, .int .i64 g.b], .agg #[.bool h.x, .int .i64 h.a, .int .i64 h.b]] w fun e w' => e = .returned (.bool (decide (g = h))) ∧ Below w.heap.size w w' := by
  go_enter Tryd.func88, Tryd.ntmps88
  go_wp2
  all_goals
    go_ret
    refine ⟨ret_bool ?_, ((Below.refl _ _).alloc (Nat.le_refl _) _).alloc (by simp) _⟩
    rw [decide_G]
    simp_all

set_option maxHeartbeats 400000 in
theorem eqGateS_any (A B : Option Addr) (c d : Nat) (xs ys : List G) (F G' : Nat → Prop) (w : World) (h : Lay.gate.Sl w F A xs) (h' : Lay.gate.Sl w G' B ys) (hF : ∀ b, F b → b < w.heap.size) (hG : ∀ b, G' b → b < w.heap.size) (hn : xs.length ≤ 1048576) (hn' : ys.length ≤ 1048576) :
    Calls Tryd.prog 52 #[.slice A xs.length c, .slice B ys.length d] w fun e w' => e = .returned (.bool (decide (xs = ys))) ∧ Below w.heap.size w w' := by
  by_cases hl : xs.length = ys.length
  · have hne : (((xs.length : Int) != (ys.length : Int))) = false := by simp [hl]
    have HL := Lib.hid hl
    clear hl
    go_enter Tryd.func52, Tryd.ntmps52
    go_wp2
    clear hne
    go_loopw [5] (fun i wr => ∃ k : Nat, k ≤ xs.length ∧ i = .int .i64 k ∧ Below w.heap.size w wr ∧ xs.take k = ys.take k) (fun i _ => xs.length - (intOf i).toNat)
    case atStart => exact ⟨0, Nat.zero_le _, rfl, Below.refl _ _, rfl⟩
    case round =>
      obtain ⟨k, hk, rfl, hb, ht⟩ := hrel
      have HT := Lib.hid ht
      clear ht
      by_cases hlt : k < xs.length
      · have hlt' : k < ys.length := by have := HL.out; omega
        obtain ⟨ad, rfl, hf, hc⟩ := h.at_gate hlt
        obtain ⟨ad', rfl, hf', hc'⟩ := h'.at_gate hlt'
        obtain ⟨c1, c2, c3⟩ := gate_up hb (hF _ hf) hc
        obtain ⟨c1', c2', c3'⟩ := gate_up hb (hG _ hf') hc'
        have d1 := Later.cell c1
        have d2 := Later.cell c2
        have d3 := Later.cell c3
        have d1' := Later.cell c1'
        have d2' := Later.cell c2'
        have d3' := Later.cell c3'
        have hk0 : (0 : Int) ≤ k := by omega
        have hk1 : (k : Int) < xs.length := by omega
        have hk2 : (k : Int) < ys.length := by omega
        by_cases hxy : xs[k] = ys[k]
        all_goals have HX := Lib.hid hxy
        all_goals clear hxy
        all_goals
          go_wp2
          refine wp_region_later (by kernel_rfl) (by kernel_rfl) ?_
          repeat (go_big_quiet_step ((go_at_call 88; exact later_of_below (eqGate_any xs[k] ys[k] _))))
          refine wpQuiet_nil ?_
          rintro _ ⟨x, rfl⟩
        · rw [show decide (xs[k] = ys[k]) = true from by simp [HX.out]]
          go_wp2
          go_roundw
          case rel => exact ⟨k + 1, by omega, by go_num, bthen hb x.le, take_eq_step hlt hlt' HT.out HX.out⟩
          case measure => simp [intOf]; omega
        · rw [show decide (xs[k] = ys[k]) = false from by simp [HX.out]]
          go_wp2
          go_ret
          exact ⟨ret_bool (by simp; rintro rfl; exact HX.out rfl), bthen hb x.le⟩
      · have : k = xs.length := by omega
        subst this
        go_wp2
        go_ret
        exact ⟨ret_bool (by simp [eq_of_take HL.out HT.out]), hb⟩
  · have hne : (((xs.length : Int) != (ys.length : Int))) = true := by simp; omega
    go_enter Tryd.func52, Tryd.ntmps52
    go_wp2
    go_ret
    exact ⟨ret_bool (by simp; rintro rfl; exact hl rfl), Below.refl _ _⟩

theorem eqNet_any (A B : Option Addr) (c d : Nat) (m n : N) (F G' : Nat → Prop) (w : World) (h : Lay.gate.Sl w F A m.gs) (h' : Lay.gate.Sl w G' B n.gs) (hF : ∀ b, F b → b < w.heap.size) (hG : ∀ b, G' b → b < w.heap.size)
    (hn : m.gs.length ≤ 1048576) (hn' : n.gs.length ≤ 1048576) :
    Calls Tryd.prog 15 #[.agg #[.int .i64 m.ins, .slice A m.gs.length c], .agg #[.int .i64 n.ins, .slice B n.gs.length d]] w fun e w' => e = .returned (.bool (decide (m = n))) ∧ Below w.heap.size w w' := by
  have hw2 : Below w.heap.size w ((w.alloc (.cells #[.int .i64 m.ins, .slice A m.gs.length c] 29)).alloc (.cells #[.int .i64 n.ins, .slice B n.gs.length d] 29)) :=
    ((Below.refl _ _).alloc (Nat.le_refl _) _).alloc (by simp) _
  have hd : decide (m = n) = (m.ins == n.ins && decide (m.gs = n.gs)) := by
    cases m; cases n; rw [Bool.eq_iff_iff]; simp
  have H := h.below hw2 hF
  have H' := h'.below hw2 hG
  have HD := Lib.hid hd
  clear hd
  go_enter Tryd.func15, Tryd.ntmps15
  go_wp2_with (go_at_call 52; refine (eqGateS_any A B c d m.gs n.gs F G' _ H H' (fun b hb => by have := hF b hb; simp; omega) (fun b hb => by have := hG b hb; simp; omega) hn hn').mono ?_; rintro e w' ⟨rfl, hb⟩)
  all_goals
    go_ret
    refine ⟨ret_bool (by rw [HD.out]; simp_all), ?_⟩
    first
      | exact hw2
      | exact bthen hw2 hb

theorem sl_gates_of_own {w : World} {F : Nat → Prop} {base : Nat} {e : TypeId} {A : Option Addr} {n c : Nat} {xs : List G} (h : w.ownsRow base e 3 (.slice A n c) n (xs.flatMap gcells))
    (hF : ∀ g, base ≤ g → g < w.heap.size → F g) : Lay.gate.Sl w F A xs ∧ n = xs.length ∧ n ≤ c := by
  have hn : n = xs.length := by have := h.1; rw [gcells_len] at this; omega
  refine ⟨.of_own h hn hF fun k x hx => ⟨_, rfl, fun j u hu => ?_⟩, hn, ?_⟩
  · have hk : k < xs.length := by
      rcases Nat.lt_or_ge k xs.length with h | h
      · exact h
      · rw [List.getElem?_eq_none h] at hx; cases hx
    rw [List.getElem?_eq_getElem hk] at hx
    injection hx with hx
    have hj : j < 3 := by
      rcases Nat.lt_or_ge j 3 with h | h
      · exact h
      · rw [List.getElem?_eq_none (by simpa [Lay.gate, Lay.flat] using h)] at hu; cases hu
    have e : xs = xs.take k ++ (xs[k] :: xs.drop (k + 1)) := by rw [← List.drop_eq_getElem_cons hk, List.take_append_drop]
    have hl : ((xs.take k).flatMap gcells).length = k * 3 := by rw [gcells_len]; simp; omega
    rw [e, List.flatMap_append, List.flatMap_cons, show Lay.gate.size = 3 from rfl, List.getElem?_append_right (by omega), hl, show k * 3 + j - k * 3 = j from by omega,
      List.getElem?_append_left (by simpa [gcells] using hj), hx]
    exact hu
  · rcases h.2 with ⟨h1, h2⟩ | ⟨g, cap, cur, h1, _, _, h2, _⟩
    · omega
    · injection h1 with _ _ h3; omega
/-- The call's own row of gates. -/
def OwnGs (w : World) (base : Nat) (v : Value) (xs : List G) : Prop := w.ownsRow base 96 3 v xs.length (xs.flatMap gcells)
theorem OwnGs.form {w : World} {base : Nat} {v : Value} {xs : List G} (h : OwnGs w base v xs) : ∃ A c, v = .slice A xs.length c ∧ xs.length ≤ c ∧ Lay.gate.Sl w (fun b => base ≤ b ∧ b < w.heap.size) A xs := by
  have hh := h
  unfold OwnGs at h
  rcases h.2 with ⟨h1, h2⟩ | ⟨g, cap, cur, h1, _, _, h3, _⟩
  · subst h1
    have : xs = [] := List.eq_nil_of_length_eq_zero h2
    subst this
    exact ⟨none, 0, rfl, by simp, .nil _ _ _ _⟩
  · subst h1
    exact ⟨_, cap, rfl, h3, (sl_gates_of_own hh (fun g h1 h2 => ⟨h1, h2⟩)).1⟩
theorem OwnGs.sl {w : World} {base c : Nat} {A : Option Addr} {xs : List G} (h : OwnGs w base (.slice A xs.length c) xs) : xs.length ≤ c ∧ Lay.gate.Sl w (fun b => base ≤ b ∧ b < w.heap.size) A xs := by
  obtain ⟨A', c', e, h1, h2⟩ := h.form
  injection e with e1 e2 e3
  subst e1; subst e3
  exact ⟨h1, h2⟩
theorem OwnGs.up {w w' : World} {base : Nat} {v : Value} {xs : List G} (h : OwnGs w base v xs) (hb : Below w.heap.size w w') : OwnGs w' base v xs := own_below h hb (Nat.le_refl _)
def RetGs (w : World) (xs : List G) (e : Ending) (w' : World) : Prop := ∃ A c, e = .returned (.slice A xs.length c) ∧ OwnGs w' w.heap.size (.slice A xs.length c) xs ∧ Below w.heap.size w w'

theorem toGate_any (g : G) (w : World) :
    Calls Tryd.prog 80 #[.agg #[.bool g.x, .int .i64 g.a, .int .i64 g.b]] w fun e w' => e = .returned (.agg #[.bool g.x, .int .i64 g.a, .int .i64 g.b]) ∧ Below w.heap.size w w' := by
  go_enter Tryd.func80, Tryd.ntmps80
  go_wp2
  refine bodyPost_ret (v := .agg #[.bool g.x, .int .i64 g.a, .int .i64 g.b]) (by simp [results, Tryd.results80, go_sem]) rfl ⟨rfl, ?_⟩
  exact (((Below.refl _ _).alloc (Nat.le_refl _) _).alloc (by simp) _).alloc (by simp; omega) _

theorem gate_info : (Tryd.prog.info? 96).map (fun i => (i.zero, i.size, i.bytes)) = some (some (.agg #[.bool false, .int .i64 0, .int .i64 0]), 3, 24) := by kernel_rfl

set_option maxHeartbeats 400000 in
theorem toGateS_any (A : Option Addr) (c : Nat) (xs : List G) (F : Nat → Prop) (w : World) (h : Lay.gate.Sl w F A xs) (hF : ∀ b, F b → b < w.heap.size) (hn : xs.length ≤ 1048576) :
    Calls Tryd.prog 45 #[.slice A xs.length c] w (RetGs w xs) := by
  obtain ⟨i0, hi0, hz0, hz1, hz2⟩ := info_parts gate_info
  go_enter Tryd.func45, Tryd.ntmps45
  go_wp2_with (at_make; refine wpList_make_full w rfl _ _ 27 rfl w.heap.size 96 i0 _ 3 Tryd.underlying27 hi0 hz0 hz1 .i64 .i64 _ _ xs.length rfl rfl rfl rfl (by rw [hz2]; omega) (by unfold maxLen; omega) (Nat.le_refl _) ?_; intro w1 hown hg)
  have H1 := Lib.hid hg
  clear hg hi0 hz0 hz1 hz2
  have hb1 : Below w.heap.size w w1 := (Below.refl _ _).grown H1.out (Nat.le_refl _) (by simp)
  rw [show (madeCells (Value.agg #[.bool false, .int .i64 0, .int .i64 0]).cells (xs.length * 3)).toList = gatesDone xs 0 from madeCells_three _ _ _ _] at hown
  go_loopw [4] (fun i wr => ∃ k : Nat, k ≤ xs.length ∧ i = .int .i64 k ∧ Below w.heap.size w wr ∧ wr.ownsRow w.heap.size 96 3 (.slice (some ⟨w.heap.size, 0, none⟩) xs.length xs.length) xs.length (gatesDone xs k))
    (fun i _ => xs.length - (intOf i).toNat)
  case atStart => exact ⟨0, Nat.zero_le _, rfl, hb1, hown⟩
  case round =>
    obtain ⟨k, hk, rfl, hb, ho⟩ := hrel
    by_cases hlt : k < xs.length
    · obtain ⟨ad, rfl, hf, hc⟩ := h.at_gate hlt
      obtain ⟨c1, c2, c3⟩ := gate_up hb (hF _ hf) hc
      have hk1 : (k : Int) < xs.length := by omega
      go_wp2_with fail
      refine (toGate_any xs[k] _).mono ?_
      rintro e w2 ⟨rfl, hb2⟩
      have ho2 := own_below ho hb2 (Nat.le_refl _)
      have hst1 := (ho2.stored (k * 3) (.bool xs[k].x)).1
      have hst2 := (hst1.stored (k * 3 + 1) (.int .i64 xs[k].a)).1
      have hst3 := (hst2.stored (k * 3 + 2) (.int .i64 xs[k].b)).1
      have hl0 : (gatesDone xs k).length = xs.length * 3 := ho.1
      have e1 : w2.cell? ⟨w.heap.size, k * 3, none⟩ = (gatesDone xs k)[k * 3]? := ho2.cellAt _ (by omega)
      have e2 : w2.cell? ⟨w.heap.size, k * 3 + 1, none⟩ = (gatesDone xs k)[k * 3 + 1]? := ho2.cellAt _ (by omega)
      have e3 : w2.cell? ⟨w.heap.size, k * 3 + 2, none⟩ = (gatesDone xs k)[k * 3 + 2]? := ho2.cellAt _ (by omega)
      rw [List.getElem?_eq_getElem (by omega)] at e1 e2 e3
      have f1 : w2.frozen? ⟨w.heap.size, k * 3, none⟩ = false := ho2.frozenAt _
      have f2 : w2.frozen? ⟨w.heap.size, k * 3 + 1, none⟩ = false := ho2.frozenAt _
      have f3 : w2.frozen? ⟨w.heap.size, k * 3 + 2, none⟩ = false := ho2.frozenAt _
      go_wp2
      go_roundw
      case rel => exact ⟨k + 1, by omega, by go_num, (((bthen hb hb2).setCell (Nat.le_refl _) _).setCell (Nat.le_refl _) _).setCell (Nat.le_refl _) _, by rw [gatesDone_set xs k hlt] at hst3; exact hst3⟩
      case measure => simp [intOf]; omega
    · have : k = xs.length := by omega
      subst this
      go_wp2
      go_ret
      exact ⟨_, _, rfl, by unfold OwnGs; simpa [gatesDone] using ho, hb⟩

/-- What a function returns that makes a net of its own. -/
def RetNet (w : World) (n : N) (e : Ending) (w' : World) : Prop :=
  ∃ A c, e = .returned (.agg #[.int .i64 n.ins, .slice A n.gs.length c]) ∧ OwnGs w' w.heap.size (.slice A n.gs.length c) n.gs ∧ Below w.heap.size w w'

theorem toNet_any (A : Option Addr) (c : Nat) (n : N) (F : Nat → Prop) (w : World) (h : Lay.gate.Sl w F A n.gs) (hF : ∀ b, F b → b < w.heap.size) (hn : n.gs.length ≤ 1048576) :
    Calls Tryd.prog 12 #[.agg #[.int .i64 n.ins, .slice A n.gs.length c]] w (RetNet w n) := by
  go_enter Tryd.func12, Tryd.ntmps12
  go_wp2_with fail
  have hw3 : Below w.heap.size w (((w.alloc (.cells #[.int .i64 n.ins, .slice A n.gs.length c] 24)).alloc (.cells #[.int .i64 0, .slice none 0 0] 29)).alloc (.cells #[.int .i64 n.ins, .slice none 0 0] 29)) :=
    (((Below.refl _ _).alloc (Nat.le_refl _) _).alloc (by simp) _).alloc (by simp; omega) _
  refine (toGateS_any A c n.gs F _ (h.below hw3 hF) (fun b hb => by have := hF b hb; simp; omega) hn).mono ?_
  rintro e w2 ⟨A', c', rfl, hs, hb⟩
  obtain ⟨hcc, hff⟩ := bcell hb
  have hz : w.heap.size + 1 + 1 + 1 ≤ w2.heap.size := by have := hb.size; simp at this; omega
  have hz1 : w.heap.size + 1 < w2.heap.size := by omega
  have hz2 : w.heap.size + 1 + 1 < w2.heap.size := by omega
  have hbw := bthen hw3 hb
  go_wp2
  refine bodyPost_ret (v := .agg #[.int .i64 n.ins, .slice A' n.gs.length c']) (by simp [results, Tryd.results12, go_sem, hcc, hff, hz1, hz2]) rfl ⟨A', c', rfl, ?_, ?_⟩
  · have hs' : OwnGs w2 (w.heap.size + 3) (.slice A' n.gs.length c') n.gs := own_mono hs (by simp)
    exact own_mono (own_far (own_far (own_far hs' _ _ (by simp)) _ _ (by simp)) _ _ (by simp)) (by omega)
  · exact ((hbw.setCell (by simp; omega) _).setCell (by simp) _).setCell (by simp) _

/-- The cells of marked gates, from k on. -/
def marked : Nat → Int → List G
  | 0, _ => []
  | n + 1, k => ⟨k % 3 == 0, k + 1, k + 1 + 1⟩ :: marked n (k + 3)
theorem marked_len (n : Nat) (k : Int) : (marked n k).length = n := by induction n generalizing k with | zero => rfl | succ n ih => simp [marked, ih]
theorem marked_get (n : Nat) (k : Int) (j : Nat) (h : j < (marked n k).length) : (marked n k)[j] = ⟨(k + 3 * j) % 3 == 0, k + 3 * j + 1, k + 3 * j + 1 + 1⟩ := by
  induction n generalizing k j with
  | zero => simp [marked] at h
  | succ n ih =>
    cases j with
    | zero => simp [marked]
    | succ j =>
      simp only [marked, List.getElem_cons_succ]
      rw [ih]
      have e : k + 3 + 3 * (j : Int) = k + 3 * ((j + 1 : Nat) : Int) := by omega
      rw [e]

set_option maxHeartbeats 400000 in
theorem heldGateS_any (A : Option Addr) (c n : Nat) (k0 : Int) (F : Nat → Prop) (w : World) (h : Lay.gate.Sl w F A (marked n k0)) (hn : n ≤ 1048576) (h0 : 0 ≤ k0) (h1 : k0 ≤ 1000000000) :
    Calls Tryd.prog 54 #[.slice A n c, .int .i64 k0] w fun e w' => e = .returned (.int .i64 (k0 + 3 * n)) ∧ ∃ m, w' = w.drewN m := by
  go_enter Tryd.func54, Tryd.ntmps54
  go_wp2
  go_loopw [1, 5] (fun kk i wr => ∃ j m : Nat, j ≤ n ∧ i = .int .i64 j ∧ kk = .int .i64 (k0 + 3 * j) ∧ wr = w.drewN m) (fun _ i _ => n - (intOf i).toNat)
  case atStart => exact ⟨0, 0, Nat.zero_le _, rfl, by simp, rfl⟩
  case round =>
    obtain ⟨j, m, hj, rfl, rfl, rfl⟩ := hrel
    by_cases hlt : j < n
    · have hltm : j < (marked n k0).length := by rw [marked_len]; exact hlt
      obtain ⟨ad, rfl, hf, c1, c2, c3⟩ := h.at_gate hltm
      rw [marked_get] at c1 c2 c3
      have hj1 : (0 : Int) ≤ j := by omega
      have hj2 : (j : Int) < n := by omega
      generalize hT : k0 + 3 * (j : Int) = T at *
      have HT := Lib.hid hT
      have hT0 : 0 ≤ T := by omega
      have hT1 : T ≤ 2000000000 := by omega
      clear hT
      have hx : (!((T % 3 == 0) == (T % 3 == 0))) = false := by simp
      have hy : ((T + 1 + 1) != (T + 1 + 1)) = false := by simp
      go_wp2
      go_roundw
      case rel => exact ⟨j + 1, m, by omega, by go_num, ret_num (by have := HT.out; omega), rfl⟩
      case measure => simp [intOf]; omega
    · have : j = n := by omega
      subst this
      go_wp2
      go_ret
      exact ⟨rfl, m, rfl⟩

theorem gcells_set (ys : List G) (j : Nat) (h : j < ys.length) (g : G) :
    (((ys.flatMap gcells).set (j * 3) (.bool g.x)).set (j * 3 + 1) (.int .i64 g.a)).set (j * 3 + 2) (.int .i64 g.b) = (ys.set j g).flatMap gcells := by
  have e : ys = ys.take j ++ (ys[j] :: ys.drop (j + 1)) := by rw [← List.drop_eq_getElem_cons h, List.take_append_drop]
  have hl : ((ys.take j).flatMap gcells).length = j * 3 := by rw [gcells_len]; simp; omega
  have hl0 : ¬ j * 3 < ((ys.take j).flatMap gcells).length := by omega
  have hl1 : ¬ j * 3 + 1 < ((ys.take j).flatMap gcells).length := by omega
  have hl2 : ¬ j * 3 + 2 < ((ys.take j).flatMap gcells).length := by omega
  have hs : ys.set j g = ys.take j ++ (g :: ys.drop (j + 1)) := by
    conv => lhs; rw [e]
    rw [List.set_append_right j _ (by simp; omega)]
    simp [Nat.min_eq_left (Nat.le_of_lt h)]
    rw [List.drop_eq_getElem_cons h]; rfl
  rw [hs]
  conv => lhs; rw [e]
  rw [List.flatMap_append, List.flatMap_append, List.flatMap_cons, List.flatMap_cons]
  generalize (ys.drop (j + 1)).flatMap gcells = R
  rw [List.set_append, if_neg hl0, List.set_append, if_neg hl1, List.set_append, if_neg hl2, hl]
  simp [gcells]

set_option maxHeartbeats 400000 in
theorem markGateS_any (base c : Nat) (A : Option Addr) (xs : List G) (k0 : Int) (w : World) (h : OwnGs w base (.slice A xs.length c) xs) (hn : xs.length ≤ 1048576) (h0 : 0 ≤ k0) (h1 : k0 ≤ 1000000000) :
    Calls Tryd.prog 53 #[.slice A xs.length c, .int .i64 k0] w fun e w' => e = .returned (.int .i64 (k0 + 3 * xs.length)) ∧ OwnGs w' base (.slice A xs.length c) (marked xs.length k0) ∧ w.grownBy w' (Value.slice A xs.length c).ownBlock := by
  go_enter Tryd.func53, Tryd.ntmps53
  go_wp2
  go_loopw [1, 5] (fun kk i wr => ∃ (j : Nat) (ys : List G), j ≤ xs.length ∧ ys.length = xs.length ∧ (∀ i, i < j → ys[i]? = (marked xs.length k0)[i]?) ∧ i = .int .i64 j ∧ kk = .int .i64 (k0 + 3 * j) ∧
     wr.ownsRow base 96 3 (.slice A xs.length c) xs.length (ys.flatMap gcells) ∧ w.grownBy wr (Value.slice A xs.length c).ownBlock) (fun _ i _ => xs.length - (intOf i).toNat)
  case atStart => exact ⟨0, xs, Nat.zero_le _, rfl, fun i hi => absurd hi (by omega), rfl, by simp, h, World.grownBy.refl _ _⟩
  case round =>
    obtain ⟨j, ys, hj, hyl, hys, rfl, rfl, ho, hg⟩ := hrel
    have HY := Lib.hid hys
    have HL := Lib.hid hyl
    clear hys hyl
    by_cases hlt : j < xs.length
    · obtain ⟨g, cap, e, hbg, hgs⟩ := ho.form (by omega)
      injection e with e1 _ e3
      subst e1; subst e3
      generalize hT : k0 + 3 * (j : Int) = T at *
      have HT := Lib.hid hT
      have hT0 : 0 ≤ T := by omega
      have hT1 : T ≤ 2000000000 := by omega
      clear hT
      have hst1 := (ho.stored (j * 3) (.bool (T % 3 == 0))).1
      have hst2 := (hst1.stored (j * 3 + 1) (.int .i64 (T + 1))).1
      have hst3 := (hst2.stored (j * 3 + 2) (.int .i64 (T + 1 + 1))).1
      have hl0 : (ys.flatMap gcells).length = xs.length * 3 := ho.1
      have e1 : wr.cell? ⟨g, j * 3, none⟩ = (ys.flatMap gcells)[j * 3]? := ho.cellAt _ (by omega)
      have e2 : wr.cell? ⟨g, j * 3 + 1, none⟩ = (ys.flatMap gcells)[j * 3 + 1]? := ho.cellAt _ (by omega)
      have e3 : wr.cell? ⟨g, j * 3 + 2, none⟩ = (ys.flatMap gcells)[j * 3 + 2]? := ho.cellAt _ (by omega)
      rw [List.getElem?_eq_getElem (by omega)] at e1 e2 e3
      have f1 : wr.frozen? ⟨g, j * 3, none⟩ = false := ho.frozenAt _
      have f2 : wr.frozen? ⟨g, j * 3 + 1, none⟩ = false := ho.frozenAt _
      have f3 : wr.frozen? ⟨g, j * 3 + 2, none⟩ = false := ho.frozenAt _
      go_wp2
      go_roundw
      case rel => exact ⟨j + 1, ys.set j ⟨T % 3 == 0, T + 1, T + 1 + 1⟩, by omega, by simp [HL.out], by
          intro i hi
          rcases Nat.lt_or_ge i j with h' | h'
          · rw [List.getElem?_set_ne (by omega)]; exact HY.out i h'
          · have : i = j := by omega
            subst this
            rw [List.getElem?_set_self (by have := HL.out; omega), List.getElem?_eq_getElem (by rw [marked_len]; exact hlt), marked_get, HT.out], by go_num, ret_num (by have := HT.out; omega), by
          rw [gcells_set ys j (by have := HL.out; omega) ⟨T % 3 == 0, T + 1, T + 1 + 1⟩] at hst3; exact hst3, only_setCell (only_setCell (only_setCell hg _ _) _ _) _ _⟩
      case measure => simp [intOf]; omega
    · have : j = xs.length := by omega
      subst this
      go_wp2
      go_ret
      refine ⟨rfl, ?_, hg⟩
      have hym : ys = marked xs.length k0 := List.ext_getElem? fun i => by
        rcases Nat.lt_or_ge i xs.length with hi | hi
        · exact HY.out i hi
        · rw [List.getElem?_eq_none (by rw [HL.out]; exact hi), List.getElem?_eq_none (by rw [marked_len]; exact hi)]
      unfold OwnGs
      rw [marked_len, ← hym]
      exact ho

theorem heldNet_any (A : Option Addr) (c n : Nat) (ins k0 : Int) (w : World) (h : Lay.gate.Rd w A (marked n k0)) (hn : n ≤ 1048576) (h0 : 0 ≤ k0) (h1 : k0 ≤ 1000000000) :
    Calls Tryd.prog 19 #[.agg #[.int .i64 ins, .slice A n c], .int .i64 k0] w fun e w' => e = .returned (.int .i64 (k0 + 3 * n)) ∧ Below w.heap.size w w' := by
  have hw : Below w.heap.size w (w.alloc (.cells #[.int .i64 ins, .slice A n c] 29)) := (Below.refl _ _).alloc (Nat.le_refl _) _
  go_enter Tryd.func19, Tryd.ntmps19
  go_wp2_with (go_at_call 54; refine (heldGateS_any A c n k0 _ _ (h.up hw) hn h0 h1).mono ?_; rintro e w' ⟨rfl, m, rfl⟩)
  go_ret
  exact ⟨rfl, below_drewN hw m⟩


theorem markNet_any (base c : Nat) (A : Option Addr) (n : N) (k0 : Int) (w : World) (h : OwnGs w base (.slice A n.gs.length c) n.gs) (hn : n.gs.length ≤ 1048576) (h0 : 0 ≤ k0) (h1 : k0 ≤ 1000000000) :
    Calls Tryd.prog 17 #[.agg #[.int .i64 n.ins, .slice A n.gs.length c], .int .i64 k0] w fun e w' => e = .returned (.int .i64 (k0 + 3 * n.gs.length)) ∧ OwnGs w' base (.slice A n.gs.length c) (marked n.gs.length k0) ∧ w.grownBy w' (Value.slice A n.gs.length c).ownBlock := by
  have hw : Below w.heap.size w (w.alloc (.cells #[.int .i64 n.ins, .slice A n.gs.length c] 29)) := (Below.refl _ _).alloc (Nat.le_refl _) _
  go_enter Tryd.func17, Tryd.ntmps17
  go_wp2_with (go_at_call 53; refine (markGateS_any base c A n.gs k0 _ (h.up hw) hn h0 h1).mono ?_; rintro e w' ⟨rfl, ho, hg⟩)
  go_ret
  exact ⟨rfl, ho, grown_then hw hg⟩
end Go.Proofs.YtjghcaghigebjaaDoor

/-! The reference's absolute value. -/
namespace Go.Proofs.YtjghcaghigebjaaDoor
open Go Go.RowKit

theorem l4Abs_any (n : Int) (w : World) (h0 : -9223372036854775808 < n) (h1 : n ≤ 9223372036854775807) :
    Calls Tryd.prog 111 #[.int .i64 n] w fun e w' => e = .returned (.int .i64 n.natAbs) ∧ w = w' := by
  by_cases h : n < 0
  all_goals
    go_enter Tryd.func111, Tryd.ntmps111
    go_wp2
    go_ret
    exact ⟨ret_int (by omega), rfl⟩
end Go.Proofs.YtjghcaghigebjaaDoor

/-! Contracts of the reference's nets. -/
namespace Go.Proofs.YtjghcaghigebjaaDoor
open Go Go.RowKit

theorem src_gates {w : World} {F : Nat → Prop} {A : Option Addr} {xs : List G} (h : Lay.gate.Sl w F A xs) : Src w 3 A xs.length (xs.flatMap gcells) := by
  refine ⟨gcells_len xs, fun h0 => ?_⟩
  obtain ⟨ad, rfl, _, hc⟩ := h h0
  refine ⟨ad, rfl, fun j u hu => ?_⟩
  have hj : j < (xs.flatMap gcells).length := by
    rcases Nat.lt_or_ge j (xs.flatMap gcells).length with h | h
    · exact h
    · rw [List.getElem?_eq_none h] at hu; cases hu
  rw [gcells_len] at hj
  have hk : j / 3 < xs.length := by omega
  obtain ⟨vs, rfl, hcell⟩ := hc (j / 3) xs[j / 3] (List.getElem?_eq_getElem hk)
  have hl : ((xs.take (j / 3)).flatMap gcells).length = j / 3 * 3 := by rw [gcells_len]; simp; omega
  have e : xs = xs.take (j / 3) ++ (xs[j / 3] :: xs.drop (j / 3 + 1)) := by rw [← List.drop_eq_getElem_cons hk, List.take_append_drop]
  rw [e, List.flatMap_append, List.flatMap_cons, List.getElem?_append_right (by omega), hl, List.getElem?_append_left (by simp [gcells]; omega)] at hu
  have := hcell (j - j / 3 * 3) u hu
  rw [show Lay.gate.size = 3 from rfl, show j / 3 * 3 + (j - j / 3 * 3) = j from by omega] at this
  exact this
theorem gcells_one (xs : List G) : ∀ u ∈ xs.flatMap gcells, u.oneCell' = true := by
  intro u hu
  obtain ⟨g, _, hg⟩ := List.mem_flatMap.1 hu
  simp [gcells] at hg
  rcases hg with rfl | rfl | rfl <;> rfl

set_option maxRecDepth 100000 in
set_option maxHeartbeats 1000000 in
theorem l6Fresh_any (A : Option Addr) (c : Nat) (n : N) (w : World) (h : Lay.gate.Rd w A n.gs) (hn : n.gs.length ≤ 1048576) (hA : A = none → n.gs.length = 0) :
    Calls Tryd.prog 65 #[.agg #[.int .i64 n.ins, .slice A n.gs.length c]] w (RetNet w n) := by
  obtain ⟨i0, hi0, hz0, hz1, hz2⟩ := info_parts gate_info
  go_enter Tryd.func65, Tryd.ntmps65
  go_wp2
  go_region_held3 (fun w' => w'.cell? ⟨w.heap.size, 0, none⟩ = some (.int .i64 n.ins) ∧ w'.cell? ⟨w.heap.size, 1, none⟩ = some (.slice A n.gs.length c))
    (first | go_keep | (go_split_ands; refine ⟨?_, ?_⟩ <;> (rw [hb1.cell (by show w.heap.size < _; omega)]; assumption)))
    ((refine step_append_src _ (by rfl) _ _ _ (by rfl) (w.heap.size + 1 + 1) 96 i0 _ 3 24 Tryd.underlying27 hi0 hz0 hz1 hz2 (by rfl) (by omega) (.slice (some ⟨w.heap.size + 1 + 1, 0, none⟩) 0 0) 0 [] (by rfl) (by first | exact own_lit0 (by simp) | exact (own_lit0 (by simp)).drew) A n.gs.length c (n.gs.flatMap gcells) (by rfl) (src_gates (Lay.Sl.up h (by go_grown))) (gcells_one _) n.gs.length (by omega) (by unfold maxLen; omega) (by omega) (by simp) hA ?_; intro A1 c1 w1 hown1 hb1 _; obtain ⟨hcc, hff⟩ := bcell hb1; have hz : w.heap.size + 1 < w1.heap.size := by have := hb1.size; simp at this; omega))
  have hbw : Below w.heap.size w w1 := by
    refine Below.trans (b := (((w.alloc (Obj.cells #[.int .i64 n.ins, .slice A n.gs.length c] 29)).alloc (Obj.cells #[.int .i64 0, .slice none 0 0] 29)).alloc (Obj.cells #[] 96)).drew) ?_ (hb1.mono (by omega))
    exact ((((Below.refl _ _).alloc (Nat.le_refl _) _).alloc (by simp) _).alloc (by simp; omega) _).drew
  go_wp2
  refine bodyPost_ret (v := .agg #[.int .i64 n.ins, .slice A1 n.gs.length c1]) (by simp [results, Tryd.results65, go_sem, hcc, hff, hz]) rfl ⟨A1, c1, rfl, ?_, ?_⟩
  · exact own_mono (own_far (own_far hown1 _ _ (by simp)) _ _ (by simp)) (by omega)
  · exact (hbw.setCell (by simp) _).setCell (by simp) _

theorem eqlG (w : World) (g h : G) : (binOp .eql 96 (.agg #[.bool g.x, .int .i64 g.a, .int .i64 g.b]) (.agg #[.bool h.x, .int .i64 h.a, .int .i64 h.b])).run Tryd.prog w = .ok (.bool (decide (g = h))) w := by
  have hh : Tryd.prog.stoodInHeld 96 = false := by kernel_rfl
  rw [decide_G]
  simp [go_sem, hh]
  (repeat' split) <;> simp_all
def l4abs (m : Int) : Int := m.natAbs

theorem l6Many_any (A : Option Addr) (c n : Nat) (ins : Int) (w : World) (hn : n ≤ 1048576) (h0 : -1000000 ≤ ins) (h1 : ins ≤ 1000000) :
    Calls Tryd.prog 78 #[.agg #[.int .i64 ins, .slice A n c]] w fun e w' => e = .returned (.int .i64 (1 + ins + n)) ∧ Below w.heap.size w w' := by
  have hw : Below w.heap.size w (w.alloc (.cells #[.int .i64 ins, .slice A n c] 29)) := (Below.refl _ _).alloc (Nat.le_refl _) _
  go_enter Tryd.func78, Tryd.ntmps78
  go_wp2
  go_ret
  exact ⟨rfl, hw⟩

def netMark (n : N) (m : Int) : Bool := sigOf m (1 + n.ins + n.gs.length)
theorem l6Mark_any (A : Option Addr) (c : Nat) (n : N) (m : Int) (w : World) (hn : n.gs.length ≤ 1048576) (h0 : 0 ≤ n.ins) (h1 : n.ins ≤ 1000000) (m0 : -9223372036854775808 ≤ m) (m1 : m ≤ 9223372036854775807) :
    Calls Tryd.prog 42 #[.agg #[.int .i64 n.ins, .slice A n.gs.length c], .int .i64 m] w fun e w' => e = .returned (.bool (netMark n m)) ∧ Below w.heap.size w w' := by
  have hw : Below w.heap.size w (w.alloc (.cells #[.int .i64 n.ins, .slice A n.gs.length c] 29)) := (Below.refl _ _).alloc (Nat.le_refl _) _
  unfold netMark
  generalize hK : (1 + n.ins + (n.gs.length : Int)) = K
  have HK := Lib.hid hK
  have k0 : 0 ≤ K := by omega
  have k1 : K ≤ 3000000 := by omega
  clear hK
  go_enter Tryd.func42, Tryd.ntmps42
  go_wp2_with (go_at_call 78; refine (l6Many_any A c n.gs.length n.ins _ hn (by omega) h1).mono ?_; rw [HK.out]; rintro e w' ⟨rfl, hb⟩)
  all_goals
    go_ret
    refine ⟨ret_bool ?_, bthen hw hb⟩
    first
      | (simp [sigOf, *]; done)
      | (simp [sigOf, *]; omega)

/-- Is the gate right at place k of a net with so much coming in? -/
def okG (ins : Int) (k : Nat) (g : G) : Bool :=
  decide (-(1 + ins + k) ≤ g.a) && decide (g.a ≤ 1 + ins + k) && decide (-(1 + ins + k) ≤ g.b) && decide (g.b ≤ 1 + ins + k) && decide (2 ≤ (g.a.natAbs : Int)) && decide ((g.a.natAbs : Int) < g.b.natAbs) && !(g.x && (decide (g.a < 0) || decide (g.b < 0)))
def goodG (n : N) (k : Nat) (g : G) : Bool := okG n.ins k g && !(n.gs.take k).contains g
def okInts (n : N) : Prop := ∀ g ∈ n.gs, (-9223372036854775808 ≤ g.a ∧ g.a ≤ 9223372036854775807) ∧ (-9223372036854775808 ≤ g.b ∧ g.b ≤ 9223372036854775807)

theorem okG_no {K a b na nb : Int} {gx : Bool} (h : a < -K ∨ K < a ∨ b < -K ∨ K < b ∨ na < 2 ∨ nb ≤ na) :
    (decide (-K ≤ a) && decide (a ≤ K) && decide (-K ≤ b) && decide (b ≤ K) && decide (2 ≤ na) && decide (na < nb) && !(gx && (decide (a < 0) || decide (b < 0)))) = false := by
  rw [Bool.eq_false_iff]
  intro e
  simp only [Bool.and_eq_true, decide_eq_true_eq] at e
  omega
theorem okG_yes {K a b na nb : Int} {gx : Bool} (h1 : -K ≤ a) (h2 : a ≤ K) (h3 : -K ≤ b) (h4 : b ≤ K) (h5 : 2 ≤ na) (h6 : na < nb) :
    (decide (-K ≤ a) && decide (a ≤ K) && decide (-K ≤ b) && decide (b ≤ K) && decide (2 ≤ na) && decide (na < nb) && !(gx && (decide (a < 0) || decide (b < 0)))) = !(gx && (decide (a < 0) || decide (b < 0))) := by
  simp [h1, h2, h3, h4, h5, h6]

set_option maxRecDepth 100000 in
set_option maxHeartbeats 4000000 in
theorem l6Gate_any (A : Option Addr) (c : Nat) (n : N) (k : Nat) (hk : k < n.gs.length) (w : World) (h : Lay.gate.Rd w A n.gs) (hn : n.gs.length ≤ 1048576) (hi : okInts n) (h0 : 0 ≤ n.ins) (h1 : n.ins ≤ 1000000) :
    Calls Tryd.prog 77 #[.agg #[.int .i64 n.ins, .slice A n.gs.length c], .int .i64 k] w fun e w' => e = .returned (.bool (goodG n k n.gs[k])) ∧ Below w.heap.size w w' := by
  obtain ⟨ad, rfl, hf, hc⟩ := h.at_gate hk
  have hw : Below w.heap.size w (w.alloc (.cells #[.int .i64 n.ins, .slice (some ad) n.gs.length c] 29)) := (Below.refl _ _).alloc (Nat.le_refl _) _
  obtain ⟨c1, c2, c3⟩ := gate_up hw hf hc
  obtain ⟨⟨a0, a1⟩, b0, b1⟩ := hi n.gs[k] (List.getElem_mem _)
  have HG := Lib.hid (show goodG n k n.gs[k] = (okG n.ins k n.gs[k] && !(n.gs.take k).contains n.gs[k]) from rfl)
  unfold okG at HG
  have hk1 : (k : Int) < n.gs.length := by omega
  have hK0 : (0 : Int) ≤ 1 + n.ins + k := by omega
  have hK1 : 1 + n.ins + (k : Int) ≤ 3000000 := by omega
  generalize hgg : n.gs[k] = g at *
  obtain ⟨gx, ga, gb⟩ := g
  have HGG := Lib.hid hgg
  clear hgg hc hi
  dsimp only at c1 c2 c3 a0 a1 b0 b1 HG
  have hab : -9223372036854775808 < ga → ga.natAbs < 9223372036854775808 := by omega
  generalize hna : (ga.natAbs : Int) = na at *
  generalize hnb : (gb.natAbs : Int) = nb at *
  have qa : ∀ W : World, -9223372036854775808 < ga → Calls Tryd.prog 111 #[.int .i64 ga] W fun e w' => e = .returned (.int .i64 na) ∧ W = w' := fun W h => by rw [← hna]; exact l4Abs_any ga W h a1
  have qb : ∀ W : World, -9223372036854775808 < gb → Calls Tryd.prog 111 #[.int .i64 gb] W fun e w' => e = .returned (.int .i64 nb) ∧ W = w' := fun W h => by rw [← hnb]; exact l4Abs_any gb W h b1
  have Qa := Lib.hid qa
  have Qb := Lib.hid qb
  generalize hKK : 1 + n.ins + (k : Int) = K at *
  have HKK := Lib.hid hKK
  clear qa qb hna hnb hab hKK
  have hww := ((Below.refl w.heap.size w).alloc (Nat.le_refl _) (.cells #[.int .i64 n.ins, .slice (some ad) n.gs.length c] 29)).alloc (by simp) (.cells #[.bool gx, .int .i64 ga, .int .i64 gb] 96)
  go_enter Tryd.func77, Tryd.ntmps77
  go_wp2
  rw [show Value.int IntKind.i64 (1 + n.ins + (k : Int)) = .int .i64 K from by rw [HKK.out]]
  by_cases q0 : ga < -K
  · have d0 : decide (ga < -K) = true := decide_eq_true q0
    go_quiet (fail)
    go_wp2
    go_ret
    exact ⟨ret_bool (by rw [HG.out, okG_no (by omega)]; rfl), below_drewN hww _⟩
  have d0 : decide (ga < -K) = false := decide_eq_false q0
  by_cases q1 : K < ga
  · have d1 : decide (K < ga) = true := decide_eq_true q1
    go_quiet (fail)
    go_wp2
    go_ret
    exact ⟨ret_bool (by rw [HG.out, okG_no (by omega)]; rfl), below_drewN hww _⟩
  have d1 : decide (K < ga) = false := decide_eq_false q1
  by_cases q2 : gb < -K
  · have d2 : decide (gb < -K) = true := decide_eq_true q2
    go_quiet (fail)
    go_wp2
    go_ret
    exact ⟨ret_bool (by rw [HG.out, okG_no (by omega)]; rfl), below_drewN hww _⟩
  have d2 : decide (gb < -K) = false := decide_eq_false q2
  by_cases q3 : K < gb
  · have d3 : decide (K < gb) = true := decide_eq_true q3
    go_quiet (fail)
    go_wp2
    go_ret
    exact ⟨ret_bool (by rw [HG.out, okG_no (by omega)]; rfl), below_drewN hww _⟩
  have d3 : decide (K < gb) = false := decide_eq_false q3
  by_cases q4 : na < 2
  · have d4 : decide (na < 2) = true := decide_eq_true q4
    go_quiet ((first | (go_at_call 111; with_reducible exact quiet_left (Qa.out _ (by omega))) | (go_at_call 111; with_reducible exact quiet_left (Qb.out _ (by omega)))))
    go_wp2
    go_ret
    exact ⟨ret_bool (by rw [HG.out, okG_no (by omega)]; rfl), below_drewN hww _⟩
  have d4 : decide (na < 2) = false := decide_eq_false q4
  by_cases q5 : nb ≤ na
  · have d5 : decide (nb ≤ na) = true := decide_eq_true q5
    go_quiet ((first | (go_at_call 111; with_reducible exact quiet_left (Qa.out _ (by omega))) | (go_at_call 111; with_reducible exact quiet_left (Qb.out _ (by omega)))))
    go_wp2
    go_ret
    exact ⟨ret_bool (by rw [HG.out, okG_no (by omega)]; rfl), below_drewN hww _⟩
  have d5 : decide (nb ≤ na) = false := decide_eq_false q5
  go_quiet ((first | (go_at_call 111; with_reducible exact quiet_left (Qa.out _ (by omega))) | (go_at_call 111; with_reducible exact quiet_left (Qb.out _ (by omega)))))
  clear d0 d1 d2 d3 d4 d5
  have HG2 := Lib.hid (show goodG n k ⟨gx, ga, gb⟩ = (!(gx && (decide (ga < 0) || decide (gb < 0))) && !(n.gs.take k).contains ⟨gx, ga, gb⟩) by rw [HG.out, okG_yes (by omega) (by omega) (by omega) (by omega) (by omega) (by omega)])
  clear HG
  by_cases hx : (gx && (decide (ga < 0) || decide (gb < 0))) = true
  · have HX := Lib.hid (show goodG n k ⟨gx, ga, gb⟩ = false by rw [HG2.out, hx]; rfl)
    simp only [Bool.and_eq_true, Bool.or_eq_true, decide_eq_true_eq] at hx
    obtain ⟨rfl, hx⟩ := hx
    clear HG2
    by_cases hx1 : ga < 0
    all_goals
      go_wp2
      go_ret
      exact ⟨ret_bool (by rw [HX.out]), below_drewN hww _⟩
  · have HX := Lib.hid (show goodG n k ⟨gx, ga, gb⟩ = !(n.gs.take k).contains ⟨gx, ga, gb⟩ by rw [HG2.out, Bool.eq_false_iff.2 hx]; rfl)
    have hx' : gx = true → 0 ≤ ga ∧ 0 ≤ gb := by
      intro e; subst e
      simp only [Bool.true_and, Bool.or_eq_true, decide_eq_true_eq] at hx
      omega
    clear HG2 hx
    have v1 : ((w.alloc (.cells #[.int .i64 n.ins, .slice (some ad) n.gs.length c] 29)).alloc (.cells #[.bool gx, .int .i64 ga, .int .i64 gb] 96)).cell? ⟨w.heap.size, 1, none⟩ = some (.slice (some ad) n.gs.length c) := by simp [go_sem]
    have v2 : ((w.alloc (.cells #[.int .i64 n.ins, .slice (some ad) n.gs.length c] 29)).alloc (.cells #[.bool gx, .int .i64 ga, .int .i64 gb] 96)).cell? ⟨w.heap.size + 1, 0, none⟩ = some (.bool gx) := by simp [go_sem]
    have v3 : ((w.alloc (.cells #[.int .i64 n.ins, .slice (some ad) n.gs.length c] 29)).alloc (.cells #[.bool gx, .int .i64 ga, .int .i64 gb] 96)).cell? ⟨w.heap.size + 1, 1, none⟩ = some (.int .i64 ga) := by simp [go_sem]
    have v4 : ((w.alloc (.cells #[.int .i64 n.ins, .slice (some ad) n.gs.length c] 29)).alloc (.cells #[.bool gx, .int .i64 ga, .int .i64 gb] 96)).cell? ⟨w.heap.size + 1, 2, none⟩ = some (.int .i64 gb) := by simp [go_sem]
    generalize ((w.alloc (.cells #[.int .i64 n.ins, .slice (some ad) n.gs.length c] 29)).alloc (.cells #[.bool gx, .int .i64 ga, .int .i64 gb] 96)) = W at *
    have hxx : gx = false ∨ (gx = true ∧ 0 ≤ ga ∧ 0 ≤ gb) := by
      cases gx
      · exact .inl rfl
      · exact .inr ⟨rfl, hx' rfl⟩
    clear hx'
    have hkk : (n.gs.take k).contains ⟨gx, ga, gb⟩ = true ↔ ∃ i', i' < k ∧ n.gs[i']? = some ⟨gx, ga, gb⟩ := by
      rw [List.contains_iff_mem, List.mem_iff_getElem?]
      constructor
      · rintro ⟨i', hi'⟩
        rw [List.getElem?_take] at hi'
        split at hi'
        · exact ⟨i', by assumption, hi'⟩
        · cases hi'
      · rintro ⟨i', h1, h2⟩
        exact ⟨i', by rw [List.getElem?_take, if_pos h1, h2]⟩
    have HKK := Lib.hid hkk
    have hW : Below w.heap.size w W := hww
    have HE := Lib.hid (fun (W : World) (g : G) => eqlG W g ⟨gx, ga, gb⟩)
    clear hkk
    rcases hxx with hxf | ⟨hxf, hx1, hx2⟩
    all_goals
      go_wp2
      clear hxf
      go_loopw [7] (fun i wr => ∃ j m : Nat, j ≤ k ∧ i = .int .i64 j ∧ wr = W.drewN m ∧ ∀ i', i' < j → n.gs[i']? ≠ some ⟨gx, ga, gb⟩) (fun i _ => k - (intOf i).toNat)
      case atStart => exact ⟨0, nq, Nat.zero_le _, rfl, rfl, fun i' h => absurd h (by omega)⟩
      case round =>
        obtain ⟨j, m, hj, rfl, rfl, hnot⟩ := hrel
        have HN := Lib.hid hnot
        clear hnot
        by_cases hlt : j < k
        · have hjl : j < n.gs.length := by omega
          obtain ⟨ad', e, hf', hcj⟩ := h.at_gate hjl
          cases e
          obtain ⟨j1, j2, j3⟩ := gate_up hW hf' hcj
          have hj0 : (0 : Int) ≤ j := by omega
          have hj1 : (j : Int) < n.gs.length := by omega
          have hgj : n.gs[j]? = some n.gs[j] := List.getElem?_eq_getElem hjl
          have HGJ := Lib.hid hgj
          clear hgj hcj
          generalize n.gs[j] = gj at *
          by_cases hq : gj = ⟨gx, ga, gb⟩
          · have he : ∀ W' : World, (binOp .eql 96 (.agg #[.bool gj.x, .int .i64 gj.a, .int .i64 gj.b]) (.agg #[.bool gx, .int .i64 ga, .int .i64 gb])).run Tryd.prog W' = .ok (.bool true) W' := fun W' => by rw [HE.out W' gj, decide_eq_true hq]
            have HQ := Lib.hid hq
            clear hq
            go_wp2
            go_quiet (fail)
            go_wp2
            go_ret
            exact ⟨ret_bool (by rw [HX.out, HKK.out.2 ⟨j, hlt, by rw [HGJ.out, HQ.out]⟩]; rfl), below_drewN (below_drewN hW _) _⟩
          · have he : ∀ W' : World, (binOp .eql 96 (.agg #[.bool gj.x, .int .i64 gj.a, .int .i64 gj.b]) (.agg #[.bool gx, .int .i64 ga, .int .i64 gb])).run Tryd.prog W' = .ok (.bool false) W' := fun W' => by rw [HE.out W' gj, decide_eq_false hq]
            have HQ := Lib.hid hq
            clear hq
            go_wp2
            go_quiet (fail)
            go_wp2
            go_roundw
            case rel => exact ⟨j + 1, _, by omega, by go_num, rfl, fun i' hi' => by
              rcases Nat.lt_or_ge i' j with h' | h'
              · exact HN.out i' h'
              · have : i' = j := by omega
                subst this; rw [HGJ.out]; intro e; injection e with e; exact HQ.out e⟩
            case measure => simp [intOf]; omega
        · have : j = k := by omega
          subst this
          go_wp2
          go_ret
          refine ⟨ret_bool ?_, below_drewN hW _⟩
          rw [HX.out]
          have : ¬ (n.gs.take j).contains ⟨gx, ga, gb⟩ = true := by
            rw [HKK.out]; rintro ⟨i', h1, h2⟩; exact HN.out i' h1 h2
          simpa using this
end Go.Proofs.YtjghcaghigebjaaDoor

/-! Contracts of the reference's nets: NetOk, the gates' making. -/
namespace Go.Proofs.YtjghcaghigebjaaDoor
open Go Go.RowKit

theorem gcells_one1 (g : G) : ∀ u ∈ gcells g, u.oneCell' = true := by
  intro u hu
  simp [gcells] at hu
  rcases hu with rfl | rfl | rfl <;> rfl
def goodAt (n : N) (k : Nat) : Bool := match n.gs[k]? with | some g => goodG n k g | none => true
def netOk (n : N) : Bool := decide (0 ≤ n.ins) && decide (n.ins ≤ 8) && decide (n.gs.length ≤ 600) && (List.range n.gs.length).all (goodAt n)
theorem netOk_iff (n : N) : netOk n = true ↔ 0 ≤ n.ins ∧ n.ins ≤ 8 ∧ n.gs.length ≤ 600 ∧ ∀ k, k < n.gs.length → goodAt n k = true := by
  simp [netOk, and_assoc]
theorem netOk_no {n : N} (h : n.ins < 0 ∨ 8 < n.ins ∨ 600 < n.gs.length ∨ ∃ k, k < n.gs.length ∧ goodAt n k = false) : netOk n = false := by
  rw [Bool.eq_false_iff]
  intro e
  obtain ⟨h1, h2, h3, h4⟩ := (netOk_iff n).1 e
  rcases h with h | h | h | ⟨k, hk, hg⟩
  · omega
  · omega
  · omega
  · rw [h4 k hk] at hg; cases hg

set_option maxHeartbeats 1000000 in
theorem specNetOk_any (A : Option Addr) (c : Nat) (n : N) (w : World) (h : Lay.gate.Rd w A n.gs) (hn : n.gs.length ≤ 1048576) (hi : okInts n) :
    Calls Tryd.prog 40 #[.agg #[.int .i64 n.ins, .slice A n.gs.length c]] w fun e w' => e = .returned (.bool (netOk n)) ∧ Below w.heap.size w w' := by
  have hw : Below w.heap.size w (w.alloc (.cells #[.int .i64 n.ins, .slice A n.gs.length c] 29)) := (Below.refl _ _).alloc (Nat.le_refl _) _
  have H := h.up hw
  by_cases h0 : n.ins < 0
  · have HN := Lib.hid (netOk_no (.inl h0))
    go_enter Tryd.func40, Tryd.ntmps40
    go_wp2
    go_ret
    exact ⟨ret_bool (by rw [HN.out]), hw⟩
  by_cases h1 : 8 < n.ins
  · have HN := Lib.hid (netOk_no (.inr (.inl h1)))
    go_enter Tryd.func40, Tryd.ntmps40
    go_wp2
    go_ret
    exact ⟨ret_bool (by rw [HN.out]), hw⟩
  by_cases h2 : 600 < n.gs.length
  · have HN := Lib.hid (netOk_no (.inr (.inr (.inl h2))))
    go_enter Tryd.func40, Tryd.ntmps40
    go_wp2
    go_ret
    exact ⟨ret_bool (by rw [HN.out]), hw⟩
  have v0 : (w.alloc (.cells #[.int .i64 n.ins, .slice A n.gs.length c] 29)).cell? ⟨w.heap.size, 0, none⟩ = some (.int .i64 n.ins) := by simp [go_sem]
  have v1 : (w.alloc (.cells #[.int .i64 n.ins, .slice A n.gs.length c] 29)).cell? ⟨w.heap.size, 1, none⟩ = some (.slice A n.gs.length c) := by simp [go_sem]
  go_enter Tryd.func40, Tryd.ntmps40
  go_wp2
  generalize w.alloc (.cells #[.int .i64 n.ins, .slice A n.gs.length c] 29) = W at *
  go_loopw [3] (fun i wr => ∃ j : Nat, j ≤ n.gs.length ∧ i = .int .i64 j ∧ Below W.heap.size W wr ∧ ∀ i', i' < j → goodAt n i' = true) (fun i _ => n.gs.length - (intOf i).toNat)
  case atStart => exact ⟨0, Nat.zero_le _, rfl, Below.refl _ _, fun i' h => absurd h (by omega)⟩
  case round =>
    obtain ⟨j, hj, rfl, hb, hg⟩ := hrel
    have HG := Lib.hid hg
    clear hg
    have c0 := (hb.cell (World.block_lt_of_cell? W _ v0)).trans v0
    have c1 := (hb.cell (World.block_lt_of_cell? W _ v1)).trans v1
    by_cases hlt : j < n.gs.length
    · have hga : goodAt n j = goodG n j n.gs[j] := by simp [goodAt, hlt]
      have HA := Lib.hid hga
      clear hga
      go_wp2_with fail
      refine (l6Gate_any A c n j hlt wr (H.up hb) hn hi (by omega) (by omega)).mono ?_
      rw [← HA.out]
      rintro e w2 ⟨rfl, hb2⟩
      cases hq : goodAt n j with
      | false =>
        have HN := Lib.hid (netOk_no (.inr (.inr (.inr ⟨j, hlt, hq⟩))))
        clear hq
        go_wp2
        go_ret
        exact ⟨ret_bool (by rw [HN.out]), bthen (bthen hw hb) hb2⟩
      | true =>
        have HQ := Lib.hid hq
        clear hq
        go_wp2
        go_roundw
        case rel => exact ⟨j + 1, by omega, by go_num, bthen hb hb2, fun i' hi' => by
          rcases Nat.lt_or_ge i' j with h' | h'
          · exact HG.out i' h'
          · have : i' = j := by omega
            subst this; exact HQ.out⟩
        case measure => simp [intOf]; omega
    · have : j = n.gs.length := by omega
      subst this
      have HN := Lib.hid ((netOk_iff n).2 ⟨by omega, by omega, by omega, HG.out⟩)
      go_wp2
      go_ret
      exact ⟨ret_bool (by rw [HN.out]), bthen hw hb⟩

/-- A net with a gate, and its mark; nothing and 0 if there is no room. -/
def put (n : N) (g : G) : N × Int :=
  if g ∈ n.gs then (n, 2 + n.ins + n.gs.idxOf g) else if 600 ≤ n.gs.length then (⟨0, []⟩, 0) else (⟨n.ins, n.gs ++ [g]⟩, 2 + n.ins + n.gs.length)

theorem put_mem {n : N} {g : G} (h : g ∈ n.gs) : put n g = (n, 2 + n.ins + n.gs.idxOf g) := by unfold put; rw [if_pos h]
theorem put_full {n : N} {g : G} (h : g ∉ n.gs) (h6 : 600 ≤ n.gs.length) : put n g = (⟨0, []⟩, 0) := by unfold put; rw [if_neg h, if_pos h6]
theorem put_new {n : N} {g : G} (h : g ∉ n.gs) (h6 : ¬ 600 ≤ n.gs.length) : put n g = (⟨n.ins, n.gs ++ [g]⟩, 2 + n.ins + n.gs.length) := by unfold put; rw [if_neg h, if_neg h6]
/-- What a function returns that makes a net, which may share memory with what was there, and a number. -/
def RetNetInt (F : Nat → Prop) (w : World) (r : N × Int) (e : Ending) (w' : World) : Prop :=
  ∃ A c, e = .returned (.tuple #[.agg #[.int .i64 r.1.ins, .slice A r.1.gs.length c], .int .i64 r.2]) ∧ (A = none → r.1.gs.length = 0) ∧ Lay.gate.Sl w' (fun b => F b ∨ (w.heap.size ≤ b ∧ b < w'.heap.size)) A r.1.gs ∧ Below w.heap.size w w'

theorem idxOf_first {g : G} : ∀ {xs : List G} {j : Nat}, xs[j]? = some g → (∀ i, i < j → xs[i]? ≠ some g) → xs.idxOf g = j
  | [], j, h, _ => by simp at h
  | x :: xs, 0, h, _ => by
    simp only [List.getElem?_cons_zero, Option.some.injEq] at h
    subst h; simp
  | x :: xs, j + 1, h, hn => by
    have hx : x ≠ g := fun e => hn 0 (by omega) (by simp [e])
    have := idxOf_first (xs := xs) (j := j) (by simpa using h) (fun i hi => by have := hn (i + 1) (by omega); simpa using this)
    rw [List.idxOf_cons, this, beq_false_of_ne hx]; rfl
theorem below_set {B : Nat} {w X : World} {p : Addr} (h : Below B w X) (hp : B ≤ p.block) (u : Value) : Below B w (X.setCell p u) :=
  ⟨h.os, h.tape, h.output, by simpa [World.setCell] using h.size, fun b hb => (Below.heap_setCell X p u b (by omega)).trans (h.block b hb)⟩

/-- The net's box holds the net with the new gate. -/
def Fact.put (b : Nat) (W : World) (n : N) (g : G) : Fact :=
  .of (fun _ x => b < x.heap.size ∧ x.cell? ⟨b, 0, none⟩ = some (.int .i64 n.ins) ∧ W.heap.size ≤ x.heap.size ∧ (∀ b', b' < W.heap.size → b' ≠ b → x.heap[b']? = W.heap[b']?) ∧ x.os = W.os ∧ x.tape = W.tape ∧ x.output = W.output ∧
      ∃ A c, x.cell? ⟨b, 1, none⟩ = some (.slice A (n.gs.length + 1) c) ∧ x.ownsRow W.heap.size 96 3 (.slice A (n.gs.length + 1) c) (n.gs.length + 1) (n.gs.flatMap gcells ++ gcells g))
    fun _ x x' ⟨h1, h2, h3, h4, h5, h6, h7, A, c, h8, h9⟩ hb =>
      ⟨Nat.lt_of_lt_of_le h1 hb.size, (hb.cell (by exact h1)).trans h2, Nat.le_trans h3 hb.size, fun b' hb' hne => (hb.block b' (by omega)).trans (h4 b' hb' hne), hb.os.trans h5, hb.tape.trans h6, hb.output.trans h7, A, c, (hb.cell (by exact h1)).trans h8, own_below h9 hb (Nat.le_refl _)⟩

set_option maxRecDepth 100000 in
set_option maxHeartbeats 2000000 in
theorem l6Put_any (F : Nat → Prop) (A : Option Addr) (c : Nat) (n : N) (g : G) (w : World) (h : Lay.gate.Sl w F A n.gs) (hF : ∀ b, F b → b < w.heap.size) (hn : n.gs.length ≤ 1048576) (hA : A = none → n.gs.length = 0) (h0 : 0 ≤ n.ins) (h1 : n.ins ≤ 1000000) :
    Calls Tryd.prog 128 #[.agg #[.int .i64 n.ins, .slice A n.gs.length c], .agg #[.bool g.x, .int .i64 g.a, .int .i64 g.b]] w (RetNetInt F w (put n g)) := by
  obtain ⟨i0, hi0, hz0, hz1, hz2⟩ := info_parts gate_info
  go_enter Tryd.func128, Tryd.ntmps128
  go_wp2
  have hW : Below w.heap.size w (((w.alloc (.cells #[.int .i64 n.ins, .slice A n.gs.length c] 29)).alloc (.cells #[.bool g.x, .int .i64 g.a, .int .i64 g.b] 96)).alloc (.cells #[.int .i64 0, .slice none 0 0] 29)) := (((Below.refl _ _).alloc (Nat.le_refl _) _).alloc (by simp) _).alloc (by simp; omega) _
  have hs : (((w.alloc (.cells #[.int .i64 n.ins, .slice A n.gs.length c] 29)).alloc (.cells #[.bool g.x, .int .i64 g.a, .int .i64 g.b] 96)).alloc (.cells #[.int .i64 0, .slice none 0 0] 29)).heap.size ≥ w.heap.size + 3 := by simp
  have v0 : (((w.alloc (.cells #[.int .i64 n.ins, .slice A n.gs.length c] 29)).alloc (.cells #[.bool g.x, .int .i64 g.a, .int .i64 g.b] 96)).alloc (.cells #[.int .i64 0, .slice none 0 0] 29)).cell? ⟨w.heap.size, 0, none⟩ = some (.int .i64 n.ins) := by simp [go_sem]
  have v1 : (((w.alloc (.cells #[.int .i64 n.ins, .slice A n.gs.length c] 29)).alloc (.cells #[.bool g.x, .int .i64 g.a, .int .i64 g.b] 96)).alloc (.cells #[.int .i64 0, .slice none 0 0] 29)).cell? ⟨w.heap.size, 1, none⟩ = some (.slice A n.gs.length c) := by simp [go_sem]
  have v2 : (((w.alloc (.cells #[.int .i64 n.ins, .slice A n.gs.length c] 29)).alloc (.cells #[.bool g.x, .int .i64 g.a, .int .i64 g.b] 96)).alloc (.cells #[.int .i64 0, .slice none 0 0] 29)).cell? ⟨w.heap.size + 1, 0, none⟩ = some (.bool g.x) := by simp [go_sem]
  have v3 : (((w.alloc (.cells #[.int .i64 n.ins, .slice A n.gs.length c] 29)).alloc (.cells #[.bool g.x, .int .i64 g.a, .int .i64 g.b] 96)).alloc (.cells #[.int .i64 0, .slice none 0 0] 29)).cell? ⟨w.heap.size + 1, 1, none⟩ = some (.int .i64 g.a) := by simp [go_sem]
  have v4 : (((w.alloc (.cells #[.int .i64 n.ins, .slice A n.gs.length c] 29)).alloc (.cells #[.bool g.x, .int .i64 g.a, .int .i64 g.b] 96)).alloc (.cells #[.int .i64 0, .slice none 0 0] 29)).cell? ⟨w.heap.size + 1, 2, none⟩ = some (.int .i64 g.b) := by simp [go_sem]
  have v5 : (((w.alloc (.cells #[.int .i64 n.ins, .slice A n.gs.length c] 29)).alloc (.cells #[.bool g.x, .int .i64 g.a, .int .i64 g.b] 96)).alloc (.cells #[.int .i64 0, .slice none 0 0] 29)).cell? ⟨w.heap.size + 1 + 1, 0, none⟩ = some (.int .i64 0) := by simp [go_sem]
  have v6 : (((w.alloc (.cells #[.int .i64 n.ins, .slice A n.gs.length c] 29)).alloc (.cells #[.bool g.x, .int .i64 g.a, .int .i64 g.b] 96)).alloc (.cells #[.int .i64 0, .slice none 0 0] 29)).cell? ⟨w.heap.size + 1 + 1, 1, none⟩ = some (.slice none 0 0) := by simp [go_sem]
  have f0 : (((w.alloc (.cells #[.int .i64 n.ins, .slice A n.gs.length c] 29)).alloc (.cells #[.bool g.x, .int .i64 g.a, .int .i64 g.b] 96)).alloc (.cells #[.int .i64 0, .slice none 0 0] 29)).frozen? ⟨w.heap.size, 1, none⟩ = false := by simp [go_sem]
  have f5 : (((w.alloc (.cells #[.int .i64 n.ins, .slice A n.gs.length c] 29)).alloc (.cells #[.bool g.x, .int .i64 g.a, .int .i64 g.b] 96)).alloc (.cells #[.int .i64 0, .slice none 0 0] 29)).frozen? ⟨w.heap.size + 1 + 1, 0, none⟩ = false := by simp [go_sem]
  have f6 : (((w.alloc (.cells #[.int .i64 n.ins, .slice A n.gs.length c] 29)).alloc (.cells #[.bool g.x, .int .i64 g.a, .int .i64 g.b] 96)).alloc (.cells #[.int .i64 0, .slice none 0 0] 29)).frozen? ⟨w.heap.size + 1 + 1, 1, none⟩ = false := by simp [go_sem]
  generalize (((w.alloc (.cells #[.int .i64 n.ins, .slice A n.gs.length c] 29)).alloc (.cells #[.bool g.x, .int .i64 g.a, .int .i64 g.b] 96)).alloc (.cells #[.int .i64 0, .slice none 0 0] 29)) = W at *
  have H := Lay.Sl.up (h.mono hF) hW
  go_loopw [6] (fun i wr => ∃ j m : Nat, j ≤ n.gs.length ∧ i = .int .i64 j ∧ wr = W.drewN m ∧ ∀ i', i' < j → n.gs[i']? ≠ some g) (fun i _ => n.gs.length - (intOf i).toNat)
  case atStart => exact ⟨0, 0, Nat.zero_le _, rfl, rfl, fun i' h => absurd h (by omega)⟩
  case round =>
    obtain ⟨j, m, hj, rfl, rfl, hnot⟩ := hrel
    have HN := Lib.hid hnot
    clear hnot
    by_cases hlt : j < n.gs.length
    · obtain ⟨ad, rfl, hf, j1, j2, j3⟩ := H.at_gate hlt
      have hj0 : (0 : Int) ≤ j := by omega
      have hj1 : (j : Int) < n.gs.length := by omega
      have hgj : n.gs[j]? = some n.gs[j] := List.getElem?_eq_getElem hlt
      have HGJ := Lib.hid hgj
      clear hgj
      generalize n.gs[j] = gj at *
      by_cases hq : gj = g
      · have he : ∀ W' : World, (binOp .eql 96 (.agg #[.bool gj.x, .int .i64 gj.a, .int .i64 gj.b]) (.agg #[.bool g.x, .int .i64 g.a, .int .i64 g.b])).run Tryd.prog W' = .ok (.bool true) W' := fun W' => by rw [eqlG W' gj g, decide_eq_true hq]
        have HQ := Lib.hid hq
        clear hq
        have e1 : IntKind.i64.wrap (2 + n.ins) = 2 + n.ins := IntWalk.i64_in _ (by omega)
        have e2 : IntKind.i64.wrap (2 + n.ins + (j : Int)) = 2 + n.ins + (j : Int) := IntWalk.i64_in _ (by omega)
        go_wp2
        go_quiet (fail)
        go_wp2
        go_region_held3 (fun w' => w'.cell? ⟨w.heap.size, 0, none⟩ = some (.int .i64 n.ins) ∧ w'.cell? ⟨w.heap.size, 1, none⟩ = some (.slice (some ad) n.gs.length c)) (first | go_keep | (refine ⟨?_, ?_⟩ <;> (simp [go_sem, v0, v1]; done))) (fail)
        go_wp2
        refine bodyPost_ret (v := .tuple #[.agg #[.int .i64 n.ins, .slice (some ad) n.gs.length c], .int .i64 (2 + n.ins + j)]) (by simp [results, Tryd.results128, go_sem, v0, v1, v5, v6, f5, f6]) rfl ?_
        have hgs : n.gs[j]? = some g := by rw [HGJ.out, HQ.out]
        have hidx : n.gs.idxOf g = j := idxOf_first hgs HN.out
        have hmem : g ∈ n.gs := by
          have := HGJ.out; rw [HQ.out] at this; exact List.mem_of_getElem? this
        have hp : put n g = (n, 2 + n.ins + j) := by unfold put; rw [if_pos hmem, hidx]
        rw [hp]
        have hbel : Below w.heap.size w (((W.drewN (m + nq + 1)).setCell ⟨w.heap.size + 1 + 1, 0, none⟩ (.int .i64 n.ins)).setCell ⟨w.heap.size + 1 + 1, 1, none⟩ (.slice (some ad) n.gs.length c)) := by
          refine below_set (below_set (below_drewN hW _) ?_ _) ?_ _ <;> (show w.heap.size ≤ w.heap.size + 1 + 1; omega)
        exact ⟨some ad, c, rfl, fun e9 => (by cases e9), (h.below hbel hF).mono (fun _ => .inl), hbel⟩
      · have he : ∀ W' : World, (binOp .eql 96 (.agg #[.bool gj.x, .int .i64 gj.a, .int .i64 gj.b]) (.agg #[.bool g.x, .int .i64 g.a, .int .i64 g.b])).run Tryd.prog W' = .ok (.bool false) W' := fun W' => by rw [eqlG W' gj g, decide_eq_false hq]
        have HQ := Lib.hid hq
        clear hq
        go_wp2
        go_quiet (fail)
        go_wp2
        go_roundw
        case rel => exact ⟨j + 1, _, by omega, by go_num, rfl, fun i' hi' => by
          rcases Nat.lt_or_ge i' j with h' | h'
          · exact HN.out i' h'
          · have : i' = j := by omega
            subst this; rw [HGJ.out]; intro e; injection e with e; exact HQ.out e⟩
        case measure => simp [intOf]; omega
    · have : j = n.gs.length := by omega
      subst this
      by_cases h6 : 600 ≤ n.gs.length
      · go_wp2
        refine bodyPost_ret (v := .tuple #[.agg #[.int .i64 0, .slice none 0 0], .int .i64 0]) (by simp [results, Tryd.results128, go_sem, v0, v1, v5, v6, f5, f6]) rfl ?_
        have hnm : g ∉ n.gs := fun hm => by
          obtain ⟨i', hi', hg'⟩ := List.getElem_of_mem hm
          exact HN.out i' hi' (by rw [List.getElem?_eq_getElem hi', hg'])
        have hp : put n g = (⟨0, []⟩, 0) := by unfold put; rw [if_neg hnm, if_pos h6]
        rw [hp]
        exact ⟨none, 0, rfl, fun _ => rfl, Lay.Sl.nil _ _ _ _, by first | exact below_drewN hW _ | (refine below_set (below_set (below_drewN hW _) ?_ _) ?_ _ <;> (show w.heap.size ≤ w.heap.size + 1 + 1; omega))⟩
      · go_wp2
        have b1 : w.heap.size < (W.drewN m).heap.size := by show w.heap.size < W.heap.size; omega
        have b2 : w.heap.size + 1 < (W.drewN m).heap.size := by show w.heap.size + 1 < W.heap.size; omega
        refine wp_region_shares [[], [], [(1, 33)], [(0, 32), (2, 34)], [], [(4, 36)], [(3, 35), (5, 37)], [], [(6, 38), (7, 39)]]
          [.lit0 W.heap.size 96 3, .eq (.pointer (some ⟨w.heap.size, 1, none⟩)), .eq (.slice A n.gs.length c), .row W.heap.size 96 3 n.gs.length (n.gs.flatMap gcells),
            .eq (.agg #[.bool g.x, .int .i64 g.a, .int .i64 g.b]), .lit 96 1 #[.bool g.x, .int .i64 g.a, .int .i64 g.b], .row W.heap.size 96 3 (n.gs.length + 1) (n.gs.flatMap gcells ++ gcells g),
            .eq (.pointer (some ⟨w.heap.size, 1, none⟩)), Fact.put w.heap.size W n g]
          [6, 8] [8] [7] [8] [(0, 32), (1, 33), (2, 34), (3, 35), (4, 36), (5, 37), (6, 38), (7, 39)] (by kernel_rfl) (by kernel_rfl) (by kernel_rfl) (by kernel_rfl)
          ⟨?_, ?_, ?_, ?_, ?_, ?_, ?_, ?_, ?_, trivial⟩ ?_
        · intro vals x hC hF
          simp only [putsD, Act.put, List.setIfInBounds_toArray, List.set_cons_zero, List.set_cons_succ]
          have hC := hC.resolve_left (by simp)
          have hsz : W.heap.size ≤ x.heap.size := hC.size
          go_wp2
          exact ⟨rfl, ⟨_, rfl, own_mono (own_lit0 rfl) hsz⟩, .inr ((Below.refl _ _).alloc (Nat.le_refl _) _), .inr (.inl (by simp))⟩
        · intro vals x hC hF
          simp only [putsD, Act.put, List.setIfInBounds_toArray, List.set_cons_zero, List.set_cons_succ]
          go_wp2
          exact ⟨rfl, rfl, .inr (Below.refl _ _), .inr (.inl (by simp))⟩
        · intro vals x hC hF
          have hC := hC.resolve_left (by simp)
          simp only [factsD, List.getD_cons_zero, List.getD_cons_succ, Fact.eq, Fact.row, Fact.lit, Fact.lit0, Fact.of, and_true] at hF
          obtain ⟨hcc, hff⟩ := bcell hC
          have c1 := (hcc _ 1 b1).trans v1
          simp only [putsD, Act.put, List.setIfInBounds_toArray, List.set_cons_zero, List.set_cons_succ]
          simp only [hF]
          go_wp2
          exact ⟨rfl, rfl, .inr (Below.refl _ _), .inr (.inl (by simp))⟩
        · intro vals x hC hF
          have hC := hC.resolve_left (by simp)
          have hsz : W.heap.size ≤ x.heap.size := hC.size
          simp only [factsD, List.getD_cons_zero, List.getD_cons_succ, Fact.eq, Fact.row, Fact.lit, Fact.lit0, Fact.of, and_true] at hF
          obtain ⟨⟨p0, e0, own0⟩, e2⟩ := hF
          simp only [putsD, Act.put, List.setIfInBounds_toArray, List.set_cons_zero, List.set_cons_succ]
          simp only [e0, e2]
          refine wpList_append_lit _ (by rfl) (.tmp 32) (.tmp 34) _ (by rfl) W.heap.size 96 i0 _ 3 24 Tryd.underlying27 hi0 hz0 hz1 hz2 (by rfl) (by omega) p0 (by rfl) own0 A n.gs.length c (n.gs.flatMap gcells) (by rfl) (src_gates (H.up (w' := x) ⟨hC.os, hC.tape, hC.output, hC.size, hC.block⟩)) (gcells_one _) (by unfold maxLen; omega) (by omega) hsz hA ?_
          intro A1 c1 w1 hown1 hb1
          exact ⟨rfl, ⟨_, _, rfl, hown1⟩, .inr hb1, .inr (.inl (by simp))⟩
        · intro vals x hC hF
          have hC := hC.resolve_left (by simp)
          obtain ⟨hcc, hff⟩ := bcell hC
          have c1 := (hcc _ 0 b2).trans v2
          have c2 := (hcc _ 1 b2).trans v3
          have c3 := (hcc _ 2 b2).trans v4
          simp only [putsD, Act.put, List.setIfInBounds_toArray, List.set_cons_zero, List.set_cons_succ]
          go_wp2
          exact ⟨rfl, rfl, .inr (Below.refl _ _), .inr (.inl (by simp))⟩
        · intro vals x hC hF
          simp only [factsD, List.getD_cons_zero, List.getD_cons_succ, Fact.eq, Fact.row, Fact.lit, Fact.lit0, Fact.of, and_true] at hF
          simp only [putsD, Act.put, List.setIfInBounds_toArray, List.set_cons_zero, List.set_cons_succ]
          simp only [hF]
          go_wp2
          exact ⟨rfl, ⟨_, rfl, by simp, _, heap_alloc_new _ _⟩, .inr ((Below.refl _ _).alloc (Nat.le_refl _) _), .inr (.inl (by simp))⟩
        · intro vals x hC hF
          have hC := hC.resolve_left (by simp)
          have hsz : W.heap.size ≤ x.heap.size := hC.size
          simp only [factsD, List.getD_cons_zero, List.getD_cons_succ, Fact.eq, Fact.row, Fact.lit, Fact.lit0, Fact.of, and_true] at hF
          obtain ⟨⟨A1, c1, e1, own1⟩, b, e5, hlt5, fr5, hb5⟩ := hF
          simp only [putsD, Act.put, List.setIfInBounds_toArray, List.set_cons_zero, List.set_cons_succ]
          simp only [e1, e5]
          refine wpList_append_src _ (by rfl) (.tmp 35) (.tmp 37) _ (by rfl) W.heap.size 96 i0 _ 3 24 Tryd.underlying27 hi0 hz0 hz1 hz2 (by rfl) (by omega) (.slice A1 n.gs.length c1) n.gs.length (n.gs.flatMap gcells) (by rfl) own1 (some ⟨b, 0, none⟩) 1 1 (gcells g) (by rfl) (src_block hb5 rfl) (gcells_one1 g) (n.gs.length + 1) (by omega) (by unfold maxLen; omega) (by omega) hsz (by simp) ?_
          intro A2 c2 w2 hown2 hb2 hg2
          exact ⟨rfl, ⟨_, _, rfl, hown2⟩, .inl (by simp), .inr (.inr hb2)⟩
        · intro vals x hC hF
          simp only [putsD, Act.put, List.setIfInBounds_toArray, List.set_cons_zero, List.set_cons_succ]
          go_wp2
          exact ⟨rfl, rfl, .inr (Below.refl _ _), .inr (.inl (by simp))⟩
        · intro vals x hC hF
          have hC := hC.resolve_left (by simp)
          simp only [factsD, List.getD_cons_zero, List.getD_cons_succ, Fact.eq, Fact.row, Fact.lit, Fact.lit0, Fact.of, and_true] at hF
          obtain ⟨⟨A2, c2, e2, own2⟩, e7⟩ := hF
          obtain ⟨hcc, hff⟩ := bcell hC
          have hsz : W.heap.size ≤ x.heap.size := hC.size
          have k0 := (hcc _ 0 b1).trans v0
          have k1 := (hcc _ 1 b1).trans v1
          have k2 := (hff _ 1 b1).trans f0
          simp only [putsD, Act.put, List.setIfInBounds_toArray, List.set_cons_zero, List.set_cons_succ]
          simp only [e2, e7]
          go_wp2
          refine ⟨rfl, ?_, .inl (by simp), .inl (by simp)⟩
          simp only [List.getD_cons_zero, List.getD_cons_succ, Fact.put, Fact.of]
          refine ⟨?_, ?_, ?_, ?_, ?_, ?_, ?_, A2, c2, ?_, ?_⟩
          · simp [World.setCell]; omega
          · simp [go_sem, k0]
          · simp [World.setCell]; omega
          · exact fun b' hb' hne => (Below.heap_setCell x ⟨w.heap.size, 1, none⟩ _ b' hne).trans (hC.block b' hb')
          · exact hC.os
          · exact hC.tape
          · exact hC.output
          · simp [go_sem, k1]
          · exact own_far own2 _ _ (by show w.heap.size < W.heap.size; omega)
        · intro vals x hF
          simp only [facts, List.getD_cons_zero, List.getD_cons_succ, Fact.put, Fact.of, and_true] at hF
          obtain ⟨t1, t2, t3, t4, t5, t6, t7, A9, c9, t8, t9⟩ := hF
          simp only [putsD, Act.put, List.setIfInBounds_toArray, List.set_cons_zero, List.set_cons_succ]
          have t4c : ∀ b' o, b' < W.heap.size → b' ≠ w.heap.size → x.cell? ⟨b', o, none⟩ = W.cell? ⟨b', o, none⟩ := fun b' o hb' hne => World.cell?_of_block (t4 b' hb' hne)
          have t4f : ∀ b' o, b' < W.heap.size → b' ≠ w.heap.size → x.frozen? ⟨b', o, none⟩ = W.frozen? ⟨b', o, none⟩ := fun b' o hb' hne => World.frozen?_of_block (t4 b' hb' hne)
          have b3 : w.heap.size + 1 + 1 < W.heap.size := by omega
          have u5 := (t4c _ 0 b3 (by omega)).trans v5
          have u6 := (t4c _ 1 b3 (by omega)).trans v6
          have fu5 := (t4f _ 0 b3 (by omega)).trans f5
          have fu6 := (t4f _ 1 b3 (by omega)).trans f6
          have hnone := HN.out
          clear t4c t4f v0 v1 v2 v3 v4 v5 v6 f0 f5 f6 HN b1 b2 hA h
          have e1 : IntKind.i64.wrap (1 + n.ins) = 1 + n.ins := IntWalk.i64_in _ (by omega)
          have e2 : IntKind.i64.wrap (1 + n.ins + ((n.gs.length + 1 : Nat) : Int)) = 1 + n.ins + ((n.gs.length + 1 : Nat) : Int) := IntWalk.i64_in _ (by omega)
          have e3 : IntKind.i64.wrap (1 + n.ins + ((n.gs.length : Int) + 1)) = 1 + n.ins + ((n.gs.length : Int) + 1) := IntWalk.i64_in _ (by omega)
          have HNo := Lib.hid hnone
          clear hnone
          have hfar : ∀ (X : World) (o : Nat) (u : Value) (o' : Nat), (X.setCell ⟨w.heap.size + 1 + 1, o, none⟩ u).cell? ⟨w.heap.size, o', none⟩ = X.cell? ⟨w.heap.size, o', none⟩ := fun X o u o' =>
            World.cell?_of_block (Below.heap_setCell X _ u w.heap.size (by show w.heap.size ≠ w.heap.size + 1 + 1; omega))
          have hdrew : ∀ (X : World) (q : Addr), X.drew.cell? q = X.cell? q := fun _ _ => rfl
          go_wp2
          go_region_held3 (fun w' => w'.cell? ⟨w.heap.size, 0, none⟩ = some (.int .i64 n.ins) ∧ w'.cell? ⟨w.heap.size, 1, none⟩ = some (.slice A9 (n.gs.length + 1) c9)) (first | go_keep | (refine ⟨?_, ?_⟩ <;> (simp [go_sem, t2, t8]; done)) | (refine ⟨?_, ?_⟩ <;> (simp only [hdrew, hfar, t2, t8]; done))) (fail)
          go_wp2
          refine bodyPost_ret (v := .tuple #[.agg #[.int .i64 n.ins, .slice A9 (n.gs.length + 1) c9], .int .i64 (1 + n.ins + ((n.gs.length + 1 : Nat) : Int))]) (by simp [results, Tryd.results128, go_sem, u5, u6, fu5, fu6, e3]) rfl ?_
          have hnm : g ∉ n.gs := fun hm => by
            obtain ⟨i', hi', hg'⟩ := List.getElem_of_mem hm
            exact HNo.out i' hi' (by rw [List.getElem?_eq_getElem hi', hg'])
          have hp : put n g = (⟨n.ins, n.gs ++ [g]⟩, 2 + n.ins + n.gs.length) := by unfold put; rw [if_neg hnm, if_neg (by omega)]
          have hA9 : A9 ≠ none := by
            obtain ⟨g9, cap9, hv9, _⟩ := t9.form (by omega)
            intro e9; rw [e9] at hv9; injection hv9 with hv9; cases hv9
          have hcs : (n.gs ++ [g]).flatMap gcells = n.gs.flatMap gcells ++ gcells g := by simp
          have hlen : (n.gs ++ [g]).length = n.gs.length + 1 := by simp
          rw [hp]
          refine ⟨A9, c9, ?_, fun e9 => absurd e9 hA9, ?_, ?_⟩
          · simp only [hlen]
            rw [show (1 + n.ins + ((n.gs.length + 1 : Nat) : Int)) = 2 + n.ins + n.gs.length by omega]
          · rw [← hcs] at t9
            have hz9 : ∀ (p q : Addr) (u v : Value), ((x.setCell p u).setCell q v).heap.size = x.heap.size := fun p q u v => by simp [World.setCell]
            have h9 := own_far (own_far t9 ⟨w.heap.size + 1 + 1, 0, none⟩ (.int .i64 n.ins) (by show w.heap.size + 1 + 1 < W.heap.size; omega)) ⟨w.heap.size + 1 + 1, 1, none⟩ (.slice A9 (n.gs.length + 1) c9) (by show w.heap.size + 1 + 1 < W.heap.size; omega)
            refine ((sl_gates_of_own (F := fun b => w.heap.size ≤ b ∧ b < x.heap.size) h9 (fun g9 hg9 hl9 => ⟨by have := hW.size; omega, by rw [hz9] at hl9; exact hl9⟩)).1.drewN 1).mono (fun b9 hb9 => .inr ⟨hb9.1, ?_⟩)
            show b9 < ((x.setCell _ _).setCell _ _).heap.size
            rw [hz9]; exact hb9.2
          · have hwx : Below w.heap.size w x := ⟨t5.trans hW.os, t6.trans hW.tape, t7.trans hW.output, Nat.le_trans hW.size t3, fun b' hb' => (t4 b' (by omega) (by omega)).trans (hW.block b' hb')⟩
            refine below_drewN (below_set (below_set (X := x) hwx ?_ _) ?_ _) 1 <;> (show w.heap.size ≤ w.heap.size + 1 + 1; omega)
end Go.Proofs.YtjghcaghigebjaaDoor

/-! Maps keyed by gates. -/
namespace Go.Proofs.YtjghcaghigebjaaDoor
open Go Go.RowKit Go.Maps

def gval (g : G) : Value := .agg #[.bool g.x, .int .i64 g.a, .int .i64 g.b]
def keyG (g : G) : Lit := .string (keyBytes [.bool g.x, .int .i64 g.a, .int .i64 g.b])
def okGi (g : G) : Prop := (-9223372036854775808 ≤ g.a ∧ g.a ≤ 9223372036854775807) ∧ (-9223372036854775808 ≤ g.b ∧ g.b ≤ 9223372036854775807)
theorem gate_law : WideMaps.KeyLaw Tryd.prog 96 := deep_law_laid (by kernel_rfl) (m := 4) (by omega) (of_decide_eq_true (by kernel_rfl)) (by kernel_rfl) (by kernel_rfl)
theorem gate_keyed : Keyed Tryd.prog 96 := Keyed.of_law gate_law
theorem gate_types : ∃ m, Tryd.prog.types.size = m + 1 := ⟨Tryd.prog.types.size - 1, by
  have h : Tryd.prog.types.size ≠ 0 := of_decide_eq_true (by kernel_rfl)
  omega⟩
theorem keyG_ok (g : G) (h : okGi g) : keyOf Tryd.prog 96 (gval g) = some (keyG g) := by
  have wa : (Lit.int .i64 g.a).wf = true := WalkArith.wf_i64 h.1
  have wb : (Lit.int .i64 g.b).wf = true := WalkArith.wf_i64 h.2
  have hkt : Tryd.prog.keyType 96 = true := by kernel_rfl
  have hc : Tryd.prog.cellsOf 96 = 3 := by kernel_rfl
  have hcb : Tryd.prog.cellsOf 4 = 1 := by kernel_rfl
  have hci : Tryd.prog.cellsOf 3 = 1 := by kernel_rfl
  obtain ⟨m, hm⟩ := gate_types
  unfold keyOf
  simp only [Tryd.underlying96]
  rw [if_pos (by simp [hkt, gval, Value.formed, Tryd.underlying96, hc]), hm]
  unfold Program.keyLits
  simp only [Tryd.underlying96, gval, Value.cells]
  simp [hc, hcb, hci, Program.keyLits, Tryd.underlying4, Tryd.underlying3, wa, wb, keyG]
theorem keyG_inj {g h : G} (hg : okGi g) (hh : okGi h) (e : keyG g = keyG h) : g = h := by
  have := gate_keyed.inj (keyG_ok g hg) (by rw [e]; exact keyG_ok h hh)
  cases g; cases h
  simp [gval] at this
  obtain ⟨rfl, rfl, rfl⟩ := this
  rfl

/-- The map D says of each gate of the list its node. -/
structure Known (ins : Int) (gs : List G) (D : DataW Unit) : Prop where
  isMap : IsMap D
  has : ∀ g, okGi g → Maps.has D (keyG g) = decide (g ∈ gs)
  at_ : ∀ g, okGi g → g ∈ gs → D.atKey (keyG g) (.lit (.int .i64 0)) = .lit (.int .i64 (2 + ins + gs.idxOf g))
theorem Known.nil (ins : Int) : Known ins [] (.map []) := ⟨isMap_empty, fun g _ => by simp [Maps.has], fun g _ h => by cases h⟩
theorem Known.put {ins : Int} {gs : List G} {D : DataW Unit} (h : Known ins gs D) (g : G) (hg : okGi g) (hn : g ∉ gs) (k : Int) (hk : k = 2 + ins + gs.length) :
    Known ins (gs ++ [g]) (D.put (keyG g) (.lit (.int .i64 k))) := by
  subst hk
  refine ⟨h.isMap.put _ _, fun x hx => ?_, fun x hx hm => ?_⟩
  · by_cases e : x = g
    · subst e
      rw [has_put_same h.isMap (gate_keyed.key (keyG_ok _ hg))]; simp
    · have hne : keyG x ≠ keyG g := fun e' => e (keyG_inj hx hg e')
      rw [has_put_other hne, h.has x hx]
      simp [e]
  · by_cases e : x = g
    · subst e
      rw [atKey_put_same h.isMap (gate_keyed.key (keyG_ok _ hg)), List.idxOf_append, if_neg hn]
      simp
    · have hne : keyG x ≠ keyG g := fun e' => e (keyG_inj hx hg e')
      have hm' : x ∈ gs := by simpa [e] using hm
      rw [atKey_put_other hne, h.at_ x hx hm', List.idxOf_append, if_pos hm']

/-- The block b holds the map of the list's gates. -/
def KnownAt (w : World) (b : Nat) (ins : Int) (gs : List G) : Prop :=
  ∃ D : DataW Unit, w.ownsMap Tryd.prog 96 (plainElem Tryd.prog 3) b gs.length D ∧ Known ins gs D
end Go.Proofs.YtjghcaghigebjaaDoor

/-! The reference's gates: and, xor. -/
namespace Go.Proofs.YtjghcaghigebjaaDoor
open Go Go.RowKit

def and1 (n : N) (a b : Int) : N × Int :=
  if a = -1 ∨ b = -1 ∨ a = -b then (n, -1) else if a = 1 ∨ a = b then (n, b) else if b = 1 then (n, a)
  else if b.natAbs < a.natAbs then put n ⟨false, b, a⟩ else put n ⟨false, a, b⟩

/-- A box and a result's cells, ahead of the rest. -/
theorem same_end {F : Nat → Prop} {w : World} {n : N} {A : Option Addr} {c : Nat} (h : Lay.gate.Sl w F A n.gs) (hF : ∀ b, F b → b < w.heap.size) (hA : A = none → n.gs.length = 0) (k : Int) {w' : World} (hb : Below w.heap.size w w') :
    RetNetInt F w (n, k) (.returned (.tuple #[.agg #[.int .i64 n.ins, .slice A n.gs.length c], .int .i64 k])) w' := ⟨A, c, rfl, hA, (h.below hb hF).mono (fun _ => .inl), hb⟩

theorem res_cells {w w' : World} {v0 v1 : Value} {t : TypeId}
    (hb : Below ((w.alloc (.cells #[v0, v1] t)).alloc (.cells #[.int .i64 0, .slice none 0 0] t)).heap.size ((w.alloc (.cells #[v0, v1] t)).alloc (.cells #[.int .i64 0, .slice none 0 0] t)) w') :
    w'.cell? ⟨w.heap.size + 1, 0, none⟩ = some (.int .i64 0) ∧ w'.cell? ⟨w.heap.size + 1, 1, none⟩ = some (.slice none 0 0) ∧ w'.frozen? ⟨w.heap.size + 1, 0, none⟩ = false ∧ w'.frozen? ⟨w.heap.size + 1, 1, none⟩ = false := by
  have hlt : w.heap.size + 1 < ((w.alloc (.cells #[v0, v1] t)).alloc (.cells #[.int .i64 0, .slice none 0 0] t)).heap.size := by simp
  obtain ⟨hc, hf⟩ := bcell hb
  refine ⟨(hc _ _ hlt).trans ?_, (hc _ _ hlt).trans ?_, (hf _ _ hlt).trans ?_, (hf _ _ hlt).trans ?_⟩ <;> simp [go_sem]

/-- What was read behind two new blocks reads on when the second is written. -/
theorem sl_two {F : Nat → Prop} {w w' : World} {v0 v1 u0 u1 : Value} {t : TypeId} {A : Option Addr} {xs : List G}
    (hW : Below w.heap.size w ((w.alloc (.cells #[v0, v1] t)).alloc (.cells #[.int .i64 0, .slice none 0 0] t))) (hF : ∀ b, F b → b < w.heap.size)
    (h : Lay.gate.Sl w' (fun b => F b ∨ (((w.alloc (.cells #[v0, v1] t)).alloc (.cells #[.int .i64 0, .slice none 0 0] t)).heap.size ≤ b ∧ b < w'.heap.size)) A xs)
    (hb : Below ((w.alloc (.cells #[v0, v1] t)).alloc (.cells #[.int .i64 0, .slice none 0 0] t)).heap.size ((w.alloc (.cells #[v0, v1] t)).alloc (.cells #[.int .i64 0, .slice none 0 0] t)) w') :
    Lay.gate.Sl ((w'.setCell ⟨w.heap.size + 1, 0, none⟩ u0).setCell ⟨w.heap.size + 1, 1, none⟩ u1) (fun b => F b ∨ (w.heap.size ≤ b ∧ b < ((w'.setCell ⟨w.heap.size + 1, 0, none⟩ u0).setCell ⟨w.heap.size + 1, 1, none⟩ u1).heap.size)) A xs := by
  have hsz : ((w.alloc (.cells #[v0, v1] t)).alloc (.cells #[.int .i64 0, .slice none 0 0] t)).heap.size = w.heap.size + 2 := by simp
  refine (h.keep fun b hb' => ?_).mono fun b hb' => ?_
  · have hne : b ≠ w.heap.size + 1 := by
      rcases hb' with hb' | hb'
      · have := hF b hb'; omega
      · omega
    exact (Below.heap_setCell _ ⟨w.heap.size + 1, 1, none⟩ u1 b hne).trans (Below.heap_setCell _ ⟨w.heap.size + 1, 0, none⟩ u0 b hne)
  · rcases hb' with hb' | hb'
    · exact .inl hb'
    · refine .inr ⟨by omega, ?_⟩
      simp [World.setCell]; omega

set_option maxHeartbeats 1000000 in
theorem l6And_any (F : Nat → Prop) (A : Option Addr) (c : Nat) (n : N) (a b : Int) (w : World) (h : Lay.gate.Sl w F A n.gs) (hF : ∀ b, F b → b < w.heap.size) (hn : n.gs.length ≤ 1048576) (hA : A = none → n.gs.length = 0) (h0 : 0 ≤ n.ins) (h1 : n.ins ≤ 1000000)
    (ha : -2000000000 ≤ a ∧ a ≤ 2000000000) (hb : -2000000000 ≤ b ∧ b ≤ 2000000000) :
    Calls Tryd.prog 117 #[.agg #[.int .i64 n.ins, .slice A n.gs.length c], .int .i64 a, .int .i64 b] w (RetNetInt F w (and1 n a b)) := by
  have eb : IntKind.i64.wrap (-b) = -b := IntWalk.i64_in _ (by omega)
  have hW : Below w.heap.size w ((w.alloc (.cells #[.int .i64 n.ins, .slice A n.gs.length c] 29)).alloc (.cells #[.int .i64 0, .slice none 0 0] 29)) := ((Below.refl _ _).alloc (Nat.le_refl _) _).alloc (by simp) _
  by_cases c1 : a = -1 ∨ b = -1 ∨ a = -b
  · have hr : and1 n a b = (n, -1) := by unfold and1; rw [if_pos c1]
    rw [hr]
    have t : (a == -1 || (b == -1 || a == -b)) = true := by simp; omega
    cases t1 : (a == -1) <;> cases t2 : (b == -1) <;> cases t3 : (a == -b) <;> simp [t1, t2, t3] at t
    all_goals clear c1 t hr
    all_goals
      go_enter Tryd.func117, Tryd.ntmps117
      go_wp2_with fail
      refine bodyPost_ret (v := .tuple #[.agg #[.int .i64 n.ins, .slice A n.gs.length c], .int .i64 (-1)]) (by simp [results, Tryd.results117, go_sem]) rfl (same_end h hF hA (-1) ?_)
      exact ((Below.refl _ _).alloc (Nat.le_refl _) _).alloc (by simp) _
  have t1 : (a == -1) = false := by simp; omega
  have t2 : (b == -1) = false := by simp; omega
  have t3 : (a == -b) = false := by simp; omega
  by_cases c2 : a = 1 ∨ a = b
  · have hr : and1 n a b = (n, b) := by unfold and1; rw [if_neg c1, if_pos c2]
    rw [hr]
    have t : (a == 1 || a == b) = true := by simp; omega
    cases t4 : (a == 1) <;> cases t5 : (a == b) <;> simp [t4, t5] at t
    all_goals clear c1 c2 t hr
    all_goals
      go_enter Tryd.func117, Tryd.ntmps117
      go_wp2_with fail
      refine bodyPost_ret (v := .tuple #[.agg #[.int .i64 n.ins, .slice A n.gs.length c], .int .i64 b]) (by simp [results, Tryd.results117, go_sem]) rfl (same_end h hF hA b ?_)
      exact ((Below.refl _ _).alloc (Nat.le_refl _) _).alloc (by simp) _
  have t4 : (a == 1) = false := by simp; omega
  have t5 : (a == b) = false := by simp; omega
  by_cases c3 : b = 1
  · have hr : and1 n a b = (n, a) := by unfold and1; rw [if_neg c1, if_neg c2, if_pos c3]
    rw [hr]
    have t6 : (b == 1) = true := by simp; omega
    clear c1 c2 c3 hr
    all_goals
      go_enter Tryd.func117, Tryd.ntmps117
      go_wp2_with fail
      refine bodyPost_ret (v := .tuple #[.agg #[.int .i64 n.ins, .slice A n.gs.length c], .int .i64 a]) (by simp [results, Tryd.results117, go_sem]) rfl (same_end h hF hA a ?_)
      exact ((Below.refl _ _).alloc (Nat.le_refl _) _).alloc (by simp) _
  have t6 : (b == 1) = false := by simp; omega
  by_cases c4 : b.natAbs < a.natAbs
  · have hr : and1 n a b = put n ⟨false, b, a⟩ := by unfold and1; rw [if_neg c1, if_neg c2, if_neg c3, if_pos c4]
    rw [hr]
    clear hr c1 c2 c3
    go_enter Tryd.func117, Tryd.ntmps117
    go_wp2_with (first | (go_at_call 111; refine (l4Abs_any _ _ (by omega) (by omega)).mono ?_; rintro e w' ⟨rfl, rfl⟩) | fail)
    refine (l6Put_any F A c n ⟨false, b, a⟩ _ (h.below hW hF) (fun b' hb' => Nat.lt_of_lt_of_le (hF b' hb') hW.size) hn hA h0 h1).mono ?_
    rintro e w' ⟨A', c', rfl, hA', h', hb'⟩
    generalize put n ⟨false, b, a⟩ = r at *
    obtain ⟨k5, k6, kf5, kf6⟩ := res_cells hb'
    go_wp2_with fail
    refine bodyPost_ret (v := .tuple #[.agg #[.int .i64 r.1.ins, .slice A' r.1.gs.length c'], .int .i64 r.2]) (by simp [results, Tryd.results117, go_sem, k5, k6, kf5, kf6]) rfl ?_
    have hbel : Below w.heap.size w ((w'.setCell ⟨w.heap.size + 1, 0, none⟩ (.int .i64 r.1.ins)).setCell ⟨w.heap.size + 1, 1, none⟩ (.slice A' r.1.gs.length c')) := by
      refine below_set (below_set (bthen hW hb') ?_ _) ?_ _ <;> (show w.heap.size ≤ w.heap.size + 1; omega)
    exact ⟨A', c', rfl, hA', sl_two hW hF h' hb', hbel⟩
  · have hr : and1 n a b = put n ⟨false, a, b⟩ := by unfold and1; rw [if_neg c1, if_neg c2, if_neg c3, if_neg c4]
    rw [hr]
    clear hr c1 c2 c3
    go_enter Tryd.func117, Tryd.ntmps117
    go_wp2_with (first | (go_at_call 111; refine (l4Abs_any _ _ (by omega) (by omega)).mono ?_; rintro e w' ⟨rfl, rfl⟩) | fail)
    refine (l6Put_any F A c n ⟨false, a, b⟩ _ (h.below hW hF) (fun b' hb' => Nat.lt_of_lt_of_le (hF b' hb') hW.size) hn hA h0 h1).mono ?_
    rintro e w' ⟨A', c', rfl, hA', h', hb'⟩
    generalize put n ⟨false, a, b⟩ = r at *
    obtain ⟨k5, k6, kf5, kf6⟩ := res_cells hb'
    go_wp2_with fail
    refine bodyPost_ret (v := .tuple #[.agg #[.int .i64 r.1.ins, .slice A' r.1.gs.length c'], .int .i64 r.2]) (by simp [results, Tryd.results117, go_sem, k5, k6, kf5, kf6]) rfl ?_
    have hbel : Below w.heap.size w ((w'.setCell ⟨w.heap.size + 1, 0, none⟩ (.int .i64 r.1.ins)).setCell ⟨w.heap.size + 1, 1, none⟩ (.slice A' r.1.gs.length c')) := by
      refine below_set (below_set (bthen hW hb') ?_ _) ?_ _ <;> (show w.heap.size ≤ w.heap.size + 1; omega)
    exact ⟨A', c', rfl, hA', sl_two hW hF h' hb', hbel⟩
end Go.Proofs.YtjghcaghigebjaaDoor
