/- What nets say: the plain law of and, of xor and of values. -/
import Derived.Test.YtcdlfnhjpjpbjaaNetS6
namespace Go.Proofs.Ytcdlfnhjpjpbjaa
open Go Go.RowKit

def gateV (w : List Bool) (g : G) : Bool := if g.x then (netLit w g.a != netLit w g.b) else (netLit w g.a && netLit w g.b)
def runG : List G → List Bool → List Bool
  | [], w => w
  | g :: gs, w => runG gs (w ++ [gateV w g])
def netVals (n : N) (ins : List Bool) : List Bool := if netOk n && decide ((ins.length : Int) = n.ins) then runG n.gs (true :: ins) else []

theorem sigOf_iff {s m : Int} : sigOf s m = true ↔ s ≠ 0 ∧ -m ≤ s ∧ s ≤ m := by simp [sigOf]
theorem netLit_app {v : List Bool} {m : Int} (h : sigOf m v.length = true) (t : List Bool) : netLit (v ++ t) m = netLit v m := by
  obtain ⟨h0, h1, h2⟩ := sigOf_iff.1 h
  have h3 : sigOf m ((v ++ t).length : Nat) = true := sigOf_iff.2 ⟨h0, by simp; omega, by simp; omega⟩
  have h4 : m.natAbs - 1 < v.length := by omega
  unfold netLit
  rw [h, h3]
  simp only [List.getD_eq_getElem?_getD, List.getElem?_append_left h4]
theorem runG_app : ∀ (gs hs : List G) (w : List Bool), runG (gs ++ hs) w = runG hs (runG gs w)
  | [], _, _ => rfl
  | g :: gs, hs, w => runG_app gs hs _
theorem runG_pre : ∀ (gs : List G) (w : List Bool), ∃ t, runG gs w = w ++ t ∧ t.length = gs.length
  | [], w => ⟨[], by simp [runG], rfl⟩
  | g :: gs, w => by
    obtain ⟨t, h1, h2⟩ := runG_pre gs (w ++ [gateV w g])
    exact ⟨gateV w g :: t, by rw [runG, h1]; simp, by simp [h2]⟩
theorem okG_iff {ins : Int} {k : Nat} {g : G} : okG ins k g = true ↔ (-(1 + ins + k) ≤ g.a ∧ g.a ≤ 1 + ins + k ∧ -(1 + ins + k) ≤ g.b ∧ g.b ≤ 1 + ins + k ∧ 2 ≤ (g.a.natAbs : Int) ∧ (g.a.natAbs : Int) < g.b.natAbs) ∧ (g.x = true → 0 ≤ g.a ∧ 0 ≤ g.b) := by
  unfold okG
  cases hx : g.x
  · simp only [Bool.false_and, Bool.not_false, Bool.and_true, Bool.and_eq_true, decide_eq_true_eq, and_assoc, Bool.false_eq_true, false_implies, and_true]
  · simp only [Bool.true_and, Bool.and_eq_true, decide_eq_true_eq, and_assoc, Bool.not_eq_true', Bool.or_eq_false_iff, decide_eq_false_iff_not, true_implies]
    constructor <;> intro h <;> omega
theorem netOk_all {n : N} : netOk n = true ↔ 0 ≤ n.ins ∧ n.ins ≤ 8 ∧ n.gs.length ≤ 600 ∧ ∀ (k : Nat) (g : G), n.gs[k]? = some g → okG n.ins k g = true ∧ g ∉ n.gs.take k := by
  rw [netOk_iff]
  refine and_congr Iff.rfl (and_congr Iff.rfl (and_congr Iff.rfl ⟨fun h k g hg => ?_, fun h k hk => ?_⟩))
  · have := h k (List.getElem?_eq_some_iff.1 hg).1
    unfold goodAt goodG at this
    rw [hg] at this
    simp only [Bool.and_eq_true, Bool.not_eq_true'] at this
    exact ⟨this.1, fun hm => by rw [List.contains_iff_mem.2 hm] at this; cases this.2⟩
  · have hg := List.getElem?_eq_getElem hk
    obtain ⟨h1, h2⟩ := h k _ hg
    unfold goodAt goodG
    rw [hg]
    simp only [h1, Bool.true_and, Bool.not_eq_true']
    cases hc : (n.gs.take k).contains n.gs[k] with
    | false => rfl
    | true => exact absurd (List.contains_iff_mem.1 hc) h2

/-- The truth values w are right for the net: the first is so, and each gate's is what it is of. -/
structure Obeys (n : N) (w : List Bool) : Prop where
  len : 1 + n.ins + n.gs.length ≤ w.length
  one : w[0]? = some true
  gate : ∀ (k : Nat) (g : G), n.gs[k]? = some g → ∀ j : Nat, (j : Int) = 1 + n.ins + k → w[j]? = some (gateV w g)
theorem Obeys.pre {n x : N} {w t : List G} {v : List Bool} (h : Obeys x v) (hi : x.ins = n.ins) (hg : x.gs = n.gs ++ t) : Obeys n v := by
  refine ⟨?_, h.one, fun k g hk j hj => h.gate k g ?_ j (by rw [hi]; exact hj)⟩
  · have := h.len; rw [hi, hg] at this; simp at this; omega
  · rw [hg]; exact (List.getElem?_append_left (List.getElem?_eq_some_iff.1 hk).1).trans hk
theorem gateV_app {v t : List Bool} {g : G} (ha : sigOf g.a v.length = true) (hb : sigOf g.b v.length = true) : gateV (v ++ t) g = gateV v g := by
  unfold gateV; rw [netLit_app ha, netLit_app hb]
theorem obeys_vals {n : N} {ins : List Bool} (hn : netOk n = true) (hl : (ins.length : Int) = n.ins) : Obeys n (netVals n ins) ∧ ((netVals n ins).length : Int) = 1 + n.ins + n.gs.length ∧ ∃ t, netVals n ins = true :: (ins ++ t) := by
  have hv : netVals n ins = runG n.gs (true :: ins) := by unfold netVals; rw [if_pos (by rw [hn, decide_eq_true hl]; rfl)]
  rw [hv]
  obtain ⟨t, ht, htl⟩ := runG_pre n.gs (true :: ins)
  obtain ⟨h0, h1, h2, h3⟩ := netOk_all.1 hn
  have hlen : ((runG n.gs (true :: ins)).length : Int) = 1 + n.ins + n.gs.length := by rw [ht]; simp; omega
  refine ⟨⟨by omega, by rw [ht]; rfl, fun k g hg j hj => ?_⟩, hlen, t, by rw [ht]; rfl⟩
  obtain ⟨hk, hge⟩ := List.getElem?_eq_some_iff.1 hg
  have hsp : n.gs = n.gs.take k ++ (g :: n.gs.drop (k + 1)) := by
    rw [← hge, List.getElem_cons_drop, List.take_append_drop]
  obtain ⟨t1, e1, l1⟩ := runG_pre (n.gs.take k) (true :: ins)
  have hvl : (runG (n.gs.take k) (true :: ins)).length = j := by
    rw [e1]; simp [l1, List.length_take]; omega
  have hrun : ∃ t2, runG n.gs (true :: ins) = runG (n.gs.take k) (true :: ins) ++ gateV (runG (n.gs.take k) (true :: ins)) g :: t2 := by
    obtain ⟨t2, e2, _⟩ := runG_pre (n.gs.drop (k + 1)) (runG (n.gs.take k) (true :: ins) ++ [gateV (runG (n.gs.take k) (true :: ins)) g])
    refine ⟨t2, ?_⟩
    have e3 : runG n.gs (true :: ins) = runG (g :: n.gs.drop (k + 1)) (runG (n.gs.take k) (true :: ins)) := (congrArg (fun l => runG l (true :: ins)) hsp).trans (runG_app _ _ _)
    rw [e3, runG, e2]; simp
  obtain ⟨t2, e2⟩ := hrun
  generalize runG (n.gs.take k) (true :: ins) = v at *
  obtain ⟨hok, _⟩ := h3 k g hg
  obtain ⟨hok, _⟩ := okG_iff.1 hok
  have sa : sigOf g.a v.length = true := sigOf_iff.2 (by omega)
  have sb : sigOf g.b v.length = true := sigOf_iff.2 (by omega)
  rw [e2, gateV_app sa sb, ← hvl]
  simp
theorem netLit_one {w : List Bool} (h : w[0]? = some true) : netLit w 1 = true := by
  obtain ⟨h1, h2⟩ := List.getElem?_eq_some_iff.1 h
  rw [netLit_pos (by decide) (by exact h1)]; exact h2
theorem netLit_turn {w : List Bool} {m : Int} (h : sigOf m w.length = true) : netLit w (-m) = !netLit w m := by
  obtain ⟨h0, h1, h2⟩ := sigOf_iff.1 h
  unfold netLit
  rw [h, sigOf_iff.2 (show -m ≠ 0 ∧ -(w.length : Int) ≤ -m ∧ -m ≤ w.length by omega), Int.natAbs_neg]
  have hd : decide (0 < -m) = !decide (0 < m) := by
    by_cases hp : 0 < m
    · simp [hp]; omega
    · simp [hp]; omega
  rw [hd]
  cases w.getD (m.natAbs - 1) false <;> cases decide (0 < m) <;> rfl
theorem netLit_neg1 {w : List Bool} (h : w[0]? = some true) : netLit w (-1) = false := by
  obtain ⟨h1, h2⟩ := List.getElem?_eq_some_iff.1 h
  rw [netLit_turn (sigOf_iff.2 (by omega)), netLit_one h]; rfl
theorem netLit_abs {w : List Bool} {m : Int} (h : sigOf m w.length = true) : netLit w (m.natAbs : Int) = (netLit w m != decide (m < 0)) := by
  by_cases hp : m < 0
  · rw [show (m.natAbs : Int) = -m by omega, netLit_turn h, decide_eq_true hp]; cases netLit w m <;> rfl
  · rw [show (m.natAbs : Int) = m by omega, decide_eq_false hp]; cases netLit w m <;> rfl
/-- A gate's mark says what the gate is. -/
theorem Obeys.mark {n : N} {w : List Bool} (h : Obeys n w) (h0 : 0 ≤ n.ins) {k : Nat} {g : G} (hg : n.gs[k]? = some g) : netLit w (2 + n.ins + k) = gateV w g := by
  have hk := (List.getElem?_eq_some_iff.1 hg).1
  have hl := h.len
  obtain ⟨j, hj⟩ := Int.eq_ofNat_of_zero_le (show 0 ≤ 1 + n.ins + k by omega)
  have := h.gate k g hg j hj.symm
  obtain ⟨h1, h2⟩ := List.getElem?_eq_some_iff.1 this
  have hn : (2 + n.ins + (k : Int)).toNat - 1 = j := by omega
  rw [netLit_pos (by omega) (by omega), ← h2]
  congr 1

theorem netMark_iff {n : N} {m : Int} : netMark n m = true ↔ m ≠ 0 ∧ -(1 + n.ins + n.gs.length) ≤ m ∧ m ≤ 1 + n.ins + n.gs.length := sigOf_iff
theorem Obeys.sig {n : N} {w : List Bool} (h : Obeys n w) {m : Int} (hm : netMark n m = true) : sigOf m w.length = true := by
  have := netMark_iff.1 hm; have hl := h.len
  exact sigOf_iff.2 (by omega)

/-- A net with at most one gate more, and a mark. -/
structure Grows (n : N) (r : N × Int) : Prop where
  ok : netOk r.1 = true
  ins : r.1.ins = n.ins
  ext : ∃ t, r.1.gs = n.gs ++ t ∧ t.length ≤ 1
  mark : netMark r.1 r.2 = true
theorem grows_same {n : N} {m : Int} (hn : netOk n = true) (hm : netMark n m = true) : Grows n (n, m) := ⟨hn, rfl, ⟨[], by simp, by simp⟩, hm⟩
theorem put_says {n : N} {g : G} (hn : netOk n = true) (hg : okG n.ins n.gs.length g = true) (hm : (put n g).2 ≠ 0) :
    Grows n (put n g) ∧ ∃ k : Nat, (put n g).1.gs[k]? = some g ∧ (put n g).2 = 2 + n.ins + k := by
  obtain ⟨h0, h1, h2, h3⟩ := netOk_all.1 hn
  by_cases hin : g ∈ n.gs
  · rw [put_mem hin]
    have hlt := List.idxOf_lt_length_of_mem hin
    exact ⟨grows_same hn (netMark_iff.2 (by omega)), n.gs.idxOf g, by rw [List.getElem?_eq_getElem hlt, List.getElem_idxOf hlt], rfl⟩
  by_cases h6 : 600 ≤ n.gs.length
  · rw [put_full hin h6] at hm; exact absurd rfl hm
  rw [put_new hin h6]
  refine ⟨⟨netOk_all.2 ⟨h0, h1, by simp; omega, fun k g' hk => ?_⟩, rfl, ⟨[g], rfl, by simp⟩, netMark_iff.2 (by simp; omega)⟩, n.gs.length, by simp, rfl⟩
  by_cases hkl : k < n.gs.length
  · rw [List.getElem?_append_left hkl] at hk
    obtain ⟨ha, hb⟩ := h3 k g' hk
    exact ⟨ha, by rw [List.take_append_of_le_length (by omega)]; exact hb⟩
  · have hk' : k = n.gs.length := by have := (List.getElem?_eq_some_iff.1 hk).1; simp at this; omega
    subst hk'
    simp at hk
    subst hk
    exact ⟨hg, by simpa using hin⟩
theorem put_again {n : N} {g : G} (hm : (put n g).2 ≠ 0) : put (put n g).1 g = put n g := by
  by_cases hin : g ∈ n.gs
  · rw [put_mem hin]; exact put_mem hin
  by_cases h6 : 600 ≤ n.gs.length
  · rw [put_full hin h6] at hm; exact absurd rfl hm
  rw [put_new hin h6]
  have : g ∈ (⟨n.ins, n.gs ++ [g]⟩ : N).gs := by simp
  rw [put_mem this]
  simp only [List.idxOf_append, if_neg hin]
  simp

theorem and1_says {n : N} {a b : Int} (hn : netOk n = true) (ha : netMark n a = true) (hb : netMark n b = true) (hm : (and1 n a b).2 ≠ 0) :
    Grows n (and1 n a b) ∧ ∀ w, Obeys (and1 n a b).1 w → netLit w (and1 n a b).2 = (netLit w a && netLit w b) := by
  have h0 := (netOk_all.1 hn).1
  have na := netMark_iff.1 ha
  have nb := netMark_iff.1 hb
  by_cases c1 : a = -1 ∨ b = -1 ∨ a = -b
  · have e : and1 n a b = (n, -1) := by unfold and1; rw [if_pos c1]
    rw [e]
    refine ⟨grows_same hn (netMark_iff.2 (by omega)), fun w hw => ?_⟩
    rw [netLit_neg1 hw.one]
    rcases c1 with rfl | rfl | rfl
    · rw [netLit_neg1 hw.one]; rfl
    · rw [netLit_neg1 hw.one]; simp
    · rw [netLit_turn (hw.sig hb)]; cases netLit w b <;> rfl
  by_cases c2 : a = 1 ∨ a = b
  · have e : and1 n a b = (n, b) := by unfold and1; rw [if_neg c1, if_pos c2]
    rw [e]
    refine ⟨grows_same hn hb, fun w hw => ?_⟩
    rcases c2 with rfl | rfl
    · rw [netLit_one hw.one]; rfl
    · simp
  by_cases c3 : b = 1
  · have e : and1 n a b = (n, a) := by unfold and1; rw [if_neg c1, if_neg c2, if_pos c3]
    rw [e]
    refine ⟨grows_same hn ha, fun w hw => ?_⟩
    rw [c3, netLit_one hw.one]; simp
  have key : ∀ g : G, (g = ⟨false, a, b⟩ ∧ (a.natAbs : Int) < b.natAbs ∨ g = ⟨false, b, a⟩ ∧ (b.natAbs : Int) < a.natAbs) → (put n g).2 ≠ 0 → Grows n (put n g) ∧ ∀ w, Obeys (put n g).1 w → netLit w (put n g).2 = (netLit w a && netLit w b) := by
    intro g hg hp
    have hok : okG n.ins n.gs.length g = true := by
      rw [okG_iff]
      rcases hg with ⟨rfl, hlt⟩ | ⟨rfl, hlt⟩
      · dsimp only; exact ⟨by omega, fun h => by cases h⟩
      · dsimp only; exact ⟨by omega, fun h => by cases h⟩
    obtain ⟨hgr, k, hk, hk2⟩ := put_says hn hok hp
    refine ⟨hgr, fun w hw => ?_⟩
    have h0' : 0 ≤ (put n g).1.ins := by rw [hgr.ins]; exact h0
    have := hw.mark h0' hk
    rw [hk2, ← hgr.ins, this]
    rcases hg with ⟨rfl, _⟩ | ⟨rfl, _⟩
    · rfl
    · show (netLit w b && netLit w a) = _
      rw [Bool.and_comm]
  have e : and1 n a b = if b.natAbs < a.natAbs then put n ⟨false, b, a⟩ else put n ⟨false, a, b⟩ := by unfold and1; rw [if_neg c1, if_neg c2, if_neg c3]
  rw [e] at hm ⊢
  by_cases hs : b.natAbs < a.natAbs
  · rw [if_pos hs] at hm ⊢; exact key _ (.inr ⟨rfl, by omega⟩) hm
  · rw [if_neg hs] at hm ⊢; exact key _ (.inl ⟨rfl, by omega⟩) hm

theorem xor1_gate {n : N} {a b : Int} (c1 : ¬ (a = 1 ∨ a = -1)) (c2 : ¬ (b = 1 ∨ b = -1)) (c3 : a ≠ b) (c4 : a ≠ -b) :
    ∃ g : G, (g = ⟨true, a.natAbs, b.natAbs⟩ ∧ a.natAbs < b.natAbs ∨ g = ⟨true, b.natAbs, a.natAbs⟩ ∧ b.natAbs < a.natAbs) ∧ xor1 n a b = ((put n g).1, sgn a * sgn b * (put n g).2) := by
  unfold xor1
  rw [if_neg c1, if_neg c2, if_neg c3, if_neg c4]
  by_cases hs : b.natAbs < a.natAbs
  · rw [if_pos hs]; exact ⟨_, .inr ⟨rfl, hs⟩, rfl⟩
  · rw [if_neg hs]; exact ⟨_, .inl ⟨rfl, by omega⟩, rfl⟩
theorem sgn_two (a : Int) : sgn a = 1 ∧ 0 ≤ a ∨ sgn a = -1 ∧ a < 0 := by
  unfold sgn; by_cases h : a < 0
  · rw [if_pos h]; exact .inr ⟨rfl, h⟩
  · rw [if_neg h]; exact .inl ⟨rfl, by omega⟩
theorem xor1_says {n : N} {a b : Int} (hn : netOk n = true) (ha : netMark n a = true) (hb : netMark n b = true) (hm : (xor1 n a b).2 ≠ 0) :
    Grows n (xor1 n a b) ∧ ∀ w, Obeys (xor1 n a b).1 w → netLit w (xor1 n a b).2 = (netLit w a != netLit w b) := by
  have h0 := (netOk_all.1 hn).1
  have na := netMark_iff.1 ha
  have nb := netMark_iff.1 hb
  by_cases c1 : a = 1 ∨ a = -1
  · have e : xor1 n a b = (n, -a * b) := by unfold xor1; rw [if_pos c1]
    rw [e]
    rcases c1 with rfl | rfl
    · rw [show (-1 : Int) * b = -b by omega]
      refine ⟨grows_same hn (netMark_iff.2 (by omega)), fun w hw => ?_⟩
      rw [netLit_turn (hw.sig hb), netLit_one hw.one]; simp
    · rw [show -(-1 : Int) * b = b by omega]
      refine ⟨grows_same hn hb, fun w hw => ?_⟩
      rw [netLit_neg1 hw.one]; simp
  by_cases c2 : b = 1 ∨ b = -1
  · have e : xor1 n a b = (n, -b * a) := by unfold xor1; rw [if_neg c1, if_pos c2]
    rw [e]
    rcases c2 with rfl | rfl
    · rw [show (-1 : Int) * a = -a by omega]
      refine ⟨grows_same hn (netMark_iff.2 (by omega)), fun w hw => ?_⟩
      rw [netLit_turn (hw.sig ha), netLit_one hw.one]; simp
    · rw [show -(-1 : Int) * a = a by omega]
      refine ⟨grows_same hn ha, fun w hw => ?_⟩
      rw [netLit_neg1 hw.one]; simp
  by_cases c3 : a = b
  · have e : xor1 n a b = (n, -1) := by unfold xor1; rw [if_neg c1, if_neg c2, if_pos c3]
    rw [e]
    refine ⟨grows_same hn (netMark_iff.2 (by omega)), fun w hw => ?_⟩
    rw [netLit_neg1 hw.one, c3]; simp
  by_cases c4 : a = -b
  · have e : xor1 n a b = (n, 1) := by unfold xor1; rw [if_neg c1, if_neg c2, if_neg c3, if_pos c4]
    rw [e]
    refine ⟨grows_same hn (netMark_iff.2 (by omega)), fun w hw => ?_⟩
    rw [netLit_one hw.one, c4, netLit_turn (hw.sig hb)]; cases netLit w b <;> rfl
  obtain ⟨g, hg, e⟩ := xor1_gate (n := n) c1 c2 c3 c4
  rw [e] at hm ⊢
  have hp : (put n g).2 ≠ 0 := fun h => hm (by show sgn a * sgn b * (put n g).2 = 0; rw [h]; simp)
  have hok : okG n.ins n.gs.length g = true := by
    rw [okG_iff]
    rcases hg with ⟨rfl, hlt⟩ | ⟨rfl, hlt⟩
    · dsimp only; exact ⟨by omega, fun _ => by omega⟩
    · dsimp only; exact ⟨by omega, fun _ => by omega⟩
  obtain ⟨hgr, k, hk, hk2⟩ := put_says hn hok hp
  have hmk := netMark_iff.1 hgr.mark
  have sa := sgn_two a
  have sb := sgn_two b
  refine ⟨⟨hgr.ok, hgr.ins, hgr.ext, netMark_iff.2 ?_⟩, fun w hw => ?_⟩
  · dsimp only
    rcases sa with ⟨sa, _⟩ | ⟨sa, _⟩ <;> rcases sb with ⟨sb, _⟩ | ⟨sb, _⟩ <;> rw [sa, sb] <;> omega
  · have hw : Obeys (put n g).1 w := hw
    obtain ⟨t, ht, _⟩ := hgr.ext
    have hwn : Obeys n w := hw.pre (w := t) hgr.ins ht
    have h0' : 0 ≤ (put n g).1.ins := by rw [hgr.ins]; exact h0
    have hms := hw.mark h0' hk
    rw [hgr.ins, ← hk2] at hms
    have hgv : gateV w g = (netLit w (a.natAbs : Int) != netLit w (b.natAbs : Int)) := by
      rcases hg with ⟨rfl, _⟩ | ⟨rfl, _⟩
      · rfl
      · show (netLit w (b.natAbs : Int) != netLit w (a.natAbs : Int)) = _
        cases netLit w (b.natAbs : Int) <;> cases netLit w (a.natAbs : Int) <;> rfl
    rw [netLit_abs (hwn.sig ha), netLit_abs (hwn.sig hb)] at hgv
    have hsg := hw.sig hgr.mark
    show netLit w (sgn a * sgn b * (put n g).2) = _
    rcases sa with ⟨sa, pa⟩ | ⟨sa, pa⟩ <;> rcases sb with ⟨sb, pb⟩ | ⟨sb, pb⟩ <;> rw [sa, sb]
    · rw [show (1 : Int) * 1 * (put n g).2 = (put n g).2 by omega, hms, hgv, decide_eq_false (by omega), decide_eq_false (by omega)]; simp
    · rw [show (1 : Int) * -1 * (put n g).2 = -(put n g).2 by omega, netLit_turn hsg, hms, hgv, decide_eq_false (by omega), decide_eq_true pb]; cases netLit w a <;> cases netLit w b <;> rfl
    · rw [show (-1 : Int) * 1 * (put n g).2 = -(put n g).2 by omega, netLit_turn hsg, hms, hgv, decide_eq_true pa, decide_eq_false (by omega)]; cases netLit w a <;> cases netLit w b <;> rfl
    · rw [show (-1 : Int) * -1 * (put n g).2 = (put n g).2 by omega, hms, hgv, decide_eq_true pa, decide_eq_true pb]; cases netLit w a <;> cases netLit w b <;> rfl
end Go.Proofs.Ytcdlfnhjpjpbjaa
