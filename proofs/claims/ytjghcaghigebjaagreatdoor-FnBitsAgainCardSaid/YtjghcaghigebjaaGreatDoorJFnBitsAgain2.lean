/- The program's builder: lists of signals, the choice. -/
import Derived.Test.YtjghcaghigebjaaGreatDoorChecked
import Derived.LaidEql
import Derived.Stop.Asserts
import Derived.RowKitTokens
import Derived.Test.YtjghcaghigebjaaGreatDoorJFnBitsAgain0
import Derived.Test.YtjghcaghigebjaaGreatDoorJFnBitsAgain1
namespace Go.Proofs.YtjghcaghigebjaaGreatDoor
open Go Go.RowKit
def gateV (w : List Bool) (g : G) : Bool := if g.x then (netLit w g.a != netLit w g.b) else (netLit w g.a && netLit w g.b)
def runG : List G → List Bool → List Bool
 | [], w => w
 | g :: gs, w => runG gs (w ++ [gateV w g])
def netVals (n : N) (ins : List Bool) : List Bool := if netOk n && decide ((ins.length : Int) = n.ins) then runG n.gs (true :: ins) else []
theorem sigOf_iff {s m : Int} : sigOf s m = true ↔ s ≠ 0 ∧ -m ≤ s ∧ s ≤ m := by simp [sigOf]
theorem netLit_app {v : List Bool} {m : Int} (h : sigOf m v.length = true) (t : List Bool) : netLit (v ++ t) m = netLit v m := by
 obtain ⟨h0, h1, h2⟩ := sigOf_iff.1 h
 have h3 : sigOf m ((v ++ t).length : Nat) = true := sigOf_iff.2 ⟨h0, by simp; omega, by simp; omega⟩
 have h4 : m.natAbs - 1 < v.length := by omega
 unfold netLit
 rw [h, h3]
 simp only [List.getD_eq_getElem?_getD, List.getElem?_append_left h4]
theorem runG_app : ∀ (gs hs : List G) (w : List Bool), runG (gs ++ hs) w = runG hs (runG gs w)
 | [], _, _ => rfl
 | g :: gs, hs, w => runG_app gs hs _
theorem runG_pre : ∀ (gs : List G) (w : List Bool), ∃ t, runG gs w = w ++ t ∧ t.length = gs.length
 | [], w => ⟨[], by simp [runG], rfl⟩
 | g :: gs, w => by
  obtain ⟨t, h1, h2⟩ := runG_pre gs (w ++ [gateV w g])
  exact ⟨gateV w g :: t, by rw [runG, h1]; simp, by simp [h2]⟩
theorem okG_iff {ins : Int} {k : Nat} {g : G} : okG ins k g = true ↔ (-(1 + ins + k) ≤ g.a ∧ g.a ≤ 1 + ins + k ∧ -(1 + ins + k) ≤ g.b ∧ g.b ≤ 1 + ins + k ∧ 2 ≤ (g.a.natAbs : Int) ∧ (g.a.natAbs : Int) < g.b.natAbs) ∧ (g.x = true → 0 ≤ g.a ∧ 0 ≤ g.b) := by
 unfold okG
 cases hx : g.x
 · simp only [Bool.false_and, Bool.not_false, Bool.and_true, Bool.and_eq_true, decide_eq_true_eq, and_assoc, Bool.false_eq_true, false_implies, and_true]
 ·
  simp only [Bool.true_and, Bool.and_eq_true, decide_eq_true_eq, and_assoc, Bool.not_eq_true', Bool.or_eq_false_iff, decide_eq_false_iff_not, true_implies]
  constructor <;> intro h <;> omega
theorem netOk_all {n : N} : netOk n = true ↔ 0 ≤ n.ins ∧ n.ins ≤ 8 ∧ n.gs.length ≤ 600 ∧ ∀ (k : Nat) (g : G), n.gs[k]? = some g → okG n.ins k g = true ∧ g ∉ n.gs.take k := by
 rw [netOk_iff]
 refine and_congr Iff.rfl (and_congr Iff.rfl (and_congr Iff.rfl ⟨fun h k g hg => ?_, fun h k hk => ?_⟩))
 ·
  have := h k (List.getElem?_eq_some_iff.1 hg).1
  unfold goodAt goodG at this
  rw [hg] at this
  simp only [Bool.and_eq_true, Bool.not_eq_true'] at this
  exact ⟨this.1, fun hm => by rw [List.contains_iff_mem.2 hm] at this; cases this.2⟩
 ·
  have hg := List.getElem?_eq_getElem hk
  obtain ⟨h1, h2⟩ := h k _ hg
  unfold goodAt goodG
  rw [hg]
  simp only [h1, Bool.true_and, Bool.not_eq_true']
  cases hc : (n.gs.take k).contains n.gs[k] with
  | false => rfl
  | true => exact absurd (List.contains_iff_mem.1 hc) h2
structure Obeys (n : N) (w : List Bool) : Prop where
 len : 1 + n.ins + n.gs.length ≤ w.length
 one : w[0]? = some true
 gate : ∀ (k : Nat) (g : G), n.gs[k]? = some g → ∀ j : Nat, (j : Int) = 1 + n.ins + k → w[j]? = some (gateV w g)
theorem Obeys.pre {n x : N} {w t : List G} {v : List Bool} (h : Obeys x v) (hi : x.ins = n.ins) (hg : x.gs = n.gs ++ t) : Obeys n v := by
 refine ⟨?_, h.one, fun k g hk j hj => h.gate k g ?_ j (by rw [hi]; exact hj)⟩
 · have := h.len; rw [hi, hg] at this; simp at this; omega
 · rw [hg]; exact (List.getElem?_append_left (List.getElem?_eq_some_iff.1 hk).1).trans hk
theorem gateV_app {v t : List Bool} {g : G} (ha : sigOf g.a v.length = true) (hb : sigOf g.b v.length = true) : gateV (v ++ t) g = gateV v g := by
 unfold gateV; rw [netLit_app ha, netLit_app hb]
theorem obeys_vals {n : N} {ins : List Bool} (hn : netOk n = true) (hl : (ins.length : Int) = n.ins) : Obeys n (netVals n ins) ∧ ((netVals n ins).length : Int) = 1 + n.ins + n.gs.length ∧ ∃ t, netVals n ins = true :: (ins ++ t) := by
 have hv : netVals n ins = runG n.gs (true :: ins) := by unfold netVals; rw [if_pos (by rw [hn, decide_eq_true hl]; rfl)]
 rw [hv]
 obtain ⟨t, ht, htl⟩ := runG_pre n.gs (true :: ins)
 obtain ⟨h0, h1, h2, h3⟩ := netOk_all.1 hn
 have hlen : ((runG n.gs (true :: ins)).length : Int) = 1 + n.ins + n.gs.length := by rw [ht]; simp; omega
 refine ⟨⟨by omega, by rw [ht]; rfl, fun k g hg j hj => ?_⟩, hlen, t, by rw [ht]; rfl⟩
 obtain ⟨hk, hge⟩ := List.getElem?_eq_some_iff.1 hg
 have hsp : n.gs = n.gs.take k ++ (g :: n.gs.drop (k + 1)) := by
  rw [← hge, List.getElem_cons_drop, List.take_append_drop]
 obtain ⟨t1, e1, l1⟩ := runG_pre (n.gs.take k) (true :: ins)
 have hvl : (runG (n.gs.take k) (true :: ins)).length = j := by
  rw [e1]; simp [l1, List.length_take]; omega
 have hrun : ∃ t2, runG n.gs (true :: ins) = runG (n.gs.take k) (true :: ins) ++ gateV (runG (n.gs.take k) (true :: ins)) g :: t2 := by
  obtain ⟨t2, e2, _⟩ := runG_pre (n.gs.drop (k + 1)) (runG (n.gs.take k) (true :: ins) ++ [gateV (runG (n.gs.take k) (true :: ins)) g])
  refine ⟨t2, ?_⟩
  have e3 : runG n.gs (true :: ins) = runG (g :: n.gs.drop (k + 1)) (runG (n.gs.take k) (true :: ins)) := (congrArg (fun l => runG l (true :: ins)) hsp).trans (runG_app _ _ _)
  rw [e3, runG, e2]; simp
 obtain ⟨t2, e2⟩ := hrun
 generalize runG (n.gs.take k) (true :: ins) = v at *
 obtain ⟨hok, _⟩ := h3 k g hg
 obtain ⟨hok, _⟩ := okG_iff.1 hok
 have sa : sigOf g.a v.length = true := sigOf_iff.2 (by omega)
 have sb : sigOf g.b v.length = true := sigOf_iff.2 (by omega)
 rw [e2, gateV_app sa sb, ← hvl]
 simp
theorem netLit_one {w : List Bool} (h : w[0]? = some true) : netLit w 1 = true := by
 obtain ⟨h1, h2⟩ := List.getElem?_eq_some_iff.1 h
 rw [netLit_pos (by decide) (by exact h1)]; exact h2
theorem netLit_turn {w : List Bool} {m : Int} (h : sigOf m w.length = true) : netLit w (-m) = !netLit w m := by
 obtain ⟨h0, h1, h2⟩ := sigOf_iff.1 h
 unfold netLit
 rw [h, sigOf_iff.2 (show -m ≠ 0 ∧ -(w.length : Int) ≤ -m ∧ -m ≤ w.length by omega), Int.natAbs_neg]
 have hd : decide (0 < -m) = !decide (0 < m) := by
  by_cases hp : 0 < m
  · simp [hp]; omega
  · simp [hp]; omega
 rw [hd]
 cases w.getD (m.natAbs - 1) false <;> cases decide (0 < m) <;> rfl
theorem netLit_neg1 {w : List Bool} (h : w[0]? = some true) : netLit w (-1) = false := by
 obtain ⟨h1, h2⟩ := List.getElem?_eq_some_iff.1 h
 rw [netLit_turn (sigOf_iff.2 (by omega)), netLit_one h]; rfl
theorem netLit_abs {w : List Bool} {m : Int} (h : sigOf m w.length = true) : netLit w (m.natAbs : Int) = (netLit w m != decide (m < 0)) := by
 by_cases hp : m < 0
 · rw [show (m.natAbs : Int) = -m by omega, netLit_turn h, decide_eq_true hp]; cases netLit w m <;> rfl
 · rw [show (m.natAbs : Int) = m by omega, decide_eq_false hp]; cases netLit w m <;> rfl
theorem Obeys.mark {n : N} {w : List Bool} (h : Obeys n w) (h0 : 0 ≤ n.ins) {k : Nat} {g : G} (hg : n.gs[k]? = some g) : netLit w (2 + n.ins + k) = gateV w g := by
 have hk := (List.getElem?_eq_some_iff.1 hg).1
 have hl := h.len
 obtain ⟨j, hj⟩ := Int.eq_ofNat_of_zero_le (show 0 ≤ 1 + n.ins + k by omega)
 have := h.gate k g hg j hj.symm
 obtain ⟨h1, h2⟩ := List.getElem?_eq_some_iff.1 this
 have hn : (2 + n.ins + (k : Int)).toNat - 1 = j := by omega
 rw [netLit_pos (by omega) (by omega), ← h2]
 congr 1
theorem z11 {n : N} {m : Int} : z04 n m = true ↔ m ≠ 0 ∧ -(1 + n.ins + n.gs.length) ≤ m ∧ m ≤ 1 + n.ins + n.gs.length := sigOf_iff
theorem Obeys.sig {n : N} {w : List Bool} (h : Obeys n w) {m : Int} (hm : z04 n m = true) : sigOf m w.length = true := by
 have := z11.1 hm; have hl := h.len
 exact sigOf_iff.2 (by omega)
structure Grows (n : N) (r : N × Int) : Prop where
 ok : netOk r.1 = true
 ins : r.1.ins = n.ins
 ext : ∃ t, r.1.gs = n.gs ++ t ∧ t.length ≤ 1
 mark : z04 r.1 r.2 = true
theorem grows_same {n : N} {m : Int} (hn : netOk n = true) (hm : z04 n m = true) : Grows n (n, m) := ⟨hn, rfl, ⟨[], by simp, by simp⟩, hm⟩
theorem put_says {n : N} {g : G} (hn : netOk n = true) (hg : okG n.ins n.gs.length g = true) (hm : (put n g).2 ≠ 0) :
  Grows n (put n g) ∧ ∃ k : Nat, (put n g).1.gs[k]? = some g ∧ (put n g).2 = 2 + n.ins + k := by
 obtain ⟨h0, h1, h2, h3⟩ := netOk_all.1 hn
 by_cases hin : g ∈ n.gs
 ·
  rw [put_mem hin]
  have hlt := List.idxOf_lt_length_of_mem hin
  exact ⟨grows_same hn (z11.2 (by omega)), n.gs.idxOf g, by rw [List.getElem?_eq_getElem hlt, List.getElem_idxOf hlt], rfl⟩
 by_cases h6 : 600 ≤ n.gs.length
 · rw [put_full hin h6] at hm; exact absurd rfl hm
 rw [put_new hin h6]
 refine ⟨⟨netOk_all.2 ⟨h0, h1, by simp; omega, fun k g' hk => ?_⟩, rfl, ⟨[g], rfl, by simp⟩, z11.2 (by simp; omega)⟩, n.gs.length, by simp, rfl⟩
 by_cases hkl : k < n.gs.length
 ·
  rw [List.getElem?_append_left hkl] at hk
  obtain ⟨ha, hb⟩ := h3 k g' hk
  exact ⟨ha, by rw [List.take_append_of_le_length (by omega)]; exact hb⟩
 ·
  have hk' : k = n.gs.length := by have := (List.getElem?_eq_some_iff.1 hk).1; simp at this; omega
  subst hk'
  simp at hk
  subst hk
  exact ⟨hg, by simpa using hin⟩
theorem put_again {n : N} {g : G} (hm : (put n g).2 ≠ 0) : put (put n g).1 g = put n g := by
 by_cases hin : g ∈ n.gs
 · rw [put_mem hin]; exact put_mem hin
 by_cases h6 : 600 ≤ n.gs.length
 · rw [put_full hin h6] at hm; exact absurd rfl hm
 rw [put_new hin h6]
 have : g ∈ (⟨n.ins, n.gs ++ [g]⟩ : N).gs := by simp
 rw [put_mem this]
 simp only [List.idxOf_append, if_neg hin]
 simp
theorem and1_says {n : N} {a b : Int} (hn : netOk n = true) (ha : z04 n a = true) (hb : z04 n b = true) (hm : (and1 n a b).2 ≠ 0) :
  Grows n (and1 n a b) ∧ ∀ w, Obeys (and1 n a b).1 w → netLit w (and1 n a b).2 = (netLit w a && netLit w b) := by
 have h0 := (netOk_all.1 hn).1
 have na := z11.1 ha
 have nb := z11.1 hb
 by_cases c1 : a = -1 ∨ b = -1 ∨ a = -b
 ·
  have e : and1 n a b = (n, -1) := by unfold and1; rw [if_pos c1]
  rw [e]
  refine ⟨grows_same hn (z11.2 (by omega)), fun w hw => ?_⟩
  rw [netLit_neg1 hw.one]
  rcases c1 with rfl | rfl | rfl
  · rw [netLit_neg1 hw.one]; rfl
  · rw [netLit_neg1 hw.one]; simp
  · rw [netLit_turn (hw.sig hb)]; cases netLit w b <;> rfl
 by_cases c2 : a = 1 ∨ a = b
 ·
  have e : and1 n a b = (n, b) := by unfold and1; rw [if_neg c1, if_pos c2]
  rw [e]
  refine ⟨grows_same hn hb, fun w hw => ?_⟩
  rcases c2 with rfl | rfl
  · rw [netLit_one hw.one]; rfl
  · simp
 by_cases c3 : b = 1
 ·
  have e : and1 n a b = (n, a) := by unfold and1; rw [if_neg c1, if_neg c2, if_pos c3]
  rw [e]
  refine ⟨grows_same hn ha, fun w hw => ?_⟩
  rw [c3, netLit_one hw.one]; simp
 have key : ∀ g : G, (g = ⟨false, a, b⟩ ∧ (a.natAbs : Int) < b.natAbs ∨ g = ⟨false, b, a⟩ ∧ (b.natAbs : Int) < a.natAbs) → (put n g).2 ≠ 0 → Grows n (put n g) ∧ ∀ w, Obeys (put n g).1 w → netLit w (put n g).2 = (netLit w a && netLit w b) := by
  intro g hg hp
  have hok : okG n.ins n.gs.length g = true := by
   rw [okG_iff]
   rcases hg with ⟨rfl, hlt⟩ | ⟨rfl, hlt⟩
   · dsimp only; exact ⟨by omega, fun h => by cases h⟩
   · dsimp only; exact ⟨by omega, fun h => by cases h⟩
  obtain ⟨hgr, k, hk, hk2⟩ := put_says hn hok hp
  refine ⟨hgr, fun w hw => ?_⟩
  have h0' : 0 ≤ (put n g).1.ins := by rw [hgr.ins]; exact h0
  have := hw.mark h0' hk
  rw [hk2, ← hgr.ins, this]
  rcases hg with ⟨rfl, _⟩ | ⟨rfl, _⟩
  · rfl
  ·
   show (netLit w b && netLit w a) = _
   rw [Bool.and_comm]
 have e : and1 n a b = if b.natAbs < a.natAbs then put n ⟨false, b, a⟩ else put n ⟨false, a, b⟩ := by unfold and1; rw [if_neg c1, if_neg c2, if_neg c3]
 rw [e] at hm ⊢
 by_cases hs : b.natAbs < a.natAbs
 · rw [if_pos hs] at hm ⊢; exact key _ (.inr ⟨rfl, by omega⟩) hm
 · rw [if_neg hs] at hm ⊢; exact key _ (.inl ⟨rfl, by omega⟩) hm
theorem xor1_gate {n : N} {a b : Int} (c1 : ¬ (a = 1 ∨ a = -1)) (c2 : ¬ (b = 1 ∨ b = -1)) (c3 : a ≠ b) (c4 : a ≠ -b) :
  ∃ g : G, (g = ⟨true, a.natAbs, b.natAbs⟩ ∧ a.natAbs < b.natAbs ∨ g = ⟨true, b.natAbs, a.natAbs⟩ ∧ b.natAbs < a.natAbs) ∧ xor1 n a b = ((put n g).1, sgn a * sgn b * (put n g).2) := by
 unfold xor1
 rw [if_neg c1, if_neg c2, if_neg c3, if_neg c4]
 by_cases hs : b.natAbs < a.natAbs
 · rw [if_pos hs]; exact ⟨_, .inr ⟨rfl, hs⟩, rfl⟩
 · rw [if_neg hs]; exact ⟨_, .inl ⟨rfl, by omega⟩, rfl⟩
theorem sgn_two (a : Int) : sgn a = 1 ∧ 0 ≤ a ∨ sgn a = -1 ∧ a < 0 := by
 unfold sgn; by_cases h : a < 0
 · rw [if_pos h]; exact .inr ⟨rfl, h⟩
 · rw [if_neg h]; exact .inl ⟨rfl, by omega⟩
theorem xor1_says {n : N} {a b : Int} (hn : netOk n = true) (ha : z04 n a = true) (hb : z04 n b = true) (hm : (xor1 n a b).2 ≠ 0) :
  Grows n (xor1 n a b) ∧ ∀ w, Obeys (xor1 n a b).1 w → netLit w (xor1 n a b).2 = (netLit w a != netLit w b) := by
 have h0 := (netOk_all.1 hn).1
 have na := z11.1 ha
 have nb := z11.1 hb
 by_cases c1 : a = 1 ∨ a = -1
 ·
  have e : xor1 n a b = (n, -a * b) := by unfold xor1; rw [if_pos c1]
  rw [e]
  rcases c1 with rfl | rfl
  ·
   rw [show (-1 : Int) * b = -b by omega]
   refine ⟨grows_same hn (z11.2 (by omega)), fun w hw => ?_⟩
   rw [netLit_turn (hw.sig hb), netLit_one hw.one]; simp
  ·
   rw [show -(-1 : Int) * b = b by omega]
   refine ⟨grows_same hn hb, fun w hw => ?_⟩
   rw [netLit_neg1 hw.one]; simp
 by_cases c2 : b = 1 ∨ b = -1
 ·
  have e : xor1 n a b = (n, -b * a) := by unfold xor1; rw [if_neg c1, if_pos c2]
  rw [e]
  rcases c2 with rfl | rfl
  ·
   rw [show (-1 : Int) * a = -a by omega]
   refine ⟨grows_same hn (z11.2 (by omega)), fun w hw => ?_⟩
   rw [netLit_turn (hw.sig ha), netLit_one hw.one]; simp
  ·
   rw [show -(-1 : Int) * a = a by omega]
   refine ⟨grows_same hn ha, fun w hw => ?_⟩
   rw [netLit_neg1 hw.one]; simp
 by_cases c3 : a = b
 ·
  have e : xor1 n a b = (n, -1) := by unfold xor1; rw [if_neg c1, if_neg c2, if_pos c3]
  rw [e]
  refine ⟨grows_same hn (z11.2 (by omega)), fun w hw => ?_⟩
  rw [netLit_neg1 hw.one, c3]; simp
 by_cases c4 : a = -b
 ·
  have e : xor1 n a b = (n, 1) := by unfold xor1; rw [if_neg c1, if_neg c2, if_neg c3, if_pos c4]
  rw [e]
  refine ⟨grows_same hn (z11.2 (by omega)), fun w hw => ?_⟩
  rw [netLit_one hw.one, c4, netLit_turn (hw.sig hb)]; cases netLit w b <;> rfl
 obtain ⟨g, hg, e⟩ := xor1_gate (n := n) c1 c2 c3 c4
 rw [e] at hm ⊢
 have hp : (put n g).2 ≠ 0 := fun h => hm (by show sgn a * sgn b * (put n g).2 = 0; rw [h]; simp)
 have hok : okG n.ins n.gs.length g = true := by
  rw [okG_iff]
  rcases hg with ⟨rfl, hlt⟩ | ⟨rfl, hlt⟩
  · dsimp only; exact ⟨by omega, fun _ => by omega⟩
  · dsimp only; exact ⟨by omega, fun _ => by omega⟩
 obtain ⟨hgr, k, hk, hk2⟩ := put_says hn hok hp
 have hmk := z11.1 hgr.mark
 have sa := sgn_two a
 have sb := sgn_two b
 refine ⟨⟨hgr.ok, hgr.ins, hgr.ext, z11.2 ?_⟩, fun w hw => ?_⟩
 ·
  dsimp only
  rcases sa with ⟨sa, _⟩ | ⟨sa, _⟩ <;> rcases sb with ⟨sb, _⟩ | ⟨sb, _⟩ <;> rw [sa, sb] <;> omega
 ·
  have hw : Obeys (put n g).1 w := hw
  obtain ⟨t, ht, _⟩ := hgr.ext
  have hwn : Obeys n w := hw.pre (w := t) hgr.ins ht
  have h0' : 0 ≤ (put n g).1.ins := by rw [hgr.ins]; exact h0
  have hms := hw.mark h0' hk
  rw [hgr.ins, ← hk2] at hms
  have hgv : gateV w g = (netLit w (a.natAbs : Int) != netLit w (b.natAbs : Int)) := by
   rcases hg with ⟨rfl, _⟩ | ⟨rfl, _⟩
   · rfl
   ·
    show (netLit w (b.natAbs : Int) != netLit w (a.natAbs : Int)) = _
    cases netLit w (b.natAbs : Int) <;> cases netLit w (a.natAbs : Int) <;> rfl
  rw [netLit_abs (hwn.sig ha), netLit_abs (hwn.sig hb)] at hgv
  have hsg := hw.sig hgr.mark
  show netLit w (sgn a * sgn b * (put n g).2) = _
  rcases sa with ⟨sa, pa⟩ | ⟨sa, pa⟩ <;> rcases sb with ⟨sb, pb⟩ | ⟨sb, pb⟩ <;> rw [sa, sb]
  · rw [show (1 : Int) * 1 * (put n g).2 = (put n g).2 by omega, hms, hgv, decide_eq_false (by omega), decide_eq_false (by omega)]; simp
  · rw [show (1 : Int) * -1 * (put n g).2 = -(put n g).2 by omega, netLit_turn hsg, hms, hgv, decide_eq_false (by omega), decide_eq_true pb]; cases netLit w a <;> cases netLit w b <;> rfl
  · rw [show (-1 : Int) * 1 * (put n g).2 = -(put n g).2 by omega, netLit_turn hsg, hms, hgv, decide_eq_true pa, decide_eq_false (by omega)]; cases netLit w a <;> cases netLit w b <;> rfl
  · rw [show (-1 : Int) * -1 * (put n g).2 = (put n g).2 by omega, hms, hgv, decide_eq_true pa, decide_eq_true pb]; cases netLit w a <;> cases netLit w b <;> rfl
theorem and1_turn {n : N} {a b : Int} (hm : (and1 n a b).2 ≠ 0) : and1 (and1 n a b).1 b a = and1 n a b := by
 by_cases c1 : a = -1 ∨ b = -1 ∨ a = -b
 ·
  have e : ∀ m : N, and1 m a b = (m, -1) := fun m => by unfold and1; rw [if_pos c1]
  have e' : ∀ m : N, and1 m b a = (m, -1) := fun m => by unfold and1; rw [if_pos (by omega)]
  rw [e, e']
 by_cases c2 : a = 1 ∨ a = b
 ·
  have e : ∀ m : N, and1 m a b = (m, b) := fun m => by unfold and1; rw [if_neg c1, if_pos c2]
  rw [e]
  unfold and1
  rw [if_neg (by omega)]
  by_cases h : b = 1 ∨ b = a
  · rw [if_pos h]; congr 1; omega
  · rw [if_neg h, if_pos (by omega)]
 by_cases c3 : b = 1
 ·
  have e : ∀ m : N, and1 m a b = (m, a) := fun m => by unfold and1; rw [if_neg c1, if_neg c2, if_pos c3]
  rw [e]
  unfold and1
  rw [if_neg (by omega), if_pos (.inl c3)]
 have e : ∀ m : N, and1 m a b = if b.natAbs < a.natAbs then put m ⟨false, b, a⟩ else put m ⟨false, a, b⟩ := fun m => by unfold and1; rw [if_neg c1, if_neg c2, if_neg c3]
 have e' : ∀ m : N, and1 m b a = if a.natAbs < b.natAbs then put m ⟨false, a, b⟩ else put m ⟨false, b, a⟩ := fun m => by unfold and1; rw [if_neg (by omega), if_neg (by omega), if_neg (by omega)]
 rw [e] at hm ⊢
 rw [e']
 by_cases hs : b.natAbs < a.natAbs
 · rw [if_pos hs] at hm ⊢; rw [if_neg (by omega)]; exact put_again hm
 · rw [if_neg hs] at hm ⊢; rw [if_pos (by omega)]; exact put_again hm
theorem mark_ne {s k : Int} (h : s * k ≠ 0) : k ≠ 0 := fun e => h (by rw [e, Int.mul_zero])
theorem xor1_turn {n : N} {a b : Int} (hm : (xor1 n a b).2 ≠ 0) : xor1 (xor1 n a b).1 b a = xor1 n a b := by
 by_cases c1 : a = 1 ∨ a = -1
 ·
  have e : ∀ m : N, xor1 m a b = (m, -a * b) := fun m => by unfold xor1; rw [if_pos c1]
  rw [e]
  unfold xor1
  by_cases c2 : b = 1 ∨ b = -1
  ·
   rw [if_pos c2]; congr 1
   rcases c1 with rfl | rfl <;> rcases c2 with rfl | rfl <;> rfl
  · rw [if_neg c2, if_pos c1]
 by_cases c2 : b = 1 ∨ b = -1
 ·
  have e : ∀ m : N, xor1 m a b = (m, -b * a) := fun m => by unfold xor1; rw [if_neg c1, if_pos c2]
  rw [e]
  unfold xor1
  rw [if_pos c2]
 by_cases c3 : a = b
 ·
  have e : ∀ m : N, xor1 m a b = (m, -1) := fun m => by unfold xor1; rw [if_neg c1, if_neg c2, if_pos c3]
  rw [e]
  unfold xor1
  rw [if_neg c2, if_neg c1, if_pos c3.symm]
 by_cases c4 : a = -b
 ·
  have e : ∀ m : N, xor1 m a b = (m, 1) := fun m => by unfold xor1; rw [if_neg c1, if_neg c2, if_neg c3, if_pos c4]
  rw [e]
  unfold xor1
  rw [if_neg c2, if_neg c1, if_neg (by omega), if_pos (by omega)]
 obtain ⟨g, hg, e⟩ := xor1_gate (n := n) c1 c2 c3 c4
 rw [e] at hm ⊢
 obtain ⟨g', hg', e'⟩ := xor1_gate (n := (put n g).1) c2 c1 (fun h => c3 h.symm) (fun h => c4 (by omega))
 have hgg : g' = g := by
  rcases hg with ⟨rfl, h1⟩ | ⟨rfl, h1⟩ <;> rcases hg' with ⟨rfl, h2⟩ | ⟨rfl, h2⟩ <;> first | rfl | omega
 show xor1 (put n g).1 b a = _
 rw [e', hgg, put_again (mark_ne hm), Int.mul_comm (sgn b)]
theorem Grows.has {n : N} {r : N × Int} (h : Grows n r) {m : Int} (hm : z04 n m = true) : z04 r.1 m = true := by
 have := z11.1 hm
 obtain ⟨t, ht, _⟩ := h.ext
 have hl : r.1.gs.length = n.gs.length + t.length := by rw [ht]; simp
 exact z11.2 (by rw [h.ins]; omega)
inductive PG (α : Type) where
 | ret (a : α) : PG α
 | and (x y : Int) (k : Int → PG α) : PG α
 | xor (x y : Int) (k : Int → PG α) : PG α
def PG.bind {α β : Type} : PG α → (α → PG β) → PG β
 | .ret a, f => f a
 | .and x y k, f => .and x y fun m => (k m).bind f
 | .xor x y k, f => .xor x y fun m => (k m).bind f
structure Ops (σ : Type) where
 and : σ → Int → Int → σ × Int
 xor : σ → Int → Int → σ × Int
def run {σ α : Type} (o : Ops σ) : PG α → σ → σ × α
 | .ret a, s => (s, a)
 | .and x y k, s => run o (k (o.and s x y).2) (o.and s x y).1
 | .xor x y k, s => run o (k (o.xor s x y).2) (o.xor s x y).1
theorem run_bind {σ α β : Type} (o : Ops σ) : ∀ (p : PG α) (f : α → PG β) (s : σ), run o (p.bind f) s = run o (f (run o p s).2) (run o p s).1
 | .ret _, _, _ => rfl
 | .and x y k, f, s => run_bind o (k _) f _
 | .xor x y k, f, s => run_bind o (k _) f _
structure BS where
 n : N
 e : Option Nat
def stepP (s : BS) (r : N × Int) : BS × Int := if s.e ≠ none then (s, -1) else if r.2 = 0 then (⟨s.n, some 1⟩, -1) else (⟨r.1, none⟩, r.2)
def opsP : Ops BS := ⟨fun s x y => stepP s (and1 s.n x y), fun s x y => stepP s (xor1 s.n x y)⟩
def stepR (k : N × Bool) (r : N × Int) : (N × Bool) × Int := if k.2 = false then (k, 1) else ((r.1, decide (r.2 ≠ 0)), r.2)
def opsR : Ops (N × Bool) := ⟨fun k x y => stepR k (and1 k.1 x y), fun k x y => stepR k (xor1 k.1 x y)⟩
theorem step_sim {s : BS} {k : N × Bool} (r : N → N × Int) (h : s.e = none ∧ k = (s.n, true) ∨ s.e ≠ none ∧ k.2 = false) :
  ((stepP s (r s.n)).1.e = none ∧ (stepR k (r k.1)).1 = ((stepP s (r s.n)).1.n, true) ∧ (stepP s (r s.n)).2 = (stepR k (r k.1)).2 ∧ s.e = none) ∨ ((stepP s (r s.n)).1.e ≠ none ∧ (stepR k (r k.1)).1.2 = false) := by
 rcases h with ⟨h1, rfl⟩ | ⟨h1, h2⟩
 ·
  by_cases h0 : (r s.n).2 = 0
  ·
   refine .inr ?_
   unfold stepP stepR
   rw [if_neg (by simp [h1]), if_pos h0, if_neg (by simp)]
   simp [h0]
  ·
   refine .inl ?_
   unfold stepP stepR
   rw [if_neg (by simp [h1]), if_neg h0, if_neg (by simp)]
   simp [h0, h1]
 ·
  refine .inr ?_
  unfold stepP stepR
  rw [if_pos h1, if_pos h2]
  exact ⟨h1, h2⟩
theorem run_failP {α : Type} : ∀ (p : PG α) (s : BS), s.e ≠ none → (run opsP p s).1.e ≠ none
 | .ret _, _, h => h
 | .and x y f, s, h => run_failP (f _) _ (by show (stepP s _).1.e ≠ none; unfold stepP; rw [if_pos h]; exact h)
 | .xor x y f, s, h => run_failP (f _) _ (by show (stepP s _).1.e ≠ none; unfold stepP; rw [if_pos h]; exact h)
theorem run_failR {α : Type} : ∀ (p : PG α) (k : N × Bool), k.2 = false → (run opsR p k).1.2 = false
 | .ret _, _, h => h
 | .and x y f, k, h => run_failR (f _) _ (by show (stepR k _).1.2 = false; unfold stepR; rw [if_pos h]; exact h)
 | .xor x y f, k, h => run_failR (f _) _ (by show (stepR k _).1.2 = false; unfold stepR; rw [if_pos h]; exact h)
theorem run_sim {α : Type} : ∀ (p : PG α) (s : BS) (k : N × Bool), (s.e = none ∧ k = (s.n, true) ∨ s.e ≠ none ∧ k.2 = false) →
  ((run opsP p s).1.e = none ∧ (run opsR p k).1 = ((run opsP p s).1.n, true) ∧ (run opsP p s).2 = (run opsR p k).2 ∧ s.e = none) ∨ ((run opsP p s).1.e ≠ none ∧ (run opsR p k).1.2 = false)
 | .ret a, s, k, h => by
  rcases h with ⟨h1, h2⟩ | h
  · exact .inl ⟨h1, h2, rfl, h1⟩
  · exact .inr h
 | .and x y f, s, k, h => by
  rcases step_sim (fun n => and1 n x y) h with ⟨h1, h2, h3, h4⟩ | h1
  ·
   have := run_sim (f (opsP.and s x y).2) _ (opsR.and k x y).1 (.inl ⟨h1, h2⟩)
   rcases this with ⟨g1, g2, g3, _⟩ | g
   ·
    left; refine ⟨g1, ?_, ?_, h4⟩
    ·
     show (run opsR (f (opsR.and k x y).2) _).1 = _
     rw [show (opsR.and k x y).2 = (opsP.and s x y).2 from h3.symm]; exact g2
    ·
     show _ = (run opsR (f (opsR.and k x y).2) _).2
     rw [show (opsR.and k x y).2 = (opsP.and s x y).2 from h3.symm]; exact g3
   ·
    right
    refine ⟨g.1, ?_⟩
    show (run opsR (f (opsR.and k x y).2) _).1.2 = _
    rw [show (opsR.and k x y).2 = (opsP.and s x y).2 from h3.symm]; exact g.2
  ·
   right
   have a1 := run_failP (f (opsP.and s x y).2) _ h1.1
   have a2 := run_failR (f (opsR.and k x y).2) _ h1.2
   exact ⟨a1, a2⟩
 | .xor x y f, s, k, h => by
  rcases step_sim (fun n => xor1 n x y) h with ⟨h1, h2, h3, h4⟩ | h1
  ·
   have := run_sim (f (opsP.xor s x y).2) _ (opsR.xor k x y).1 (.inl ⟨h1, h2⟩)
   rcases this with ⟨g1, g2, g3, _⟩ | g
   ·
    left; refine ⟨g1, ?_, ?_, h4⟩
    ·
     show (run opsR (f (opsR.xor k x y).2) _).1 = _
     rw [show (opsR.xor k x y).2 = (opsP.xor s x y).2 from h3.symm]; exact g2
    ·
     show _ = (run opsR (f (opsR.xor k x y).2) _).2
     rw [show (opsR.xor k x y).2 = (opsP.xor s x y).2 from h3.symm]; exact g3
   ·
    right
    refine ⟨g.1, ?_⟩
    show (run opsR (f (opsR.xor k x y).2) _).1.2 = _
    rw [show (opsR.xor k x y).2 = (opsP.xor s x y).2 from h3.symm]; exact g.2
  ·
   right
   have a1 := run_failP (f (opsP.xor s x y).2) _ h1.1
   have a2 := run_failR (f (opsR.xor k x y).2) _ h1.2
   exact ⟨a1, a2⟩
def NB (n : N) : Prop := 0 ≤ n.ins ∧ n.ins ≤ 8 ∧ n.gs.length ≤ 600
def MB (m : Int) : Prop := m ≠ 0 ∧ -1000000 ≤ m ∧ m ≤ 1000000
theorem put_nb {n : N} {g : G} (h : NB n) : NB (put n g).1 ∧ 0 ≤ (put n g).2 ∧ (put n g).2 ≤ 1000000 := by
 obtain ⟨h0, h1, h2⟩ := h
 by_cases hm : g ∈ n.gs
 ·
  rw [put_mem hm]
  have := List.idxOf_lt_length_of_mem hm
  exact ⟨⟨h0, h1, h2⟩, by dsimp only; omega, by dsimp only; omega⟩
 ·
  by_cases h6 : 600 ≤ n.gs.length
  · rw [put_full hm h6]; exact ⟨⟨by simp, by simp, by simp⟩, by simp, by simp⟩
  · rw [put_new hm h6]; exact ⟨⟨h0, h1, by simp; omega⟩, by dsimp only; omega, by dsimp only; omega⟩
def RB (m : Int) : Prop := -1000000 ≤ m ∧ m ≤ 1000000
theorem and1_nb {n : N} {a b : Int} (h : NB n) (ha : RB a) (hb : RB b) : NB (and1 n a b).1 ∧ RB (and1 n a b).2 := by
 unfold and1 RB at *
 repeat' split
 all_goals first
  | exact ⟨h, by dsimp only; omega, by dsimp only; omega⟩
  | (have := put_nb (g := ⟨false, b, a⟩) h; exact ⟨this.1, by omega, by omega⟩)
  | (have := put_nb (g := ⟨false, a, b⟩) h; exact ⟨this.1, by omega, by omega⟩)
theorem sgn_mul_rb {a b k : Int} (h0 : 0 ≤ k) (h1 : k ≤ 1000000) : RB (sgn a * sgn b * k) := by
 unfold RB
 rcases sgn_two a with ⟨h, _⟩ | ⟨h, _⟩ <;> rcases sgn_two b with ⟨h', _⟩ | ⟨h', _⟩ <;> rw [h, h'] <;> omega
theorem xor1_nb {n : N} {a b : Int} (h : NB n) (ha : RB a) (hb : RB b) : NB (xor1 n a b).1 ∧ RB (xor1 n a b).2 := by
 by_cases c1 : a = 1 ∨ a = -1
 · unfold xor1; rw [if_pos c1]; unfold RB at *; rcases c1 with rfl | rfl <;> exact ⟨h, by dsimp only; omega, by dsimp only; omega⟩
 by_cases c2 : b = 1 ∨ b = -1
 · unfold xor1; rw [if_neg c1, if_pos c2]; unfold RB at *; rcases c2 with rfl | rfl <;> exact ⟨h, by dsimp only; omega, by dsimp only; omega⟩
 by_cases c3 : a = b
 · unfold xor1; rw [if_neg c1, if_neg c2, if_pos c3]; exact ⟨h, by unfold RB; dsimp only; omega⟩
 by_cases c4 : a = -b
 · unfold xor1; rw [if_neg c1, if_neg c2, if_neg c3, if_pos c4]; exact ⟨h, by unfold RB; dsimp only; omega⟩
 obtain ⟨g, hg, e⟩ := xor1_gate (n := n) c1 c2 c3 c4
 rw [e]
 have := put_nb (g := g) h
 exact ⟨this.1, sgn_mul_rb this.2.1 this.2.2⟩
theorem stepP_nb {s : BS} {r : N × Int} (h : NB s.n) (hr : NB r.1 ∧ RB r.2) : NB (stepP s r).1.n ∧ MB (stepP s r).2 := by
 unfold stepP
 split
 · exact ⟨h, by unfold MB; dsimp only; omega⟩
 ·
  split
  · exact ⟨h, by unfold MB; dsimp only; omega⟩
  · exact ⟨hr.1, by assumption, hr.2⟩
theorem stepR_nb {k : N × Bool} {r : N × Int} (h : NB k.1) (hr : NB r.1 ∧ RB r.2) : NB (stepR k r).1.1 ∧ RB (stepR k r).2 := by
 unfold stepR
 split
 · exact ⟨h, by unfold RB; dsimp only; omega⟩
 · exact hr
theorem MB.rb {m : Int} (h : MB m) : RB m := h.2
theorem MB.neg {m : Int} (h : MB m) : MB (-m) := by unfold MB at *; omega
theorem RB.neg {m : Int} (h : RB m) : RB (-m) := by unfold RB at *; omega
def orP (x y : Int) : PG Int := .and (-x) (-y) fun m => .ret (-m)
def muxP (c x y : Int) : PG Int := .and c x fun p => .and (-c) y fun q => orP p q
def eachP (f : Int → Int → PG Int) : List Int → List Int → PG (List Int)
 | x :: xs, y :: ys => (f x y).bind fun m => (eachP f xs ys).bind fun l => .ret (m :: l)
 | _, _ => .ret []
def sumP : List Int → List Int → Int → PG (List Int)
 | x :: xs, y :: ys, c => .xor x y fun h => .xor h c fun s => .and x y fun p => .and h c fun q => (orP p q).bind fun c' => (sumP xs ys c').bind fun l => .ret (s :: l)
 | _, _, _ => .ret []
def lessP : List Int → List Int → Int → PG Int
 | x :: xs, y :: ys, r => .xor x y fun d => (muxP d y r).bind fun r' => lessP xs ys r'
 | _, _, r => .ret r
theorem run_each {σ : Type} {o : Ops σ} {f : Int → Int → PG Int} (xs ys : List Int) (k : Nat) (x y : Int) (hx : xs[k]? = some x) (hy : ys[k]? = some y) (s : σ) (l : List Int) :
  (let r := run o (eachP f (xs.drop k) (ys.drop k)) s; (r.1, l ++ r.2)) = let m := run o (f x y) s; let r := run o (eachP f (xs.drop (k + 1)) (ys.drop (k + 1))) m.1; (r.1, (l ++ [m.2]) ++ r.2) := by
 obtain ⟨hk, rfl⟩ := List.getElem?_eq_some_iff.1 hx
 obtain ⟨hk', rfl⟩ := List.getElem?_eq_some_iff.1 hy
 rw [List.drop_eq_getElem_cons hk, List.drop_eq_getElem_cons hk']
 show (let r := run o ((f _ _).bind _) s; (r.1, l ++ r.2)) = _
 simp only [run_bind, run, List.append_assoc, List.singleton_append]
end Go.Proofs.YtjghcaghigebjaaGreatDoor
namespace Go.Proofs.YtjghcaghigebjaaGreatDoor
open Go Go.RowKit Go.Extern.Stop Go.Stop Go.Extern
abbrev sentV (a : Addr) : Value := .iface 189 (.pointer (some a))
theorem is_typeOf (v : Value) (w : World) : (Extern.ReflectliteType.typeOf #[.iface 189 v]).run Tryz.prog w = .ok (.iface 168 (.agg #[.pointer (some ⟨Tryz.prog.globals.size, 189, none⟩)])) w := by kernel_rfl
theorem is_comparable (w : World) : ((Extern.ReflectliteType.method fun t => do Go.Extern.Rtype.noPackHeld "Comparable" t; (fun a => Value.bool a.comparable) <$> typeInfo t) #[.agg #[.pointer (some ⟨Tryz.prog.globals.size, 189, none⟩)]]).run Tryz.prog w = .ok (.bool true) w := by kernel_rfl
theorem is_methodComparable (v : Value) (w : World) : (Go.method (Tryz.prog.types.size + Made.depth) 168 v "Comparable").run Tryz.prog w = .ok (168, v) w := by kernel_rfl
theorem is_comp : (Tryz.prog.info? 189).map (·.comparable) = some true := by kernel_rfl
theorem is_size : (Tryz.prog.info? 216).map (·.size) = some 1 := by kernel_rfl
theorem is_noIs (v : Value) (xT : TypeId) (w : World) : (Instr.typeAssert (.iface 189 v) xT 170 true).run Tryz.prog w = .ok (.tuple #[.nilIface, .bool false]) w := run_typeAssert_lacksB Tryz.underlying170 (by kernel_rfl) (by kernel_rfl) v xT w
theorem is_noUnwrap (v : Value) (xT : TypeId) (w : World) : (Instr.typeAssert (.iface 189 v) xT 173 true).run Tryz.prog w = .ok (.tuple #[.nilIface, .bool false]) w := run_typeAssert_lacksB Tryz.underlying173 (by kernel_rfl) (by kernel_rfl) v xT w
theorem is_noUnwraps (v : Value) (xT : TypeId) (w : World) : (Instr.typeAssert (.iface 189 v) xT 175 true).run Tryz.prog w = .ok (.tuple #[.nilIface, .bool false]) w := run_typeAssert_lacksB Tryz.underlying175 (by kernel_rfl) (by kernel_rfl) v xT w
theorem glob_size : Tryz.prog.globals.size = 2 := by kernel_rfl
theorem meth_fuel : Tryz.prog.types.size + Made.depth = 331 := by kernel_rfl
set_option maxRecDepth 100000 in
theorem is_same (a : Addr) (w : World) :
  Calls Tryz.prog 87 #[sentV a, sentV a] w fun e w' => e = .returned (.bool true) ∧ w = w' := by
 obtain ⟨i, hi, hcmp⟩ := Option.map_eq_some_iff.1 is_comp
 obtain ⟨j, hj, hjs⟩ := Option.map_eq_some_iff.1 is_size
 have h8 := @run_callFunc_extern Tryz.prog 120 _ Extern.ReflectliteType.typeOf Tryz.func120 (by kernel_rfl) (by kernel_rfl) (by kernel_rfl) (by kernel_rfl)
 have h32 := @run_callFunc_extern Tryz.prog 168 _ (Extern.ReflectliteType.method fun t => do Go.Extern.Rtype.noPackHeld "Comparable" t; pure (.bool (← typeInfo t).comparable)) Tryz.func168 (by kernel_rfl) (by kernel_rfl) (by kernel_rfl) (by kernel_rfl)
 have tT := is_typeOf
 have cT := is_comparable
 have mR := is_methodComparable
 rw [glob_size] at tT cT
 rw [meth_fuel] at mR
 have heq := run_eql_iface_ptr_same (P := Tryz.prog) w a Tryz.underlying81 Tryz.underlying189 hi hcmp hj
 go_enter Tryz.func87, Tryz.ntmps87
 go_wp2
 refine wp_loop_rounds 1 ?_
 rw [rounds_succ]
 go_wp2
 go_ret
 exact ⟨rfl, rfl⟩
theorem is_nil (b : Addr) (w : World) :
  Calls Tryz.prog 87 #[.nilIface, sentV b] w fun e w' => e = .returned (.bool false) ∧ w = w' := by
 have hn := run_eql_iface_nil_left (P := Tryz.prog) w 189 (.pointer (some b)) Tryz.underlying81
 go_enter Tryz.func87, Tryz.ntmps87
 go_wp2
 go_ret
 exact ⟨rfl, rfl⟩
set_option maxRecDepth 100000 in
theorem is_other (a b : Addr) (ca cb : Array Value) (ta tb : TypeId) (w : World) (hne : a ≠ b) (ha : w.heap[a.block]? = some (.cells ca ta (0, 0))) (hb : w.heap[b.block]? = some (.cells cb tb (0, 0))) :
  Calls Tryz.prog 87 #[sentV a, sentV b] w fun e w' => e = .returned (.bool false) ∧ w = w' := by
 obtain ⟨i, hi, hcmp⟩ := Option.map_eq_some_iff.1 is_comp
 obtain ⟨j, hj, hjs⟩ := Option.map_eq_some_iff.1 is_size
 have h8 := @run_callFunc_extern Tryz.prog 120 _ Extern.ReflectliteType.typeOf Tryz.func120 (by kernel_rfl) (by kernel_rfl) (by kernel_rfl) (by kernel_rfl)
 have h32 := @run_callFunc_extern Tryz.prog 168 _ (Extern.ReflectliteType.method fun t => do Go.Extern.Rtype.noPackHeld "Comparable" t; pure (.bool (← typeInfo t).comparable)) Tryz.func168 (by kernel_rfl) (by kernel_rfl) (by kernel_rfl) (by kernel_rfl)
 have tT := is_typeOf
 have cT := is_comparable
 have mR := is_methodComparable
 rw [glob_size] at tT cT
 rw [meth_fuel] at mR
 have nE := is_noIs
 have uE := is_noUnwrap
 have vE := is_noUnwraps
 have heq := run_eql_iface_ptr_other (P := Tryz.prog) w Tryz.underlying81 Tryz.underlying189 hi hcmp hj (by rw [hjs]; decide) hne ha hb
 go_enter Tryz.func87, Tryz.ntmps87
 go_wp2
 refine wp_loop_rounds 1 ?_
 rw [rounds_succ]
 go_wp2
 go_ret
 exact ⟨rfl, rfl⟩
end Go.Proofs.YtjghcaghigebjaaGreatDoor
namespace Go.Proofs.YtjghcaghigebjaaGreatDoor
open Go Go.RowKit
theorem own_heap {w w' : World} {base : Nat} {e : TypeId} {size n : Nat} {v : Value} {xs : List Value} (h : w.ownsRow base e size v n xs) (hk : ∀ g, v.ownBlock = some g → w'.heap[g]? = w.heap[g]?) : w'.ownsRow base e size v n xs := by
 refine ⟨h.1, ?_⟩
 rcases h.2 with hn | ⟨g, cap, cur, rfl, hb, hgg, rest⟩
 · exact .inl hn
 · exact .inr ⟨g, cap, cur, rfl, hb, (hk g rfl).trans hgg, rest⟩
def BK (o : Obj) : Prop := ∃ cs fr, o = .cells cs 83 fr
structure BelB (lo : Nat) (w w' : World) : Prop where
 bel : Below lo w w'
 kd : ∀ (i : Nat) (o : Obj), w.heap[i]? = some o → ¬ CK o → ¬ BK o → w'.heap[i]? = some o
theorem BelB.refl (lo : Nat) (w : World) : BelB lo w w := ⟨Below.refl _ _, fun _ _ h _ _ => h⟩
theorem BelB.of {lo : Nat} {w w' : World} (h : Below w.heap.size w w') (hl : lo ≤ w.heap.size) : BelB lo w w' := ⟨h.mono hl, fun i _ hi _ _ => (h.block i (Array.getElem?_eq_some_iff.1 hi).1).trans hi⟩
theorem BelB.trans {lo : Nat} {a b c : World} (h : BelB lo a b) (k : BelB lo b c) : BelB lo a c := ⟨h.bel.trans k.bel, fun i o hi hc hb => k.kd i o (h.kd i o hi hc hb) hc hb⟩
theorem BelK.toB {lo : Nat} {w w' : World} (h : BelK lo w w') : BelB lo w w' := ⟨h.bel, fun i o hi hc _ => h.kd i o hi hc⟩
theorem bk_nck {cs : Array Value} {fr : Nat × Nat} : ¬ CK (.cells cs 83 fr) := by
 rintro (⟨_, _, h⟩ | ⟨_, _, h⟩ | h)
 · injection h with _ h; exact absurd h (by decide)
 · injection h with _ h; exact absurd h (by decide)
 · obtain ⟨_, _, h⟩ := h; cases h
theorem BelB.set {lo q k : Nat} {w : World} {cs : Array Value} {fr : Nat × Nat} (hq : w.heap[q]? = some (.cells cs 83 fr)) (hlo : lo ≤ q) (v : Value) : BelB lo w (w.setCell ⟨q, k, none⟩ v) :=
 ⟨z06 (Below.refl _ _) hlo v, fun i o hi _ hb => by
  by_cases e : i = q
  · subst e; rw [hq] at hi; injection hi with hi; exact absurd ⟨cs, fr, hi.symm⟩ hb
  · exact (heap_setCell_other _ _ _ _ e).trans hi⟩
theorem nck_of {cs : Array Value} {t : TypeId} {fr : Nat × Nat} (h1 : t ≠ 119) (h2 : t ≠ 88) (h3 : t ≠ 83) : ¬ CK (.cells cs t fr) ∧ ¬ BK (.cells cs t fr) := by
 refine ⟨?_, ?_⟩
 ·
  rintro (⟨_, _, e⟩ | ⟨_, _, e⟩ | e)
  · injection e with _ e; exact h1 e
  · injection e with _ e; exact h2 e
  · obtain ⟨_, _, e⟩ := e; cases e
 · rintro ⟨_, _, e⟩; injection e with _ e; exact h3 e
def PL (w : World) (b : Nat) : Prop := ∃ cs fr, w.heap[b]? = some (.cells cs 123 fr)
theorem sig_nck {cs : Array Value} {fr : Nat × Nat} : ¬ CK (.cells cs 123 fr) ∧ ¬ BK (.cells cs 123 fr) := nck_of (by decide) (by decide) (by decide)
theorem BelB.blk {lo : Nat} {w w' : World} (h : BelB lo w w') {b : Nat} (hb : PL w b) : w'.heap[b]? = w.heap[b]? := by
 obtain ⟨cs, fr, h1⟩ := hb
 rw [h1]; exact h.kd b _ h1 sig_nck.1 sig_nck.2
theorem BelB.pl {lo : Nat} {w w' : World} (h : BelB lo w w') {b : Nat} (hb : PL w b) : PL w' b := by
 obtain ⟨cs, fr, h1⟩ := hb
 exact ⟨cs, fr, h.kd b _ h1 sig_nck.1 sig_nck.2⟩
theorem PL.lt {w : World} {b : Nat} (h : PL w b) : b < w.heap.size := by obtain ⟨_, _, h1⟩ := h; exact lt_of_block h1
theorem pl_of {w : World} {b : Nat} {cs : Array Value} {fr : Nat × Nat} (h : w.heap[b]? = some (.cells cs 123 fr)) : PL w b := ⟨_, _, h⟩
abbrev Lay.Pl {α : Type} (L : Lay α) (w : World) (A : Option Addr) (xs : List α) : Prop := L.Sl w (PL w) A xs
theorem Lay.Sl.upB {α : Type} {L : Lay α} {lo : Nat} {w w' : World} {A : Option Addr} {xs : List α} (h : L.Pl w A xs) (hb : BelB lo w w') : L.Pl w' A xs := (h.keep fun _ hp => hb.blk hp).mono fun _ hp => hb.pl hp
theorem Lay.Sl.plrd {α : Type} {L : Lay α} {w : World} {A : Option Addr} {xs : List α} (h : L.Pl w A xs) : L.Rd w A xs := h.mono fun _ hp => hp.lt
def OwnSg (w : World) (base : Nat) (v : Value) (xs : List Int) : Prop := w.ownsRow base 123 1 v xs.length (xs.map (Value.int .i64))
theorem signal_info : (Tryz.prog.info? 123).map (fun i => (i.zero, i.size, i.bytes)) = some (some (.int .i64 0), 1, 8) := by kernel_rfl
theorem OwnSg.blk {w w' : World} {base : Nat} {v : Value} {xs : List Int} (h : OwnSg w base v xs) (hk : ∀ b, PL w b → w'.heap[b]? = w.heap[b]?) : OwnSg w' base v xs :=
 own_heap h fun g hg => by
  rcases h.2 with ⟨e, _⟩ | ⟨g', cap, cur, e, _, hgg, _⟩
  · rw [e] at hg; cases hg
  ·
   rw [e] at hg
   injection hg with hg
   subst hg
   exact hk _ (pl_of hgg)
theorem OwnSg.upB {lo : Nat} {w w' : World} {base : Nat} {v : Value} {xs : List Int} (h : OwnSg w base v xs) (hb : BelB lo w w') : OwnSg w' base v xs := h.blk fun _ hp => hb.blk hp
theorem OwnSg.form {w : World} {base : Nat} {v : Value} {xs : List Int} (h : OwnSg w base v xs) : ∃ A c, v = .slice A xs.length c ∧ xs.length ≤ c ∧ Lay.int.Pl w A xs := by
 have hh := h
 unfold OwnSg at h
 rcases h.2 with ⟨h1, h2⟩ | ⟨g, cap, cur, h1, h0, hgg, h3, _⟩
 ·
  subst h1
  have : xs = [] := List.eq_nil_of_length_eq_zero h2
  subst this
  exact ⟨none, 0, rfl, by simp, .nil _ _ _ _⟩
 ·
  subst h1
  refine ⟨_, cap, rfl, h3, fun hn => ⟨_, rfl, pl_of hgg, fun k x hx => ⟨_, rfl, fun j u hu => ?_⟩⟩⟩
  rcases j with _ | j
  ·
   injection hu with hu
   subst hu
   have := hh.cells (g := g) rfl k (.int .i64 x) (by rw [List.getElem?_map, hx]; rfl)
   simpa [Lay.int, Lay.flat] using this
  · simp at hu
theorem OwnSg.pl {w : World} {base c : Nat} {A : Option Addr} {xs : List Int} (h : OwnSg w base (.slice A xs.length c) xs) : xs.length ≤ c ∧ Lay.int.Pl w A xs := by
 obtain ⟨A', c', e, h1, h2⟩ := h.form
 injection e with e1 e2 e3
 subst e1 e3
 exact ⟨h1, h2⟩
theorem OwnSg.nil (w : World) (base : Nat) : OwnSg w base (.slice none 0 0) [] := World.ownsRow_nil _ _ _ _
structure Glb (a0 a1 : Addr) (lo : Nat) (w : World) : Prop where
 c0 : w.cell? ⟨1, 0, none⟩ = some (sentV a0)
 c1 : w.cell? ⟨0, 0, none⟩ = some (sentV a1)
 b0 : ∃ cs t, w.heap[a0.block]? = some (.cells cs t (0, 0))
 b1 : ∃ cs t, w.heap[a1.block]? = some (.cells cs t (0, 0))
 ne : a0 ≠ a1
 lo2 : 2 ≤ lo
 lo0 : a0.block < lo
 lo1 : a1.block < lo
theorem Glb.below {a0 a1 : Addr} {lo : Nat} {w w' : World} (h : Glb a0 a1 lo w) (hb : Below lo w w') : Glb a0 a1 lo w' :=
 ⟨(hb.cell (p := ⟨1, 0, none⟩) (by have := h.lo2; show 1 < lo; omega)).trans h.c0, (hb.cell (p := ⟨0, 0, none⟩) (by have := h.lo2; show 0 < lo; omega)).trans h.c1,
  by obtain ⟨cs, t, e⟩ := h.b0; exact ⟨cs, t, (hb.block _ h.lo0).trans e⟩, by obtain ⟨cs, t, e⟩ := h.b1; exact ⟨cs, t, (hb.block _ h.lo1).trans e⟩, h.ne, h.lo2, h.lo0, h.lo1⟩
theorem Glb.mono {a0 a1 : Addr} {lo lo' : Nat} {w : World} (h : Glb a0 a1 lo w) (hl : lo ≤ lo') : Glb a0 a1 lo' w := ⟨h.c0, h.c1, h.b0, h.b1, h.ne, Nat.le_trans h.lo2 hl, Nat.lt_of_lt_of_le h.lo0 hl, Nat.lt_of_lt_of_le h.lo1 hl⟩
def errV (a0 a1 : Addr) : Option Nat → Value
 | none => .nilIface
 | some 0 => sentV a0
 | some _ => sentV a1
structure Bx (a0 a1 : Addr) (lo : Nat) (w : World) (q r : Nat) (e : Option Nat) : Prop where
 g : Glb a0 a1 lo w
 box : w.heap[q]? = some (.cells #[.pointer (some ⟨r, 0, none⟩), errV a0 a1 e] 83 (0, 0))
 low : lo ≤ q
structure Bd (a0 a1 : Addr) (lo : Nat) (w : World) (q r : Nat) (s : BS) : Prop extends Bx a0 a1 lo w q r s.e where
 nb : NB s.n
 circ : s.e = none → Circ lo w r s.n s.n.gs
theorem Bd.up {a0 a1 : Addr} {lo : Nat} {w w' : World} {q r : Nat} {s : BS} (h : Bd a0 a1 lo w q r s) (hb : Below w.heap.size w w') : Bd a0 a1 lo w' q r s :=
 ⟨⟨h.g.below (hb.mono (Nat.le_trans h.low (Nat.le_of_lt (lt_of_block h.box)))), (hb.block q (lt_of_block h.box)).trans h.box, h.low⟩, h.nb, fun he => (h.circ he).up hb⟩
def CKs (w w' : World) : Prop := ∀ (i : Nat) (o : Obj), w.heap[i]? = some o → CK o → w'.heap[i]? = some o
theorem CKs.below {w w' : World} (h : Below w.heap.size w w') : CKs w w' := fun i _ hi _ => (h.block i (Array.getElem?_eq_some_iff.1 hi).1).trans hi
theorem Circ.keep {lo : Nat} {w w' : World} {r : Nat} {n : N} {ks : List G} (h : Circ lo w r n ks) (hk : CKs w w') : Circ lo w' r n ks := by
 obtain ⟨A, c, b, h1, h2, h3, h4, h5⟩ := h
 refine ⟨A, c, b, hk r _ h1 (.inl ⟨_, _, rfl⟩), h2, h3, own_heap h4 fun g hg => ?_, h5.keep ?_⟩
 ·
  obtain ⟨o, ho, hc⟩ := own_ck h4 hg
  rw [ho]; exact hk g o ho hc
 ·
  obtain ⟨D, ⟨es, clock, hb, _⟩, _⟩ := h5
  rw [hb]; exact hk b _ hb (.inr (.inr ⟨_, _, rfl⟩))
theorem CKs.set {q k : Nat} {w : World} {cs : Array Value} {fr : Nat × Nat} (hq : w.heap[q]? = some (.cells cs 83 fr)) (v : Value) : CKs w (w.setCell ⟨q, k, none⟩ v) := fun i o hi hc => by
 by_cases e : i = q
 · subst e; rw [hq] at hi; injection hi with hi; subst hi; exact absurd hc bk_nck
 · exact (heap_setCell_other _ _ _ _ e).trans hi
structure BelS (lo : Nat) (w w' : World) : Prop where
 bel : Below lo w w'
 ck : CKs w w'
 bk : ∀ (i : Nat) (o : Obj), w.heap[i]? = some o → BK o → w'.heap[i]? = some o
theorem BelS.of {lo : Nat} {w w' : World} (h : Below w.heap.size w w') (hl : lo ≤ w.heap.size) : BelS lo w w' := ⟨h.mono hl, CKs.below h, fun i _ hi _ => (h.block i (Array.getElem?_eq_some_iff.1 hi).1).trans hi⟩
theorem Bd.upS {a0 a1 : Addr} {lo : Nat} {w w' : World} {q r : Nat} {s : BS} (h : Bd a0 a1 lo w q r s) (hb : BelS lo w w') : Bd a0 a1 lo w' q r s :=
 ⟨⟨h.g.below hb.bel, hb.bk q _ h.box ⟨_, _, rfl⟩, h.low⟩, h.nb, fun he => (h.circ he).keep hb.ck⟩
theorem Bd.size {a0 a1 : Addr} {lo : Nat} {w : World} {q r : Nat} {s : BS} (h : Bd a0 a1 lo w q r s) : lo ≤ w.heap.size := Nat.le_trans h.low (Nat.le_of_lt (lt_of_block h.box))
def failE (e : Option Nat) (b : Bool) (k : Nat) : Option Nat := if b = true ∧ e = none then some k else e
def RetX (a0 a1 : Addr) (lo : Nat) (w : World) (q r : Nat) (e' : Option Nat) (v : Value) (e : Ending) (w' : World) : Prop := e = .returned v ∧ BelB lo w w' ∧ Bx a0 a1 lo w' q r e' ∧ CKs w w'
def RetM (a0 a1 : Addr) (lo : Nat) (w : World) (q r : Nat) (res : BS × Int) (e : Ending) (w' : World) : Prop := e = .returned (.int .i64 res.2) ∧ BelB lo w w' ∧ Bd a0 a1 lo w' q r res.1
set_option maxHeartbeats 1000000 in
theorem fail_any (a0 a1 : Addr) (lo q r : Nat) (e0 : Option Nat) (b : Bool) (k : Nat) (w : World) (h : Bx a0 a1 lo w q r e0) :
  Calls Tryz.prog 89 #[.pointer (some ⟨q, 0, none⟩), .bool b, errV a0 a1 (some k)] w (RetX a0 a1 lo w q r (failE e0 b k) (.tuple #[])) := by
 have z1 : w.cell? ⟨q, 1, none⟩ = some (errV a0 a1 e0) := (z00 h.box 1).1
 have zf : w.frozen? ⟨q, 1, none⟩ = false := (z00 h.box 1).2
 have H := zH h
 clear h
 obtain ⟨a2, hv⟩ : ∃ a2, errV a0 a1 (some k) = sentV a2 := by rcases k with _ | k <;> exact ⟨_, rfl⟩
 have HV := zH hv
 rw [hv]
 clear hv
 rcases e0 with _ | e0
 ·
  simp only [errV] at z1
  cases b
  ·
   go_enter Tryz.func89, Tryz.ntmps89
   go_wp2
   refine bodyPost_end (results_none rfl _ _ _) rfl ?_
   exact ⟨rfl, .refl _ _, by rw [show failE none false k = none from if_neg (by simp)]; exact H.out, fun _ _ h _ => h⟩
  ·
   go_enter Tryz.func89, Tryz.ntmps89
   go_wp2
   refine bodyPost_end (results_none rfl _ _ _) rfl ?_
   rw [show failE none true k = some k from if_pos ⟨rfl, rfl⟩]
   have hb := z03 w q 1 (sentV a2) _ _ H.out.box
   have hB := BelB.set (k := 1) H.out.box H.out.low (sentV a2)
   refine ⟨rfl, hB, ⟨H.out.g.below hB.bel, ?_, H.out.low⟩, CKs.set H.out.box (sentV a2)⟩
   rw [hb, HV.out]; rfl
 ·
  rw [show failE (some e0) b k = some e0 from if_neg (by simp)]
  obtain ⟨a, ha⟩ : ∃ a, errV a0 a1 (some e0) = sentV a := by rcases e0 with _ | e0 <;> exact ⟨_, rfl⟩
  simp only [ha] at z1
  clear ha
  cases b
  all_goals
   go_enter Tryz.func89, Tryz.ntmps89
   go_wp2
   refine bodyPost_end (results_none rfl _ _ _) rfl ?_
   exact ⟨rfl, .refl _ _, H.out, fun _ _ h _ => h⟩
def madeV (e : Option Nat) (m : Int) : Int := if e = none then m else -1
set_option maxHeartbeats 1000000 in
theorem made_any (a0 a1 : Addr) (lo q r : Nat) (e0 : Option Nat) (m : Int) (w : World) (h : Bx a0 a1 lo w q r e0) (h0 : -9223372036854775808 ≤ m) (h1 : m ≤ 9223372036854775807) :
  Calls Tryz.prog 123 #[.pointer (some ⟨q, 0, none⟩), .int .i64 m] w (RetX a0 a1 lo w q r (failE e0 (m == 0) 1) (.int .i64 (madeV (failE e0 (m == 0) 1) m))) := by
 have g1 : w.cell? ⟨0, 0, none⟩ = some (errV a0 a1 (some 1)) := h.g.c1
 have HF := zH (fail_any a0 a1 lo q r e0 (m == 0) 1 w h)
 clear h
 generalize hv : errV a0 a1 (some 1) = v at *
 generalize hz : (m == 0) = z at *
 go_enter Tryz.func123, Tryz.ntmps123
 go_wp2_with fail
 refine HF.out.mono ?_
 rintro e w1 ⟨rfl, hb, hd, hk⟩
 generalize failE e0 z 1 = e1 at *
 have z1 : w1.cell? ⟨q, 1, none⟩ = some (errV a0 a1 e1) := (z00 hd.box 1).1
 have HB := zH hb
 have HD := zH hd
 have HK := zH hk
 clear hb hd HF hz hv g1 hk
 rcases e1 with _ | e1
 ·
  simp only [errV] at z1
  go_wp2
  go_ret
  exact ⟨rfl, HB.out, HD.out, HK.out⟩
 ·
  obtain ⟨a, ha⟩ : ∃ a, errV a0 a1 (some e1) = sentV a := by rcases e1 with _ | e1 <;> exact ⟨_, rfl⟩
  simp only [ha] at z1
  clear ha
  go_wp2
  go_ret
  exact ⟨rfl, HB.out, HD.out, HK.out⟩
set_option maxHeartbeats 1000000 in
theorem bAnd_any (a0 a1 : Addr) (lo q r : Nat) (s : BS) (x y : Int) (w : World) (h : Bd a0 a1 lo w q r s) (hx : MB x) (hy : MB y) :
  Calls Tryz.prog 93 #[.pointer (some ⟨q, 0, none⟩), .int .i64 x, .int .i64 y] w (RetM a0 a1 lo w q r (opsP.and s x y)) := by
 have z0 : w.cell? ⟨q, 0, none⟩ = some (.pointer (some ⟨r, 0, none⟩)) := (z00 h.box 0).1
 have z1 : w.cell? ⟨q, 1, none⟩ = some (errV a0 a1 s.e) := (z00 h.box 1).1
 have H := zH h
 obtain ⟨hx0, hx1, hx2⟩ := hx
 obtain ⟨hy0, hy1, hy2⟩ := hy
 show Calls _ _ _ _ (RetM a0 a1 lo w q r (stepP s (and1 s.n x y)))
 obtain ⟨n, e⟩ := s
 obtain ⟨hn0, hn1, hn2⟩ := h.nb
 dsimp only at hn0 hn1 hn2
 rcases e with _ | e
 ·
  have hc : Circ lo w r n n.gs := h.circ rfl
  have HR := zH (and1_nb (a := x) (b := y) h.nb ⟨hx1, hx2⟩ ⟨hy1, hy2⟩)
  clear h
  simp only [errV] at z1
  have HC := zH (implAnd_any lo r n x y w hc hn2 hn0 hn1 (by omega) (by omega) hx0)
  clear hc
  go_enter Tryz.func93, Tryz.ntmps93
  go_wp2_with fail
  refine HC.out.mono ?_
  rintro e w1 ⟨rfl, hb, hc1⟩
  have HX : Hid (Bx a0 a1 lo w1 q r none) := zH ⟨H.out.g.below hb.bel, hb.kd q _ H.out.box bk_nck, H.out.low⟩
  have HB := zH hb.toB
  have HC1 := zH hc1
  have HST : Hid (stepP ⟨n, none⟩ (and1 n x y) = if (and1 n x y).2 = 0 then (⟨n, some 1⟩, -1) else (⟨(and1 n x y).1, none⟩, (and1 n x y).2)) := zH (by unfold stepP; rw [if_neg (by simp)])
  clear hb hc1 HC
  generalize and1 n x y = m at *
  obtain ⟨m0, m1⟩ := HR.out.2
  go_wp2_with fail
  refine (made_any a0 a1 lo q r none m.2 w1 HX.out (by omega) (by omega)).mono ?_
  rintro e w2 ⟨rfl, hb2, hx2', hk2⟩
  have HB2 := zH (HB.out.trans hb2)
  have HX2 := zH hx2'
  have HK2 := zH hk2
  clear hb2 hx2' hk2
  go_wp2
  go_ret
  show RetM a0 a1 lo w q r (stepP ⟨n, none⟩ m) _ _
  rw [HST.out]
  by_cases hz : m.2 = 0
  ·
   have he : failE none (m.2 == 0) 1 = some 1 := by rw [hz]; rfl
   rw [if_pos hz]
   have hx3 := HX2.out
   rw [he] at hx3 ⊢
   exact ⟨rfl, HB2.out, ⟨hx3, H.out.nb, fun h => by cases h⟩⟩
  ·
   have he : failE none (m.2 == 0) 1 = none := if_neg (by simp [hz])
   rw [if_neg hz]
   have hx3 := HX2.out
   rw [he] at hx3 ⊢
   exact ⟨rfl, HB2.out, ⟨hx3, HR.out.1, fun _ => (HC1.out hz).keep HK2.out⟩⟩
 ·
  obtain ⟨a, ha⟩ : ∃ a, errV a0 a1 (some e) = sentV a := by rcases e with _ | e <;> exact ⟨_, rfl⟩
  simp only [ha] at z1
  clear ha h
  go_enter Tryz.func93, Tryz.ntmps93
  go_wp2
  go_ret
  rw [show stepP ⟨n, some e⟩ (and1 n x y) = (⟨n, some e⟩, -1) from if_pos (by simp)]
  exact ⟨rfl, .refl _ _, H.out⟩
set_option maxHeartbeats 1000000 in
theorem bXor_any (a0 a1 : Addr) (lo q r : Nat) (s : BS) (x y : Int) (w : World) (h : Bd a0 a1 lo w q r s) (hx : MB x) (hy : MB y) :
  Calls Tryz.prog 95 #[.pointer (some ⟨q, 0, none⟩), .int .i64 x, .int .i64 y] w (RetM a0 a1 lo w q r (opsP.xor s x y)) := by
 have z0 : w.cell? ⟨q, 0, none⟩ = some (.pointer (some ⟨r, 0, none⟩)) := (z00 h.box 0).1
 have z1 : w.cell? ⟨q, 1, none⟩ = some (errV a0 a1 s.e) := (z00 h.box 1).1
 have H := zH h
 obtain ⟨hx0, hx1, hx2⟩ := hx
 obtain ⟨hy0, hy1, hy2⟩ := hy
 show Calls _ _ _ _ (RetM a0 a1 lo w q r (stepP s (xor1 s.n x y)))
 obtain ⟨n, e⟩ := s
 obtain ⟨hn0, hn1, hn2⟩ := h.nb
 dsimp only at hn0 hn1 hn2
 rcases e with _ | e
 ·
  have hc : Circ lo w r n n.gs := h.circ rfl
  have HR := zH (xor1_nb (a := x) (b := y) h.nb ⟨hx1, hx2⟩ ⟨hy1, hy2⟩)
  clear h
  simp only [errV] at z1
  have HC := zH (implXor_any lo r n x y w hc hn2 hn0 hn1 (by omega) (by omega))
  clear hc
  go_enter Tryz.func95, Tryz.ntmps95
  go_wp2_with fail
  refine HC.out.mono ?_
  rintro e w1 ⟨rfl, hb, hc1⟩
  have HX : Hid (Bx a0 a1 lo w1 q r none) := zH ⟨H.out.g.below hb.bel, hb.kd q _ H.out.box bk_nck, H.out.low⟩
  have HB := zH hb.toB
  have HC1 := zH hc1
  have HST : Hid (stepP ⟨n, none⟩ (xor1 n x y) = if (xor1 n x y).2 = 0 then (⟨n, some 1⟩, -1) else (⟨(xor1 n x y).1, none⟩, (xor1 n x y).2)) := zH (by unfold stepP; rw [if_neg (by simp)])
  clear hb hc1 HC
  generalize xor1 n x y = m at *
  obtain ⟨m0, m1⟩ := HR.out.2
  go_wp2_with fail
  refine (made_any a0 a1 lo q r none m.2 w1 HX.out (by omega) (by omega)).mono ?_
  rintro e w2 ⟨rfl, hb2, hx2', hk2⟩
  have HB2 := zH (HB.out.trans hb2)
  have HX2 := zH hx2'
  have HK2 := zH hk2
  clear hb2 hx2' hk2
  go_wp2
  go_ret
  show RetM a0 a1 lo w q r (stepP ⟨n, none⟩ m) _ _
  rw [HST.out]
  by_cases hz : m.2 = 0
  ·
   have he : failE none (m.2 == 0) 1 = some 1 := by rw [hz]; rfl
   rw [if_pos hz]
   have hx3 := HX2.out
   rw [he] at hx3 ⊢
   exact ⟨rfl, HB2.out, ⟨hx3, H.out.nb, fun h => by cases h⟩⟩
  ·
   have he : failE none (m.2 == 0) 1 = none := if_neg (by simp [hz])
   rw [if_neg hz]
   have hx3 := HX2.out
   rw [he] at hx3 ⊢
   exact ⟨rfl, HB2.out, ⟨hx3, HR.out.1, fun _ => (HC1.out hz).keep HK2.out⟩⟩
 ·
  obtain ⟨a, ha⟩ : ∃ a, errV a0 a1 (some e) = sentV a := by rcases e with _ | e <;> exact ⟨_, rfl⟩
  simp only [ha] at z1
  clear ha h
  go_enter Tryz.func95, Tryz.ntmps95
  go_wp2
  go_ret
  rw [show stepP ⟨n, some e⟩ (xor1 n x y) = (⟨n, some e⟩, -1) from if_pos (by simp)]
  exact ⟨rfl, .refl _ _, H.out⟩
theorem opsP_and_mb {s : BS} {x y : Int} (h : NB s.n) (hx : RB x) (hy : RB y) : NB (opsP.and s x y).1.n ∧ MB (opsP.and s x y).2 := stepP_nb h (and1_nb h hx hy)
theorem opsP_xor_mb {s : BS} {x y : Int} (h : NB s.n) (hx : RB x) (hy : RB y) : NB (opsP.xor s x y).1.n ∧ MB (opsP.xor s x y).2 := stepP_nb h (xor1_nb h hx hy)
theorem bOr_any (a0 a1 : Addr) (lo q r : Nat) (s : BS) (x y : Int) (w : World) (h : Bd a0 a1 lo w q r s) (hx : MB x) (hy : MB y) :
  Calls Tryz.prog 94 #[.pointer (some ⟨q, 0, none⟩), .int .i64 x, .int .i64 y] w (RetM a0 a1 lo w q r (run opsP (orP x y) s)) := by
 have HC := zH (bAnd_any a0 a1 lo q r s (-x) (-y) w h hx.neg hy.neg)
 have HM := zH (opsP_and_mb (x := -x) (y := -y) h.nb hx.rb.neg hy.rb.neg).2
 show Calls _ _ _ _ (RetM a0 a1 lo w q r ((opsP.and s (-x) (-y)).1, -(opsP.and s (-x) (-y)).2))
 obtain ⟨hx0, hx1, hx2⟩ := hx
 obtain ⟨hy0, hy1, hy2⟩ := hy
 clear h
 generalize opsP.and s (-x) (-y) = m at *
 obtain ⟨hm0, hm1, hm2⟩ := HM.out
 go_enter Tryz.func94, Tryz.ntmps94
 go_wp2_with fail
 refine HC.out.mono ?_
 rintro e w1 ⟨rfl, hb, hd⟩
 have HB := zH hb
 have HD := zH hd
 clear hb hd HC
 go_wp2
 go_ret
 exact ⟨rfl, HB.out, HD.out⟩
set_option maxHeartbeats 1000000 in
theorem bMux_any (a0 a1 : Addr) (lo q r : Nat) (s : BS) (c x y : Int) (w : World) (h : Bd a0 a1 lo w q r s) (hc : MB c) (hx : MB x) (hy : MB y) :
  Calls Tryz.prog 131 #[.pointer (some ⟨q, 0, none⟩), .int .i64 c, .int .i64 x, .int .i64 y] w (RetM a0 a1 lo w q r (run opsP (muxP c x y) s)) := by
 have HC := zH (bAnd_any a0 a1 lo q r s c x w h hc hx)
 have HM := zH (opsP_and_mb (x := c) (y := x) h.nb hc.rb hx.rb)
 show Calls _ _ _ _ (RetM a0 a1 lo w q r (run opsP (orP (opsP.and s c x).2 (opsP.and (opsP.and s c x).1 (-c) y).2) (opsP.and (opsP.and s c x).1 (-c) y).1))
 have HX := zH hc.neg
 have HY := zH hy
 obtain ⟨hc0, hc1, hc2⟩ := hc
 clear h
 generalize opsP.and s c x = m at *
 go_enter Tryz.func131, Tryz.ntmps131
 go_wp2_with fail
 refine HC.out.mono ?_
 rintro e w1 ⟨rfl, hb, hd⟩
 have HB := zH hb
 have HC := zH (bAnd_any a0 a1 lo q r m.1 (-c) y w1 hd HX.out HY.out)
 have HM2 := zH (opsP_and_mb (x := -c) (y := y) hd.nb HX.out.rb HY.out.rb)
 clear hb hd
 generalize opsP.and m.1 (-c) y = p at *
 go_wp2_with fail
 refine HC.out.mono ?_
 rintro e w2 ⟨rfl, hb, hd⟩
 have HB := zH (HB.out.trans hb)
 have HC := zH (bOr_any a0 a1 lo q r p.1 m.2 p.2 w2 hd HM.out.2 HM2.out.2)
 clear hb hd
 generalize run opsP (orP m.2 p.2) p.1 = z at *
 go_wp2_with fail
 refine HC.out.mono ?_
 rintro e w3 ⟨rfl, hb, hd⟩
 have HB := zH (HB.out.trans hb)
 have HD := zH hd
 clear hb hd HC
 go_wp2
 go_ret
 exact ⟨rfl, HB.out, HD.out⟩
def bare (o : Oper) : Oper := { o with guard := none }
def relOk (ops : List Oper) (D : List (List Nat)) (size : Nat) : Bool :=
 (List.range ops.length).all fun k =>
  (match ops[k]? with
   | some o => (match o.guard with | none => true | some (g, _) => (D.getD k []).contains g && (dstOf ops g).isSome) && (match o.op with | .select .. => false | _ => true) && (o.after.all fun e => !Region.binds .any e || decide (e.on < k)) && (match o.dst with | some d => decide (d < size) | none => true)
   | none => false) &&
  ((D.getD k []).all fun j => waits ops k j && decide (j < ops.length)) &&
  (decide ((D.getD k []).Nodup)) &&
  (List.range ops.length).all fun j =>
   (!looks ops k j || (D.getD k []).contains j) &&
   (decide (j = k) || (match dstOf ops j, dstOf ops k with | some d, some e => d != e | _, _ => true))
theorem relOk_spec {ops : List Oper} {D : List (List Nat)} {size : Nat} (h : relOk ops D size = true) (k : Nat) (o : Oper) (hk : ops[k]? = some o) :
  (∀ g b, o.guard = some (g, b) → g ∈ D.getD k [] ∧ ∃ d, dstOf ops g = some d) ∧ (∀ cs b, o.op ≠ .select cs b) ∧ (∀ e ∈ o.after, Region.binds .any e = true → e.on < k) ∧ (∀ d, o.dst = some d → d < size) ∧
  (∀ j ∈ D.getD k [], waits ops k j = true ∧ j < ops.length) ∧ (∀ j, j < ops.length → looks ops k j = true → j ∈ D.getD k []) ∧
  (∀ j d, j < ops.length → dstOf ops j = some d → o.dst = some d → j = k) := by
 have hlt : k < ops.length := (List.getElem?_eq_some_iff.1 hk).1
 unfold relOk at h
 have h := List.all_eq_true.1 h k (List.mem_range.2 hlt)
 have hdk : dstOf ops k = o.dst := by simp [dstOf, hk]
 simp only [hk, Bool.and_eq_true, hdk] at h
 obtain ⟨⟨⟨⟨⟨⟨h1, h2⟩, h3⟩, h4⟩, h5⟩, _⟩, h6⟩ := h
 have h6 : ∀ j, j < ops.length → _ := fun j hj => List.all_eq_true.1 h6 j (List.mem_range.2 hj)
 refine ⟨fun g b hg => ?_, fun cs b e => (by rw [e] at h2; cases h2), fun e he hb => ?_, fun d hd => by rw [hd] at h4; simpa using h4, fun j hj => ?_, fun j hj hl => ?_, fun j d hj hd hd' => ?_⟩
 ·
  rw [hg] at h1
  simp only [Bool.and_eq_true, List.contains_iff_mem] at h1
  exact ⟨h1.1, Option.isSome_iff_exists.1 h1.2⟩
 ·
  have := (Array.all_eq_true_iff_forall_mem.1 h3) e he
  simpa [hb] using this
 ·
  have := List.all_eq_true.1 h5 j hj
  simpa using this
 ·
  have := h6 j hj
  simp only [Bool.and_eq_true, hl] at this
  simpa using this.1
 ·
  have := h6 j hj
  simp only [Bool.and_eq_true, hd, hd'] at this
  simpa using this.2
abbrev Say := (Nat → Value) → World → Prop
def says (L : List Say) (vals : Nat → Value) (x : World) : List Nat → Prop
 | [] => True
 | i :: l => L.getD i (fun _ _ => True) vals x ∧ says L vals x l
def isLast (ops : List Oper) (k : Nat) : Bool := (List.range ops.length).all fun r => r == k || reach ops ops.length k r
def cntT (g : Nat → Bool) : Nat → Nat
 | 0 => 0
 | n + 1 => cntT g n + if g n then 1 else 0
def lows (ops : List Oper) (k : Nat) : Nat := cntT (fun r => r != k && reach ops ops.length k r) ops.length
def ups (ops : List Oper) (k : Nat) : Nat := cntT (fun r => r != k && reach ops ops.length r k) ops.length
theorem cntT_in {f g : Nat → Bool} : ∀ {n : Nat}, (∀ i, i < n → g i = true → f i = true) → cntT g n + cnt f n ≤ n
 | 0, _ => Nat.le_refl _
 | n + 1, h => by
  have ih := cntT_in (f := f) (g := g) (n := n) fun i hi => h i (by omega)
  have hn := h n (by omega)
  simp only [cntT, cnt]
  cases hg : g n
  · simp; split <;> omega
  · rw [hn hg]; simp; omega
theorem cntT_out {f g : Nat → Bool} {k : Nat} (hf : f k = false) (hg : g k = false) : ∀ {n : Nat}, (∀ i, i < n → g i = true → f i = false) → cntT g n + (if k < n then 1 else 0) ≤ cnt f n
 | 0, _ => by simp [cntT, cnt]
 | n + 1, h => by
  have ih := cntT_out hf hg (n := n) fun i hi => h i (by omega)
  have hn := h n (by omega)
  simp only [cntT, cnt]
  by_cases e : n = k
  ·
   subst e
   rw [hf, hg]
   simp at ih ⊢
   omega
  ·
   have hite : (if k < n + 1 then 1 else 0) = (if k < n then 1 else 0) := by
    by_cases h9 : k < n
    · rw [if_pos h9, if_pos (by omega)]
    · rw [if_neg h9, if_neg (by omega)]
   rw [hite]
   generalize (if k < n then 1 else 0) = z at *
   cases hgn : g n
   ·
    rw [if_neg (by simp)]
    have : cnt f n ≤ cnt f n + (if f n = true then 0 else 1) := Nat.le_add_right _ _
    omega
   ·
    rw [if_pos rfl, hn hgn, if_neg (by simp)]
    omega
def Stabs (ops : List Oper) (R : World → World → Prop) : Nat → List Say → Prop
 | _, [] => True
 | k, V :: l => (isLast ops k = true ∨ ∀ vs x x', V vs x → R x x' → V vs x') ∧ Stabs ops R (k + 1) l
theorem Stabs.get {ops : List Oper} {R : World → World → Prop} : ∀ {L : List Say} {k : Nat}, Stabs ops R k L → ∀ i vs x x', isLast ops (k + i) = false → L.getD i (fun _ _ => True) vs x → R x x' → L.getD i (fun _ _ => True) vs x'
 | [], _, _, i, vs, x, x', _, _, _ => by simp
 | V :: l, k, h, 0, vs, x, x', hl, hv, hr => by
  rcases h.1 with h1 | h1
  · rw [Nat.add_zero] at hl; rw [hl] at h1; cases h1
  · simpa using h1 vs x x' (by simpa using hv) hr
 | V :: l, k, h, i + 1, vs, x, x', hl, hv, hr => by simpa using Stabs.get h.2 i vs x x' (by rw [← hl]; congr 1; omega) (by simpa using hv) hr
def Locals (D : List (List Nat)) : Nat → List Say → Prop
 | _, [] => True
 | k, V :: l => (∀ vs vs' x, vs k = vs' k → (∀ i ∈ D.getD k [], vs i = vs' i) → V vs x → V vs' x) ∧ Locals D (k + 1) l
theorem Locals.get {D : List (List Nat)} : ∀ {L : List Say} {k : Nat}, Locals D k L → ∀ i vs vs' x, vs (k + i) = vs' (k + i) → (∀ m ∈ D.getD (k + i) [], vs m = vs' m) → L.getD i (fun _ _ => True) vs x → L.getD i (fun _ _ => True) vs' x
 | [], _, _, i, vs, vs', x, _, _, _ => by simp
 | V :: l, k, h, 0, vs, vs', x, h1, h2, hv => by simpa using h.1 vs vs' x (by simpa using h1) (by simpa using h2) (by simpa using hv)
 | V :: l, k, h, i + 1, vs, vs', x, h1, h2, hv => by
  have e : k + (i + 1) = k + 1 + i := by omega
  rw [e] at h1 h2
  simpa using Locals.get h.2 i vs vs' x h1 h2 (by simpa using hv)
def upd (vs : Nat → Value) (k : Nat) (v : Value) : Nat → Value := fun j => if j = k then v else vs j
def relQ (R : World → World → Prop) (I : Nat → World → Prop) (L : List Say) (vals : Nat → Value) (n k : Nat) (o : Oper) (a : Act) (x : World) : Exit → Act → World → Prop
 | .normal, a', x' => a'.defers = a.defers ∧ L.getD k (fun _ _ => True) (upd vals k (got o a')) x' ∧ R x x' ∧ I (n + 1) x'
 | _, _, _ => False
variable {P : Program} {Q : Exit → Act → World → Prop}
def obligR (P : Program) (ops : List Oper) (D : List (List Nat)) (R : World → World → Prop) (I : Nat → World → Prop) (L : List Say) (a : Act) (k : Nat) (o : Oper) : Prop :=
 ∀ (vals : Nat → Value) (x : World) (n : Nat), n < ops.length → lows ops k ≤ n ∧ n + 1 + ups ops k ≤ ops.length → I n x → says L vals x (D.getD k []) →
  ((∀ g b, o.guard = some (g, b) → vals g = .bool b) → o.wp P (puts ops vals (D.getD k []) a) x (relQ R I L vals n k o (puts ops vals (D.getD k []) a) x .normal) (relQ R I L vals n k o (puts ops vals (D.getD k []) a) x)) ∧
  (∀ g b, o.guard = some (g, b) → vals g ≠ .bool b → L.getD k (fun _ _ => True) (upd vals k undef) x ∧ I (n + 1) x)
theorem says_iff {L : List Say} {vals : Nat → Value} {x : World} : ∀ {l : List Nat}, says L vals x l ↔ ∀ i ∈ l, L.getD i (fun _ _ => True) vals x
 | [] => by simp [says]
 | i :: l => by simp [says, says_iff (l := l)]
structure RelInv (ops : List Oper) (I : Nat → World → Prop) (L : List Say) (a : Act) (listed : Array Bool) (a' : Act) (x : World) (vals : Nat → Value) : Prop where
 size : listed.size = ops.length
 closed : ∀ j k, waits ops k j = true → listed.getD k false = true → listed.getD j false = true
 tsize : a'.tmps.size = a.tmps.size
 defers : a'.defers = a.defers
 old : ∀ t, (∀ j, listed.getD j false = true → dstOf ops j ≠ some t) → a'.tmps[t]? = a.tmps[t]?
 new : ∀ j t, listed.getD j false = true → dstOf ops j = some t → a'.tmps[t]? = some (vals j)
 inv : ∃ n, n + cnt (fun i => listed.getD i false) ops.length = ops.length ∧ I n x
 fact : ∀ j, listed.getD j false = true → L.getD j (fun _ _ => True) vals x
def idxs (D : List (List (Nat × Tmp))) : List (List Nat) := D.map fun l => l.map fun p => p.1
def saysD (L : List Say) (vals : Nat → Value) (x : World) : List (Nat × Tmp) → Prop
 | [] => True
 | (i, _) :: l => L.getD i (fun _ _ => True) vals x ∧ saysD L vals x l
theorem says_saysD {L : List Say} {vals : Nat → Value} {x : World} : ∀ {l : List (Nat × Tmp)}, says L vals x (l.map (·.1)) = saysD L vals x l
 | [] => rfl
 | (i, t) :: l => by simp only [List.map_cons, says, saysD, says_saysD (l := l)]
def owes (P : Program) (R : World → World → Prop) (I : Nat → World → Prop) (L : List Say) (vals : Nat → Value) (a : Act) (x : World) (n k : Nat) (o : Oper) (gd : Option (Nat × Bool)) : Prop :=
 match gd with
 | none => wpList P #[] (relQ R I L vals n k o a x) [bare o] a x
 | some (g, b) => (vals g = .bool b → wpList P #[] (relQ R I L vals n k o a x) [bare o] a x) ∧ (vals g ≠ .bool b → L.getD k (fun _ _ => True) (upd vals k undef) x ∧ I (n + 1) x)
def shareR2 (P : Program) (ops : List Oper) (R : World → World → Prop) (I : Nat → World → Prop) (L : List Say) (a : Act) (N k : Nat) (o : Oper) (d : List (Nat × Tmp)) : Prop :=
 ∀ (vals : Nat → Value) (x : World) (n : Nat), n < N → lows ops k ≤ n ∧ n + 1 + ups ops k ≤ N → I n x → saysD L vals x d →
  owes P R I L vals (putsD vals d a) x n k o o.guard
theorem bare_wp (o : Oper) (a : Act) (w : World) (K : Act → World → Prop) : Oper.wp P (bare o) a w K Q = Oper.wp P o a w K Q := by cases o; rfl
theorem wpList_bare {o : Oper} {a : Act} {w : World} (h : wpList P #[] Q [bare o] a w) : Oper.wp P o a w (Q .normal) Q ∨ LetsOut Q := by
 have hg : (bare o).guard = none := rfl
 unfold wpList at h
 rw [if_pos (by unfold Region.wanted; rw [hg])] at h
 rcases h with h | ⟨_, h⟩
 · rw [← bare_wp]; exact .inl h
 · exact .inr h
end Go.Proofs.YtjghcaghigebjaaGreatDoor
namespace Go.Proofs.YtjghcaghigebjaaGreatDoor
open Go Go.RowKit
variable {P : Program} {Q : Exit → Act → World → Prop}
theorem cnt_all {f : Nat → Bool} : ∀ {n : Nat}, (∀ i, i < n → f i = true) → cnt f n = 0
 | 0, _ => rfl
 | n + 1, h => by simp only [cnt]; rw [cnt_all (f := f) fun i hi => h i (by omega), h n (by omega)]; rfl
theorem low_ge {a n : Nat} (h : a ≤ n) (b : Nat) (e : Nat.ble b a = true) : b ≤ n := Nat.le_trans (Nat.le_of_ble_eq_true e) h
theorem up_ge {a n N : Nat} (h : n + 1 + a ≤ N) (b : Nat) (e : Nat.ble b a = true) : n + 1 + b ≤ N := by have := Nat.le_of_ble_eq_true e; omega
theorem rel3_any {ops : List Oper} {D : List (List Nat)} {R : Nat → World → World → Prop} {I : Nat → World → Prop} {L : List Say} {a : Act} (hRr : ∀ k x, R k x x) (hL : ∀ j k, k < ops.length → j ≠ k → reach ops ops.length j k = false → ∀ vs x x', L.getD j (fun _ _ => True) vs x → R k x x' → L.getD j (fun _ _ => True) vs x') (hLo : Locals D 0 L) (hB : relOk ops D a.tmps.size = true)
  (hs : ∀ k o, ops[k]? = some o → obligR P ops D (R k) I L a k o)
  (hfin : ∀ vals x n, n = ops.length → I n x → says L vals x (List.range ops.length) → Q .normal (puts ops vals (List.range ops.length) a) x) :
  ∀ (fuel : Nat) (listed : Array Bool) (a' : Act) (x : World) (vals : Nat → Value), cnt (fun i => listed.getD i false) ops.length ≤ fuel →
   RelInv ops I L a listed a' x vals → wpAny P .any ops.toArray Q fuel listed a' x := by
 have hdd : ∀ i j t, dstOf ops i = some t → dstOf ops j = some t → i = j := fun i j t hi hj => by
  have hjl : j < ops.length := dst_lt hj
  have ho : ops[j]? = some ops[j] := List.getElem?_eq_getElem hjl
  exact (relOk_spec hB j _ ho).2.2.2.2.2.2 i t (dst_lt hi) hi (by simpa [dstOf, ho] using hj)
 have hds : ∀ j t, dstOf ops j = some t → t < a.tmps.size := fun j t hj => by
  have hjl : j < ops.length := dst_lt hj
  have ho : ops[j]? = some ops[j] := List.getElem?_eq_getElem hjl
  exact (relOk_spec hB j _ ho).2.2.2.1 t (by simpa [dstOf, ho] using hj)
 have hdone : ∀ (listed : Array Bool) (a' : Act) (x : World) (vals : Nat → Value), (∀ i, i < ops.length → listed.getD i false = true) → RelInv ops I L a listed a' x vals → Q .normal a' x := by
  intro listed a' x vals hall inv
  have ha : a' = puts ops vals (List.range ops.length) a := by
   have ht : a'.tmps = (puts ops vals (List.range ops.length) a).tmps := by
    apply Array.ext_getElem?
    intro t
    by_cases h : ∃ j, dstOf ops j = some t
    ·
     obtain ⟨j, hj⟩ := h
     rw [inv.new j t (hall j (dst_lt hj)) hj, puts_get (fun i j => hdd i j t) _ _ j (List.mem_range.2 (dst_lt hj)) hj (hds j t hj)]
    · rw [inv.old t (fun j _ e => h ⟨j, e⟩), puts_ne _ _ (fun i _ e => h ⟨i, e⟩)]
   have hdf : a'.defers = (puts ops vals (List.range ops.length) a).defers := by rw [puts_defers]; exact inv.defers
   cases a'
   cases hp : puts ops vals (List.range ops.length) a
   rw [hp] at ht hdf
   simp only at ht hdf
   rw [ht, hdf]
  rw [ha]
  obtain ⟨n, hn, hI⟩ := inv.inv
  exact hfin vals x n (by have := cnt_all (f := fun i => listed.getD i false) hall; omega) hI (says_iff.2 fun i hi => inv.fact i (hall i (List.mem_range.1 hi)))
 have hmin : ∀ (listed : Array Bool), listed.size = ops.length → ∀ i, i < ops.length → listed.getD i false = false → Region.ready .any ops.toArray listed ≠ [] := by
  intro listed hsz i
  induction i using Nat.strongRecOn with
  | _ i ih =>
   intro hi hun hr
   have ho : ops[i]? = some ops[i] := List.getElem?_eq_getElem hi
   by_cases h : ∀ e ∈ ops[i].after, Region.binds .any e = true → listed.getD e.on false = true
   ·
    have : i ∈ Region.ready .any ops.toArray listed := mem_ready.2 ⟨getD_in (by omega) hun, ops[i], by simp [ho], h⟩
    rw [hr] at this; cases this
   ·
    simp only [Classical.not_forall] at h
    obtain ⟨e, he, hb, hl⟩ := h
    have hlt := (relOk_spec hB i _ ho).2.2.1 e he hb
    exact ih e.on hlt (by omega) (by simpa using hl) hr
 intro fuel
 induction fuel with
 | zero =>
  intro listed a' x vals hc inv
  have hall := cnt_zero (f := fun i => listed.getD i false) (Nat.le_zero.1 hc)
  refine ⟨?_, hdone _ _ _ _ hall inv⟩
  cases hr : Region.ready .any ops.toArray listed with
  | nil => rfl
  | cons k rs =>
   exfalso
   have hk : k ∈ Region.ready .any ops.toArray listed := by rw [hr]; simp
   obtain ⟨h0, o, ho, _⟩ := mem_ready.1 hk
   have hlt : k < ops.length := by
    have := (Array.getElem?_eq_some_iff.1 ho).1; simpa using this
   have h1 : listed.getD k false = true := hall k hlt
   rw [getD_both h0] at h1; cases h1
 | succ fuel ih =>
  intro listed a' x vals hc inv
  refine ⟨fun hr => ?_, fun k hk => ?_⟩
  ·
   refine hdone _ _ _ _ (fun i hi => ?_) inv
   cases h : listed.getD i false with
   | true => rfl
   | false => exact absurd hr (hmin listed inv.size i hi h)
  ·
   obtain ⟨h0, o, hoA, hwait⟩ := mem_ready.1 hk
   have ho : ops[k]? = some o := by simpa using hoA
   have hkl : k < ops.length := (List.getElem?_eq_some_iff.1 ho).1
   have h0f : listed.getD k false = false := getD_both h0
   have hsz : k < listed.size := by rw [inv.size]; exact hkl
   obtain ⟨hg, hsel, _, hdsz, hD, hlook, hdist⟩ := relOk_spec hB k o ho
   have hw : ∀ m, waits ops k m = true → listed.getD m false = true := fun m hm => by
    obtain ⟨o', ho', e, he, hb, rfl⟩ := waits_spec.1 hm
    have : o' = o := Option.some.inj (ho'.symm.trans ho)
    subst this
    exact hwait e he hb
   have hDl : ∀ j ∈ D.getD k [], listed.getD j false = true := fun j hj => hw j (hD j hj).1
   have hdk : dstOf ops k = o.dst := by simp [dstOf, ho]
   -- the operation runs as it does in the small state
   have hexec : execOp a'.eval o = execOp (puts ops vals (D.getD k []) a).eval o := execOp_congr o hsel fun y hy => by
    cases y with
    | tmp t =>
     have ht : a'.tmps[t]? = (puts ops vals (D.getD k []) a).tmps[t]? := by
      by_cases h : ∃ j, dstOf ops j = some t
      ·
       obtain ⟨j, hj⟩ := h
       have hm := hlook j (dst_lt hj) (looks_spec ho hj hy)
       rw [inv.new j t (hDl j hm) hj, puts_get (fun i j => hdd i j t) _ _ j hm hj (hds j t hj)]
      · rw [inv.old t (fun j _ e => h ⟨j, e⟩), puts_ne _ _ (fun i _ e => h ⟨i, e⟩)]
     show a'.tmps.getD t undef = (puts ops vals (D.getD k []) a).tmps.getD t undef
     rw [Array.getD_eq_getD_getElem?, Array.getD_eq_getD_getElem?, ht]
    | _ => rfl
   obtain ⟨n, hn, hI⟩ := inv.inv
   have hcs := (cnt_set (f := fun i => listed.getD i false) (g := fun i => (listed.setIfInBounds k true).getD i false) h0f (getD_set (listed := listed) hsz) (n := ops.length)).2 hkl
   have hlast1 : lows ops k ≤ n ∧ n + 1 + ups ops k ≤ ops.length := by
    have h1 := cntT_in (f := fun i => listed.getD i false) (g := fun r => r != k && reach ops ops.length k r) (n := ops.length) fun r hr hg => by
     simp only [Bool.and_eq_true] at hg
     exact z14 inv.closed _ k r (fun m hm => hw m hm) hg.2
    have h2 := cntT_out (f := fun i => listed.getD i false) (g := fun r => r != k && reach ops ops.length r k) h0f (by simp) (n := ops.length) fun r hr hg => by
     simp only [Bool.and_eq_true] at hg
     cases h : listed.getD r false with
     | false => rfl
     | true =>
      exfalso
      have := z14 inv.closed _ r k (fun m hm => inv.closed m r hm h) hg.2
      rw [this] at h0f; cases h0f
    rw [if_pos hkl] at h2
    unfold lows ups
    omega
   have hob := hs k o ho vals x n (by omega) hlast1 hI (says_iff.2 fun j hj => inv.fact j (hDl j hj))
   have hbs : (puts ops vals (D.getD k []) a).tmps.size = a.tmps.size := puts_size _ _
   have hbd : (puts ops vals (D.getD k []) a).defers = a.defers := puts_defers _ _
   have next : ∀ v x', (L.getD k (fun _ _ => True) (upd vals k (got o ((puts ops vals (D.getD k []) a).put o.dst v))) x' ∧ R k x x' ∧ I (n + 1) x') →
     wpAny P .any ops.toArray Q fuel (listed.setIfInBounds k true) (a'.put o.dst v) x' := by
    intro v x' hq
    obtain ⟨hV, hR, hI'⟩ := hq
    have hgs := getD_set (listed := listed) hsz
    have hold : ∀ j, (listed.setIfInBounds k true).getD j false = true → j ≠ k → listed.getD j false = true := fun j hj hne => by
     rw [hgs, if_neg hne] at hj; exact hj
    refine ih _ _ x' (fun j => if j = k then got o ((puts ops vals (D.getD k []) a).put o.dst v) else vals j) ?_ ⟨by simp [inv.size], fun j m hm hl => ?_, by rw [put_size]; exact inv.tsize, by rw [put_defers]; exact inv.defers, fun t ht => ?_, fun j t hj hdj => ?_, ⟨n + 1, by omega, hI'⟩, fun j hj => ?_⟩
    · omega
    ·
     rw [hgs]
     by_cases e : j = k
     · rw [if_pos e]
     ·
      rw [if_neg e]
      by_cases e' : m = k
      · subst e'; exact hw j hm
      · exact inv.closed j m hm (hold m hl e')
    ·
     rw [put_get_ne _ _ _ _ (by
      have := ht k (by rw [hgs, if_pos rfl])
      rwa [hdk] at this)]
     refine inv.old t fun j hj => ht j ?_
     rw [hgs]; split <;> first | rfl | exact hj
    ·
     by_cases e : j = k
     ·
      subst e
      rw [hdk] at hdj
      have htl := hdsz t hdj
      rw [if_pos rfl, hdj, put_get _ _ _ (by rw [inv.tsize]; exact htl)]
      simp only [got, hdj]
      rw [Array.getD_eq_getD_getElem?, put_get _ _ _ (by rw [hbs]; exact htl)]
      rfl
     ·
      rw [if_neg e, put_get_ne _ _ _ _ (fun e' => e (hdist j t (dst_lt hdj) hdj e'))]
      exact inv.new j t (hold j hj e) hdj
    ·
     by_cases e : j = k
     · subst e; exact hV
     ·
      have hjl := hold j hj e
      have hrj : reach ops ops.length j k = false := by
       cases h : reach ops ops.length j k with
       | false => rfl
       | true => rw [z14 inv.closed _ j k (fun m hm => inv.closed m j hm hjl) h] at h0f; cases h0f
      have hfj := hL j k hkl e hrj vals x x' (inv.fact j hjl) hR
      refine hLo.get j vals _ x' (by simp [upd, e]) (fun m hm => ?_) hfj
      have hmk : m ≠ k := fun e' => by
       have hjlt := listed_lt inv.size hjl
       have hw' := ((relOk_spec hB j ops[j] (List.getElem?_eq_getElem hjlt)).2.2.2.2.1 m (by simpa using hm)).1
       rw [e'] at hw'
       rw [inv.closed k j hw' hjl] at h0f; cases h0f
      simp [upd, hmk]
   unfold wpOp
   rw [hoA]
   dsimp only
   have hgv : ∀ g b, o.guard = some (g, b) → ∃ d, dstOf ops g = some d ∧ a'.tmps[d]? = some (vals g) := fun g b hgb => by
    obtain ⟨h1, d, h2⟩ := hg g b hgb
    exact ⟨d, h2, inv.new g d (hDl g h1) h2⟩
   have hyield : ∀ g b, o.guard = some (g, b) → (Region.wanted o (yielded ops.toArray a'.tmps) = true ↔ vals g = .bool b) := fun g b hgb => by
    obtain ⟨d, h1, h2⟩ := hgv g b hgb
    have hy : yielded ops.toArray a'.tmps g = match some (vals g) with | some (.bool b) => some b | _ => none := by
     unfold yielded
     rw [show (ops.toArray[g]?).bind (·.dst) = some d from by simpa [dstOf] using h1]
     simp only [Option.bind_some, h2]
     cases vals g <;> rfl
    unfold Region.wanted
    rw [hgb]
    simp only [hy]
    constructor
    ·
     intro h
     split at h
     ·
      rename_i b' he
      injection he with he
      rw [he]
      have : b' = b := by simpa using h
      rw [this]
     · cases h
    ·
     intro h
     rw [h]; simp
   have hskip : Region.wanted o (yielded ops.toArray a'.tmps) = false → wpAny P .any ops.toArray Q fuel (listed.setIfInBounds k true) (a'.put o.dst undef) x := fun hw0 => by
    cases hgd : o.guard with
    | none => unfold Region.wanted at hw0; rw [hgd] at hw0; cases hw0
    | some p =>
     obtain ⟨g, b⟩ := p
     have hne : vals g ≠ .bool b := fun e => by rw [(hyield g b hgd).2 e] at hw0; cases hw0
     obtain ⟨h1, h2⟩ := hob.2 g b hgd hne
     refine next undef x ⟨?_, hRr k x, h2⟩
     have : got o ((puts ops vals (D.getD k []) a).put o.dst undef) = undef := by
      unfold got
      cases hd : o.dst with
      | none => rfl
      | some d =>
       simp only
       rw [Array.getD_eq_getD_getElem?, put_get _ _ _ (by rw [hbs]; exact hdsz d hd)]
       rfl
     rw [this]; exact h1
   by_cases hwant : Region.wanted o (yielded ops.toArray a'.tmps) = true
   rotate_left
   ·
    rw [if_neg hwant]
    exact hskip (by simpa using hwant)
   rw [if_pos hwant]
   have hob := hob.1 fun g b hgd => (hyield g b hgd).1 hwant
   refine .inl ?_
   unfold Oper.wp at hob ⊢
   rw [hexec]
   generalize (execOp (puts ops vals (D.getD k []) a).eval o).run P x = r at hob ⊢
   cases r with
   | ok n w' =>
    cases n <;> simp only [Oper.upon] at hob ⊢
    case value v => exact next v w' hob.2
    case skip => exact next _ w' hob.2
    case defer d =>
     have := hob.1
     rw [put_defers] at this
     exact absurd (congrArg List.length this) (by simp)
    case enter f args =>
     refine Calls.mono hob fun e w'' he => ?_
     cases e with
     | returned u => exact next u w'' he.2
     | panicked c => exact he.elim
     | outgrown => obtain ⟨_, _, h⟩ := he; exact h.elim
    case row row args => exact Rows.mono hob fun u w'' he => next u w'' he.2
   | halt e w' =>
    cases e <;> simp only [Oper.upon] at hob ⊢ <;> exact hob.elim
def relOf (R0 : World → World → Prop) : List (Nat × (World → World → Prop)) → Nat → World → World → Prop
 | [], _ => R0
 | p :: l, k => fun x x' => (k = p.1 → p.2 x x') ∧ (k ≠ p.1 → relOf R0 l k x x')
def Refls : List (Nat × (World → World → Prop)) → Prop
 | [] => True
 | p :: l => (∀ x, p.2 x x) ∧ Refls l
theorem relOf_refl {R0 : World → World → Prop} (h0 : ∀ x, R0 x x) : ∀ {l : List (Nat × (World → World → Prop))}, Refls l → ∀ k x, relOf R0 l k x x
 | [], _, _, x => h0 x
 | _ :: _, h, k, x => ⟨fun _ => h.1 x, fun _ => relOf_refl h0 h.2 k x⟩
def StabS (ops : List Oper) (V : Say) (i : Nat) : List (Nat × (World → World → Prop)) → Prop
 | [] => True
 | p :: l => (reach ops ops.length i p.1 = true ∨ i = p.1 ∨ ∀ vs x x', V vs x → p.2 x x' → V vs x') ∧ StabS ops V i l
def Stabs3 (ops : List Oper) (R0 : World → World → Prop) (Rs : List (Nat × (World → World → Prop))) : Nat → List Say → Prop
 | _, [] => True
 | i, V :: l => ((isLast ops i = true ∨ ∀ vs x x', V vs x → R0 x x' → V vs x') ∧ StabS ops V i Rs) ∧ Stabs3 ops R0 Rs (i + 1) l
theorem relOf_stab {ops : List Oper} {R0 : World → World → Prop} {V : Say} {i k : Nat} (hik : i ≠ k) (hr : reach ops ops.length i k = false) (h0 : ∀ vs x x', V vs x → R0 x x' → V vs x') : ∀ {l : List (Nat × (World → World → Prop))}, StabS ops V i l → ∀ vs x x', V vs x → relOf R0 l k x x' → V vs x'
 | [], _, vs, x, x', hv, h => h0 vs x x' hv h
 | p :: l, hs, vs, x, x', hv, h => by
  by_cases e : k = p.1
  ·
   rcases hs.1 with h1 | h1 | h1
   · rw [e, h1] at hr; cases hr
   · exact absurd (h1.trans e.symm) hik
   · exact h1 vs x x' hv (h.1 e)
  · exact relOf_stab hik hr h0 hs.2 vs x x' hv (h.2 e)
theorem relOf_last {ops : List Oper} {R0 : World → World → Prop} {V : Say} {i k : Nat} (hik : i ≠ k) (hr : reach ops ops.length i k = false) (hk : k < ops.length) (hl : isLast ops i = true) : False := by
 unfold isLast at hl
 have h1 := List.all_eq_true.1 hl k (List.mem_range.2 hk)
 rw [Bool.or_eq_true, hr] at h1
 rcases h1 with h1 | h1
 · exact hik (by simpa using Eq.symm (by simpa using h1 : k = i))
 · cases h1
theorem Stabs3.get {ops : List Oper} {R0 : World → World → Prop} {Rs : List (Nat × (World → World → Prop))} {k : Nat} (hk : k < ops.length) : ∀ {L : List Say} {m : Nat}, Stabs3 ops R0 Rs m L → ∀ i, m + i ≠ k → reach ops ops.length (m + i) k = false → ∀ vs x x', L.getD i (fun _ _ => True) vs x → relOf R0 Rs k x x' → L.getD i (fun _ _ => True) vs x'
 | [], _, _, i, _, _, vs, x, x', _, _ => by simp
 | V :: l, m, h, 0, hik, hr, vs, x, x', hv, hR => by
  rcases h.1.1 with h1 | h1
  · exact (relOf_last (R0 := R0) (V := V) hik hr hk h1).elim
  · simpa using relOf_stab hik hr h1 h.1.2 vs x x' (by simpa using hv) hR
 | V :: l, m, h, i + 1, hik, hr, vs, x, x', hv, hR => by
  have e : m + (i + 1) = m + 1 + i := by omega
  rw [e] at hik hr
  simpa using Stabs3.get hk h.2 i hik hr vs x x' (by simpa using hv) hR
def sharesR3 (P : Program) (ops : List Oper) (R : Nat → World → World → Prop) (I : Nat → World → Prop) (L : List Say) (a : Act) (N : Nat) : Nat → List Oper → List (List (Nat × Tmp)) → Prop
 | _, [], _ => True
 | _, _ :: _, [] => False
 | k, o :: l, d :: ds => shareR2 P ops (R k) I L a N k o d ∧ sharesR3 P ops R I L a N (k + 1) l ds
theorem sharesR3_get {ops : List Oper} {R : Nat → World → World → Prop} {I : Nat → World → Prop} {L : List Say} {a : Act} {N : Nat} : ∀ {l : List Oper} {ds : List (List (Nat × Tmp))} {k : Nat}, sharesR3 P ops R I L a N k l ds →
  ∀ i o, l[i]? = some o → shareR2 P ops (R (k + i)) I L a N (k + i) o (ds.getD i [])
 | [], _, _, _, i, o, h => by simp at h
 | _ :: _, [], _, h, _, _, _ => h.elim
 | o' :: l, d :: ds, k, h, 0, o, ho => by
  simp only [List.getElem?_cons_zero, Option.some.injEq] at ho
  subst ho; exact h.1
 | o' :: l, d :: ds, k, h, i + 1, o, ho => by
  simp only [List.getElem?_cons_succ] at ho
  have := sharesR3_get h.2 i o ho
  rw [show k + (i + 1) = k + 1 + i by omega]
  simpa using this
theorem wp_region_rel3 {id : Nat} {ops : List Oper} {a : Act} {w : World} (D : List (List (Nat × Tmp))) (R0 : World → World → Prop) (Rs : List (Nat × (World → World → Prop))) (I : Nat → World → Prop) (L : List Say) (all : List (Nat × Tmp)) (hm : P.follows .mixedOrders = true)
  (hB : relOk ops (idxs D) a.tmps.size = true) (hD : D.all (fitsD ops) = true)
  (hall : (List.range ops.length).filterMap (fun i => (dstOf ops i).map fun t => (i, t)) = all)
  (hRr : ∀ x, R0 x x) (hRs : Refls Rs) (hL : Stabs3 ops R0 Rs 0 L) (hLo : Locals (idxs D) 0 L) (h0 : I 0 (w.drewN 1))
  (hs : sharesR3 P ops (relOf R0 Rs) I L a ops.length 0 ops D)
  (hfin : ∀ vals x n, n = ops.length → I n x → says L vals x (List.range ops.length) → Q .normal (putsD vals all a) x) : (Code.region id ops.toArray true).wp P Q a w := by
 refine wp_region_any hm ?_
 have z0 : ∀ j, (Array.replicate ops.toArray.size false).getD j false = false := fun j => getD_replicate_false _ _
 have hle : ∀ (f : Nat → Bool) (n : Nat), cnt f n ≤ n := fun f n => by
  induction n with
  | zero => exact Nat.le_refl _
  | succ n ih => simp only [cnt]; split <;> omega
 have hcnt : cnt (fun i => (Array.replicate ops.toArray.size false).getD i false) ops.length = ops.length := by
  have : ∀ n, cnt (fun i => (Array.replicate ops.toArray.size false).getD i false) n = n := fun n => by
   induction n with
   | zero => rfl
   | succ n ih => simp only [cnt, z0] at ih ⊢; rw [ih]; rfl
  exact this _
 have hrel := rel3_any (P := P) (Q := Q) (ops := ops) (a := a) (D := idxs D) (R := relOf R0 Rs) (I := I) (L := L) (relOf_refl hRr hRs) (fun j k hk hjk hr vs x x' => Stabs3.get hk hL j (by rw [Nat.zero_add]; exact hjk) (by rw [Nat.zero_add]; exact hr) vs x x') hLo hB
 refine hrel (fun k o hk => ?_) (fun vals x n hn hI hf => ?_) _ _ _ _ (fun _ => undef) (Nat.le_trans (hle _ _) (by simp)) ?_
 rotate_left
 · rw [puts_all, hall]; exact hfin vals x n hn hI hf
 · exact ⟨by simp, fun j k _ hl => (by rw [z0] at hl; cases hl), rfl, rfl, fun _ _ => rfl, fun j t hj => (by rw [z0] at hj; cases hj), ⟨0, by rw [hcnt, Nat.zero_add], h0⟩, fun j hj => (by rw [z0] at hj; cases hj)⟩
 ·
  have hsh := sharesR3_get hs k o hk
  rw [Nat.zero_add] at hsh
  have hfit : fitsD ops (D.getD k []) = true := by
   rcases Nat.lt_or_ge k D.length with h | h
   · rw [show D.getD k [] = D[k] by simp [h]]; exact List.all_eq_true.1 hD _ (List.getElem_mem h)
   · rw [show D.getD k [] = [] by simp [h]]; rfl
  have hDk : (idxs D).getD k [] = (D.getD k []).map (·.1) := by
   unfold idxs
   rcases Nat.lt_or_ge k D.length with h | h
   · simp [h]
   · simp [h]
  intro vals x n hn hl hI hf
  rw [hDk, says_saysD] at hf
  have h := hsh vals x n hn hl hI hf
  rw [hDk, puts_putsD hfit]
  have hun : wpList P #[] (relQ (relOf R0 Rs k) I L vals n k o (putsD vals (D.getD k []) a) x) [bare o] (putsD vals (D.getD k []) a) x → o.wp P (putsD vals (D.getD k []) a) x (relQ (relOf R0 Rs k) I L vals n k o (putsD vals (D.getD k []) a) x .normal) (relQ (relOf R0 Rs k) I L vals n k o (putsD vals (D.getD k []) a) x) := fun h => by
   rcases wpList_bare h with h | ⟨_, _, h⟩
   · exact h
   · exact h.elim
  generalize o.guard = gd at h ⊢
  cases gd with
  | none => exact ⟨fun _ => hun h, fun g b e => by cases e⟩
  | some p =>
   obtain ⟨g, b⟩ := p
   exact ⟨fun e => hun (h.1 (e g b rfl)), fun g' b' e hne => by injection e with e; injection e with e1 e2; subst e1; subst e2; exact h.2 hne⟩
end Go.Proofs.YtjghcaghigebjaaGreatDoor
namespace Go.Proofs.YtjghcaghigebjaaGreatDoor
open Go Go.RowKit
variable {P : Program} {Q : Exit → Act → World → Prop}
def did (f : Nat → Bool) (k : Nat) : Nat → Bool := fun j => if j = k then true else f j
theorem z10 (f : Nat → Bool) (k : Nat) : did f k k = true := if_pos rfl
theorem did_ne {f : Nat → Bool} {k j : Nat} (h : Nat.beq j k = false) : did f k j = f j := if_neg (Nat.ne_of_beq_eq_false h)
def relQ4 (R : World → World → Prop) (I : (Nat → Bool) → World → Prop) (L : List Say) (vals : Nat → Value) (f : Nat → Bool) (k : Nat) (o : Oper) (a : Act) (x : World) : Exit → Act → World → Prop
 | .normal, a', x' => a'.defers = a.defers ∧ L.getD k (fun _ _ => True) (upd vals k (got o a')) x' ∧ R x x' ∧ I (did f k) x'
 | _, _, _ => False
def obligR4 (P : Program) (ops : List Oper) (D : List (List Nat)) (R : World → World → Prop) (I : (Nat → Bool) → World → Prop) (L : List Say) (a : Act) (k : Nat) (o : Oper) : Prop :=
 ∀ (vals : Nat → Value) (x : World) (f : Nat → Bool), f k = false → (∀ j, reach ops ops.length k j = true → f j = true) → (∀ j, reach ops ops.length j k = true → f j = false) → I f x → says L vals x (D.getD k []) →
  ((∀ g b, o.guard = some (g, b) → vals g = .bool b) → o.wp P (puts ops vals (D.getD k []) a) x (relQ4 R I L vals f k o (puts ops vals (D.getD k []) a) x .normal) (relQ4 R I L vals f k o (puts ops vals (D.getD k []) a) x)) ∧
  (∀ g b, o.guard = some (g, b) → vals g ≠ .bool b → L.getD k (fun _ _ => True) (upd vals k undef) x ∧ I (did f k) x)
structure RelInv4 (ops : List Oper) (I : (Nat → Bool) → World → Prop) (L : List Say) (a : Act) (listed : Array Bool) (a' : Act) (x : World) (vals : Nat → Value) : Prop where
 size : listed.size = ops.length
 closed : ∀ j k, waits ops k j = true → listed.getD k false = true → listed.getD j false = true
 tsize : a'.tmps.size = a.tmps.size
 defers : a'.defers = a.defers
 old : ∀ t, (∀ j, listed.getD j false = true → dstOf ops j ≠ some t) → a'.tmps[t]? = a.tmps[t]?
 new : ∀ j t, listed.getD j false = true → dstOf ops j = some t → a'.tmps[t]? = some (vals j)
 inv : I (fun i => listed.getD i false) x
 fact : ∀ j, listed.getD j false = true → L.getD j (fun _ _ => True) vals x
def owes4 (P : Program) (R : World → World → Prop) (I : (Nat → Bool) → World → Prop) (L : List Say) (vals : Nat → Value) (a : Act) (x : World) (f : Nat → Bool) (k : Nat) (o : Oper) (gd : Option (Nat × Bool)) : Prop :=
 match gd with
 | none => wpList P #[] (relQ4 R I L vals f k o a x) [bare o] a x
 | some (g, b) => (vals g = .bool b → wpList P #[] (relQ4 R I L vals f k o a x) [bare o] a x) ∧ (vals g ≠ .bool b → L.getD k (fun _ _ => True) (upd vals k undef) x ∧ I (did f k) x)
def relOk4 (ops : List Oper) (D : List (List Nat)) (size : Nat) : Bool :=
 (List.range ops.length).all fun k =>
  (match ops[k]? with
   | some o => (match o.guard with | none => true | some (g, _) => (D.getD k []).contains g && (dstOf ops g).isSome) && (match o.op with | .select .. => false | _ => true) && (o.after.all fun e => !Region.binds .any e || decide (e.on < k)) && (match o.dst with | some d => decide (d < size) | none => true)
   | none => false) &&
  ((D.getD k []).all fun j => waits ops k j && decide (j < ops.length)) &&
  (decide ((D.getD k []).Nodup)) &&
  (List.range ops.length).all fun j =>
   (!looks ops k j || (D.getD k []).contains j || reach ops ops.length j k) &&
   (decide (j = k) || (match dstOf ops j, dstOf ops k with | some d, some e => d != e | _, _ => true))
theorem relOk4_spec {ops : List Oper} {D : List (List Nat)} {size : Nat} (h : relOk4 ops D size = true) (k : Nat) (o : Oper) (hk : ops[k]? = some o) :
  (∀ g b, o.guard = some (g, b) → g ∈ D.getD k [] ∧ ∃ d, dstOf ops g = some d) ∧ (∀ cs b, o.op ≠ .select cs b) ∧ (∀ e ∈ o.after, Region.binds .any e = true → e.on < k) ∧ (∀ d, o.dst = some d → d < size) ∧
  (∀ j ∈ D.getD k [], waits ops k j = true ∧ j < ops.length) ∧ (∀ j, j < ops.length → looks ops k j = true → j ∈ D.getD k [] ∨ reach ops ops.length j k = true) ∧
  (∀ j d, j < ops.length → dstOf ops j = some d → o.dst = some d → j = k) := by
 have hlt : k < ops.length := (List.getElem?_eq_some_iff.1 hk).1
 unfold relOk4 at h
 have h := List.all_eq_true.1 h k (List.mem_range.2 hlt)
 have hdk : dstOf ops k = o.dst := by simp [dstOf, hk]
 simp only [hk, Bool.and_eq_true, hdk] at h
 obtain ⟨⟨⟨⟨⟨⟨h1, h2⟩, h3⟩, h4⟩, h5⟩, _⟩, h6⟩ := h
 have h6 : ∀ j, j < ops.length → _ := fun j hj => List.all_eq_true.1 h6 j (List.mem_range.2 hj)
 refine ⟨fun g b hg => ?_, fun cs b e => (by rw [e] at h2; cases h2), fun e he hb => ?_, fun d hd => by rw [hd] at h4; simpa using h4, fun j hj => ?_, fun j hj hl => ?_, fun j d hj hd hd' => ?_⟩
 ·
  rw [hg] at h1
  simp only [Bool.and_eq_true, List.contains_iff_mem] at h1
  exact ⟨h1.1, Option.isSome_iff_exists.1 h1.2⟩
 ·
  have := (Array.all_eq_true_iff_forall_mem.1 h3) e he
  simpa [hb] using this
 ·
  have := List.all_eq_true.1 h5 j hj
  simpa using this
 ·
  have := h6 j hj
  simp only [Bool.and_eq_true, hl] at this
  simpa using this.1
 ·
  have := h6 j hj
  simp only [Bool.and_eq_true, hd, hd'] at this
  simpa using this.2
theorem rel4_any {ops : List Oper} {D : List (List Nat)} {R : Nat → World → World → Prop} {I : (Nat → Bool) → World → Prop} {L : List Say} {a : Act} (hRr : ∀ k x, R k x x) (hL : ∀ j k, k < ops.length → j ≠ k → reach ops ops.length j k = false → ∀ vs x x', L.getD j (fun _ _ => True) vs x → R k x x' → L.getD j (fun _ _ => True) vs x') (hLo : Locals D 0 L) (hB : relOk4 ops D a.tmps.size = true)
  (hs : ∀ k o, ops[k]? = some o → obligR4 P ops D (R k) I L a k o)
  (hfin : ∀ vals x f, (∀ i, i < ops.length → f i = true) → I f x → says L vals x (List.range ops.length) → Q .normal (puts ops vals (List.range ops.length) a) x) :
  ∀ (fuel : Nat) (listed : Array Bool) (a' : Act) (x : World) (vals : Nat → Value), cnt (fun i => listed.getD i false) ops.length ≤ fuel →
   RelInv4 ops I L a listed a' x vals → wpAny P .any ops.toArray Q fuel listed a' x := by
 have hdd : ∀ i j t, dstOf ops i = some t → dstOf ops j = some t → i = j := fun i j t hi hj => by
  have hjl : j < ops.length := dst_lt hj
  have ho : ops[j]? = some ops[j] := List.getElem?_eq_getElem hjl
  exact (relOk4_spec hB j _ ho).2.2.2.2.2.2 i t (dst_lt hi) hi (by simpa [dstOf, ho] using hj)
 have hds : ∀ j t, dstOf ops j = some t → t < a.tmps.size := fun j t hj => by
  have hjl : j < ops.length := dst_lt hj
  have ho : ops[j]? = some ops[j] := List.getElem?_eq_getElem hjl
  exact (relOk4_spec hB j _ ho).2.2.2.1 t (by simpa [dstOf, ho] using hj)
 have hdone : ∀ (listed : Array Bool) (a' : Act) (x : World) (vals : Nat → Value), (∀ i, i < ops.length → listed.getD i false = true) → RelInv4 ops I L a listed a' x vals → Q .normal a' x := by
  intro listed a' x vals hall inv
  have ha : a' = puts ops vals (List.range ops.length) a := by
   have ht : a'.tmps = (puts ops vals (List.range ops.length) a).tmps := by
    apply Array.ext_getElem?
    intro t
    by_cases h : ∃ j, dstOf ops j = some t
    ·
     obtain ⟨j, hj⟩ := h
     rw [inv.new j t (hall j (dst_lt hj)) hj, puts_get (fun i j => hdd i j t) _ _ j (List.mem_range.2 (dst_lt hj)) hj (hds j t hj)]
    · rw [inv.old t (fun j _ e => h ⟨j, e⟩), puts_ne _ _ (fun i _ e => h ⟨i, e⟩)]
   have hdf : a'.defers = (puts ops vals (List.range ops.length) a).defers := by rw [puts_defers]; exact inv.defers
   cases a'
   cases hp : puts ops vals (List.range ops.length) a
   rw [hp] at ht hdf
   simp only at ht hdf
   rw [ht, hdf]
  rw [ha]
  exact hfin vals x _ hall inv.inv (says_iff.2 fun i hi => inv.fact i (hall i (List.mem_range.1 hi)))
 have hmin : ∀ (listed : Array Bool), listed.size = ops.length → ∀ i, i < ops.length → listed.getD i false = false → Region.ready .any ops.toArray listed ≠ [] := by
  intro listed hsz i
  induction i using Nat.strongRecOn with
  | _ i ih =>
   intro hi hun hr
   have ho : ops[i]? = some ops[i] := List.getElem?_eq_getElem hi
   by_cases h : ∀ e ∈ ops[i].after, Region.binds .any e = true → listed.getD e.on false = true
   ·
    have : i ∈ Region.ready .any ops.toArray listed := mem_ready.2 ⟨getD_in (by omega) hun, ops[i], by simp [ho], h⟩
    rw [hr] at this; cases this
   ·
    simp only [Classical.not_forall] at h
    obtain ⟨e, he, hb, hl⟩ := h
    have hlt := (relOk4_spec hB i _ ho).2.2.1 e he hb
    exact ih e.on hlt (by omega) (by simpa using hl) hr
 intro fuel
 induction fuel with
 | zero =>
  intro listed a' x vals hc inv
  have hall := cnt_zero (f := fun i => listed.getD i false) (Nat.le_zero.1 hc)
  refine ⟨?_, hdone _ _ _ _ hall inv⟩
  cases hr : Region.ready .any ops.toArray listed with
  | nil => rfl
  | cons k rs =>
   exfalso
   have hk : k ∈ Region.ready .any ops.toArray listed := by rw [hr]; simp
   obtain ⟨h0, o, ho, _⟩ := mem_ready.1 hk
   have hlt : k < ops.length := by
    have := (Array.getElem?_eq_some_iff.1 ho).1; simpa using this
   have h1 : listed.getD k false = true := hall k hlt
   rw [getD_both h0] at h1; cases h1
 | succ fuel ih =>
  intro listed a' x vals hc inv
  refine ⟨fun hr => ?_, fun k hk => ?_⟩
  ·
   refine hdone _ _ _ _ (fun i hi => ?_) inv
   cases h : listed.getD i false with
   | true => rfl
   | false => exact absurd hr (hmin listed inv.size i hi h)
  ·
   obtain ⟨h0, o, hoA, hwait⟩ := mem_ready.1 hk
   have ho : ops[k]? = some o := by simpa using hoA
   have hkl : k < ops.length := (List.getElem?_eq_some_iff.1 ho).1
   have h0f : listed.getD k false = false := getD_both h0
   have hsz : k < listed.size := by rw [inv.size]; exact hkl
   obtain ⟨hg, hsel, _, hdsz, hD, hlook, hdist⟩ := relOk4_spec hB k o ho
   have hw : ∀ m, waits ops k m = true → listed.getD m false = true := fun m hm => by
    obtain ⟨o', ho', e, he, hb, rfl⟩ := waits_spec.1 hm
    have : o' = o := Option.some.inj (ho'.symm.trans ho)
    subst this
    exact hwait e he hb
   have hDl : ∀ j ∈ D.getD k [], listed.getD j false = true := fun j hj => hw j (hD j hj).1
   have hdk : dstOf ops k = o.dst := by simp [dstOf, ho]
   -- the operation runs as it does in the small state
   have hexec : execOp a'.eval o = execOp (puts ops vals (D.getD k []) a).eval o := execOp_congr o hsel fun y hy => by
    cases y with
    | tmp t =>
     have ht : a'.tmps[t]? = (puts ops vals (D.getD k []) a).tmps[t]? := by
      by_cases h : ∃ j, dstOf ops j = some t
      ·
       obtain ⟨j, hj⟩ := h
       rcases hlook j (dst_lt hj) (looks_spec ho hj hy) with hm | hm
       · rw [inv.new j t (hDl j hm) hj, puts_get (fun i j => hdd i j t) _ _ j hm hj (hds j t hj)]
       ·
        have hjf : listed.getD j false = true → False := fun hjl => by
         have := z14 inv.closed _ j k (fun m hm => inv.closed m j hm hjl) hm
         rw [this] at h0f; cases h0f
        rw [inv.old t (fun i hi e => by have := hdd i j t e hj; subst this; exact hjf hi), puts_ne _ _ (fun i hi e => by have := hdd i j t e hj; subst this; exact hjf (hDl i hi))]
      · rw [inv.old t (fun j _ e => h ⟨j, e⟩), puts_ne _ _ (fun i _ e => h ⟨i, e⟩)]
     show a'.tmps.getD t undef = (puts ops vals (D.getD k []) a).tmps.getD t undef
     rw [Array.getD_eq_getD_getElem?, Array.getD_eq_getD_getElem?, ht]
    | _ => rfl
   have hcs := (cnt_set (f := fun i => listed.getD i false) (g := fun i => (listed.setIfInBounds k true).getD i false) h0f (getD_set (listed := listed) hsz) (n := ops.length)).2 hkl
   have hob := hs k o ho vals x (fun i => listed.getD i false) h0f (fun r h => z14 inv.closed _ k r (fun m hm => hw m hm) h) (fun r hr => by
    cases h : listed.getD r false with
    | false => rfl
    | true => exact absurd ((z14 inv.closed _ r k (fun m hm => inv.closed m r hm h) hr).symm.trans h0f) (by simp)) inv.inv (says_iff.2 fun j hj => inv.fact j (hDl j hj))
   have hbs : (puts ops vals (D.getD k []) a).tmps.size = a.tmps.size := puts_size _ _
   have hbd : (puts ops vals (D.getD k []) a).defers = a.defers := puts_defers _ _
   have next : ∀ v x', (L.getD k (fun _ _ => True) (upd vals k (got o ((puts ops vals (D.getD k []) a).put o.dst v))) x' ∧ R k x x' ∧ I (did (fun i => listed.getD i false) k) x') →
     wpAny P .any ops.toArray Q fuel (listed.setIfInBounds k true) (a'.put o.dst v) x' := by
    intro v x' hq
    obtain ⟨hV, hR, hI'⟩ := hq
    have hgs := getD_set (listed := listed) hsz
    have hold : ∀ j, (listed.setIfInBounds k true).getD j false = true → j ≠ k → listed.getD j false = true := fun j hj hne => by
     rw [hgs, if_neg hne] at hj; exact hj
    refine ih _ _ x' (fun j => if j = k then got o ((puts ops vals (D.getD k []) a).put o.dst v) else vals j) ?_ ⟨by simp [inv.size], fun j m hm hl => ?_, by rw [put_size]; exact inv.tsize, by rw [put_defers]; exact inv.defers, fun t ht => ?_, fun j t hj hdj => ?_, by rw [show (fun i => (listed.setIfInBounds k true).getD i false) = fun j => if j = k then true else listed.getD j false from funext hgs]; exact hI', fun j hj => ?_⟩
    · omega
    ·
     rw [hgs]
     by_cases e : j = k
     · rw [if_pos e]
     ·
      rw [if_neg e]
      by_cases e' : m = k
      · subst e'; exact hw j hm
      · exact inv.closed j m hm (hold m hl e')
    ·
     rw [put_get_ne _ _ _ _ (by
      have := ht k (by rw [hgs, if_pos rfl])
      rwa [hdk] at this)]
     refine inv.old t fun j hj => ht j ?_
     rw [hgs]; split <;> first | rfl | exact hj
    ·
     by_cases e : j = k
     ·
      subst e
      rw [hdk] at hdj
      have htl := hdsz t hdj
      rw [if_pos rfl, hdj, put_get _ _ _ (by rw [inv.tsize]; exact htl)]
      simp only [got, hdj]
      rw [Array.getD_eq_getD_getElem?, put_get _ _ _ (by rw [hbs]; exact htl)]
      rfl
     ·
      rw [if_neg e, put_get_ne _ _ _ _ (fun e' => e (hdist j t (dst_lt hdj) hdj e'))]
      exact inv.new j t (hold j hj e) hdj
    ·
     by_cases e : j = k
     · subst e; exact hV
     ·
      have hjl := hold j hj e
      have hrj : reach ops ops.length j k = false := by
       cases h : reach ops ops.length j k with
       | false => rfl
       | true => rw [z14 inv.closed _ j k (fun m hm => inv.closed m j hm hjl) h] at h0f; cases h0f
      have hfj := hL j k hkl e hrj vals x x' (inv.fact j hjl) hR
      refine hLo.get j vals _ x' (by simp [upd, e]) (fun m hm => ?_) hfj
      have hmk : m ≠ k := fun e' => by
       have hjlt := listed_lt inv.size hjl
       have hw' := ((relOk4_spec hB j ops[j] (List.getElem?_eq_getElem hjlt)).2.2.2.2.1 m (by simpa using hm)).1
       rw [e'] at hw'
       rw [inv.closed k j hw' hjl] at h0f; cases h0f
      simp [upd, hmk]
   unfold wpOp
   rw [hoA]
   dsimp only
   have hgv : ∀ g b, o.guard = some (g, b) → ∃ d, dstOf ops g = some d ∧ a'.tmps[d]? = some (vals g) := fun g b hgb => by
    obtain ⟨h1, d, h2⟩ := hg g b hgb
    exact ⟨d, h2, inv.new g d (hDl g h1) h2⟩
   have hyield : ∀ g b, o.guard = some (g, b) → (Region.wanted o (yielded ops.toArray a'.tmps) = true ↔ vals g = .bool b) := fun g b hgb => by
    obtain ⟨d, h1, h2⟩ := hgv g b hgb
    have hy : yielded ops.toArray a'.tmps g = match some (vals g) with | some (.bool b) => some b | _ => none := by
     unfold yielded
     rw [show (ops.toArray[g]?).bind (·.dst) = some d from by simpa [dstOf] using h1]
     simp only [Option.bind_some, h2]
     cases vals g <;> rfl
    unfold Region.wanted
    rw [hgb]
    simp only [hy]
    constructor
    ·
     intro h
     split at h
     ·
      rename_i b' he
      injection he with he
      rw [he]
      have : b' = b := by simpa using h
      rw [this]
     · cases h
    ·
     intro h
     rw [h]; simp
   have hskip : Region.wanted o (yielded ops.toArray a'.tmps) = false → wpAny P .any ops.toArray Q fuel (listed.setIfInBounds k true) (a'.put o.dst undef) x := fun hw0 => by
    cases hgd : o.guard with
    | none => unfold Region.wanted at hw0; rw [hgd] at hw0; cases hw0
    | some p =>
     obtain ⟨g, b⟩ := p
     have hne : vals g ≠ .bool b := fun e => by rw [(hyield g b hgd).2 e] at hw0; cases hw0
     obtain ⟨h1, h2⟩ := hob.2 g b hgd hne
     refine next undef x ⟨?_, hRr k x, h2⟩
     have : got o ((puts ops vals (D.getD k []) a).put o.dst undef) = undef := by
      unfold got
      cases hd : o.dst with
      | none => rfl
      | some d =>
       simp only
       rw [Array.getD_eq_getD_getElem?, put_get _ _ _ (by rw [hbs]; exact hdsz d hd)]
       rfl
     rw [this]; exact h1
   by_cases hwant : Region.wanted o (yielded ops.toArray a'.tmps) = true
   rotate_left
   ·
    rw [if_neg hwant]
    exact hskip (by simpa using hwant)
   rw [if_pos hwant]
   have hob := hob.1 fun g b hgd => (hyield g b hgd).1 hwant
   refine .inl ?_
   unfold Oper.wp at hob ⊢
   rw [hexec]
   generalize (execOp (puts ops vals (D.getD k []) a).eval o).run P x = r at hob ⊢
   cases r with
   | ok n w' =>
    cases n <;> simp only [Oper.upon] at hob ⊢
    case value v => exact next v w' hob.2
    case skip => exact next _ w' hob.2
    case defer d =>
     have := hob.1
     rw [put_defers] at this
     exact absurd (congrArg List.length this) (by simp)
    case enter f args =>
     refine Calls.mono hob fun e w'' he => ?_
     cases e with
     | returned u => exact next u w'' he.2
     | panicked c => exact he.elim
     | outgrown => obtain ⟨_, _, h⟩ := he; exact h.elim
    case row row args => exact Rows.mono hob fun u w'' he => next u w'' he.2
   | halt e w' =>
    cases e <;> simp only [Oper.upon] at hob ⊢ <;> exact hob.elim
def shareR4 (P : Program) (ops : List Oper) (R : World → World → Prop) (I : (Nat → Bool) → World → Prop) (L : List Say) (a : Act) (k : Nat) (o : Oper) (d : List (Nat × Tmp)) : Prop :=
 ∀ (vals : Nat → Value) (x : World) (f : Nat → Bool), f k = false → (∀ j, reach ops ops.length k j = true → f j = true) → (∀ j, reach ops ops.length j k = true → f j = false) → I f x → saysD L vals x d →
  owes4 P R I L vals (putsD vals d a) x f k o o.guard
def sharesR4 (P : Program) (ops : List Oper) (R : Nat → World → World → Prop) (I : (Nat → Bool) → World → Prop) (L : List Say) (a : Act) : Nat → List Oper → List (List (Nat × Tmp)) → Prop
 | _, [], _ => True
 | _, _ :: _, [] => False
 | k, o :: l, d :: ds => shareR4 P ops (R k) I L a k o d ∧ sharesR4 P ops R I L a (k + 1) l ds
theorem sharesR4_get {ops : List Oper} {R : Nat → World → World → Prop} {I : (Nat → Bool) → World → Prop} {L : List Say} {a : Act} : ∀ {l : List Oper} {ds : List (List (Nat × Tmp))} {k : Nat}, sharesR4 P ops R I L a k l ds →
  ∀ i o, l[i]? = some o → shareR4 P ops (R (k + i)) I L a (k + i) o (ds.getD i [])
 | [], _, _, _, i, o, h => by simp at h
 | _ :: _, [], _, h, _, _, _ => h.elim
 | o' :: l, d :: ds, k, h, 0, o, ho => by
  simp only [List.getElem?_cons_zero, Option.some.injEq] at ho
  subst ho; exact h.1
 | o' :: l, d :: ds, k, h, i + 1, o, ho => by
  simp only [List.getElem?_cons_succ] at ho
  have := sharesR4_get h.2 i o ho
  rw [show k + (i + 1) = k + 1 + i by omega]
  simpa using this
theorem z05 {id : Nat} {ops : List Oper} {a : Act} {w : World} (D : List (List (Nat × Tmp))) (R0 : World → World → Prop) (Rs : List (Nat × (World → World → Prop))) (I : (Nat → Bool) → World → Prop) (L : List Say) (all : List (Nat × Tmp)) (hm : P.follows .mixedOrders = true)
  (hB : relOk4 ops (idxs D) a.tmps.size = true) (hD : D.all (fitsD ops) = true)
  (hall : (List.range ops.length).filterMap (fun i => (dstOf ops i).map fun t => (i, t)) = all)
  (hRr : ∀ x, R0 x x) (hRs : Refls Rs) (hL : Stabs3 ops R0 Rs 0 L) (hLo : Locals (idxs D) 0 L) (h0 : I (fun _ => false) (w.drewN 1))
  (hs : sharesR4 P ops (relOf R0 Rs) I L a 0 ops D)
  (hfin : ∀ vals x f, (∀ i, i < ops.length → f i = true) → I f x → says L vals x (List.range ops.length) → Q .normal (putsD vals all a) x) : (Code.region id ops.toArray true).wp P Q a w := by
 refine wp_region_any hm ?_
 have z0 : ∀ j, (Array.replicate ops.toArray.size false).getD j false = false := fun j => getD_replicate_false _ _
 have hle : ∀ (f : Nat → Bool) (n : Nat), cnt f n ≤ n := fun f n => by
  induction n with
  | zero => exact Nat.le_refl _
  | succ n ih => simp only [cnt]; split <;> omega
 have hrel := rel4_any (P := P) (Q := Q) (ops := ops) (a := a) (D := idxs D) (R := relOf R0 Rs) (I := I) (L := L) (relOf_refl hRr hRs) (fun j k hk hjk hr vs x x' => Stabs3.get hk hL j (by rw [Nat.zero_add]; exact hjk) (by rw [Nat.zero_add]; exact hr) vs x x') hLo hB
 refine hrel (fun k o hk => ?_) (fun vals x f hn hI hf => ?_) _ _ _ _ (fun _ => undef) (Nat.le_trans (hle _ _) (by simp)) ?_
 rotate_left
 · rw [puts_all, hall]; exact hfin vals x f hn hI hf
 · exact ⟨by simp, fun j k _ hl => (by rw [z0] at hl; cases hl), rfl, rfl, fun _ _ => rfl, fun j t hj => (by rw [z0] at hj; cases hj), by rw [show (fun i => (Array.replicate ops.toArray.size false).getD i false) = fun _ => false from funext z0]; exact h0, fun j hj => (by rw [z0] at hj; cases hj)⟩
 ·
  have hsh := sharesR4_get hs k o hk
  rw [Nat.zero_add] at hsh
  have hfit : fitsD ops (D.getD k []) = true := by
   rcases Nat.lt_or_ge k D.length with h | h
   · rw [show D.getD k [] = D[k] by simp [h]]; exact List.all_eq_true.1 hD _ (List.getElem_mem h)
   · rw [show D.getD k [] = [] by simp [h]]; rfl
  have hDk : (idxs D).getD k [] = (D.getD k []).map (·.1) := by
   unfold idxs
   rcases Nat.lt_or_ge k D.length with h | h
   · simp [h]
   · simp [h]
  intro vals x f hn hl hl2 hI hf
  rw [hDk, says_saysD] at hf
  have h := hsh vals x f hn hl hl2 hI hf
  rw [hDk, puts_putsD hfit]
  have hun : wpList P #[] (relQ4 (relOf R0 Rs k) I L vals f k o (putsD vals (D.getD k []) a) x) [bare o] (putsD vals (D.getD k []) a) x → o.wp P (putsD vals (D.getD k []) a) x (relQ4 (relOf R0 Rs k) I L vals f k o (putsD vals (D.getD k []) a) x .normal) (relQ4 (relOf R0 Rs k) I L vals f k o (putsD vals (D.getD k []) a) x) := fun h => by
   rcases wpList_bare h with h | ⟨_, _, h⟩
   · exact h
   · exact h.elim
  generalize o.guard = gd at h ⊢
  cases gd with
  | none => exact ⟨fun _ => hun h, fun g b e => by cases e⟩
  | some p =>
   obtain ⟨g, b⟩ := p
   exact ⟨fun e => hun (h.1 (e g b rfl)), fun g' b' e hne => by injection e with e; injection e with e1 e2; subst e1; subst e2; exact h.2 hne⟩
end Go.Proofs.YtjghcaghigebjaaGreatDoor
namespace Go.Proofs.YtjghcaghigebjaaGreatDoor
open Go Go.RowKit
theorem wpList_append_sig2 {Q : Exit → Act → World → Prop} {ops : Array Oper} {rest : List Oper} {o : Oper} {a : Act} {w : World} {lo : Nat} {A : Option Addr} {c : Nat} {xs ys : List Int} {x : Int} {b : Nat} {t : TypeId} {fr : Nat × Nat} (hgd : o.guard = none) (s y : Operand)
  (ho : o.op = .call { callee := .builtin .append, args := #[s, y], argTypes := #[77, 77] }) (hs : a.eval s = .slice A xs.length c) (hy : a.eval y = .slice (some ⟨b, 0, none⟩) 1 1)
  (hown : OwnSg w lo (.slice A xs.length c) xs) (hb : w.heap[b]? = some (.cells #[.int .i64 x] t fr)) (hn : xs.length ≤ 1048576) (hlo : lo ≤ w.heap.size) (hys : ys = xs ++ [x])
  (h : ∀ A' c' w', OwnSg w' lo (.slice A' ys.length c') ys → w.grownBy w' (Value.slice A xs.length c).ownBlock → wpList Tryz.prog ops Q rest (a.put o.dst (.slice A' ys.length c')) w') : wpList Tryz.prog ops Q (o :: rest) a w := by
 obtain ⟨i0, hi0, hz0, hz1, hz2⟩ := info_parts signal_info
 have hl : ys.length = xs.length + 1 := by rw [hys]; simp
 have hc : ys.map (Value.int .i64) = xs.map (Value.int .i64) ++ [.int .i64 x] := by rw [hys]; simp
 refine wpList_append_src (P := Tryz.prog) w hgd s y 77 ho lo 123 i0 _ 1 8 Tryz.underlying77 hi0 hz0 hz1 hz2 (by rfl) (by omega) _ xs.length (xs.map (Value.int .i64)) hs hown (some ⟨b, 0, none⟩) 1 1 [.int .i64 x] hy (src_block hb rfl) (by intro u hu; simp at hu; subst hu; rfl) ys.length hl.symm (by unfold maxLen; omega) (by omega) hlo (by simp) ?_
 intro A' c' w' h2 _ h3
 exact h A' c' w' (by unfold OwnSg; rw [hc]; exact h2) h3
theorem OwnSg.grown {x x' : World} {base c : Nat} {A : Option Addr} {l : List Int} (h : OwnSg x base (.slice A l.length c) l) (hg : x.grownBy x' (Value.slice A l.length c).ownBlock) (hb : base ≤ x.heap.size) {lo : Nat} (hl : lo ≤ base) : BelS lo x x' ∧ Below base x x' := by
 have hB : Below base x x' := (Below.refl base x).grown hg hb fun g hg' => (h.lt g hg').1
 have hk : ∀ (i : Nat) (o : Obj), x.heap[i]? = some o → (CK o ∨ BK o) → x'.heap[i]? = some o := fun i o hi hc => by
  refine (hg.block i (Array.getElem?_eq_some_iff.1 hi).1 fun e => ?_).trans hi
  rcases h.2 with ⟨e', _⟩ | ⟨g, cap, cur, e', _, hgg, _⟩
  · rw [e'] at e; cases e
  ·
   rw [e'] at e
   injection e with e
   subst e
   rw [hi] at hgg
   injection hgg with hgg
   subst hgg
   rcases hc with hc | hc
   · exact sig_nck.1 hc
   · exact sig_nck.2 hc
 exact ⟨⟨hB.mono hl, fun i o hi hc => hk i o hi (.inl hc), fun i o hi hc => hk i o hi (.inr hc)⟩, hB⟩
theorem BelB.then {lo : Nat} {W x x' : World} (h : BelB lo W x) (hb : Below W.heap.size x x') (hl : lo ≤ W.heap.size) : BelB lo W x' :=
 ⟨h.bel.trans (hb.mono hl), fun i o hi hc hk => (hb.block i (Array.getElem?_eq_some_iff.1 hi).1).trans (h.kd i o hi hc hk)⟩
def EachI (a0 a1 : Addr) (lo : Nat) (W : World) (q r : Nat) (s s' : BS) (A : Option Addr) (c : Nat) (l : List Int) (called done : Bool) (x : World) : Prop :=
 BelB lo W x ∧ Bd a0 a1 lo x q r (if called = true then s' else s) ∧ (done = false → OwnSg x W.heap.size (.slice A l.length c) l)
theorem EachI.up {a0 a1 : Addr} {lo : Nat} {W : World} {q r : Nat} {s s' : BS} {A : Option Addr} {c : Nat} {l : List Int} {called done : Bool} {x x' : World} (h : EachI a0 a1 lo W q r s s' A c l called done x) (hb : Below x.heap.size x x') : EachI a0 a1 lo W q r s s' A c l called done x' :=
 ⟨h.1.trans (.of hb h.2.1.size), h.2.1.up hb, fun hd => z07 (h.2.2 hd) hb (Nat.le_refl _)⟩
def RetL (a0 a1 : Addr) (lo : Nat) (w : World) (q r : Nat) (res : BS × List Int) (e : Ending) (w' : World) : Prop :=
 ∃ A c, e = .returned (.slice A res.2.length c) ∧ res.2.length ≤ c ∧ Lay.int.Pl w' A res.2 ∧ (∀ m ∈ res.2, MB m) ∧ BelB lo w w' ∧ Bd a0 a1 lo w' q r res.1
theorem mux_mb {c x y : Int} {s : BS} (h : NB s.n) (hc : RB c) (hx : RB x) (hy : RB y) : NB (run opsP (muxP c x y) s).1.n ∧ MB (run opsP (muxP c x y) s).2 := by
 have h1 := opsP_and_mb (x := c) (y := x) h hc hx
 have h2 := opsP_and_mb (x := -c) (y := y) h1.1 hc.neg hy
 have h3 := opsP_and_mb (x := -(opsP.and s c x).2) (y := -(opsP.and (opsP.and s c x).1 (-c) y).2) h2.1 h1.2.rb.neg h2.2.rb.neg
 exact ⟨h3.1, h3.2.neg⟩
def Stay (Q : World → Nat → Prop) : Prop := ∀ w w' b, w'.heap[b]? = w.heap[b]? → Q w b → Q w' b
theorem Stay.any : Stay (fun _ _ => True) := fun _ _ _ _ _ => trivial
theorem Stay.own (lo : Nat) : Stay (fun w b => lo ≤ b ∧ ∀ o, w.frozen? ⟨b, o, none⟩ = false) := fun w w' b h hq => ⟨hq.1, fun o => by
 rw [← hq.2 o]; exact World.frozen?_of_block (a := ⟨b, o, none⟩) h⟩
def OwnL {α : Type} (L : Lay α) (Q : World → Nat → Prop) (e : TypeId) (w : World) (lo : Nat) (v : Value) (xs : List α) : Prop :=
 ∃ cs, w.ownsRow lo e L.size v xs.length cs ∧ ∀ i x, xs[i]? = some x → ∃ vs, L.R w (fun b => b < w.heap.size ∧ v.ownBlock ≠ some b ∧ Q w b) x vs ∧ ∀ j u, vs[j]? = some u → cs[i * L.size + j]? = some u
section
variable {α : Type} {L : Lay α} {Q : World → Nat → Prop} {e : TypeId} {lo : Nat} {w : World} {v : Value} {xs : List α}
theorem OwnL.nil (L : Lay α) (Q : World → Nat → Prop) (e : TypeId) (w : World) (lo : Nat) : OwnL L Q e w lo (.slice none 0 0) [] := ⟨[], World.ownsRow_nil _ _ _ _, fun i x h => by simp at h⟩
theorem OwnL.keep {w' : World} (h : OwnL L Q e w lo v xs) (hQ : Stay Q) (hg : w.grownBy w' none) : OwnL L Q e w' lo v xs := by
 obtain ⟨cs, h1, h2⟩ := h
 refine ⟨cs, rows_kept h1 hg (by simp), fun i x hx => ?_⟩
 obtain ⟨vs, hr, hu⟩ := h2 i x hx
 refine ⟨vs, L.mono (fun b hb => ?_) (L.keep (fun b hb => hg.block b hb.1 (by simp)) hr), hu⟩
 exact ⟨Nat.lt_of_lt_of_le hb.1 hg.size, hb.2.1, hQ _ _ _ (hg.block b hb.1 (by simp)) hb.2.2⟩
theorem grown_of_below {a b : World} {row : Option Nat} (h : Below a.heap.size a b) : a.grownBy b row := ⟨h.os, h.tape, h.output, h.size, fun i hi _ => h.block i hi⟩
theorem OwnL.up {w' : World} (h : OwnL L Q e w lo v xs) (hQ : Stay Q) (hb : Below w.heap.size w w') : OwnL L Q e w' lo v xs := h.keep hQ (grown_of_below hb)
theorem OwnL.form (h : OwnL L Q e w lo v xs) : ∃ A c, v = .slice A xs.length c ∧ xs.length ≤ c := by
 obtain ⟨cs, h1, h2⟩ := h
 rcases h1.2 with ⟨e1, e2⟩ | ⟨g, cap, cur, e1, _, _, h3, _⟩
 · exact ⟨none, 0, by rw [e1, e2], by omega⟩
 · exact ⟨_, cap, e1, h3⟩
theorem OwnL.cap {A : Option Addr} {n c : Nat} (h : OwnL L Q e w lo (.slice A n c) xs) : n = xs.length ∧ xs.length ≤ c := by
 obtain ⟨A', c', e1, h1⟩ := h.form
 injection e1 with e1 e2 e3
 exact ⟨e2, by omega⟩
theorem OwnL.sl {A : Option Addr} {c : Nat} (h : OwnL L Q e w lo (.slice A xs.length c) xs) : L.Sl w (fun b => b < w.heap.size ∧ (lo ≤ b ∧ (∀ o, w.frozen? ⟨b, o, .none⟩ = false) ∨ Q w b)) A xs := by
 obtain ⟨cs, h1, h2⟩ := h
 intro h0
 rcases h1.2 with ⟨e1, e2⟩ | ⟨g, cap, cur, e1, hg, _⟩
 · omega
 ·
  injection e1 with e1 e2 e3
  subst e1
  refine ⟨_, rfl, ⟨(h1.lt g rfl).2, .inl ⟨hg, fun o => h1.frozenAt o⟩⟩, fun k x hx => ?_⟩
  obtain ⟨vs, hr, hu⟩ := h2 k x hx
  exact ⟨vs, L.mono (fun b hb => ⟨hb.1, .inr hb.2.2⟩) hr, fun j u hj => h1.cells (g := g) rfl _ _ (hu j u hj)⟩
theorem OwnL.rd {A : Option Addr} {c : Nat} (h : OwnL L Q e w lo (.slice A xs.length c) xs) : L.Rd w A xs := h.sl.mono fun _ h => h.1
theorem OwnL.own {A : Option Addr} {c : Nat} (h : OwnL L (fun w b => lo ≤ b ∧ ∀ o, w.frozen? ⟨b, o, none⟩ = false) e w lo (.slice A xs.length c) xs) : L.Sl w (Own lo w) A xs :=
 h.sl.mono fun _ h => ⟨h.2.elim (fun h => h.1) (fun h => h.1), h.1, h.2.elim (fun h => h.2) (fun h => h.2)⟩
theorem OwnL.at {A : Option Addr} {c : Nat} (h : OwnL L Q e w lo (.slice A xs.length c) xs) {k : Nat} (hk : k < xs.length) : ∃ ad, A = some ad ∧ ad.block < w.heap.size := by
 obtain ⟨ad, e1, hf, _⟩ := h.rd (by omega)
 exact ⟨ad, e1, hf⟩
end
theorem OwnL.lt {α : Type} {L : Lay α} {Q : World → Nat → Prop} {e : TypeId} {w : World} {lo : Nat} {v : Value} {xs : List α} (h : OwnL L Q e w lo v xs) : ∀ g, v.ownBlock = some g → lo ≤ g ∧ g < w.heap.size := by
 obtain ⟨cs, h1, _⟩ := h
 exact fun g hg => h1.lt g hg
end Go.Proofs.YtjghcaghigebjaaGreatDoor
namespace Go.Proofs.YtjghcaghigebjaaGreatDoor
open Go Go.RowKit
theorem own_of_heap {w w' : World} {base : Nat} {e : TypeId} {size n : Nat} {v : Value} {xs : List Value} (h : w.ownsRow base e size v n xs) (hk : ∀ g, v.ownBlock = some g → w'.heap[g]? = w.heap[g]?) : w'.ownsRow base e size v n xs := by
 refine ⟨h.1, ?_⟩
 rcases h.2 with hn | ⟨g, cap, cur, rfl, hb, hgg, rest⟩
 · exact .inl hn
 · exact .inr ⟨g, cap, cur, rfl, hb, (hk g rfl).trans hgg, rest⟩
structure Gr (S : Nat → Prop) (w w' : World) : Prop where
 os : w'.os = w.os
 tape : w'.tape = w.tape
 output : w'.output = w.output
 size : w.heap.size ≤ w'.heap.size
 block : ∀ i, i < w.heap.size → ¬ S i → w'.heap[i]? = w.heap[i]?
theorem Gr.refl (S : Nat → Prop) (w : World) : Gr S w w := ⟨rfl, rfl, rfl, Nat.le_refl _, fun _ _ _ => rfl⟩
theorem Gr.trans {S : Nat → Prop} {a b c : World} (h : Gr S a b) (k : Gr S b c) : Gr S a c :=
 ⟨k.os.trans h.os, k.tape.trans h.tape, k.output.trans h.output, Nat.le_trans h.size k.size, fun i hi hn => (k.block i (Nat.lt_of_lt_of_le hi h.size) hn).trans (h.block i hi hn)⟩
theorem Gr.mono {S T : Nat → Prop} {a b : World} (h : Gr S a b) (hST : ∀ x, S x → T x) : Gr T a b := ⟨h.os, h.tape, h.output, h.size, fun i hi hn => h.block i hi (fun e => hn (hST i e))⟩
theorem Gr.below {S : Nat → Prop} {w w' : World} (h : Below w.heap.size w w') : Gr S w w' := ⟨h.os, h.tape, h.output, h.size, fun i hi _ => h.block i hi⟩
theorem Gr.up {S : Nat → Prop} {a w w' : World} (h : Gr S a w) (hb : Below w.heap.size w w') : Gr S a w' := h.trans (.below hb)
theorem Gr.one {S : Nat → Prop} {w w' : World} {g : Nat} (h : w.grownBy w' (some g)) (hg : S g) : Gr S w w' := ⟨h.os, h.tape, h.output, h.size, fun i hi hn => h.block i hi (fun e => by injection e with e; exact hn (e ▸ hg))⟩
theorem Gr.set {S : Nat → Prop} {a w : World} (h : Gr S a w) (g o : Nat) (u : Value) (hg : S g ∨ a.heap.size ≤ g) : Gr S a (w.setCell ⟨g, o, none⟩ u) :=
 ⟨h.os, h.tape, h.output, by rw [size_setCell]; exact h.size, fun i hi hn => (Below.heap_setCell w ⟨g, o, none⟩ u i (fun e => hg.elim (fun h9 => hn (by rw [e]; exact h9)) (fun h9 => by rw [e] at hi; exact absurd hi (by show ¬ g < _; omega)))).trans (h.block i hi hn)⟩
theorem Gr.own {S : Nat → Prop} {a w w' : World} {row : Option Nat} (h : Gr S a w) (k : w.grownBy w' row) (hr : ∀ g, row = some g → a.heap.size ≤ g) : Gr S a w' :=
 ⟨k.os.trans h.os, k.tape.trans h.tape, k.output.trans h.output, Nat.le_trans h.size k.size, fun i hi hn => (k.block i (Nat.lt_of_lt_of_le hi h.size) (fun e => by have := hr i e.symm; omega)).trans (h.block i hi hn)⟩
theorem Gr.then {S T : Nat → Prop} {a b c : World} (h : Gr S a b) (k : Gr T b c) (hT : ∀ x, T x → S x ∨ a.heap.size ≤ x) : Gr S a c :=
 ⟨k.os.trans h.os, k.tape.trans h.tape, k.output.trans h.output, Nat.le_trans h.size k.size, fun i hi hn => (k.block i (Nat.lt_of_lt_of_le hi h.size) (fun e => (hT i e).elim hn (fun h9 => by omega))).trans (h.block i hi hn)⟩
theorem Gr.to_below {S : Nat → Prop} {a b : World} (h : Gr S a b) (hS : ∀ x, S x → a.heap.size ≤ x) : Below a.heap.size a b := ⟨h.os, h.tape, h.output, h.size, fun i hi => h.block i hi (fun e => by have := hS i e; omega)⟩
theorem Gr.heap {S : Nat → Prop} {w w' : World} {g : Nat} {o : Obj} (h : Gr S w w') (hg : ¬ S g) (hb : w.heap[g]? = some o) : w'.heap[g]? = some o := (h.block g (Array.getElem?_eq_some_iff.1 hb).1 hg).trans hb
theorem Rdr.gr {S : Nat → Prop} {w w' : World} {r : Nat} {p : Int} (h : Rdr w r p) (k : Gr S w w') (hS : ∀ x, S x → r < x) : Rdr w' r p :=
 h.keep fun b hb => k.block b (Nat.lt_of_le_of_lt hb h.lt) (fun e => by have := hS b e; omega)
theorem Rdr.own {w w' : World} {r : Nat} {p : Int} {row : Option Nat} (h : Rdr w r p) (k : w.grownBy w' row) (hr : ∀ g, row = some g → r < g) : Rdr w' r p :=
 h.keep fun b hb => k.block b (Nat.lt_of_le_of_lt hb h.lt) (fun e => by have := hr b e.symm; omega)
theorem Rdr.set {w : World} {r g o : Nat} {p : Int} {u : Value} (h : Rdr w r p) (hg : r < g) : Rdr (w.setCell ⟨g, o, none⟩ u) r p :=
 h.keep fun b hb => Below.heap_setCell w ⟨g, o, none⟩ u b (fun e => by have : b = g := e; omega)
def Ab (S : Nat → Prop) (w : World) (b : Nat) : Prop := b < w.heap.size ∧ ¬ S b
theorem Lay.Sl.gr {α : Type} {L : Lay α} {w w' : World} {S : Nat → Prop} {A : Option Addr} {xs : List α} (h : L.Sl w (Ab S w) A xs) (hg : Gr S w w') : L.Sl w' (Ab S w') A xs :=
 (h.keep fun b hb => hg.block b hb.1 hb.2).mono fun b hb => ⟨Nat.lt_of_lt_of_le hb.1 hg.size, hb.2⟩
theorem Lay.Sl.ab_rd {α : Type} {L : Lay α} {w : World} {S : Nat → Prop} {A : Option Addr} {xs : List α} (h : L.Sl w (Ab S w) A xs) : L.Rd w A xs := h.mono fun _ h => h.1
theorem Lay.Sl.ab_mono {α : Type} {L : Lay α} {w : World} {S T : Nat → Prop} {A : Option Addr} {xs : List α} (h : L.Sl w (Ab S w) A xs) (hT : ∀ b, b < w.heap.size → T b → S b) : L.Sl w (Ab T w) A xs := h.mono fun b h => ⟨h.1, fun e => h.2 (hT b h.1 e)⟩
abbrev NotIn (S : Nat → Prop) : World → Nat → Prop := fun _ b => ¬ S b
theorem OwnL.gr {α : Type} {L : Lay α} {e : TypeId} {w w' : World} {lo : Nat} {S : Nat → Prop} {v : Value} {xs : List α} (h : OwnL L (NotIn S) e w lo v xs) (hg : Gr S w w') (hr : ∀ b, S b → b < lo) : OwnL L (NotIn S) e w' lo v xs := by
 obtain ⟨cs, h1, h2⟩ := h
 refine ⟨cs, own_of_heap h1 fun g hg' => hg.block g (h1.lt g hg').2 (fun e => by have := hr g e; have := (h1.lt g hg').1; omega), fun i x hx => ?_⟩
 obtain ⟨vs, hr, hu⟩ := h2 i x hx
 exact ⟨vs, L.mono (fun b hb => ⟨Nat.lt_of_lt_of_le hb.1 hg.size, hb.2.1, hb.2.2⟩) (L.keep (fun b hb => hg.block b hb.1 hb.2.2) hr), hu⟩
theorem OwnL.ab {α : Type} {L : Lay α} {e : TypeId} {w : World} {lo : Nat} {S : Nat → Prop} {A : Option Addr} {c : Nat} {xs : List α} (h : OwnL L (NotIn S) e w lo (.slice A xs.length c) xs) (hr : ∀ b, S b → b < lo) : L.Sl w (Ab S w) A xs :=
 h.sl.mono fun b hb => ⟨hb.1, hb.2.elim (fun h e => by have := hr b e; have := h.1; omega) id⟩
def Drawn (r : Nat) (p N : Int) (w w' : World) : Prop := ∃ p', p ≤ p' ∧ p' ≤ p + N ∧ Rdr w' r p' ∧ Gr (fun b => b = r) w w'
theorem num_any (r : Nat) (p : Int) (B : Option Addr) (d : Nat) (xs : List Int) (w : World) (h : Rdr w r p) (hs : Lay.int.Sl w (Ab (fun b => b = r) w) B xs) (h0 : 0 < xs.length) (hn : xs.length ≤ 1048576) (p0 : 0 ≤ p) (p1 : p ≤ 1000000000) :
  Calls Tryz.prog 63 #[.pointer (some ⟨r, 0, none⟩), .slice B xs.length d] w fun e w' => ∃ x ∈ xs, e = .returned (.int .i64 x) ∧ Rdr w' r (p + 1) ∧ Gr (fun b => b = r) w w' := by
 go_enter Tryz.func63, Tryz.ntmps63
 go_wp2_with fail
 refine (pick_any r p xs.length w h p0 p1 (by omega) (by omega)).mono ?_
 rintro e w' ⟨k, rfl, k0, k1, _, hR, hg⟩
 have hk := k1 (by omega)
 have hg := Gr.one (S := fun b => b = r) hg rfl
 obtain ⟨n, rfl⟩ := Int.eq_ofNat_of_zero_le k0
 have hnl : n < xs.length := by omega
 obtain ⟨ad, rfl, _, hc⟩ := (hs.gr hg).at_int hnl
 have hm : xs[n] ∈ xs := List.getElem_mem hnl
 generalize xs[n] = x at *
 have HR := zH (And.intro hm (And.intro hR hg))
 clear hR hg hm k1 hs h
 go_wp2
 go_ret
 exact ⟨x, HR.out.1, rfl, HR.out.2⟩
abbrev IsR (r : Nat) : Nat → Prop := fun b => b = r
theorem sl_none {α : Type} {L : Lay α} {w : World} {F : Nat → Prop} {A : Option Addr} {xs : List α} (h : L.Sl w F A xs) : A = none → xs.length = 0 := fun e => by
 rcases Nat.eq_zero_or_pos xs.length with h0 | h0
 · exact h0
 · obtain ⟨ad, e', _⟩ := h h0; rw [e] at e'; cases e'
theorem two_boxes (w : World) (o o' : Obj) : Below w.heap.size w ((w.alloc o).alloc o') ∧ ((w.alloc o).alloc o').heap[w.heap.size]? = some o ∧ ((w.alloc o).alloc o').heap[w.heap.size + 1]? = some o' ∧ ((w.alloc o).alloc o').heap.size = w.heap.size + 1 + 1 := by
 have h1 := heap_alloc_new w o
 have h2 := heap_alloc_new (w.alloc o) o'
 exact ⟨((Below.refl _ _).alloc (Nat.le_refl _) _).alloc (by simp) _, (((Below.refl _ _).alloc (Nat.le_refl _) _).block _ (by simp)).trans h1, by simpa using h2, by simp⟩
theorem mem_lit {xs : List Int} {x : Int} (h : x ∈ xs) (hx : ∀ y ∈ xs, okInt y) : okInt x := hx x h
theorem lit_sl {S : Nat → Prop} (w : World) (xs : List Int) (cs : Array Value) (t : TypeId) (hc : cs = (xs.map (Value.int .i64)).toArray) (hS : ¬ S w.heap.size) : Lay.int.Sl (w.alloc (.cells cs t)) (Ab S (w.alloc (.cells cs t))) (some ⟨w.heap.size, 0, none⟩) xs := by
 intro _
 refine ⟨_, rfl, ⟨by simp, hS⟩, fun k x hx => ⟨[.int .i64 x], rfl, fun j u hu => ?_⟩⟩
 rcases j with _ | j
 ·
  injection hu with hu
  subst hu
  have hb := (z00 (heap_alloc_new w (.cells cs t)) k).1
  have ha : (⟨w.heap.size, 0, none⟩ : Addr).add (k * Lay.int.size + 0) = ⟨w.heap.size, k, none⟩ := by
   show (⟨w.heap.size, 0, none⟩ : Addr).add (k * 1 + 0) = _
   rw [Nat.mul_one, Nat.add_zero]; unfold Addr.add; split
   · rename_i h; rw [h]
   · simp
  rw [ha, hb, hc]
  simp [hx]
 · simp at hu
def RG (T : Nat → Prop) (sts : List (Nat × Obj × Obj)) (x x' : World) : Prop := Gr T x x' ∧ ∀ s ∈ sts, x.heap[s.1]? = some s.2.2 → x'.heap[s.1]? = some s.2.2
def IG (T : Nat → Prop) (r : Nat) (q0 N : Int) (w : World) (sts : List (Nat × Obj × Obj)) (n : Nat) (x : World) : Prop :=
 Gr T w x ∧ (∃ q, Rdr x r q ∧ q0 ≤ q ∧ q ≤ q0 + N * n) ∧ ∀ s ∈ sts, x.heap[s.1]? = some s.2.1 ∨ x.heap[s.1]? = some s.2.2
theorem ig_step {T : Nat → Prop} {r : Nat} {q0 N : Int} {w : World} {sts : List (Nat × Obj × Obj)} {n : Nat} {x : World} (h : IG T r q0 N w sts n x) (hN : 0 ≤ N) : IG T r q0 N w sts (n + 1) x := by
 obtain ⟨h1, ⟨q, h2, h3, h4⟩, h5⟩ := h
 refine ⟨h1, ⟨q, h2, h3, ?_⟩, h5⟩
 push_cast
 rw [Int.mul_add, Int.mul_one]
 omega
theorem ig_start {T : Nat → Prop} {r : Nat} {q0 N : Int} {w : World} {sts : List (Nat × Obj × Obj)} (h : Rdr w r q0) (hs : ∀ s ∈ sts, w.heap[s.1]? = some s.2.1) : IG T r q0 N w sts 0 (w.drewN 1) :=
 ⟨.below (z01 (Below.refl _ _) 1), ⟨q0, h.up (z01 (Below.refl _ _) 1), by omega, by simp⟩, fun s h => .inl (hs s h)⟩
theorem ig_draw {T : Nat → Prop} {r : Nat} {q0 N M q : Int} {w : World} {sts : List (Nat × Obj × Obj)} {n : Nat} {x x' : World} (h : IG T r q0 N w sts n x) (hd : Drawn r q M x x') (hq0 : q0 ≤ q) (hq : q ≤ q0 + N * n) (hM : M ≤ N) (hT : T r) (hs : ∀ s ∈ sts, s.1 ≠ r) :
  IG T r q0 N w sts (n + 1) x' ∧ RG T sts x x' := by
 obtain ⟨h1, _, h5⟩ := h
 obtain ⟨q', d1, d2, d3, d4⟩ := hd
 have hg : Gr T x x' := d4.mono fun b hb => by rw [hb]; exact hT
 have hh : ∀ s ∈ sts, ∀ o, x.heap[s.1]? = some o → x'.heap[s.1]? = some o := fun s h o => d4.heap (hs s h)
 refine ⟨⟨h1.trans hg, ⟨q', d3, by omega, ?_⟩, fun s hm => (h5 s hm).imp (hh s hm _) (hh s hm _)⟩, hg, fun s hm => hh s hm _⟩
 push_cast
 rw [Int.mul_add, Int.mul_one]
 omega
theorem Rdr.far {w w' : World} {r b : Nat} {p : Int} (h : Rdr w r p) (hg : Gr (fun y => y = b) w w') (hbr : b ≠ r) (hk : ∃ cs t fr, w.heap[b]? = some (.cells cs t fr) ∧ ∀ u ∈ cs.toList, ∀ z, u ≠ .int .u8 z) : Rdr w' r p := by
 obtain ⟨A, c, bs, hb, hl, hs⟩ := h
 obtain ⟨cs, t, fr, hkb, hku⟩ := hk
 refine ⟨A, c, bs, hg.heap (fun e => hbr e.symm) hb, hl, fun hn => ?_⟩
 obtain ⟨ad, e, hf, hc⟩ := hs hn
 have hne : ad.block ≠ b := fun e9 => by
  obtain ⟨vs, hr, hcell⟩ := hc 0 bs[0] (List.getElem?_eq_getElem hn)
  have h0 := hcell 0 (.int .u8 (bs[0].toNat : Int)) (by rw [hr]; rfl)
  unfold World.cell? at h0
  rw [block_of_add, e9, hkb] at h0
  dsimp only at h0
  split at h0
  · cases h0
  · exact hku _ (by rw [Array.mem_toList_iff]; exact Array.mem_of_getElem? h0) _ rfl
 refine ⟨ad, e, hf, fun k x hx => ?_⟩
 obtain ⟨vs, hr, hcell⟩ := hc k x hx
 refine ⟨vs, hr, fun j u hu => ?_⟩
 have h9 := hcell j u hu
 exact (World.cell?_of_block (hg.block _ (by have := World.block_lt_of_cell? w _ h9; exact this) (by rw [block_of_add]; exact hne))).trans h9
theorem kd_of {lo : Nat} {w w' : World} (h : BelB lo w w') {b : Nat} {cs : Array Value} {t : TypeId} {fr : Nat × Nat} (hb : w.heap[b]? = some (.cells cs t fr)) (h1 : t ≠ 119) (h2 : t ≠ 88) (h3 : t ≠ 83) : w'.heap[b]? = some (.cells cs t fr) :=
 h.kd b _ hb (nck_of h1 h2 h3).1 (nck_of h1 h2 h3).2
theorem Bx.bd {a0 a1 : Addr} {lo : Nat} {w w' : World} {q r : Nat} {s : BS} {e : Option Nat} (h : Bd a0 a1 lo w q r s) (hx : Bx a0 a1 lo w' q r e) (hk : CKs w w') (he : e = none → s.e = none) : Bd a0 a1 lo w' q r ⟨s.n, e⟩ :=
 ⟨hx, h.nb, fun h0 => (h.circ (he h0)).keep hk⟩
theorem Bx.up {a0 a1 : Addr} {lo : Nat} {w w' : World} {q r : Nat} {e : Option Nat} (h : Bx a0 a1 lo w q r e) (hb : Below w.heap.size w w') : Bx a0 a1 lo w' q r e :=
 ⟨h.g.below (hb.mono (Nat.le_trans h.low (Nat.le_of_lt (lt_of_block h.box)))), (hb.block q (lt_of_block h.box)).trans h.box, h.low⟩
theorem Bx.upS {a0 a1 : Addr} {lo : Nat} {w w' : World} {q r : Nat} {e : Option Nat} (h : Bx a0 a1 lo w q r e) (hb : BelS lo w w') : Bx a0 a1 lo w' q r e :=
 ⟨h.g.below hb.bel, hb.bk q _ h.box ⟨_, _, rfl⟩, h.low⟩
theorem Bx.size {a0 a1 : Addr} {lo : Nat} {w : World} {q r : Nat} {e : Option Nat} (h : Bx a0 a1 lo w q r e) : lo ≤ w.heap.size := Nat.le_trans h.low (Nat.le_of_lt (lt_of_block h.box))
theorem failE_none {e : Option Nat} {b : Bool} {k : Nat} (h : failE e b k = none) : e = none ∧ b = false := by
 unfold failE at h
 split at h
 · cases h
 ·
  rename_i h1
  refine ⟨h, ?_⟩
  cases b
  · rfl
  · exact absurd ⟨rfl, h⟩ h1
theorem wpList_append_int9 {Q : Exit → Act → World → Prop} {ops : Array Oper} {rest : List Oper} {o : Oper} {a : Act} {W : World} {lo : Nat} {A : Option Addr} {c : Nat} {xs ys : List Int} {x : Int} {e' : TypeId} (hgd : o.guard = none) (s y : Operand)
  (ho : o.op = .call { callee := .builtin .append, args := #[s, y], argTypes := #[34, 34] }) (hs : a.eval s = .slice A xs.length c) (hy : a.eval y = .slice (some ⟨W.heap.size, 0, none⟩) 1 1)
  (hown : OwnI W lo (.slice A xs.length c) xs) (hn : xs.length ≤ 3000000) (hlo : lo ≤ W.heap.size) (hys : ys = xs ++ [x])
  (h : ∀ A' c' w', OwnI w' lo (.slice A' ys.length c') ys → Below lo W w' → wpList Tryz.prog ops Q rest (a.put o.dst (.slice A' ys.length c')) w') :
  wpList Tryz.prog ops Q (o :: rest) a (W.alloc (.cells #[.int .i64 x] e')) := by
 obtain ⟨i0, hi0, hz0, hz1, hz2⟩ := info_parts int_info
 have hl : ys.length = xs.length + 1 := by rw [hys]; simp
 have hm : ys.map (Value.int .i64) = xs.map (Value.int .i64) ++ [.int .i64 x] := by rw [hys]; simp
 refine wpList_append1 (P := Tryz.prog) hgd s y 34 ho lo 3 i0 _ 8 Tryz.underlying34 hi0 hz0 hz1 hz2 (by rfl) _ xs.length (xs.map (Value.int .i64)) (.int .i64 x) e' hs hown hy (by rfl) (by unfold maxLen; omega) (by omega) hlo ?_
 intro v' w' ho' hb
 rw [← hl, ← hm] at ho'
 obtain ⟨A', c', rfl, _⟩ := OwnI.form (xs := ys) ho'
 exact h A' c' w' ho' hb
set_option maxRecDepth 100000 in
set_option maxHeartbeats 1000000 in
theorem numbers_any (A : Option Addr) (c : Nat) (xs : List Int) (w : World) (h : Lay.int.Rd w A xs) (hn : xs.length ≤ 1048576) :
  Calls Tryz.prog 88 #[.slice A xs.length c] w (CopyI xs w) := by
 have H := zH h
 clear h
 go_enter Tryz.func88, Tryz.ntmps88
 go_wp2
 go_loopw [3, 8] (fun out i wr => ∃ (k : Nat) (l : List Int) (A1 : Option Addr) (c1 : Nat), k ≤ xs.length ∧ i = .int .i64 k ∧ out = .slice A1 l.length c1 ∧ l = xs.take k ∧ OwnI wr w.heap.size (.slice A1 l.length c1) l ∧ Below w.heap.size w wr) (fun _ i _ => xs.length - (intOf i).toNat)
 case atStart => exact ⟨0, [], none, 0, Nat.zero_le _, rfl, rfl, rfl, World.ownsRow_nil _ _ _ _, Below.refl _ _⟩
 case round =>
  obtain ⟨k, l, A1, c1, hk, rfl, rfl, hlt0, hown, hb⟩ := hrel
  have HL := zH hlt0
  have hll : l.length ≤ 1048576 := by rw [hlt0]; simp; omega
  have hsz := hb.size
  have HB := zH hb
  clear hlt0 hb
  by_cases hlt : k < xs.length
  ·
   have hlt2 : (k : Int) < xs.length := by omega
   obtain ⟨ad, hA, -, c9⟩ := (H.out.up HB.out).at_int hlt
   obtain ⟨x, hx⟩ : ∃ x, x = xs[k] := ⟨_, rfl⟩
   rw [← hx] at c9
   subst hA
   obtain ⟨l2, hl2⟩ : ∃ l2, l2 = l ++ [x] := ⟨_, rfl⟩
   have HL2 := zH hl2
   have HX := zH hx
   clear hl2 hx
   go_wp2_with (at_builtin; refine wpList_append_int9 (ys := l2) (by rfl) (.tmp 12) (.tmp 14) (by rfl) (by rfl) (by rfl) hown (by omega) hsz HL2.out ?_; intro A2 c2 w2 hown2 hb2)
   go_roundw
   case rel => exact ⟨k + 1, l2, A2, c2, by omega, by go_num, rfl, by rw [HL2.out, HL.out, HX.out]; simp, hown2, HB.out.trans hb2⟩
   case measure => simp [intOf]; omega
  ·
   have hke : k = xs.length := by omega
   subst hke
   have hlt2 : ¬ ((xs.length : Nat) : Int) < xs.length := by omega
   go_wp2
   go_ret
   have hl9 : l = xs := by rw [HL.out]; exact List.take_length
   subst hl9
   exact ⟨A1, c1, rfl, hown.cap, hown.own, HB.out⟩
def goodL (n : N) (a : List Int) : Bool := decide (1 ≤ a.length) && decide (a.length ≤ 4) && a.all (z04 n)
def listE (n : N) (e : Option Nat) (a : List Int) : Option Nat := failE e (!goodL n a) 0
theorem failE_twice (e : Option Nat) (a b : Bool) : failE (failE e a 0) b 0 = failE e (a || b) 0 := by
 unfold failE
 cases a <;> cases b <;> rcases e with _ | e <;> simp
def ListI (a0 a1 : Addr) (lo : Nat) (W : World) (q r : Nat) (n : N) (e e' : Option Nat) (base : Nat) (A : Option Addr) (c : Nat) (l : List Int) (done : Bool) (x : World) : Prop :=
 BelB lo W x ∧ Bx a0 a1 lo x q r (if done = true then e' else e) ∧ Circ lo x r n n.gs ∧ OwnSg x base (.slice A l.length c) l
theorem ListI.up {a0 a1 : Addr} {lo : Nat} {W : World} {q r : Nat} {n : N} {e e' : Option Nat} {base : Nat} {A : Option Addr} {c : Nat} {l : List Int} {done : Bool} {x x' : World} (h : ListI a0 a1 lo W q r n e e' base A c l done x) (hb : Below x.heap.size x x') : ListI a0 a1 lo W q r n e e' base A c l done x' :=
 ⟨h.1.trans (.of hb h.2.1.size), h.2.1.up hb, h.2.2.1.up hb, z07 h.2.2.2 hb (Nat.le_refl _)⟩
def RetLs (a0 a1 : Addr) (lo : Nat) (w : World) (q r : Nat) (n : N) (e' : Option Nat) (l : List Int) (e : Ending) (w' : World) : Prop :=
 ∃ A c, e = .returned (.slice A l.length c) ∧ l.length ≤ c ∧ Lay.int.Pl w' A l ∧ BelB lo w w' ∧ Bx a0 a1 lo w' q r e' ∧ Circ lo w' r n n.gs
set_option maxRecDepth 100000 in
set_option maxHeartbeats 4000000 in
theorem list_any (a0 a1 : Addr) (lo q r : Nat) (n : N) (e0 : Option Nat) (A : Option Addr) (ca : Nat) (xs : List Int) (w : World) (h : Bx a0 a1 lo w q r e0) (hc : Circ lo w r n n.gs) (hnb : NB n) (hX : Lay.int.Sl w (fun b => b < lo) A xs) (hxi : i64s xs) (hn : xs.length ≤ 1048576) :
  Calls Tryz.prog 46 #[.pointer (some ⟨q, 0, none⟩), .slice A xs.length ca] w (RetLs a0 a1 lo w q r n (listE n e0 xs) xs) := by
 have HX := zH hX
 have HXI := zH hxi
 have HC := zH hc
 have HNB := zH hnb
 have hlo := h.size
 obtain ⟨b, hb⟩ : ∃ b, b = !(decide (1 ≤ xs.length) && decide (xs.length ≤ 4)) := ⟨_, rfl⟩
 have HF := zH (fail_any a0 a1 lo q r e0 b 0 w h)
 have g0 : w.cell? ⟨1, 0, none⟩ = some (errV a0 a1 (some 0)) := h.g.c0
 have HR : Hid (listE n e0 xs = failE (failE e0 b 0) (!xs.all (z04 n)) 0) := zH (by
  unfold listE goodL; rw [failE_twice, hb]; congr 1; cases decide (1 ≤ xs.length) <;> cases decide (xs.length ≤ 4) <;> cases xs.all (z04 n) <;> rfl)
 have hcase : ((xs.length : Int) < 1 ∧ b = true) ∨ (¬ (xs.length : Int) < 1 ∧ (4 : Int) < xs.length ∧ b = true) ∨ (¬ (xs.length : Int) < 1 ∧ ¬ (4 : Int) < xs.length ∧ b = false) := by
  by_cases h1 : (xs.length : Int) < 1
  · exact .inl ⟨h1, by rw [hb, decide_eq_false (by omega : ¬ 1 ≤ xs.length)]; rfl⟩
  ·
   by_cases h2 : (4 : Int) < xs.length
   · exact .inr (.inl ⟨h1, h2, by rw [hb, decide_eq_false (by omega : ¬ xs.length ≤ 4)]; simp⟩)
   · exact .inr (.inr ⟨h1, h2, by rw [hb, decide_eq_true (by omega : 1 ≤ xs.length), decide_eq_true (by omega : xs.length ≤ 4)]; rfl⟩)
 clear h hc hnb hX hxi hb
 generalize hv : errV a0 a1 (some 0) = v at *
 have HV := zH hv
 clear hv
 rcases hcase with ⟨hk1, rfl⟩ | ⟨hk1, hk2, rfl⟩ | ⟨hk1, hk2, rfl⟩
 all_goals
  go_enter Tryz.func46, Tryz.ntmps46
  go_wp2_with fail
  refine HF.out.mono ?_
  rintro e w1 ⟨rfl, hb1, hx1, hck1⟩
  have HB1 := zH hb1
  have HX1 := zH hx1
  have HC1 := zH (HC.out.keep hck1)
  have hs1 := hb1.bel.size
  clear hb1 hx1 hck1 HF g0 hk1
  try clear hk2
  generalize failE e0 _ 0 = e1 at *
  go_wp2
  go_loopw [5, 21] (fun out i wr => ∃ (k : Nat) (l : List Int) (A1 : Option Addr) (c1 : Nat), k ≤ xs.length ∧ i = .int .i64 k ∧ out = .slice A1 l.length c1 ∧ l = xs.take k ∧ OwnSg wr w.heap.size (.slice A1 l.length c1) l ∧ BelB lo w wr ∧ Bx a0 a1 lo wr q r (failE e1 (!l.all (z04 n)) 0) ∧ Circ lo wr r n n.gs) (fun _ i _ => xs.length - (intOf i).toNat)
  case atStart => exact ⟨0, [], none, 0, Nat.zero_le _, rfl, rfl, rfl, OwnSg.nil _ _, HB1.out, by rw [show failE e1 (!([] : List Int).all (z04 n)) 0 = e1 from if_neg (by simp)]; exact HX1.out, HC1.out⟩
  case round =>
   obtain ⟨k, l, A1, c1, hk, rfl, rfl, hlt0, hown, hbb, hbx, hcc⟩ := hrel
   have HL := zH hlt0
   have hll : l.length ≤ 1048576 := by rw [hlt0]; simp; omega
   have hsz := hbb.bel.size
   have HBB := zH hbb
   have HBX := zH hbx
   have HCC := zH hcc
   have HOWN := zH hown
   clear hlt0 hbb hbx hcc hown
   by_cases hlt : k < xs.length
   ·
    have hlt2 : (k : Int) < xs.length := by omega
    obtain ⟨ad, hA, -, c9⟩ := (HX.out.below HBB.out.bel (fun _ h => h)).at_int hlt
    obtain ⟨x, hx⟩ : ∃ x, x = xs[k] := ⟨_, rfl⟩
    rw [← hx] at c9
    have hxi := HXI.out x (by rw [hx]; exact List.getElem_mem hlt)
    subst hA
    obtain ⟨l2, hl2⟩ : ∃ l2, l2 = l ++ [x] := ⟨_, rfl⟩
    have HL2 := zH hl2
    have HXX := zH hx
    have HE : Hid (failE (failE e1 (!l.all (z04 n)) 0) (!z04 n x) 0 = failE e1 (!l2.all (z04 n)) 0) := zH (by
     rw [failE_twice, hl2, List.all_append]; congr 1; simp only [List.all_cons, List.all_nil, Bool.and_true]; cases l.all (z04 n) <;> cases z04 n x <;> rfl)
    clear hl2 hx
    obtain ⟨hx0, hx1⟩ := hxi
    generalize hmk : z04 n x = mk at *
    have HMK := zH hmk
    clear hmk
    generalize failE e1 (!l.all (z04 n)) 0 = e2 at *
    obtain ⟨e3, he3⟩ : ∃ e3, e3 = failE e1 (!l2.all (z04 n)) 0 := ⟨_, rfl⟩
    rw [← he3] at HE
    have HE3 := zH he3
    clear he3
    go_wp2
    refine z05 [[], [], [(1, 26)], [(2, 27)], [(3, 28)], [], [(4, 29), (5, 30)], [(6, 31)], [], [(0, 25), (7, 32), (8, 33)]]
     (fun x9 y9 => Below x9.heap.size x9 y9)
     [(9, fun x9 y9 => BelB lo x9 y9)]
     (fun f9 x9 => ListI a0 a1 lo w q r n e2 e3 w.heap.size A1 c1 l (f9 9) x9)
     [fun vs9 _ => vs9 0 = (.pointer (some ⟨q, 0, none⟩)),
  fun vs9 _ => vs9 1 = (.pointer (some ⟨q, 0, none⟩)),
  fun vs9 _ => vs9 2 = (.pointer (some ⟨q, 0, none⟩)),
  fun vs9 _ => vs9 3 = (.pointer (some ⟨q, 0, none⟩)),
  fun vs9 _ => vs9 4 = (.pointer (some ⟨r, 0, none⟩)),
  fun vs9 _ => vs9 5 = (.int .i64 x),
  fun vs9 _ => vs9 6 = (.bool mk),
  fun vs9 _ => vs9 7 = (.bool (!mk)),
  fun vs9 _ => vs9 8 = v,
  fun _ _ => True]
     [(0, 25), (1, 26), (2, 27), (3, 28), (4, 29), (5, 30), (6, 31), (7, 32), (8, 33), (9, 34)] (by kernel_rfl) (by kernel_rfl) (by kernel_rfl) (by kernel_rfl)
     (fun _ => Below.refl _ _) ⟨fun _ => BelB.refl _ _, trivial⟩
     ⟨⟨.inr zK, ⟨.inr (.inr zK), trivial⟩⟩,
  ⟨.inr zK, ⟨.inr (.inr zK), trivial⟩⟩,
  ⟨.inr zK, ⟨.inr (.inr zK), trivial⟩⟩,
  ⟨.inr zK, ⟨.inr (.inr zK), trivial⟩⟩,
  ⟨.inr zK, ⟨.inr (.inr zK), trivial⟩⟩,
  ⟨.inr zK, ⟨.inr (.inr zK), trivial⟩⟩,
  ⟨.inr zK, ⟨.inr (.inr zK), trivial⟩⟩,
  ⟨.inr zK, ⟨.inr (.inr zK), trivial⟩⟩,
  ⟨.inr zK, ⟨.inr (.inr zK), trivial⟩⟩,
  ⟨.inr zK, ⟨.inr (.inl rfl), trivial⟩⟩, trivial⟩ ⟨fun _ _ _ h _ v => (by simpa only [← h] using v),
  fun _ _ _ h _ v => (by simpa only [← h] using v),
  fun _ _ _ h _ v => (by simpa only [← h] using v),
  fun _ _ _ h _ v => (by simpa only [← h] using v),
  fun _ _ _ h _ v => (by simpa only [← h] using v),
  fun _ _ _ h _ v => (by simpa only [← h] using v),
  fun _ _ _ h _ v => (by simpa only [← h] using v),
  fun _ _ _ h _ v => (by simpa only [← h] using v),
  fun _ _ _ h _ v => (by simpa only [← h] using v),
  fun _ _ _ _ _ _ => trivial, trivial⟩ (⟨HBB.out.trans (.of (z01 (Below.refl _ _) 1) HBX.out.size), by rw [if_neg (by simp)]; exact HBX.out.up (z01 (Below.refl _ _) 1), HCC.out.up (z01 (Below.refl _ _) 1), z07 HOWN.out (z01 (Below.refl _ _) 1) (Nat.le_refl _)⟩) ⟨?_, ?_, ?_, ?_, ?_, ?_, ?_, ?_, ?_, ?_, trivial⟩ ?_
    ·
     rintro vals xw f hf1 - - hI hF
     dsimp only [owes4, bare]
     simp only [putsD, Act.put, zA, zB, zC]
     go_wp2
     exact ⟨rfl, rfl, ⟨zN rfl, fun _ => Below.refl _ _⟩, hI⟩
    ·
     rintro vals xw f hf1 - - hI hF
     dsimp only [owes4, bare]
     simp only [putsD, Act.put, zA, zB, zC]
     go_wp2
     exact ⟨rfl, rfl, ⟨zN rfl, fun _ => Below.refl _ _⟩, hI⟩
    ·
     rintro vals xw f hf1 - - hI hF
     simp only [saysD, zD, zE, and_true] at hF
     have e26 := hF
     dsimp only [owes4, bare]
     simp only [putsD, Act.put, zA, zB, zC]
     simp only [e26]
     go_wp2
     exact ⟨rfl, rfl, ⟨zN rfl, fun _ => Below.refl _ _⟩, hI⟩
    ·
     rintro vals xw f hf1 - - hI hF
     simp only [saysD, zD, zE, and_true] at hF
     have e27 := hF
     dsimp only [owes4, bare]
     simp only [putsD, Act.put, zA, zB, zC]
     simp only [e27]
     go_wp2
     exact ⟨rfl, rfl, ⟨zN rfl, fun _ => Below.refl _ _⟩, hI⟩
    ·
     rintro vals xw f hf1 - - hI hF
     simp only [saysD, zD, zE, and_true] at hF
     have e28 := hF
     dsimp only [owes4, bare]
     simp only [putsD, Act.put, zA, zB, zC]
     simp only [e28]
     have c8 := (z00 hI.2.1.box 0).1
     go_wp2
     exact ⟨rfl, rfl, ⟨zN rfl, fun _ => Below.refl _ _⟩, hI⟩
    ·
     rintro vals xw f hf1 - - hI hF
     dsimp only [owes4, bare]
     simp only [putsD, Act.put, zA, zB, zC]
     go_wp2
     exact ⟨rfl, rfl, ⟨zN rfl, fun _ => Below.refl _ _⟩, hI⟩
    ·
     rintro vals xw f hf1 - - hI hF
     simp only [saysD, zD, zE, and_true] at hF
     obtain ⟨e29, e30⟩ := hF
     dsimp only [owes4, bare]
     simp only [putsD, Act.put, zA, zB, zC]
     simp only [e29, e30]
     have HI := zH hI
     clear hI
     go_wp2_with fail
     refine (has_any lo r n n.gs x xw HI.out.2.2.1 HNB.out.2.2 HNB.out.1 HNB.out.2.1 hx0 hx1).mono ?_
     rintro e wx ⟨rfl, hb9⟩
     rw [HMK.out]
     have HB9 := zH hb9
     clear hb9
     go_wp2
     exact ⟨rfl, rfl, ⟨zN rfl, fun _ => HB9.out⟩, HI.out.up HB9.out⟩
    ·
     rintro vals xw f hf1 - - hI hF
     simp only [saysD, zD, zE, and_true] at hF
     have e31 := hF
     dsimp only [owes4, bare]
     simp only [putsD, Act.put, zA, zB, zC]
     simp only [e31]
     go_wp2
     exact ⟨rfl, rfl, ⟨zN rfl, fun _ => Below.refl _ _⟩, hI⟩
    ·
     rintro vals xw f hf1 - - hI hF
     dsimp only [owes4, bare]
     simp only [putsD, Act.put, zA, zB, zC]
     have c8 : xw.cell? ⟨1, 0, none⟩ = some v := by rw [← HV.out]; exact hI.2.1.g.c0
     go_wp2
     exact ⟨rfl, rfl, ⟨zN rfl, fun _ => Below.refl _ _⟩, hI⟩
    ·
     rintro vals xw f hf1 - - hI hF
     simp only [saysD, zD, zE, and_true] at hF
     obtain ⟨e25, e32, e33⟩ := hF
     dsimp only [owes4, bare]
     simp only [putsD, Act.put, zA, zB, zC]
     simp only [e25, e32, e33]
     obtain ⟨i1, i2, i3, i4⟩ := hI
     rw [hf1, if_neg (by simp)] at i2
     have I1 := zH i1
     have I3 := zH i3
     have I4 := zH i4
     have HF9 := zH (fail_any a0 a1 lo q r e2 (!mk) 0 xw i2)
     rw [HV.out] at HF9
     clear i1 i2 i3 i4
     go_wp2_with fail
     refine HF9.out.mono ?_
     rintro e wx ⟨rfl, hb9, hx9, hk9⟩
     have HB9 := zH hb9
     have HX9 := zH hx9
     have HK9 := zH hk9
     clear hb9 hx9 hk9 HF9
     go_wp2
     exact ⟨rfl, trivial, ⟨fun _ => HB9.out, fun h9 => absurd rfl h9⟩, I1.out.trans HB9.out, by rw [z10, if_pos rfl, ← HE.out]; exact HX9.out, I3.out.keep HK9.out, I4.out.upB HB9.out⟩
    ·
     intro vals xw f hall hI hF
     rw [show List.range _ = [0, 1, 2, 3, 4, 5, 6, 7, 8, 9] from rfl] at hF
     simp only [says, zD, zE, and_true] at hF
     obtain ⟨i1, i2, i3, i4⟩ := hI
     rw [hall 9 (by decide), if_pos rfl] at i2
     have I1 := zH i1
     have I2 := zH i2
     have I3 := zH i3
     have hsz9 := i1.bel.size
     clear i1 i2 i3 hF
     simp only [putsD, Act.put, zA, zB, zC]
     have hal9 : Below xw.heap.size xw (xw.alloc (.cells #[.int .i64 x] 123)) := (Below.refl _ _).alloc (Nat.le_refl _) _
     have HAL := zH hal9
     have hsz8 : w.heap.size ≤ (xw.alloc (.cells #[.int .i64 x] 123)).heap.size := Nat.le_trans hsz9 hal9.size
     have I4 : Hid (OwnSg (xw.alloc (.cells #[.int .i64 x] 123)) w.heap.size (.slice A1 l.length c1) l) := zH (z07 i4 hal9 (Nat.le_refl _))
     clear i4 hal9
     go_wp2_with (at_builtin; refine wpList_append_sig2 (ys := l2) (by rfl) (.tmp 35) (.tmp 37) (by rfl) (by rfl) (by rfl) I4.out (heap_alloc_new _ _) (by omega) hsz8 HL2.out ?_; intro A2 c2 w2 hown2 hg2)
     have hal9 := HAL.out
     obtain ⟨hs9, hb8⟩ := I4.out.grown hg2 hsz8 hlo
     go_roundw
     case rel => exact ⟨k + 1, l2, A2, c2, by omega, by go_num, rfl, by rw [HL2.out, HL.out, HXX.out]; simp, hown2, (I1.out.trans (.of hal9 I2.out.size)).then hb8 hlo, by rw [← HE3.out]; exact (I2.out.up hal9).upS hs9, (I3.out.up hal9).keep hs9.ck⟩
     case measure => simp [intOf]; omega
   ·
    have hke : k = xs.length := by omega
    subst hke
    have hlt2 : ¬ ((xs.length : Nat) : Int) < xs.length := by omega
    go_wp2
    go_ret
    have hl9 : l = xs := by rw [HL.out]; exact List.take_length
    subst hl9
    rw [HR.out]
    exact ⟨A1, c1, rfl, HOWN.out.pl.1, HOWN.out.pl.2, HBB.out, HBX.out, HCC.out⟩
end Go.Proofs.YtjghcaghigebjaaGreatDoor
