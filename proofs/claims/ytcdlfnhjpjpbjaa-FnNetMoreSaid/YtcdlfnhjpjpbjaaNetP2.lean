/- What nets say, asked twice, turned round, one behind the other. -/
import Derived.Test.YtcdlfnhjpjpbjaaNetP
namespace Go.Proofs.Ytcdlfnhjpjpbjaa
open Go Go.RowKit

theorem and1_turn {n : N} {a b : Int} (hm : (and1 n a b).2 ≠ 0) : and1 (and1 n a b).1 b a = and1 n a b := by
  by_cases c1 : a = -1 ∨ b = -1 ∨ a = -b
  · have e : ∀ m : N, and1 m a b = (m, -1) := fun m => by unfold and1; rw [if_pos c1]
    have e' : ∀ m : N, and1 m b a = (m, -1) := fun m => by unfold and1; rw [if_pos (by omega)]
    rw [e, e']
  by_cases c2 : a = 1 ∨ a = b
  · have e : ∀ m : N, and1 m a b = (m, b) := fun m => by unfold and1; rw [if_neg c1, if_pos c2]
    rw [e]
    unfold and1
    rw [if_neg (by omega)]
    by_cases h : b = 1 ∨ b = a
    · rw [if_pos h]; congr 1; omega
    · rw [if_neg h, if_pos (by omega)]
  by_cases c3 : b = 1
  · have e : ∀ m : N, and1 m a b = (m, a) := fun m => by unfold and1; rw [if_neg c1, if_neg c2, if_pos c3]
    rw [e]
    unfold and1
    rw [if_neg (by omega), if_pos (.inl c3)]
  have e : ∀ m : N, and1 m a b = if b.natAbs < a.natAbs then put m ⟨false, b, a⟩ else put m ⟨false, a, b⟩ := fun m => by unfold and1; rw [if_neg c1, if_neg c2, if_neg c3]
  have e' : ∀ m : N, and1 m b a = if a.natAbs < b.natAbs then put m ⟨false, a, b⟩ else put m ⟨false, b, a⟩ := fun m => by unfold and1; rw [if_neg (by omega), if_neg (by omega), if_neg (by omega)]
  rw [e] at hm ⊢
  rw [e']
  by_cases hs : b.natAbs < a.natAbs
  · rw [if_pos hs] at hm ⊢; rw [if_neg (by omega)]; exact put_again hm
  · rw [if_neg hs] at hm ⊢; rw [if_pos (by omega)]; exact put_again hm

theorem sgn_ne {a : Int} (h : a ≠ 0) : sgn (-a) = -sgn a := by
  rcases sgn_two a with ⟨h1, h2⟩ | ⟨h1, h2⟩ <;> rcases sgn_two (-a) with ⟨h3, h4⟩ | ⟨h3, h4⟩ <;> rw [h1, h3] <;> omega
theorem mark_ne {s k : Int} (h : s * k ≠ 0) : k ≠ 0 := fun e => h (by rw [e, Int.mul_zero])
/-- A difference turned round, and of a turned mark. -/
theorem xor1_turn {n : N} {a b : Int} (hm : (xor1 n a b).2 ≠ 0) : xor1 (xor1 n a b).1 b a = xor1 n a b := by
  by_cases c1 : a = 1 ∨ a = -1
  · have e : ∀ m : N, xor1 m a b = (m, -a * b) := fun m => by unfold xor1; rw [if_pos c1]
    rw [e]
    unfold xor1
    by_cases c2 : b = 1 ∨ b = -1
    · rw [if_pos c2]; congr 1
      rcases c1 with rfl | rfl <;> rcases c2 with rfl | rfl <;> rfl
    · rw [if_neg c2, if_pos c1]
  by_cases c2 : b = 1 ∨ b = -1
  · have e : ∀ m : N, xor1 m a b = (m, -b * a) := fun m => by unfold xor1; rw [if_neg c1, if_pos c2]
    rw [e]
    unfold xor1
    rw [if_pos c2]
  by_cases c3 : a = b
  · have e : ∀ m : N, xor1 m a b = (m, -1) := fun m => by unfold xor1; rw [if_neg c1, if_neg c2, if_pos c3]
    rw [e]
    unfold xor1
    rw [if_neg c2, if_neg c1, if_pos c3.symm]
  by_cases c4 : a = -b
  · have e : ∀ m : N, xor1 m a b = (m, 1) := fun m => by unfold xor1; rw [if_neg c1, if_neg c2, if_neg c3, if_pos c4]
    rw [e]
    unfold xor1
    rw [if_neg c2, if_neg c1, if_neg (by omega), if_pos (by omega)]
  obtain ⟨g, hg, e⟩ := xor1_gate (n := n) c1 c2 c3 c4
  rw [e] at hm ⊢
  obtain ⟨g', hg', e'⟩ := xor1_gate (n := (put n g).1) c2 c1 (fun h => c3 h.symm) (fun h => c4 (by omega))
  have hgg : g' = g := by
    rcases hg with ⟨rfl, h1⟩ | ⟨rfl, h1⟩ <;> rcases hg' with ⟨rfl, h2⟩ | ⟨rfl, h2⟩ <;> first | rfl | omega
  show xor1 (put n g).1 b a = _
  rw [e', hgg, put_again (mark_ne hm), Int.mul_comm (sgn b)]
theorem xor1_neg {n : N} {a b : Int} (ha : a ≠ 0) (hm : (xor1 n a b).2 ≠ 0) : xor1 (xor1 n a b).1 (-a) b = ((xor1 n a b).1, -(xor1 n a b).2) := by
  by_cases c1 : a = 1 ∨ a = -1
  · have e : ∀ m : N, xor1 m a b = (m, -a * b) := fun m => by unfold xor1; rw [if_pos c1]
    rw [e]
    unfold xor1
    rw [if_pos (by omega)]
    congr 1
    rw [Int.neg_neg, Int.neg_mul, Int.neg_neg]
  by_cases c2 : b = 1 ∨ b = -1
  · have e : ∀ m : N, xor1 m a b = (m, -b * a) := fun m => by unfold xor1; rw [if_neg c1, if_pos c2]
    rw [e]
    unfold xor1
    rw [if_neg (by omega), if_pos c2]
    congr 1
    rw [Int.mul_neg]
  by_cases c3 : a = b
  · have e : ∀ m : N, xor1 m a b = (m, -1) := fun m => by unfold xor1; rw [if_neg c1, if_neg c2, if_pos c3]
    rw [e]
    unfold xor1
    rw [if_neg (by omega), if_neg c2, if_neg (by omega), if_pos (by omega)]
    rfl
  by_cases c4 : a = -b
  · have e : ∀ m : N, xor1 m a b = (m, 1) := fun m => by unfold xor1; rw [if_neg c1, if_neg c2, if_neg c3, if_pos c4]
    rw [e]
    unfold xor1
    rw [if_neg (by omega), if_neg c2, if_pos (by omega)]
  obtain ⟨g, hg, e⟩ := xor1_gate (n := n) c1 c2 c3 c4
  rw [e] at hm ⊢
  obtain ⟨g', hg', e'⟩ := xor1_gate (n := (put n g).1) (a := -a) (b := b) (by omega) c2 (by omega) (by omega)
  have hgg : g' = g := by
    rw [Int.natAbs_neg] at hg'
    rcases hg with ⟨rfl, h1⟩ | ⟨rfl, h1⟩ <;> rcases hg' with ⟨rfl, h2⟩ | ⟨rfl, h2⟩ <;> first | rfl | omega
  show xor1 (put n g).1 (-a) b = _
  rw [e', hgg, put_again (mark_ne hm), sgn_ne ha]
  simp [Int.neg_mul]

theorem put_length {n : N} {g : G} (hm : (put n g).2 ≠ 0) : (put n g).1.gs.length = n.gs.length + if g ∈ n.gs then 0 else 1 := by
  by_cases hin : g ∈ n.gs
  · rw [put_mem hin, if_pos hin]; rfl
  by_cases h6 : 600 ≤ n.gs.length
  · rw [put_full hin h6] at hm; exact absurd rfl hm
  rw [put_new hin h6, if_neg hin]; simp
theorem put_other {n : N} {g h : G} (hm : (put n g).2 ≠ 0) (hne : h ≠ g) : h ∈ (put n g).1.gs ↔ h ∈ n.gs := by
  by_cases hin : g ∈ n.gs
  · rw [put_mem hin]
  by_cases h6 : 600 ≤ n.gs.length
  · rw [put_full hin h6] at hm; exact absurd rfl hm
  rw [put_new hin h6]; simp [hne]
/-- and then xor has as many gates as xor then and. -/
theorem more_len {n : N} {a b : Int} (h1 : (and1 n a b).2 ≠ 0) (h2 : (xor1 n a b).2 ≠ 0) (h3 : (xor1 (and1 n a b).1 a b).2 ≠ 0) (h4 : (and1 (xor1 n a b).1 a b).2 ≠ 0) :
    (xor1 (and1 n a b).1 a b).1.gs.length = (and1 (xor1 n a b).1 a b).1.gs.length := by
  have triv : (a = 1 ∨ a = -1) ∨ (b = 1 ∨ b = -1) ∨ a = b ∨ a = -b → (∀ m : N, (and1 m a b).1 = m) ∧ ∀ m : N, (xor1 m a b).1 = m := by
    intro h
    constructor
    · intro m; unfold and1; split
      · rfl
      · split
        · rfl
        · split
          · rfl
          · omega
    · intro m; unfold xor1; split
      · rfl
      · split
        · rfl
        · split
          · rfl
          · split
            · rfl
            · omega
  by_cases ht : (a = 1 ∨ a = -1) ∨ (b = 1 ∨ b = -1) ∨ a = b ∨ a = -b
  · obtain ⟨t1, t2⟩ := triv ht
    rw [t2, t1, t1, t2]
  have c1 : ¬ (a = 1 ∨ a = -1) := by omega
  have c2 : ¬ (b = 1 ∨ b = -1) := by omega
  have c3 : a ≠ b := by omega
  have c4 : a ≠ -b := by omega
  have ea : ∃ g : G, g.x = false ∧ ∀ m : N, and1 m a b = put m g := by
    by_cases hs : b.natAbs < a.natAbs
    · exact ⟨⟨false, b, a⟩, rfl, fun m => by unfold and1; rw [if_neg (by omega), if_neg (by omega), if_neg (by omega), if_pos hs]⟩
    · exact ⟨⟨false, a, b⟩, rfl, fun m => by unfold and1; rw [if_neg (by omega), if_neg (by omega), if_neg (by omega), if_neg hs]⟩
  have ex : ∃ g : G, g.x = true ∧ ∀ m : N, xor1 m a b = ((put m g).1, sgn a * sgn b * (put m g).2) := by
    by_cases hs : b.natAbs < a.natAbs
    · exact ⟨⟨true, b.natAbs, a.natAbs⟩, rfl, fun m => by unfold xor1; rw [if_neg c1, if_neg c2, if_neg c3, if_neg c4, if_pos hs]⟩
    · exact ⟨⟨true, a.natAbs, b.natAbs⟩, rfl, fun m => by unfold xor1; rw [if_neg c1, if_neg c2, if_neg c3, if_neg c4, if_neg hs]⟩
  obtain ⟨g, hgx, eg⟩ := ea
  obtain ⟨k, hkx, ek⟩ := ex
  have hne : k ≠ g := fun e => by rw [e, hgx] at hkx; cases hkx
  rw [ek] at h2 h3
  rw [eg] at h1 h3 h4
  rw [ek] at h4
  rw [ek, eg, eg, ek]
  have h2 := mark_ne h2
  have h3 := mark_ne h3
  rw [put_length h3, put_length h4, put_length h1, put_length h2]
  simp only [put_other h1 hne, put_other h2 (fun e => hne e.symm)]
  omega

theorem netOp_yes {op : N → Int → Int → N × Int} {n : N} {a b : Int} (h : (netOp op n a b).2 ≠ 0) : netOk n = true ∧ netMark n a = true ∧ netMark n b = true ∧ netOp op n a b = op n a b := by
  unfold netOp at h ⊢
  cases h1 : netOk n <;> cases h2 : netMark n a <;> cases h3 : netMark n b <;> simp_all
theorem netOp_no {op : N → Int → Int → N × Int} {n : N} {a b : Int} (hz : ∀ {m : N} {a b : Int}, 0 ≤ m.ins → a ≠ 0 → b ≠ 0 → (op m a b).2 = 0 → op m a b = (⟨0, []⟩, 0)) (h : (netOp op n a b).2 = 0) : netOp op n a b = (⟨0, []⟩, 0) := by
  unfold netOp at h ⊢
  split at h
  · rename_i hc
    rw [if_pos hc]
    simp only [Bool.and_eq_true] at hc
    exact hz (netOk_all.1 hc.1).1 (netMark_iff.1 hc.2.1).1 (netMark_iff.1 hc.2.2).1 h
  · rename_i hc; rw [if_neg hc]
theorem netOp_in {op : N → Int → Int → N × Int} {n : N} {a b : Int} (h1 : netOk n = true) (h2 : netMark n a = true) (h3 : netMark n b = true) : netOp op n a b = op n a b := by
  unfold netOp; rw [if_pos (by rw [h1, h2, h3]; rfl)]
theorem Grows.has {n : N} {r : N × Int} (h : Grows n r) {m : Int} (hm : netMark n m = true) : netMark r.1 m = true := by
  have := netMark_iff.1 hm
  obtain ⟨t, ht, _⟩ := h.ext
  have hl : r.1.gs.length = n.gs.length + t.length := by rw [ht]; simp
  exact netMark_iff.2 (by rw [h.ins]; omega)

/-- Values of a net that has grown: those of the old marks stay. -/
theorem vals_ext {n x : N} {t : List G} (hn : netOk n = true) (hx : netOk x = true) (hi : x.ins = n.ins) (hg : x.gs = n.gs ++ t) {ins : List Bool} (hl : (ins.length : Int) = n.ins) : ∃ t', netVals x ins = netVals n ins ++ t' := by
  unfold netVals
  have h1 : (netOk n && decide ((ins.length : Int) = n.ins)) = true := by rw [hn, decide_eq_true hl]; rfl
  have h2 : (netOk x && decide ((ins.length : Int) = x.ins)) = true := by rw [hx, hi, decide_eq_true hl]; rfl
  rw [if_pos h1, if_pos h2, hg, runG_app]
  obtain ⟨t', h, _⟩ := runG_pre t (runG n.gs (true :: ins))
  exact ⟨t', h⟩
/-- What wpGate asks. -/
def gateLaw (n x : N) (a b m : Int) (xor : Bool) (ins : List Bool) : Bool :=
  decide ((netVals n ins).length ≤ (netVals x ins).length) && (decide (netVals n ins = (netVals x ins).take (netVals n ins).length) &&
    (netLit (netVals x ins) m == (!xor && netLit (netVals x ins) a && netLit (netVals x ins) b || xor && (netLit (netVals x ins) a != netLit (netVals x ins) b))))
theorem gateLaw_mk {n x : N} {t : List G} {a b m : Int} {xor : Bool} {ins : List Bool} (hn : netOk n = true) (hx : netOk x = true) (hi : x.ins = n.ins) (hg : x.gs = n.gs ++ t) (hl : (ins.length : Int) = n.ins)
    (hs : ∀ w, Obeys x w → netLit w m = if xor then (netLit w a != netLit w b) else (netLit w a && netLit w b)) : gateLaw n x a b m xor ins = true := by
  obtain ⟨t', ht⟩ := vals_ext hn hx hi hg hl
  have ho := hs _ (obeys_vals hx (by rw [hi]; exact hl)).1
  unfold gateLaw
  rw [ho]
  rw [ht]
  cases xor <;> simp
/-- The law of and. -/
theorem and_law {n : N} {a b : Int} {r : N × Int} (hr : r = netOp and1 n a b) (hm : r.2 ≠ 0) :
    netOp and1 r.1 b a = r ∧ netOk r.1 = true ∧ r.1.gs.length ≤ n.gs.length + 1 ∧ r.1.ins = n.ins ∧ 0 ≤ n.ins ∧ n.ins ≤ 8 ∧ ∀ ins : List Bool, (ins.length : Int) = n.ins → gateLaw n r.1 a b r.2 false ins = true := by
  subst hr
  obtain ⟨h1, h2, h3, h4⟩ := netOp_yes hm
  rw [h4] at hm ⊢
  obtain ⟨hg, hs⟩ := and1_says h1 h2 h3 hm
  obtain ⟨t, ht, htl⟩ := hg.ext
  have hb := netOk_all.1 h1
  refine ⟨by rw [netOp_in hg.ok (hg.has h3) (hg.has h2)]; exact and1_turn hm, hg.ok, by rw [ht]; simp; omega, hg.ins, hb.1, hb.2.1, fun ins hl => gateLaw_mk h1 hg.ok hg.ins ht hl fun w hw => by rw [hs w hw]; rfl⟩
theorem xor_law {n : N} {a b : Int} {r : N × Int} (hr : r = netOp xor1 n a b) (hm : r.2 ≠ 0) :
    netOp xor1 r.1 b a = r ∧ netOp xor1 r.1 (-a) b = (r.1, -r.2) ∧ netOk r.1 = true ∧ r.1.ins = n.ins ∧ 0 ≤ n.ins ∧ n.ins ≤ 8 ∧ (-(1 + n.ins + n.gs.length) ≤ a ∧ a ≤ 1 + n.ins + n.gs.length) ∧ ∀ ins : List Bool, (ins.length : Int) = n.ins → gateLaw n r.1 a b r.2 true ins = true := by
  subst hr
  obtain ⟨h1, h2, h3, h4⟩ := netOp_yes hm
  rw [h4] at hm ⊢
  obtain ⟨hg, hs⟩ := xor1_says h1 h2 h3 hm
  obtain ⟨t, ht, htl⟩ := hg.ext
  have hb := netOk_all.1 h1
  have ha := netMark_iff.1 h2
  have hna : netMark (xor1 n a b).1 (-a) = true := by
    have := netMark_iff.1 (hg.has h2); exact netMark_iff.2 (by omega)
  refine ⟨by rw [netOp_in hg.ok (hg.has h3) (hg.has h2)]; exact xor1_turn hm, by rw [netOp_in hg.ok hna (hg.has h3)]; exact xor1_neg ha.1 hm, hg.ok, hg.ins, hb.1, hb.2.1, ha.2, fun ins hl => gateLaw_mk h1 hg.ok hg.ins ht hl fun w hw => by rw [hs w hw]; rfl⟩
/-- The law of both, one behind the other. -/
theorem more_law {n : N} {a b : Int} (h1 : (netOp and1 n a b).2 ≠ 0) (h2 : (netOp xor1 n a b).2 ≠ 0) (h3 : (netOp xor1 (netOp and1 n a b).1 a b).2 ≠ 0) (h4 : (netOp and1 (netOp xor1 n a b).1 a b).2 ≠ 0) :
    (netOp xor1 (netOp and1 n a b).1 a b).1.gs.length = (netOp and1 (netOp xor1 n a b).1 a b).1.gs.length ∧ 0 ≤ n.ins ∧ n.ins ≤ 8 ∧ ∀ ins : List Bool, (ins.length : Int) = n.ins →
      gateLaw n (netOp xor1 (netOp and1 n a b).1 a b).1 a b (netOp xor1 (netOp and1 n a b).1 a b).2 true ins = true ∧ gateLaw n (netOp and1 (netOp xor1 n a b).1 a b).1 a b (netOp and1 (netOp xor1 n a b).1 a b).2 false ins = true ∧
      gateLaw n (netOp xor1 (netOp and1 n a b).1 a b).1 a b (netOp and1 n a b).2 false ins = true ∧ gateLaw n (netOp and1 (netOp xor1 n a b).1 a b).1 a b (netOp xor1 n a b).2 true ins = true := by
  obtain ⟨n1, na, nb, e1⟩ := netOp_yes h1
  obtain ⟨_, _, _, e2⟩ := netOp_yes h2
  obtain ⟨_, _, _, e3⟩ := netOp_yes h3
  obtain ⟨_, _, _, e4⟩ := netOp_yes h4
  rw [e3] at h3
  rw [e4] at h4
  rw [e3, e4]
  rw [e1] at h1 h3 ⊢
  rw [e2] at h2 h4 ⊢
  obtain ⟨g1, s1⟩ := and1_says n1 na nb h1
  obtain ⟨g2, s2⟩ := xor1_says n1 na nb h2
  obtain ⟨g3, s3⟩ := xor1_says g1.ok (g1.has na) (g1.has nb) h3
  obtain ⟨g4, s4⟩ := and1_says g2.ok (g2.has na) (g2.has nb) h4
  obtain ⟨t1, x1, _⟩ := g1.ext
  obtain ⟨t2, x2, _⟩ := g2.ext
  obtain ⟨t3, x3, _⟩ := g3.ext
  obtain ⟨t4, x4, _⟩ := g4.ext
  have hb := netOk_all.1 n1
  have i3 := g3.ins.trans g1.ins
  have i4 := g4.ins.trans g2.ins
  have y3 := x3.trans (by rw [x1, List.append_assoc])
  have y4 := x4.trans (by rw [x2, List.append_assoc])
  refine ⟨more_len h1 h2 h3 h4, hb.1, hb.2.1, fun ins hl => ⟨?_, ?_, ?_, ?_⟩⟩
  · exact gateLaw_mk n1 g3.ok i3 y3 hl fun w hw => by rw [s3 w hw]; rfl
  · exact gateLaw_mk n1 g4.ok i4 y4 hl fun w hw => by rw [s4 w hw]; rfl
  · exact gateLaw_mk n1 g3.ok i3 y3 hl fun w hw => by rw [s1 w (hw.pre (w := t3) g3.ins x3)]; rfl
  · exact gateLaw_mk n1 g4.ok i4 y4 hl fun w hw => by rw [s2 w (hw.pre (w := t4) g4.ins x4)]; rfl
end Go.Proofs.Ytcdlfnhjpjpbjaa
