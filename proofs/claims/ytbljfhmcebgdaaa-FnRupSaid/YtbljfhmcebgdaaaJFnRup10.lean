/- The reference's search: what it does, the plain law. No program is named here. The reference's search keeps its trail right: the plain law. No program is named here. The reference's steps keep a search right: the plain law. No program is named here. The reference's search: l5Top, l5Has, l5Last, l5Below. The reference's search: l5Last, l5Levels. -/
import Derived.Test.YtbljfhmcebgdaaaJFnRup1
import Derived.Test.YtbljfhmcebgdaaaJFnRup2
import Derived.Test.YtbljfhmcebgdaaaJFnRup3
import Derived.Test.YtbljfhmcebgdaaaJFnRup5
import Derived.Test.YtbljfhmcebgdaaaJFnRup7
/-! The reference's search: what it does, the plain law. No program is named here. -/
namespace Go.Proofs.Ytbljfhmcebgdaaa
open Go Go.RowKit

/-- How many decisions there are. -/
def negs : List Int → Int
  | [] => 0
  | k :: ks => (if k < 0 then 1 else 0) + negs ks
theorem negs_app : ∀ (xs ys : List Int), negs (xs ++ ys) = negs xs + negs ys
  | [], ys => by simp [negs]
  | x :: xs, ys => by simp only [List.cons_append, negs, negs_app xs ys]; omega
theorem negs_nn : ∀ xs : List Int, 0 ≤ negs xs
  | [] => Int.le_refl _
  | x :: xs => by
    have := negs_nn xs
    simp only [negs]
    split <;> omega
theorem negs_step {why : List Int} {i : Nat} (h : i < why.length) : negs (why.take (i + 1)) = negs (why.take i) + if why[i] < 0 then 1 else 0 := by
  rw [List.take_succ_eq_append_getElem h, negs_app]
  simp [negs]
theorem negs_mono {why : List Int} {i j : Nat} (h : i ≤ j) : negs (why.take i) ≤ negs (why.take j) := by
  have e : why.take i = (why.take j).take i := by rw [List.take_take, Nat.min_eq_left h]
  conv => rhs; rw [← List.take_append_drop i (why.take j), negs_app, ← e]
  have := negs_nn ((why.take j).drop i)
  omega
/-- The level of a mark. -/
def lev : List Int → List Int → Int → Nat → Int
  | m :: ms, k :: ks, lv, v => if m.natAbs = v then lv + (if k < 0 then 1 else 0) else lev ms ks (lv + (if k < 0 then 1 else 0)) v
  | _, _, _, _ => 0
theorem lev_at : ∀ (put why : List Int) (lv : Int) (i : Nat) (m k : Int), (put.map Int.natAbs).Nodup → put[i]? = some m → why[i]? = some k → lev put why lv m.natAbs = lv + negs (why.take (i + 1))
  | [], _, _, i, m, k, _, h, _ => by simp at h
  | _ :: _, [], _, i, m, k, _, _, h => by simp at h
  | m0 :: ms, k0 :: ks, lv, 0, m, k, hn, h, h' => by
    simp at h h'
    subst h h'
    simp [lev, negs]
  | m0 :: ms, k0 :: ks, lv, i + 1, m, k, hn, h, h' => by
    have h : ms[i]? = some m := by simpa using h
    have h' : ks[i]? = some k := by simpa using h'
    rw [List.map_cons, List.nodup_cons] at hn
    have hne : ¬ m0.natAbs = m.natAbs := fun e => hn.1 (by rw [e]; exact List.mem_map.2 ⟨m, List.mem_of_getElem? h, rfl⟩)
    simp only [lev]
    rw [if_neg hne, lev_at ms ks _ i m k hn.2 h h']
    simp only [List.take_succ_cons, negs]
    omega
/-- One mark more. -/
theorem lev_snoc : ∀ (put why : List Int) (lv m k : Int) (v : Nat), put.length = why.length → ((put ++ [m]).map Int.natAbs).Nodup → lev (put ++ [m]) (why ++ [k]) lv v = if m.natAbs = v then lv + negs (why ++ [k]) else lev put why lv v
  | [], [], lv, m, k, v, _, _ => by simp [lev, negs]
  | [], _ :: _, _, _, _, _, h, _ => by simp at h
  | _ :: _, [], _, _, _, _, h, _ => by simp at h
  | m0 :: ms, k0 :: ks, lv, m, k, v, h, hn => by
    simp only [List.cons_append, lev, negs]
    rw [List.cons_append, List.map_cons, List.nodup_cons] at hn
    rw [lev_snoc ms ks _ m k v (by simpa using h) hn.2]
    by_cases h0 : m0.natAbs = v
    · have : ¬ m.natAbs = v := fun e => hn.1 (by rw [h0, ← e]; exact List.mem_map.2 ⟨m, by simp, rfl⟩)
      rw [if_pos h0, if_pos h0, if_neg this]
    · rw [if_neg h0, if_neg h0]
      by_cases h1 : m.natAbs = v
      · rw [if_pos h1, if_pos h1]; omega
      · rw [if_neg h1, if_neg h1]
/-- The greatest level of a clause, and how many are of it. -/
def topP (lv : Nat → Int) : List Int → Int → Int → Int × Int
  | [], t, n => (t, n)
  | l :: ls, t, n => if t < lv l.natAbs then topP lv ls (lv l.natAbs) 1 else if lv l.natAbs = t then topP lv ls t (n + 1) else topP lv ls t n
theorem topP_drop {lv : Nat → Int} {cl : List Int} {k : Nat} {t n : Int} (h : k < cl.length) : topP lv (cl.drop k) t n = if t < lv cl[k].natAbs then topP lv (cl.drop (k + 1)) (lv cl[k].natAbs) 1 else if lv cl[k].natAbs = t then topP lv (cl.drop (k + 1)) t (n + 1) else topP lv (cl.drop (k + 1)) t n := by
  rw [List.drop_eq_getElem_cons h]; rfl
def cntP (lv : Nat → Int) (t : Int) (cl : List Int) : Int := ((cl.filter fun l => lv l.natAbs == t).length : Nat)
theorem cntP_cons (lv : Nat → Int) (t l : Int) (ls : List Int) : cntP lv t (l :: ls) = (if lv l.natAbs = t then 1 else 0) + cntP lv t ls := by
  unfold cntP
  rw [List.filter_cons]
  by_cases h : lv l.natAbs = t
  · rw [if_pos h, if_pos (by simpa using h), List.length_cons]; omega
  · rw [if_neg h, if_neg (by simpa using h)]; omega
theorem topP_spec {lv : Nat → Int} : ∀ (cl : List Int) (t n : Int), t ≤ (topP lv cl t n).1 ∧ (∀ l ∈ cl, lv l.natAbs ≤ (topP lv cl t n).1) ∧ (topP lv cl t n).2 = (if (topP lv cl t n).1 = t then n else 0) + cntP lv (topP lv cl t n).1 cl
  | [], t, n => by simp [topP, cntP]
  | l :: ls, t, n => by
    simp only [topP]
    split
    · rename_i h
      obtain ⟨h1, h2, h3⟩ := topP_spec (lv := lv) ls (lv l.natAbs) 1
      refine ⟨by omega, fun x hx => ?_, ?_⟩
      · rcases List.mem_cons.1 hx with rfl | hx
        · exact h1
        · exact h2 x hx
      · rw [h3, cntP_cons]
        have e : ¬ (topP lv ls (lv l.natAbs) 1).1 = t := by omega
        rw [if_neg e]
        by_cases h9 : (topP lv ls (lv l.natAbs) 1).1 = lv l.natAbs
        · rw [if_pos h9, if_pos h9.symm]; omega
        · rw [if_neg h9, if_neg fun e => h9 e.symm]; omega
    · rename_i h
      split
      · rename_i h9
        obtain ⟨h1, h2, h3⟩ := topP_spec (lv := lv) ls t (n + 1)
        refine ⟨h1, fun x hx => ?_, ?_⟩
        · rcases List.mem_cons.1 hx with rfl | hx
          · omega
          · exact h2 x hx
        · rw [h3, cntP_cons]
          by_cases h8 : (topP lv ls t (n + 1)).1 = t
          · rw [if_pos h8, if_pos h8, if_pos (by omega)]; omega
          · rw [if_neg h8, if_neg h8, if_neg (by omega)]; omega
      · rename_i h9
        obtain ⟨h1, h2, h3⟩ := topP_spec (lv := lv) ls t n
        refine ⟨h1, fun x hx => ?_, ?_⟩
        · rcases List.mem_cons.1 hx with rfl | hx
          · omega
          · exact h2 x hx
        · rw [h3, cntP_cons]
          have e : ¬ lv l.natAbs = (topP lv ls t n).1 := by omega
          rw [if_neg e]; omega
def hasM (cl : List Int) (v : Nat) : Bool := cl.any fun l => l.natAbs == v
theorem hasM_iff {cl : List Int} {v : Nat} : hasM cl v = true ↔ ∃ l ∈ cl, l.natAbs = v := by
  unfold hasM
  rw [List.any_eq_true]
  constructor
  · rintro ⟨l, h1, h2⟩; exact ⟨l, h1, by simpa using h2⟩
  · rintro ⟨l, h1, h2⟩; exact ⟨l, h1, by simpa using h2⟩
/-- The place of the mark that was put last, of the first n. -/
def lastP (put cl : List Int) : Nat → Int
  | 0 => -1
  | i + 1 => if hasM cl (put.getD i 0).natAbs then (i : Int) else lastP put cl i
theorem lastP_spec (put cl : List Int) : ∀ n : Nat, -1 ≤ lastP put cl n ∧ lastP put cl n < n ∧ (0 ≤ lastP put cl n → hasM cl (put.getD (lastP put cl n).toNat 0).natAbs = true) ∧ ∀ j : Nat, lastP put cl n < j → j < n → hasM cl (put.getD j 0).natAbs = false
  | 0 => ⟨Int.le_refl _, by simp [lastP], fun h => by simp [lastP] at h, fun j _ h => by omega⟩
  | i + 1 => by
    obtain ⟨h1, h2, h3, h4⟩ := lastP_spec put cl i
    simp only [lastP]
    split
    · rename_i h
      exact ⟨by omega, by omega, fun _ => by rw [Int.toNat_natCast]; exact h, fun j hj hj' => by omega⟩
    · rename_i h
      refine ⟨h1, by omega, h3, fun j hj hj' => ?_⟩
      by_cases e : j = i
      · subst e; simpa using h
      · exact h4 j hj (by omega)
/-- The number of a mark in a clause, or 0: the last one. -/
def litOf : List Int → Nat → Int
  | [], _ => 0
  | l :: ls, v => if hasM ls v then litOf ls v else if l.natAbs = v then l else 0
theorem litOf_app : ∀ (xs ys : List Int) (v : Nat), litOf (xs ++ ys) v = if hasM ys v then litOf ys v else litOf xs v
  | [], ys, v => by
    simp only [List.nil_append]
    split
    · rfl
    · rename_i h
      have : litOf ys v = 0 := by
        cases ys with
        | nil => rfl
        | cons y ys =>
          have h : ¬ (hasM (y :: ys) v = true) := h
          rw [hasM_iff] at h
          have h1 : ¬ hasM ys v = true := fun e => by
            obtain ⟨l, hl, e⟩ := hasM_iff.1 e
            exact h ⟨l, List.mem_cons_of_mem _ hl, e⟩
          simp only [litOf]
          rw [if_neg h1, if_neg fun e => h ⟨y, List.mem_cons_self .., e⟩]
      rw [this]; rfl
  | x :: xs, ys, v => by
    simp only [List.cons_append, litOf]
    rw [litOf_app xs ys v]
    have e : hasM (xs ++ ys) v = (hasM xs v || hasM ys v) := by unfold hasM; rw [List.any_append]
    rw [e]
    cases hy : hasM ys v <;> cases hx : hasM xs v <;> simp
theorem litOf_mem : ∀ {cl : List Int} {v : Nat}, litOf cl v ≠ 0 → litOf cl v ∈ cl ∧ (litOf cl v).natAbs = v
  | [], v, h => absurd rfl h
  | l :: ls, v, h => by
    simp only [litOf] at h ⊢
    by_cases h1 : hasM ls v = true
    · rw [if_pos h1] at h ⊢
      obtain ⟨h2, h3⟩ := litOf_mem h
      exact ⟨List.mem_cons_of_mem _ h2, h3⟩
    · rw [if_neg h1] at h ⊢
      by_cases h2 : l.natAbs = v
      · rw [if_pos h2] at h ⊢; exact ⟨List.mem_cons_self .., h2⟩
      · rw [if_neg h2] at h; exact absurd rfl h
/-- Two clauses together, without a mark: of the marks a+1 to a+n. -/
def joinF (ab : List Int) (m : Nat) : Nat → Nat → List Int
  | _, 0 => []
  | a, n + 1 => (if a + 1 ≠ m ∧ litOf ab (a + 1) ≠ 0 then [litOf ab (a + 1)] else []) ++ joinF ab m (a + 1) n
def joinP (M : Nat) (a b : List Int) (m : Nat) : List Int := joinF (a ++ b) m 0 M
theorem joinF_mem {ab : List Int} {m : Nat} : ∀ {n a : Nat} {l : Int}, l ∈ joinF ab m a n → l ∈ ab ∧ l ≠ 0 ∧ l.natAbs ≠ m ∧ a < l.natAbs ∧ l.natAbs ≤ a + n
  | 0, a, l, h => by simp [joinF] at h
  | n + 1, a, l, h => by
    simp only [joinF] at h
    rcases List.mem_append.1 h with h | h
    · split at h
      · rename_i h9
        rw [List.mem_singleton.1 h]
        obtain ⟨h1, h2⟩ := litOf_mem h9.2
        exact ⟨h1, h9.2, by rw [h2]; exact h9.1, by omega, by omega⟩
      · simp at h
    · obtain ⟨h1, h2, h3, h4, h5⟩ := joinF_mem h
      exact ⟨h1, h2, h3, by omega, by omega⟩
theorem joinF_cOk {ab : List Int} {m : Nat} {M : Int} : ∀ {n a : Nat}, (a + n : Int) ≤ M → cOk M a (joinF ab m a n) = true
  | 0, a, _ => rfl
  | n + 1, a, h => by
    have ih := joinF_cOk (ab := ab) (m := m) (M := M) (n := n) (a := a + 1) (by omega)
    simp only [joinF]
    split
    · rename_i h9
      obtain ⟨h1, h2⟩ := litOf_mem h9.2
      simp only [List.singleton_append, cOk, Bool.and_eq_true, decide_eq_true_eq]
      refine ⟨⟨⟨by omega, by omega⟩, by omega⟩, ?_⟩
      rw [show ((litOf ab (a + 1)).natAbs : Int) = ((a + 1 : Nat) : Int) by rw [h2]]
      exact ih
    · simp only [List.nil_append]
      exact cOk_low ih
where cOk_low {M : Int} {a : Nat} : ∀ {cl : List Int}, cOk M ((a + 1 : Nat) : Int) cl = true → cOk M (a : Int) cl = true
  | [], _ => rfl
  | l :: ls, h => by
    simp only [cOk, Bool.and_eq_true, decide_eq_true_eq] at h ⊢
    exact ⟨⟨h.1.1, by omega⟩, h.2⟩
theorem joinP_clOk (M : Nat) (a b : List Int) (m : Nat) : clOk (M : Int) (joinP M a b m) = true := by
  have h := joinF_cOk (ab := a ++ b) (m := m) (M := (M : Int)) (n := M) (a := 0) (by simp)
  exact h
/-- The clauses' reasons, place by place. -/
theorem whysF_iff {cs : List (List Int)} : ∀ {pre put why : List Int}, put.length = why.length → (whysF cs pre put why = true ↔ ∀ (i : Nat) (m k : Int), put[i]? = some m → why[i]? = some k → whyOk cs (pre ++ put.take i) m k = true)
  | pre, [], [], _ => ⟨fun _ i m k h => by simp at h, fun _ => rfl⟩
  | pre, [], _ :: _, h => by simp at h
  | pre, _ :: _, [], h => by simp at h
  | pre, m :: ms, k :: ks, h => by
    simp only [whysF, Bool.and_eq_true]
    rw [whysF_iff (pre := pre ++ [m]) (by simpa using h)]
    constructor
    · rintro ⟨h1, h2⟩ i m' k' hm hk
      rcases i with _ | i
      · simp at hm hk; subst hm hk; simpa using h1
      · have := h2 i m' k' (by simpa using hm) (by simpa using hk)
        simpa using this
    · intro h2
      refine ⟨by simpa using h2 0 m k rfl rfl, fun i m' k' hm hk => ?_⟩
      have := h2 (i + 1) m' k' (by simpa using hm) (by simpa using hk)
      simpa using this
end Go.Proofs.Ytbljfhmcebgdaaa

/-! The reference's search keeps its trail right: the plain law. No program is named here. -/
namespace Go.Proofs.Ytbljfhmcebgdaaa
open Go Go.RowKit

theorem pos_eq {put : List Int} (hn : (put.map Int.natAbs).Nodup) {i j : Nat} {x y : Int} (hi : put[i]? = some x) (hj : put[j]? = some y) (h : x.natAbs = y.natAbs) : i = j := by
  obtain ⟨h1, e1⟩ := List.getElem?_eq_some_iff.1 hi
  obtain ⟨h2, e2⟩ := List.getElem?_eq_some_iff.1 hj
  have hp := List.pairwise_iff_getElem.1 hn
  rcases Nat.lt_trichotomy i j with h9 | h9 | h9
  · exact absurd (by rw [List.getElem_map, List.getElem_map, e1, e2]; exact h) (hp i j (by simpa using h1) (by simpa using h2) h9)
  · exact h9
  · exact absurd (by rw [List.getElem_map, List.getElem_map, e1, e2]; exact h.symm) (hp j i (by simpa using h2) (by simpa using h1) h9)
theorem take_pos {put : List Int} {p : Nat} {x : Int} (h : x ∈ put.take p) : ∃ i, i < p ∧ put[i]? = some x := by
  obtain ⟨i, hi, e⟩ := List.getElem_of_mem h
  rw [List.length_take] at hi
  refine ⟨i, by omega, ?_⟩
  rw [List.getElem_take] at e
  rw [← e]
  exact List.getElem?_eq_getElem (by omega)
theorem pos_take {put : List Int} {p i : Nat} {x : Int} (h : put[i]? = some x) (hi : i < p) : x ∈ put.take p := by
  refine List.mem_of_getElem? (i := i) ?_
  rw [List.getElem?_take, if_pos hi, h]
theorem nodup_const {v : Nat} : ∀ {l : List Nat}, l.Nodup → (∀ x ∈ l, x = v) → l.length ≤ 1
  | [], _, _ => by simp
  | [x], _, _ => by simp
  | x :: y :: l, hn, h => by
    have h1 := h x (by simp)
    have h2 := h y (by simp)
    rw [List.nodup_cons] at hn
    exact absurd (by rw [h1, ← h2]; simp) hn.1
theorem clOk_nodup {many : Int} {cl : List Int} (h : clOk many cl = true) : (cl.map Int.natAbs).Nodup := by
  have hg := (cOk_good (Int.le_refl 0) h).1.nodup
  rw [List.map_map] at hg
  rw [show Int.natAbs = Int.natAbs ∘ (fun l : Int => -l) from by funext l; simp]
  exact hg
/-- A step of learning: the last mark of the clause has a reason, and what comes of both stands further ahead. -/
theorem learn_step {M : Nat} {cs : List (List Int)} {put why cl : List Int} (hg : Good M put) (hl : put.length = why.length) (hw : whysF cs [] put why = true) (hc : clOk M cl = true) {p : Nat} (hf : ∀ l ∈ cl, -l ∈ put.take p) (hn : 1 < (topP (lev put why 0) cl 0 0).2) :
    ∃ (i : Nat) (m k : Int), lastP put cl put.length = i ∧ i < p ∧ put[i]? = some m ∧ why[i]? = some k ∧ 0 ≤ k ∧ k < cs.length ∧ (∀ l ∈ cs.getD k.toNat [], l = m ∨ -l ∈ put.take i) ∧ ∀ l ∈ joinP M cl (cs.getD k.toNat []) m.natAbs, -l ∈ put.take i := by
  obtain ⟨t1, t2, t3⟩ := topP_spec (lv := lev put why 0) cl 0 0
  generalize (topP (lev put why 0) cl 0 0).1 = t at *
  have hcnt : 1 < cntP (lev put why 0) t cl := by rw [t3] at hn; split at hn <;> omega
  -- where the last mark stands
  obtain ⟨l1, l2, l3, l4⟩ := lastP_spec put cl put.length
  have hat : ∀ l ∈ cl, ∃ j, j < p ∧ put[j]? = some (-l) ∧ (j : Int) ≤ lastP put cl put.length := fun l hl9 => by
    obtain ⟨j, hj, e⟩ := take_pos (hf l hl9)
    refine ⟨j, hj, e, ?_⟩
    rcases Int.lt_or_le (lastP put cl put.length) j with h9 | h9
    · have hjl := (List.getElem?_eq_some_iff.1 e).1
      have := l4 j h9 hjl
      have h8 : hasM cl (put.getD j 0).natAbs = true := hasM_iff.2 ⟨l, hl9, by rw [List.getD_eq_getElem?_getD, e]; simp⟩
      rw [h8] at this; cases this
    · exact h9
  have hne : ∃ l0, l0 ∈ cl := by
    cases cl with
    | nil => simp [cntP] at hcnt
    | cons x xs => exact ⟨x, by simp⟩
  obtain ⟨l0, hl0⟩ := hne
  obtain ⟨j0, _, _, hj0⟩ := hat l0 hl0
  obtain ⟨i, hi⟩ : ∃ i : Nat, lastP put cl put.length = i := ⟨(lastP put cl put.length).toNat, by omega⟩
  rw [hi] at l2 l3 hat
  have l3 := l3 (by omega)
  rw [Int.toNat_natCast] at l3
  have hil : i < put.length := by omega
  obtain ⟨m, hm⟩ : ∃ m, put[i]? = some m := ⟨_, List.getElem?_eq_getElem hil⟩
  obtain ⟨k, hk⟩ : ∃ k, why[i]? = some k := ⟨_, List.getElem?_eq_getElem (by omega)⟩
  have hgm : put.getD i 0 = m := by rw [List.getD_eq_getElem?_getD, hm]; rfl
  rw [hgm] at l3
  obtain ⟨x, hx, hxm⟩ := hasM_iff.1 l3
  obtain ⟨j, hjp, hjx, _⟩ := hat x hx
  have hji : j = i := pos_eq hg.nodup hjx hm (by rw [Int.natAbs_neg]; exact hxm)
  subst hji
  have hrs := (whysF_iff hl).1 hw j m k hm hk
  rw [List.nil_append] at hrs
  have hiw : j < why.length := by omega
  have hwk : why[j] = k := (List.getElem?_eq_some_iff.1 hk).2
  have hk0 : 0 ≤ k := by
    rcases Int.lt_or_le k 0 with hneg | h9
    · exfalso
      have hstep := negs_step hiw
      rw [hwk, if_pos hneg] at hstep
      have hlv : ∀ l ∈ cl, ∃ q, q ≤ j ∧ put[q]? = some (-l) ∧ lev put why 0 l.natAbs = negs (why.take (q + 1)) := fun l hl9 => by
        obtain ⟨q, hq, hq1, hq2⟩ := hat l hl9
        have hql := (List.getElem?_eq_some_iff.1 hq1).1
        refine ⟨q, by omega, hq1, ?_⟩
        have := lev_at put why 0 q (-l) _ hg.nodup hq1 (List.getElem?_eq_getElem (show q < why.length by omega))
        rw [Int.natAbs_neg] at this
        rw [this]; omega
      have hall : ∀ l ∈ cl.filter (fun l => lev put why 0 l.natAbs == t), l.natAbs = m.natAbs := fun l hl9 => by
        obtain ⟨h1, h2⟩ := List.mem_filter.1 hl9
        have h2 : lev put why 0 l.natAbs = t := by simpa using h2
        obtain ⟨q, hq, hq1, hq2⟩ := hlv l h1
        obtain ⟨q', hq', hq1', hq2'⟩ := hlv x hx
        have e' : q' = j := pos_eq hg.nodup hq1' hm (by rw [Int.natAbs_neg]; exact hxm)
        have hx2 := t2 x hx
        rw [hq2', e', hstep] at hx2
        rcases Nat.lt_or_ge q j with h9 | h9
        · have := negs_mono (why := why) (show q + 1 ≤ j by omega)
          omega
        · have e : q = j := by omega
          subst e
          rw [hm] at hq1
          injection hq1 with hq1
          rw [hq1, Int.natAbs_neg]
      have hnd : ((cl.filter (fun l => lev put why 0 l.natAbs == t)).map Int.natAbs).Nodup := ((List.filter_sublist ..).map _).nodup (clOk_nodup hc)
      have := nodup_const hnd (v := m.natAbs) fun y hy => by
        obtain ⟨l, h1, rfl⟩ := List.mem_map.1 hy
        exact hall l h1
      rw [List.length_map] at this
      unfold cntP at hcnt
      omega
    · exact h9
  unfold whyOk at hrs
  have hk1 : (k == -1) = false := by simp; omega
  rw [hk1, Bool.false_or, Bool.and_eq_true, Bool.and_eq_true, decide_eq_true_eq, decide_eq_true_eq] at hrs
  obtain ⟨⟨_, hkc⟩, hbc⟩ := hrs
  unfold because at hbc
  rw [Bool.and_eq_true, List.all_eq_true] at hbc
  have hr : ∀ l ∈ cs.getD k.toNat [], l = m ∨ -l ∈ put.take j := fun l hl9 => by
    have := hbc.2 l hl9
    simpa using this
  refine ⟨j, m, k, hi, hjp, hm, hk, hk0, hkc, hr, fun l hl9 => ?_⟩
  obtain ⟨h1, h2, h3, _, _⟩ := joinF_mem hl9
  rcases List.mem_append.1 h1 with h1 | h1
  · obtain ⟨q, _, hq1, hq2⟩ := hat l h1
    have hqj : q ≠ j := fun e => by
      subst e
      rw [hm] at hq1
      injection hq1 with hq1
      exact h3 (by rw [hq1, Int.natAbs_neg])
    exact pos_take hq1 (by omega)
  · rcases hr l h1 with h9 | h9
    · exact absurd (by rw [h9]) h3
    · exact h9
/-- The clause that is learned. -/
def learnP (M : Nat) (cs : List (List Int)) (put why : List Int) : Nat → List Int → List Int
  | 0, cl => cl
  | p + 1, cl => if 1 < (topP (lev put why 0) cl 0 0).2 then learnP M cs put why p (joinP M cl (cs.getD (why.getD (lastP put cl put.length).toNat 0).toNat []) (put.getD (lastP put cl put.length).toNat 0).natAbs) else cl
/-- One step of the loop. -/
theorem learnP_more {M : Nat} {cs : List (List Int)} {put why cl : List Int} (hg : Good M put) (hl : put.length = why.length) (hw : whysF cs [] put why = true) (hc : clOk M cl = true) {p : Nat} (hf : ∀ l ∈ cl, -l ∈ put.take p) (hn : 1 < (topP (lev put why 0) cl 0 0).2) :
    ∃ (i : Nat) (m k : Int), lastP put cl put.length = i ∧ i < p ∧ put[i]? = some m ∧ why[i]? = some k ∧ 0 ≤ k ∧ k < cs.length ∧ clOk M (joinP M cl (cs.getD k.toNat []) m.natAbs) = true ∧ (∀ l ∈ joinP M cl (cs.getD k.toNat []) m.natAbs, -l ∈ put.take (p - 1)) ∧
      (∀ l ∈ cs.getD k.toNat [], -(M : Int) ≤ l ∧ l ≤ M) ∧ learnP M cs put why p cl = learnP M cs put why (p - 1) (joinP M cl (cs.getD k.toNat []) m.natAbs) := by
  obtain ⟨i, m, k, h1, h2, h3, h4, h5, h6, h7, h8⟩ := learn_step hg hl hw hc hf hn
  refine ⟨i, m, k, h1, h2, h3, h4, h5, h6, joinP_clOk _ _ _ _, fun l hl9 => ?_, fun l hl9 => ?_, ?_⟩
  · obtain ⟨q, hq, hq1⟩ := take_pos (h8 l hl9)
    exact pos_take hq1 (by omega)
  · rcases h7 l hl9 with h9 | h9
    · rw [h9]; exact (hg.rng m (List.mem_of_getElem? h3)).2
    · have := (hg.rng _ (List.mem_of_mem_take h9)).2
      omega
  · obtain ⟨p, rfl⟩ : ∃ q, p = q + 1 := ⟨p - 1, by omega⟩
    have e1 : why.getD i 0 = k := by rw [List.getD_eq_getElem?_getD, h4]; rfl
    have e2 : put.getD i 0 = m := by rw [List.getD_eq_getElem?_getD, h3]; rfl
    rw [Nat.add_sub_cancel]
    show (if _ then _ else _) = _
    rw [if_pos hn, h1, Int.toNat_natCast, e1, e2]
theorem learnP_done {M : Nat} {cs : List (List Int)} {put why cl : List Int} {p : Nat} (hn : ¬ 1 < (topP (lev put why 0) cl 0 0).2) : learnP M cs put why p cl = cl := by
  cases p with
  | zero => rfl
  | succ p =>
    show (if _ then _ else _) = _
    rw [if_neg hn]
theorem learnP_ok {M : Nat} {cs : List (List Int)} {put why : List Int} (hg : Good M put) (hl : put.length = why.length) (hw : whysF cs [] put why = true) : ∀ (p : Nat) (cl : List Int), clOk M cl = true → (∀ l ∈ cl, -l ∈ put.take p) → clOk M (learnP M cs put why p cl) = true ∧ ∀ l ∈ learnP M cs put why p cl, -l ∈ put
  | 0, cl, hc, hf => ⟨hc, fun l hl9 => by have := hf l hl9; simp at this⟩
  | p + 1, cl, hc, hf => by
    by_cases hn : 1 < (topP (lev put why 0) cl 0 0).2
    · obtain ⟨i, m, k, h1, h2, h3, h4, h5, h6, h7, h8, _, h9⟩ := learnP_more hg hl hw hc hf hn
      rw [h9]
      rw [Nat.add_sub_cancel] at h8 ⊢
      exact learnP_ok hg hl hw p _ h7 h8
    · rw [learnP_done hn]
      exact ⟨hc, fun l hl9 => List.mem_of_mem_take (hf l hl9)⟩
end Go.Proofs.Ytbljfhmcebgdaaa

/-! The reference's steps keep a search right: the plain law. No program is named here. -/
namespace Go.Proofs.Ytbljfhmcebgdaaa
open Go Go.RowKit

/-- What the first false clause and the first unit are. -/
theorem fd_at {put : List Int} : ∀ {cs : List (List Int)} {k u f : Int}, 0 ≤ k →
    (0 ≤ (fd put cs k u f).1 → ∃ (i : Nat) (cl : List Int) (m : Int), (fd put cs k u f).1 = k + i ∧ cs[i]? = some cl ∧ lk put cl 0 0 = some (0, m)) ∧
    ((fd put cs k u f).1 < 0 → ((fd put cs k u f).2.1 = u ∧ (fd put cs k u f).2.2 = f) ∨ ∃ (i : Nat) (cl : List Int), (fd put cs k u f).2.1 = k + i ∧ cs[i]? = some cl ∧ lk put cl 0 0 = some (1, (fd put cs k u f).2.2))
  | [], k, u, f, _ => by simp [fd]
  | cl :: cls, k, u, f, hk => by
    have ih := fun u f => @fd_at put cls (k + 1) u f (by omega)
    have lift : ∀ (u f : Int), (0 ≤ (fd put cls (k + 1) u f).1 → ∃ (i : Nat) (c : List Int) (m : Int), (fd put cls (k + 1) u f).1 = k + i ∧ (cl :: cls)[i]? = some c ∧ lk put c 0 0 = some (0, m)) := fun u f h => by
      obtain ⟨i, c, m, h1, h2, h3⟩ := (ih u f).1 h
      exact ⟨i + 1, c, m, by omega, by simpa using h2, h3⟩
    have lift2 : ∀ (u f : Int), (fd put cls (k + 1) u f).1 < 0 → ((fd put cls (k + 1) u f).2.1 = u ∧ (fd put cls (k + 1) u f).2.2 = f) ∨ ∃ (i : Nat) (c : List Int), (fd put cls (k + 1) u f).2.1 = k + i ∧ (cl :: cls)[i]? = some c ∧ lk put c 0 0 = some (1, (fd put cls (k + 1) u f).2.2) := fun u f h => by
      rcases (ih u f).2 h with h9 | ⟨i, c, h1, h2, h3⟩
      · exact .inl h9
      · exact .inr ⟨i + 1, c, by omega, by simpa using h2, h3⟩
    simp only [fd]
    cases hl : lk put cl 0 0 with
    | none => exact ⟨lift u f, lift2 u f⟩
    | some p =>
      obtain ⟨n, m⟩ := p
      dsimp only
      by_cases h0 : n = 0
      · rw [if_pos h0]
        subst h0
        exact ⟨fun _ => ⟨0, cl, m, by simp, rfl, hl⟩, fun h => by dsimp only at h; omega⟩
      rw [if_neg h0]
      by_cases h1 : n = 1 ∧ u < 0
      · rw [if_pos h1]
        refine ⟨lift k m, fun h => ?_⟩
        rcases lift2 k m h with ⟨h2, h3⟩ | h9
        · exact .inr ⟨0, cl, by rw [h2]; simp, rfl, by rw [hl, h3, h1.1]⟩
        · exact .inr h9
      · rw [if_neg h1]; exact ⟨lift u f, lift2 u f⟩
/-- The greatest level below another. -/
def belowP (lv : Nat → Int) (top : Int) : List Int → Int → Int
  | [], o => o
  | l :: ls, o => belowP lv top ls (if lv l.natAbs < top then (if o > lv l.natAbs then o else lv l.natAbs) else o)
/-- How many marks stay. -/
def backN (level : Int) : List Int → Int → Nat
  | [], _ => 0
  | w :: ws, k => if level < k + (if w < 0 then 1 else 0) then 0 else 1 + backN level ws (k + (if w < 0 then 1 else 0))
theorem backN_le (level : Int) : ∀ (ws : List Int) (k : Int), backN level ws k ≤ ws.length
  | [], _ => Nat.le_refl _
  | w :: ws, k => by
    simp only [backN, List.length_cons]
    have := backN_le level ws (k + (if w < 0 then 1 else 0))
    by_cases h : level < k + (if w < 0 then 1 else 0)
    · rw [if_pos h]; exact Nat.zero_le _
    · rw [if_neg h]; omega
/-- The clauses, given and learned. -/
def allC (c : C) (s : S) : List (List Int) := c.list ++ s.learned
/-- What comes of a false clause. -/
def clashP (M : Nat) (c : C) (s : S) (cl : List Int) : S :=
  if (topP (lev s.put s.why 0) cl 0 0).1 = 0 then ⟨s.put, s.why, s.learned, 2⟩
  else if 300 ≤ s.learned.length then ⟨s.put, s.why, s.learned, 3⟩
  else ⟨s.put.take (backN (belowP (lev s.put s.why 0) (topP (lev s.put s.why 0) cl 0 0).1 (learnP M (allC c s) s.put s.why s.put.length cl) 0) s.why 0), s.why.take (backN (belowP (lev s.put s.why 0) (topP (lev s.put s.why 0) cl 0 0).1 (learnP M (allC c s) s.put s.why s.put.length cl) 0) s.why 0), s.learned ++ [learnP M (allC c s) s.put s.why s.put.length cl], s.code⟩
/-- The first free mark from m on. -/
def freeP (put : List Int) : Nat → Nat → Nat
  | 0, m => m
  | n + 1, m => if sg put m ≠ 0 then freeP put n (m + 1) else m
/-- One step. -/
def doP (M : Nat) (c : C) (s : S) : S :=
  if 0 ≤ (fdS s.put (allC c s)).1 then clashP M c s ((allC c s).getD (fdS s.put (allC c s)).1.toNat [])
  else if 0 ≤ (fdS s.put (allC c s)).2.1 then ⟨s.put ++ [(fdS s.put (allC c s)).2.2], s.why ++ [(fdS s.put (allC c s)).2.1], s.learned, s.code⟩
  else if (s.put.length : Int) = c.many then ⟨s.put, s.why, s.learned, 1⟩
  else ⟨s.put ++ [-(freeP s.put M 1 : Int)], s.why ++ [-1], s.learned, s.code⟩
def runP (M : Nat) (c : C) : Nat → S → S
  | 0, s => s
  | n + 1, s => if s.code = 0 then runP M c n (doP M c s) else s
theorem whyOk_more {cs : List (List Int)} {x pre : List Int} {m k : Int} (h : whyOk cs pre m k = true) : whyOk (cs ++ [x]) pre m k = true := by
  unfold whyOk at h ⊢
  rw [Bool.or_eq_true] at h ⊢
  rcases h with h | h
  · exact .inl h
  · right
    rw [Bool.and_eq_true, Bool.and_eq_true, decide_eq_true_eq, decide_eq_true_eq] at h ⊢
    refine ⟨⟨h.1.1, by rw [List.length_append]; omega⟩, ?_⟩
    rw [List.getD_eq_getElem?_getD, List.getElem?_append_left (by omega), ← List.getD_eq_getElem?_getD]
    exact h.2
theorem Good.take {many : Int} {put : List Int} (h : Good many put) (n : Nat) : Good many (put.take n) :=
  ⟨fun l hl => h.rng l (List.mem_of_mem_take hl), ((List.take_sublist n put).map _).nodup h.nodup⟩
/-- A false clause gives a right search. -/
theorem clash_ok {M : Nat} {c : C} {s : S} {cl : List Int} (h : SatGood c s) (hM : c.many = M) (hc : clOk M cl = true) (hf : ∀ l ∈ cl, -l ∈ s.put) : SatGood c (clashP M c s cl) := by
  unfold clashP
  have hg : Good M s.put := by rw [← hM]; exact h.good
  by_cases h1 : (topP (lev s.put s.why 0) cl 0 0).1 = 0
  · rw [if_pos h1]
    exact ⟨h.cnf, h.learned, by show (0 : Int) ≤ 2; decide, by show (2 : Int) ≤ 3; decide, h.len, h.good, h.cls, h.whys⟩
  rw [if_neg h1]
  by_cases h2 : 300 ≤ s.learned.length
  · rw [if_pos h2]
    exact ⟨h.cnf, h.learned, by show (0 : Int) ≤ 3; decide, by show (3 : Int) ≤ 3; decide, h.len, h.good, h.cls, h.whys⟩
  rw [if_neg h2]
  obtain ⟨k1, k2⟩ := learnP_ok hg h.len (cs := allC c s) h.whys s.put.length cl hc (by rw [List.take_length]; exact hf)
  generalize learnP M (allC c s) s.put s.why s.put.length cl = x at *
  generalize backN (belowP (lev s.put s.why 0) (topP (lev s.put s.why 0) cl 0 0).1 x 0) s.why 0 = n at *
  refine ⟨h.cnf, by show (s.learned ++ [x]).length ≤ 300; rw [List.length_append, List.length_singleton]; omega, h.code0, h.code1, by show (s.put.take n).length = (s.why.take n).length; rw [List.length_take, List.length_take, h.len], h.good.take n, fun y hy => ?_, ?_⟩
  · rcases List.mem_append.1 hy with hy | hy
    · exact h.cls y hy
    · rw [List.mem_singleton.1 hy, hM]; exact k1
  · show whysF (c.list ++ (s.learned ++ [x])) [] (s.put.take n) (s.why.take n) = true
    rw [whysF_iff (by rw [List.length_take, List.length_take, h.len])]
    intro i m k hm hk
    rw [List.getElem?_take] at hm hk
    split at hm
    · rename_i hin
      rw [if_pos hin] at hk
      have := (whysF_iff h.len).1 h.whys i m k hm hk
      rw [← List.append_assoc]
      rw [List.take_take, Nat.min_eq_left (by omega)]
      exact whyOk_more this
    · cases hm
/-- One mark more, for a reason. -/
theorem put_ok {c : C} {s : S} {m k : Int} (h : SatGood c s) (h0 : m ≠ 0) (h1 : -c.many ≤ m) (h2 : m ≤ c.many) (h3 : m ∉ s.put) (h4 : -m ∉ s.put) (hw : whyOk (allC c s) s.put m k = true) : SatGood c ⟨s.put ++ [m], s.why ++ [k], s.learned, s.code⟩ := by
  refine ⟨h.cnf, h.learned, h.code0, h.code1, by simp [h.len], h.good.snoc h0 h1 h2 h3 h4, h.cls, ?_⟩
  show whysF (c.list ++ s.learned) [] (s.put ++ [m]) (s.why ++ [k]) = true
  rw [whysF_iff (by simp [h.len])]
  intro i m' k' hm hk
  rcases Nat.lt_or_ge i s.put.length with hi | hi
  · rw [List.getElem?_append_left hi] at hm
    rw [List.getElem?_append_left (by rw [← h.len]; exact hi)] at hk
    have := (whysF_iff h.len).1 h.whys i m' k' hm hk
    rw [List.take_append_of_le_length (by omega)]
    exact this
  · rw [List.getElem?_append_right hi] at hm
    rw [List.getElem?_append_right (by rw [← h.len]; exact hi)] at hk
    have hi0 : i = s.put.length := by
      have := (List.getElem?_eq_some_iff.1 hm).1
      simp at this; omega
    subst hi0
    rw [Nat.sub_self] at hm
    rw [← h.len, Nat.sub_self] at hk
    simp at hm hk
    subst hm hk
    rw [List.take_append_of_le_length (Nat.le_refl _), List.take_length, List.nil_append]
    exact hw
theorem allC_clOk {c : C} {s : S} (h : SatGood c s) : ∀ cl ∈ allC c s, clOk c.many cl = true := fun cl hcl => by
  rcases List.mem_append.1 hcl with hcl | hcl
  · have := h.cnf
    simp only [cnfOk, Bool.and_eq_true, List.all_eq_true] at this
    exact this.2 cl hcl
  · exact h.cls cl hcl
/-- What a false clause is. -/
theorem fdS_clash {c : C} {s : S} (hk : 0 ≤ (fdS s.put (allC c s)).1) : ∃ (i : Nat) (cl : List Int), (fdS s.put (allC c s)).1 = i ∧ (allC c s)[i]? = some cl ∧ ∀ l ∈ cl, -l ∈ s.put := by
  have h1 : (fdS s.put (allC c s)).1 = (fd s.put (allC c s) 0 (-1) 0).1 := by unfold fdS; split <;> rfl
  rw [h1] at hk ⊢
  obtain ⟨i, cl, m, h2, h3, h4⟩ := (fd_at (Int.le_refl 0)).1 hk
  exact ⟨i, cl, by omega, h3, ((lk_some h4).2.2.1 rfl).2⟩
/-- What a unit is. -/
theorem fdS_unit {c : C} {s : S} (hk : ¬ 0 ≤ (fdS s.put (allC c s)).1) (hu : 0 ≤ (fdS s.put (allC c s)).2.1) : ∃ (i : Nat) (cl : List Int), (fdS s.put (allC c s)).2.1 = i ∧ (allC c s)[i]? = some cl ∧ (fdS s.put (allC c s)).2.2 ∈ cl ∧ (fdS s.put (allC c s)).2.2 ∉ s.put ∧ -(fdS s.put (allC c s)).2.2 ∉ s.put ∧ ∀ l ∈ cl, l = (fdS s.put (allC c s)).2.2 ∨ -l ∈ s.put := by
  have h1 : (fdS s.put (allC c s)) = fd s.put (allC c s) 0 (-1) 0 := by
    unfold fdS at hk ⊢
    split
    · rename_i h9; rw [if_pos h9] at hk; exact absurd h9 hk
    · rfl
  rw [h1] at hk hu ⊢
  rcases (fd_at (put := s.put) (cs := allC c s) (k := 0) (u := -1) (f := 0) (Int.le_refl 0)).2 (by omega) with ⟨h2, _⟩ | ⟨i, cl, h2, h3, h4⟩
  · omega
  · obtain ⟨a, _, _, d⟩ := lk_some h4
    obtain ⟨d1, d2, d3⟩ := d rfl
    exact ⟨i, cl, by omega, h3, d1, a _ d1, d2, d3⟩
/-- There is a free mark, and the search for it ends there. -/
theorem freeP_spec {M : Nat} {put : List Int} : ∀ (n m : Nat), (∃ v, m ≤ v ∧ v < m + n ∧ sg put v = 0) → m ≤ freeP put n m ∧ freeP put n m < m + n ∧ sg put (freeP put n m) = 0 ∧ ∀ v, m ≤ v → v < freeP put n m → sg put v ≠ 0
  | 0, m, ⟨v, h1, h2, _⟩ => by omega
  | n + 1, m, ⟨v, h1, h2, h3⟩ => by
    simp only [freeP]
    by_cases h9 : sg put m = 0
    · rw [if_neg fun h => h h9]
      exact ⟨Nat.le_refl _, by omega, h9, fun v hv hv' => by omega⟩
    · rw [if_pos h9]
      have hvm : v ≠ m := fun e => h9 (by rw [← e]; exact h3)
      obtain ⟨a, b, c, d⟩ := freeP_spec (M := M) (put := put) n (m + 1) ⟨v, by omega, by omega, h3⟩
      refine ⟨by omega, by omega, c, fun x hx hx' => ?_⟩
      by_cases e : x = m
      · rw [e]; exact h9
      · exact d x (by omega) hx'
theorem sg_zero {put : List Int} {v : Int} (h : sg put v = 0) : v ∉ put ∧ -v ∉ put := by
  unfold sg at h
  split at h
  · omega
  · split at h
    · omega
    · exact ⟨by assumption, by assumption⟩
theorem sg_free {put : List Int} {v : Int} (h : v ∉ put) (h' : -v ∉ put) : sg put v = 0 := by
  unfold sg
  rw [if_neg h, if_neg h']
theorem cover_len : ∀ (M : Nat) (l : List Nat), (∀ v, 1 ≤ v → v ≤ M → v ∈ l) → M ≤ l.length
  | 0, _, _ => Nat.zero_le _
  | M + 1, l, h => by
    have h1 := h (M + 1) (by omega) (Nat.le_refl _)
    have h2 := cover_len M (l.erase (M + 1)) fun v hv hv' => (List.mem_erase_of_ne (by omega)).2 (h v hv (by omega))
    rw [List.length_erase_of_mem h1] at h2
    have := List.length_pos_of_mem h1
    omega
/-- Fewer marks are put than there are: one is free. -/
theorem free_is {M : Nat} {put : List Int} (hg : Good M put) (hl : put.length < M) : ∃ v : Nat, 1 ≤ v ∧ v < 1 + M ∧ sg put v = 0 := by
  refine Classical.byContradiction fun hno => ?_
  have hall : ∀ v : Nat, 1 ≤ v → v ≤ M → v ∈ put.map Int.natAbs := fun v h1 h2 => Classical.byContradiction fun h9 => hno ⟨v, h1, by omega, by
    have := mt (mem_natAbs (put := put) (l := (v : Int))).2 (by simpa using h9)
    exact sg_free (fun h => this (.inl h)) (fun h => this (.inr h))⟩
  have := cover_len M (put.map Int.natAbs) hall
  rw [List.length_map] at this
  omega
theorem do_ok {M : Nat} {c : C} {s : S} (h : SatGood c s) (hM : c.many = M) : SatGood c (doP M c s) := by
  have hg : Good M s.put := by rw [← hM]; exact h.good
  unfold doP
  by_cases h1 : 0 ≤ (fdS s.put (allC c s)).1
  · rw [if_pos h1]
    obtain ⟨i, cl, e1, e2, e3⟩ := fdS_clash h1
    rw [e1, Int.toNat_natCast, List.getD_eq_getElem?_getD, e2]
    exact clash_ok h hM (by rw [← hM]; exact allC_clOk h cl (List.mem_of_getElem? e2)) e3
  rw [if_neg h1]
  by_cases h2 : 0 ≤ (fdS s.put (allC c s)).2.1
  · rw [if_pos h2]
    obtain ⟨i, cl, e1, e2, e3, e4, e5, e6⟩ := fdS_unit h1 h2
    have hr := clOk_rng (allC_clOk h cl (List.mem_of_getElem? e2)) _ e3
    refine put_ok h hr.1 hr.2.1 hr.2.2 e4 e5 ?_
    have hil := (List.getElem?_eq_some_iff.1 e2).1
    unfold whyOk
    rw [Bool.or_eq_true]
    right
    rw [Bool.and_eq_true, Bool.and_eq_true, decide_eq_true_eq, decide_eq_true_eq]
    refine ⟨⟨h2, by omega⟩, ?_⟩
    rw [e1, Int.toNat_natCast, List.getD_eq_getElem?_getD, e2]
    unfold because
    rw [Bool.and_eq_true, decide_eq_true_eq, List.all_eq_true]
    exact ⟨e3, fun l hl => by simpa using e6 l hl⟩
  rw [if_neg h2]
  by_cases h3 : (s.put.length : Int) = c.many
  · rw [if_pos h3]
    exact ⟨h.cnf, h.learned, by show (0 : Int) ≤ 1; decide, by show (1 : Int) ≤ 3; decide, h.len, h.good, h.cls, h.whys⟩
  rw [if_neg h3]
  have hlt : s.put.length < M := by
    have := hg.length
    rw [Int.toNat_natCast] at this
    omega
  obtain ⟨a, b, e, _⟩ := freeP_spec (M := M) (put := s.put) M 1 (free_is hg hlt)
  obtain ⟨n1, n2⟩ := sg_zero e
  exact put_ok h (by omega) (by omega) (by omega) n2 (by rw [Int.neg_neg]; exact n1) (by unfold whyOk; simp)
theorem run_ok {M : Nat} {c : C} (hM : c.many = M) : ∀ (n : Nat) (s : S), SatGood c s → SatGood c (runP M c n s)
  | 0, s, h => h
  | n + 1, s, h => by
    simp only [runP]
    split
    · exact run_ok hM n _ (do_ok h hM)
    · exact h
theorem sat_new {c : C} (h : cnfOk c = true) : SatGood c ⟨[], [], [], 0⟩ := ⟨h, by simp, by simp, by simp, rfl, Good.nil _, by simp, rfl⟩
end Go.Proofs.Ytbljfhmcebgdaaa

/-! The reference's search: l5Top, l5Has, l5Last, l5Below. -/
namespace Go.Proofs.Ytbljfhmcebgdaaa
open Go Go.RowKit

/-- A row of levels. -/
def LvR (M : Nat) (lv : Nat → Int) (vs : List Int) : Prop := vs.length = M + 1 ∧ ∀ v, v ≤ M → vs[v]? = some (lv v)
theorem lv_at {w : World} {F : Nat → Prop} {A : Option Addr} {M : Nat} {lv : Nat → Int} {vs : List Int} (h : Lay.int.Sl w F A vs) (hv : LvR M lv vs) {v : Nat} (hm : v ≤ M) : ∃ ad, A = some ad ∧ w.cell? (ad.add v) = some (.int .i64 (lv v)) := by
  have hl : v < vs.length := by rw [hv.1]; omega
  obtain ⟨ad, e, _, hc⟩ := h.at_int hl
  have := hv.2 v hm
  rw [List.getElem?_eq_getElem hl] at this
  injection this with this
  rw [this] at hc
  exact ⟨ad, e, hc⟩
theorem natAbs_le {M : Nat} {l : Int} (h1 : -(M : Int) ≤ l) (h2 : l ≤ M) : l.natAbs ≤ M := by omega
set_option maxHeartbeats 1000000 in
theorem l5Top_any (A B : Option Addr) (c d M : Nat) (lv : Nat → Int) (vs cl : List Int) (F G : Nat → Prop) (w : World) (h : Lay.int.Sl w F A vs) (hv : LvR M lv vs) (hcl : Lay.int.Sl w G B cl) (hr : ∀ l ∈ cl, -(M : Int) ≤ l ∧ l ≤ M) (hM : M ≤ 1048576) (hn : cl.length ≤ 1048576) :
    Calls Try.prog 122 #[.slice A vs.length c, .slice B cl.length d] w fun e w' => e = .returned (.tuple #[.int .i64 (topP lv cl 0 0).1, .int .i64 (topP lv cl 0 0).2]) ∧ w = w' := by
  have HV := Lib.hid hv
  clear hv
  go_enter Try.func122, Try.ntmps122
  go_wp2
  go_loop [6, 7, 8] (fun x y i => ∃ (k : Nat) (t n : Int), k ≤ cl.length ∧ i = .int .i64 k ∧ x = .int .i64 t ∧ y = .int .i64 n ∧ 0 ≤ n ∧ n ≤ k ∧ topP lv cl 0 0 = topP lv (cl.drop k) t n) (fun _ _ i => cl.length - (intOf i).toNat)
  case atStart => exact ⟨0, 0, 0, Nat.zero_le _, rfl, rfl, rfl, by omega, by simp, by simp⟩
  case round =>
    obtain ⟨k, t, n, hk, rfl, rfl, rfl, n0, n1, ht⟩ := hrel
    have HT := Lib.hid ht
    clear ht
    by_cases hlt : k < cl.length
    · obtain ⟨ad, rfl, hf, hc⟩ := hcl.at_int hlt
      have hk1 : (k : Int) < cl.length := by omega
      obtain ⟨r1, r2⟩ := hr _ (List.getElem_mem hlt)
      have hd := topP_drop (lv := lv) (t := t) (n := n) hlt
      generalize cl[k] = a at *
      have hna := natAbs_le r1 r2
      have hs := l4Abs_any a w (by omega) (by omega)
      obtain ⟨ae, rfl, he⟩ := lv_at h HV.out hna
      generalize a.natAbs = v at *
      generalize lv v = x at *
      have hv1 : (v : Int) < (vs.length : Int) := by rw [HV.out.1]; omega
      have HS := Lib.hid hs
      by_cases h1 : t < x
      · rw [if_pos h1] at hd
        have HD := Lib.hid hd
        clear hd hs
        go_wp2_with fail
        refine HS.out.mono ?_
        rintro e w' ⟨rfl, rfl⟩
        go_wp2
        go_round
        case rel => exact ⟨k + 1, x, 1, by omega, by go_num, rfl, rfl, by omega, by omega, by rw [HT.out, HD.out]⟩
        case measure => simp [intOf]; omega
      by_cases h2 : x = t
      · rw [if_neg h1, if_pos h2] at hd
        have HD := Lib.hid hd
        have h3 : (x == t) = true := by simpa using h2
        clear hd hs h2
        go_wp2_with fail
        refine HS.out.mono ?_
        rintro e w' ⟨rfl, rfl⟩
        go_wp2
        go_round
        case rel => exact ⟨k + 1, t, n + 1, by omega, by go_num, rfl, rfl, by omega, by omega, by rw [HT.out, HD.out]⟩
        case measure => simp [intOf]; omega
      · rw [if_neg h1, if_neg h2] at hd
        have HD := Lib.hid hd
        have h3 : (x == t) = false := by simpa using h2
        clear hd hs h2
        go_wp2_with fail
        refine HS.out.mono ?_
        rintro e w' ⟨rfl, rfl⟩
        go_wp2
        go_round
        case rel => exact ⟨k + 1, t, n, by omega, by go_num, rfl, rfl, n0, by omega, by rw [HT.out, HD.out]⟩
        case measure => simp [intOf]; omega
    · have hke : k = cl.length := by omega
      subst hke
      have HE := Lib.hid (show topP lv cl 0 0 = (t, n) by rw [HT.out, List.drop_length]; rfl)
      go_wp2
      go_ret2
      exact ⟨ret_two (by rw [HE.out]) (by rw [HE.out]), rfl⟩
theorem hasM_drop {cl : List Int} {k v : Nat} (h : k < cl.length) : hasM (cl.drop k) v = ((cl[k].natAbs == v) || hasM (cl.drop (k + 1)) v) := by
  rw [List.drop_eq_getElem_cons h]; rfl
set_option maxHeartbeats 1000000 in
theorem l5Has_any (B : Option Addr) (d M v : Nat) (cl : List Int) (G : Nat → Prop) (w : World) (hcl : Lay.int.Sl w G B cl) (hr : ∀ l ∈ cl, -(M : Int) ≤ l ∧ l ≤ M) (hM : M ≤ 1048576) (hn : cl.length ≤ 1048576) :
    Calls Try.prog 138 #[.slice B cl.length d, .int .i64 (v : Int)] w fun e w' => e = .returned (.bool (hasM cl v)) ∧ w = w' := by
  go_enter Try.func138, Try.ntmps138
  go_wp2
  go_loop [5] (fun i => ∃ (k : Nat), k ≤ cl.length ∧ i = .int .i64 k ∧ hasM cl v = hasM (cl.drop k) v) (fun i => cl.length - (intOf i).toNat)
  case atStart => exact ⟨0, Nat.zero_le _, rfl, by simp⟩
  case round =>
    obtain ⟨k, hk, rfl, ht⟩ := hrel
    have HT := Lib.hid ht
    clear ht
    by_cases hlt : k < cl.length
    · obtain ⟨ad, rfl, hf, hc⟩ := hcl.at_int hlt
      have hk1 : (k : Int) < cl.length := by omega
      obtain ⟨r1, r2⟩ := hr _ (List.getElem_mem hlt)
      have hd := hasM_drop (v := v) hlt
      generalize cl[k] = a at *
      have HS := Lib.hid (l4Abs_any a w (by omega) (by omega))
      generalize a.natAbs = u at *
      by_cases h1 : u = v
      · subst h1
        have HD : Hid (hasM cl u = true) := Lib.hid (by rw [HT.out, hd]; simp)
        clear hd
        go_wp2_with fail
        refine HS.out.mono ?_
        rintro e w' ⟨rfl, rfl⟩
        go_wp2
        go_ret
        exact ⟨ret_bool (by rw [HD.out]), rfl⟩
      · have h3 : (u == v) = false := by simpa using h1
        have h4 : ((u : Int) == (v : Int)) = false := by rw [beq_eq_false_iff_ne]; omega
        rw [h3, Bool.false_or] at hd
        have HD := Lib.hid hd
        clear hd
        go_wp2_with fail
        refine HS.out.mono ?_
        rintro e w' ⟨rfl, rfl⟩
        go_wp2
        go_round
        case rel => exact ⟨k + 1, by omega, by go_num, by rw [HT.out, HD.out]⟩
        case measure => simp [intOf]; omega
    · have hke : k = cl.length := by omega
      subst hke
      have HE := Lib.hid (show hasM cl v = false by rw [HT.out, List.drop_length]; rfl)
      go_wp2
      go_ret
      exact ⟨ret_bool (by rw [HE.out]), rfl⟩
theorem ret_int9 {k : IntKind} {a b : Int} (h : a = b) : Ending.returned (.int k a) = .returned (.int k b) := by rw [h]
theorem belowP_drop {lv : Nat → Int} {top o : Int} {cl : List Int} {k : Nat} (h : k < cl.length) : belowP lv top (cl.drop k) o = belowP lv top (cl.drop (k + 1)) (if lv cl[k].natAbs < top then (if o > lv cl[k].natAbs then o else lv cl[k].natAbs) else o) := by
  rw [List.drop_eq_getElem_cons h]; rfl
theorem l4Max9_any (a b : Int) (w : World) : Calls Try.prog 74 #[.int .i64 a, .int .i64 b] w fun e w' => e = .returned (.int .i64 (if a > b then a else b)) ∧ w = w' := by
  by_cases h : a > b
  · rw [if_pos h]
    go_enter Try.func74, Try.ntmps74
    go_wp2
    go_ret
    exact ⟨rfl, rfl⟩
  · rw [if_neg h]
    have h : ¬ b < a := h
    go_enter Try.func74, Try.ntmps74
    go_wp2
    go_ret
    exact ⟨rfl, rfl⟩
set_option maxHeartbeats 1000000 in
theorem l5Below_any (A B : Option Addr) (c d M : Nat) (lv : Nat → Int) (top : Int) (vs cl : List Int) (F G : Nat → Prop) (w : World) (h : Lay.int.Sl w F A vs) (hv : LvR M lv vs) (hcl : Lay.int.Sl w G B cl) (hr : ∀ l ∈ cl, -(M : Int) ≤ l ∧ l ≤ M) (hM : M ≤ 1048576) (hn : cl.length ≤ 1048576) :
    Calls Try.prog 125 #[.slice A vs.length c, .slice B cl.length d, .int .i64 top] w fun e w' => e = .returned (.int .i64 (belowP lv top cl 0)) ∧ w = w' := by
  have HV := Lib.hid hv
  clear hv
  go_enter Try.func125, Try.ntmps125
  go_wp2
  go_loop [7, 8] (fun x i => ∃ (k : Nat) (o : Int), k ≤ cl.length ∧ i = .int .i64 k ∧ x = .int .i64 o ∧ belowP lv top cl 0 = belowP lv top (cl.drop k) o) (fun _ i => cl.length - (intOf i).toNat)
  case atStart => exact ⟨0, 0, Nat.zero_le _, rfl, rfl, by simp⟩
  case round =>
    obtain ⟨k, o, hk, rfl, rfl, ht⟩ := hrel
    have HT := Lib.hid ht
    clear ht
    by_cases hlt : k < cl.length
    · obtain ⟨ad, rfl, hf, hc⟩ := hcl.at_int hlt
      have hk1 : (k : Int) < cl.length := by omega
      obtain ⟨r1, r2⟩ := hr _ (List.getElem_mem hlt)
      have hd := belowP_drop (lv := lv) (top := top) (o := o) hlt
      generalize cl[k] = a at *
      have hna := natAbs_le r1 r2
      have HS := Lib.hid (l4Abs_any a w (by omega) (by omega))
      obtain ⟨ae, rfl, he⟩ := lv_at h HV.out hna
      generalize a.natAbs = v at *
      generalize lv v = x at *
      have hv1 : (v : Int) < (vs.length : Int) := by rw [HV.out.1]; omega
      have HMX := Lib.hid (l4Max9_any o x w)
      by_cases h1 : x < top
      · rw [if_pos h1] at hd
        generalize (if o > x then o else x) = y at *
        have HD := Lib.hid hd
        clear hd
        go_wp2_with fail
        refine HS.out.mono ?_
        rintro e w' ⟨rfl, rfl⟩
        go_wp2_with fail
        refine HMX.out.mono ?_
        rintro e w' ⟨rfl, rfl⟩
        go_wp2
        go_round
        case rel => exact ⟨k + 1, y, by omega, by go_num, rfl, by rw [HT.out, HD.out]⟩
        case measure => simp [intOf]; omega
      · rw [if_neg h1] at hd
        have HD := Lib.hid hd
        clear hd HMX
        go_wp2_with fail
        refine HS.out.mono ?_
        rintro e w' ⟨rfl, rfl⟩
        go_wp2
        go_round
        case rel => exact ⟨k + 1, o, by omega, by go_num, rfl, by rw [HT.out, HD.out]⟩
        case measure => simp [intOf]; omega
    · have hke : k = cl.length := by omega
      subst hke
      have HE := Lib.hid (show belowP lv top cl 0 = o by rw [HT.out, List.drop_length]; rfl)
      go_wp2
      go_ret
      exact ⟨ret_int9 (by rw [HE.out]), rfl⟩
end Go.Proofs.Ytbljfhmcebgdaaa

/-! The reference's search: l5Last, l5Levels. -/
namespace Go.Proofs.Ytbljfhmcebgdaaa
open Go Go.RowKit

theorem lastP_step {put cl : List Int} {k : Nat} (h : k < put.length) : lastP put cl (k + 1) = if hasM cl put[k].natAbs then (k : Int) else lastP put cl k := by
  show (if _ then _ else _) = _
  rw [List.getD_eq_getElem?_getD, List.getElem?_eq_getElem h]
  rfl
set_option maxHeartbeats 1000000 in
theorem l5Last_any (s : S) (P Q D B : Option Addr) (p q d e M : Nat) (cl : List Int) (F : Nat → Prop) (w : World) (h : Lay.int.Rd w P s.put) (hcl : Lay.int.Sl w F B cl) (hF : ∀ b, F b → b < w.heap.size) (hg : Good M s.put) (hr : ∀ l ∈ cl, -(M : Int) ≤ l ∧ l ≤ M) (hM : M ≤ 1048576) (hn : cl.length ≤ 1048576) :
    Calls Try.prog 130 #[.agg #[.slice P s.put.length p, .slice Q s.why.length q, .slice D s.learned.length d, .int .i64 s.code], .slice B cl.length e] w fun e w' => e = .returned (.int .i64 (lastP s.put cl s.put.length)) ∧ Below w.heap.size w w' := by
  have hpl : s.put.length ≤ 1048576 := by have := hg.length; rw [Int.toNat_natCast] at this; omega
  have hal : Below w.heap.size w (w.alloc (.cells #[.slice P s.put.length p, .slice Q s.why.length q, .slice D s.learned.length d, .int .i64 s.code] 35)) := (Below.refl _ _).alloc (Nat.le_refl _) _
  have HBX := Lib.hid (heap_alloc_new w (.cells #[.slice P s.put.length p, .slice Q s.why.length q, .slice D s.learned.length d, .int .i64 s.code] 35))
  have H := Lib.hid (h.up hal)
  have HC := Lib.hid (Lay.Sl.below hcl hal hF)
  have HAL := Lib.hid hal
  have HG := Lib.hid hg
  clear h hcl hal hg
  go_enter Try.func130, Try.ntmps130
  go_wp2
  generalize w.alloc (.cells #[.slice P s.put.length p, .slice Q s.why.length q, .slice D s.learned.length d, .int .i64 s.code] 35) = W at *
  have cc0 := (cell_of_block HBX.out 0).1
  go_loop [5] (fun i => ∃ (k : Nat), k ≤ s.put.length ∧ i = .int .i64 ((k : Int) - 1) ∧ lastP s.put cl s.put.length = lastP s.put cl k) (fun i => (intOf i + 1).toNat)
  case atStart => exact ⟨s.put.length, Nat.le_refl _, rfl, rfl⟩
  case round =>
    obtain ⟨k, hk, rfl, ht⟩ := hrel
    have HT := Lib.hid ht
    clear ht
    rcases k with _ | k
    · have HE := Lib.hid (show lastP s.put cl s.put.length = -1 by rw [HT.out]; rfl)
      clear HT
      rw [show (((0 : Nat) : Int) - 1) = -1 from rfl]
      go_wp2
      go_ret
      exact ⟨ret_int9 (by rw [HE.out]), HAL.out⟩
    · rw [show (((k + 1 : Nat) : Int) - 1) = (k : Int) by omega]
      have hlt : k < s.put.length := by omega
      have hk0 : (0 : Int) ≤ k := by omega
      have hk1 : (k : Int) < s.put.length := by omega
      have hst := lastP_step (cl := cl) hlt
      obtain ⟨ad, hP, _, hc⟩ := H.out.at_int hlt
      obtain ⟨_, r1, r2⟩ := HG.out.rng _ (List.getElem_mem hlt)
      generalize s.put[k] = m at *
      subst hP
      have HS := Lib.hid (l4Abs_any m W (by omega) (by omega))
      generalize m.natAbs = u at *
      have HH := Lib.hid (l5Has_any B e M u cl _ W HC.out hr hM hn)
      cases hb : hasM cl u with
      | true =>
        rw [hb] at hst HH
        have HE := Lib.hid (show lastP s.put cl s.put.length = k by rw [HT.out, hst]; rfl)
        clear hst HT hb
        go_wp2_with fail
        refine HS.out.mono ?_
        rintro e w' ⟨rfl, rfl⟩
        go_wp2_with fail
        refine HH.out.mono ?_
        rintro e w' ⟨rfl, rfl⟩
        go_wp2
        go_ret
        exact ⟨ret_int9 (by rw [HE.out]), HAL.out⟩
      | false =>
        rw [hb] at hst HH
        have HE := Lib.hid (show lastP s.put cl s.put.length = lastP s.put cl k by rw [HT.out, hst]; rfl)
        clear hst HT hb
        go_wp2_with fail
        refine HS.out.mono ?_
        rintro e w' ⟨rfl, rfl⟩
        go_wp2_with fail
        refine HH.out.mono ?_
        rintro e w' ⟨rfl, rfl⟩
        go_wp2
        go_round
        case rel => exact ⟨k, by omega, rfl, HE.out⟩
        case measure => simp [intOf]
/-- A row of levels is handed back. -/
def RetLv (M : Nat) (lv : Nat → Int) (w : World) (e : Ending) (w' : World) : Prop := ∃ A c vs, e = .returned (.slice A vs.length c) ∧ LvR M lv vs ∧ Lay.int.Sl w' (fun y => w.heap.size ≤ y ∧ y < w'.heap.size) A vs ∧ Below w.heap.size w w'
set_option maxRecDepth 100000 in
set_option maxHeartbeats 4000000 in
theorem l5Levels_any (x : C) (s : S) (A P Q D : Option Addr) (a p q d M : Nat) (w : World) (hM : x.many = (M : Int)) (hM2 : M ≤ 1000000) (h : Lay.int.Rd w P s.put) (h' : Lay.int.Rd w Q s.why) (hg : Good M s.put) (hl : s.put.length = s.why.length) :
    Calls Try.prog 121 #[.agg #[.int .i64 x.many, .slice A x.list.length a], .agg #[.slice P s.put.length p, .slice Q s.why.length q, .slice D s.learned.length d, .int .i64 s.code]] w (RetLv M (lev s.put s.why 0) w) := by
  obtain ⟨i0, hi0, hz0, hz1, hz2⟩ := info_parts int_info
  have hpl : s.put.length ≤ 1048576 := by have := hg.length; rw [Int.toNat_natCast] at this; omega
  rw [hM]
  have hal1 : Below w.heap.size w (w.alloc (.cells #[.int .i64 (M : Int), .slice A x.list.length a] 25)) := (Below.refl _ _).alloc (Nat.le_refl _) _
  have hs1 : (w.alloc (.cells #[.int .i64 (M : Int), .slice A x.list.length a] 25)).heap.size = w.heap.size + 1 := by simp
  have hb1 := heap_alloc_new w (.cells #[.int .i64 (M : Int), .slice A x.list.length a] 25)
  obtain ⟨w1, hw1⟩ : ∃ w1, w1 = w.alloc (.cells #[.int .i64 (M : Int), .slice A x.list.length a] 25) := ⟨_, rfl⟩
  rw [← hw1] at hal1 hs1 hb1
  have hal2 : Below w1.heap.size w1 (w1.alloc (.cells #[.slice P s.put.length p, .slice Q s.why.length q, .slice D s.learned.length d, .int .i64 s.code] 35)) := (Below.refl _ _).alloc (Nat.le_refl _) _
  have hs2 : (w1.alloc (.cells #[.slice P s.put.length p, .slice Q s.why.length q, .slice D s.learned.length d, .int .i64 s.code] 35)).heap.size = w.heap.size + 1 + 1 := by simp [hs1]
  have hb2 := heap_alloc_new w1 (.cells #[.slice P s.put.length p, .slice Q s.why.length q, .slice D s.learned.length d, .int .i64 s.code] 35)
  rw [hs1] at hb2
  obtain ⟨w2, hw2⟩ : ∃ w2, w2 = w1.alloc (.cells #[.slice P s.put.length p, .slice Q s.why.length q, .slice D s.learned.length d, .int .i64 s.code] 35) := ⟨_, rfl⟩
  rw [← hw2] at hal2 hs2 hb2
  have HB1 := Lib.hid ((hal2.block _ (lt_of_block hb1)).trans hb1)
  have HB2 := Lib.hid hb2
  have H := Lib.hid (And.intro ((h.up hal1).up hal2) ((h'.up hal1).up hal2))
  have HAL := Lib.hid (bthen hal1 hal2)
  have HS2 := Lib.hid hs2
  have HG := Lib.hid hg
  have HLN := Lib.hid hl
  have cm : w2.cell? ⟨w.heap.size, 0, none⟩ = some (.int .i64 (M : Int)) := (cell_of_block HB1.out 0).1
  rw [hw2, hw1] at cm
  have HW1 := Lib.hid hw1
  have HW2 := Lib.hid hw2
  clear h h' hg hl hal1 hs1 hb1 hal2 hs2 hb2 hM hw1 hw2
  go_enter Try.func121, Try.ntmps121
  go_wp2_with (at_make; rw [← HW1.out, ← HW2.out]; refine wpList_make_full _ rfl _ _ 26 rfl w2.heap.size 3 i0 _ 1 Try.underlying26 hi0 hz0 hz1 .i64 .i64 _ _ (M + 1) rfl rfl (by push_cast; rfl) (by push_cast; rfl) (by rw [hz2]; omega) (by unfold maxLen; omega) (Nat.le_refl _) ?_; intro w3 hown hg1)
  have H1 := Lib.hid hg1
  clear hg1 hi0 hz0 hz1 hz2 HW1 HW2 cm
  have hb1 : Below w2.heap.size w2 w3 := (Below.refl _ _).grown H1.out (Nat.le_refl _) (by simp)
  rw [show (madeCells (Value.int .i64 0).cells ((M + 1) * 1)).toList = (List.replicate (M + 1) (0 : Int)).map (Value.int .i64) from by
    rw [show (Value.int .i64 0).cells = #[Value.int .i64 0] from rfl, toList_madeCells_one]; simp] at hown
  rw [HS2.out] at hown ⊢
  have hWle : w2.heap.size ≤ w.heap.size + 1 + 1 := by rw [HS2.out]; exact Nat.le_refl _
  go_wp2
  go_loopw [6, 7] (fun lvv i wr => ∃ (k : Nat) (vs : List Int) (t : Int), k ≤ s.put.length ∧ i = .int .i64 k ∧ lvv = .int .i64 t ∧ 0 ≤ t ∧ t ≤ k ∧ Hid (t = negs (s.why.take k)) ∧ Hid (Below w2.heap.size w2 wr) ∧ Hid (wr.ownsRow (w.heap.size + 1 + 1) 3 1 (.slice (some ⟨w.heap.size + 1 + 1, 0, none⟩) (M + 1) (M + 1)) (M + 1) (vs.map (Value.int .i64))) ∧ Hid (LvR M (lev (s.put.take k) (s.why.take k) 0) vs))
    (fun _ i _ => s.put.length - (intOf i).toNat)
  case atStart => exact ⟨0, _, 0, Nat.zero_le _, rfl, rfl, by omega, by omega, Lib.hid rfl, Lib.hid hb1, Lib.hid hown, Lib.hid ⟨by simp, fun v hv => by rw [List.getElem?_replicate, if_pos (by omega)]; rfl⟩⟩
  case round =>
    clear hown hb1
    obtain ⟨k, vs, t, hk, rfl, rfl, t0, t1, HT, HB, HO, HV⟩ := hrel
    have hbx := (HB.out.block _ (lt_of_block HB2.out)).trans HB2.out
    have cs0 := (cell_of_block hbx 0).1
    have cs1 := (cell_of_block hbx 1).1
    clear hbx
    by_cases hlt : k < s.put.length
    · have hk1 : (k : Int) < s.put.length := by omega
      have hlt2 : k < s.why.length := by rw [← HLN.out]; exact hlt
      have hk2 : (k : Int) < s.why.length := by omega
      obtain ⟨ad, hP, _, hc⟩ := (H.out.1.up HB.out).at_int hlt
      obtain ⟨ae, hQ, _, he⟩ := (H.out.2.up HB.out).at_int hlt2
      obtain ⟨r0, r1, r2⟩ := HG.out.rng _ (List.getElem_mem hlt)
      have htk : s.put.take (k + 1) = s.put.take k ++ [s.put[k]] := List.take_succ_eq_append_getElem hlt
      have htw : s.why.take (k + 1) = s.why.take k ++ [s.why[k]] := List.take_succ_eq_append_getElem hlt2
      have hng := negs_step hlt2
      have hnd : ((s.put.take k ++ [s.put[k]]).map Int.natAbs).Nodup := by rw [← htk]; exact (HG.out.take (k + 1)).nodup
      have hsn := fun v => lev_snoc (s.put.take k) (s.why.take k) 0 s.put[k] s.why[k] v (by rw [List.length_take, List.length_take, HLN.out]) hnd
      rw [← htk, ← htw] at hsn
      have HSN := Lib.hid hsn
      have HNG := Lib.hid hng
      clear htk htw hnd hsn hng
      generalize s.put[k] = m at *
      generalize s.why[k] = y at *
      subst hP hQ
      have hna := natAbs_le r1 r2
      have HS := Lib.hid (l4Abs_any m wr (by omega) (by omega))
      have hst := HO.out.stored m.natAbs
      have hlen : vs.length = M + 1 := HV.out.1
      obtain ⟨old, hold⟩ : ∃ old, wr.cell? ⟨w.heap.size + 1 + 1, m.natAbs, none⟩ = some (.int .i64 old) := by
        have h9 : wr.cell? ⟨w.heap.size + 1 + 1, m.natAbs, none⟩ = _ := HO.out.cellAt m.natAbs (by omega)
        rw [List.getElem?_map, List.getElem?_eq_getElem (by omega), Option.map_some] at h9
        exact ⟨_, h9⟩
      have hfr : wr.frozen? ⟨w.heap.size + 1 + 1, m.natAbs, none⟩ = false := HO.out.frozenAt m.natAbs
      have HST := Lib.hid hst
      clear hst
      have hv1 : ((m.natAbs : Nat) : Int) < ((M + 1 : Nat) : Int) := by omega
      have hv2 : ((m.natAbs : Nat) : Int) < (M : Int) + 1 := by omega
      have hVN : ∀ z : Int, z = negs (s.why.take (k + 1)) → LvR M (lev (s.put.take (k + 1)) (s.why.take (k + 1)) 0) (vs.set m.natAbs z) := fun z hz => ⟨by simp [hlen], fun v hv => by
        rw [HSN.out v, List.getElem?_set]
        by_cases e : m.natAbs = v
        · rw [if_pos e, if_pos e, if_pos (by omega), hz]; simp
        · rw [if_neg e, if_neg e]; exact HV.out.2 v hv⟩
      have HVN := Lib.hid hVN
      clear hVN hlen
      generalize m.natAbs = u at *
      by_cases hy : y < 0
      · have HN9 : Hid (t + 1 = negs (s.why.take (k + 1))) := Lib.hid (by rw [HNG.out, if_pos hy, HT.out])
        go_wp2_with fail
        refine HS.out.mono ?_
        rintro e w' ⟨rfl, rfl⟩
        go_wp2
        go_roundw
        case rel => exact ⟨k + 1, _, t + 1, by omega, by go_num, rfl, by omega, by omega, HN9, Lib.hid (HB.out.setCell hWle _), Lib.hid (by rw [List.map_set]; exact (HST.out (.int .i64 (t + 1))).1), Lib.hid (HVN.out _ HN9.out)⟩
        case measure => simp [intOf]; omega
      · have HN9 : Hid (t = negs (s.why.take (k + 1))) := Lib.hid (by rw [HNG.out, if_neg hy, HT.out]; simp)
        go_wp2_with fail
        refine HS.out.mono ?_
        rintro e w' ⟨rfl, rfl⟩
        go_wp2
        go_roundw
        case rel => exact ⟨k + 1, _, t, by omega, by go_num, rfl, by omega, by omega, HN9, Lib.hid (HB.out.setCell hWle _), Lib.hid (by rw [List.map_set]; exact (HST.out (.int .i64 t)).1), Lib.hid (HVN.out _ HN9.out)⟩
        case measure => simp [intOf]; omega
    · have hke : k = s.put.length := by omega
      subst hke
      have hvs := HV.out
      rw [List.take_length, HLN.out, List.take_length] at hvs
      have HV2 := Lib.hid hvs
      have HRD := Lib.hid (sl_ints_of_own (F := fun y => w.heap.size ≤ y ∧ y < wr.heap.size) HO.out (fun g h8 h9 => ⟨by omega, h9⟩)).1
      have HL : Hid (vs.length = M + 1) := Lib.hid HV.out.1
      clear hvs
      go_wp2
      go_ret
      exact ⟨some ⟨w.heap.size + 1 + 1, 0, none⟩, M + 1, vs, ret_slice (by rw [HL.out]), HV2.out, HRD.out, bthen HAL.out HB.out⟩
end Go.Proofs.Ytbljfhmcebgdaaa
