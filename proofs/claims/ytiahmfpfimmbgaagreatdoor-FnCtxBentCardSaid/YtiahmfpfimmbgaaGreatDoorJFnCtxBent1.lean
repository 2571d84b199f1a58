/- Terms: their size and depth, when they are plain, their sort. No program is named here. Contexts: when they are right. No program is named here. Malformed contexts: plain laws. No program is named here. append of a whole slice onto a row of the call's own. No program is named here. What growing and setting leave. No program is named here. VecOk, the program's and the reference's; powers of two. The reference's declarations: l2Name, l2Find, DeclOk, l8Bits, EnvOk. -/
import Derived.Deep.RegionHeld3
import Derived.Handy
import Derived.Test.YtiahmfpfimmbgaaGreatDoorChecked
import Derived.Deep.QuietTactic
import Derived.BigQuiet
import Derived.Test.YtiahmfpfimmbgaaGreatDoorJFnCtxBent0
/-! Terms: their size and depth, when they are plain, their sort. No program is named here. -/
namespace Go.Proofs.YtiahmfpfimmbgaaGreatDoor
open Go Go.RowKit

def imax (a b : Int) : Int := if b < a then a else b
mutual
/-- How many there are, and how deep: over 20 or 7: 21 and 8. -/
def T.many : T → Int × Int
  | .mk _ _ _ _ ks => if 20 < (T.manyL ks 1 0).1 ∨ 7 < (T.manyL ks 1 0).2 + 1 then (21, 8) else ((T.manyL ks 1 0).1, (T.manyL ks 1 0).2 + 1)
def T.manyL : List T → Int → Int → Int × Int
  | [], n, d => (n, d)
  | k :: ks, n, d => if n ≤ 20 then T.manyL ks (n + (T.many k).1) (imax d (T.many k).2) else (n, d)
end
mutual
/-- The program's count: how deep, how many. -/
def T.cnt : T → Int → Int → Int × Int
  | .mk _ _ _ _ ks, deep, m => if 7 < deep then (deep, m + 1) else T.cntL ks deep deep (m + 1)
def T.cntL : List T → Int → Int → Int → Int × Int
  | [], _, most, m => (most, m)
  | k :: ks, deep, most, m => if 20 < m then (most, m) else T.cntL ks deep (if most < (T.cnt k (deep + 1) m).1 then (T.cnt k (deep + 1) m).1 else most) (T.cnt k (deep + 1) m).2
end
mutual
def T.size : T → Nat
  | .mk _ _ _ _ ks => 1 + T.sizeL ks
def T.sizeL : List T → Nat
  | [] => 0
  | k :: ks => T.size k + T.sizeL ks
end
mutual
def T.deep : T → Nat
  | .mk _ _ _ _ ks => 1 + T.deepL ks
def T.deepL : List T → Nat
  | [] => 0
  | k :: ks => max (T.deep k) (T.deepL ks)
end
theorem T.size_pos : ∀ t : T, 1 ≤ T.size t
  | .mk _ _ _ _ ks => by simp only [T.size]; omega
theorem T.deep_pos : ∀ t : T, 1 ≤ T.deep t
  | .mk _ _ _ _ ks => by simp only [T.deep]; omega
theorem imax_eq (a b : Int) : imax a b = max a b := by unfold imax; split <;> omega
mutual
theorem T.many_eq : ∀ t : T, T.many t = if T.size t ≤ 20 ∧ T.deep t ≤ 7 then ((T.size t : Int), (T.deep t : Int)) else (21, 8)
  | .mk _ _ _ _ ks => by
    have h := T.manyL_eq ks 1 0 (by omega) (by omega)
    rename_i o a b nm
    have e1 : T.size (.mk o a b nm ks) = 1 + T.sizeL ks := by simp only [T.size]
    have e2 : T.deep (.mk o a b nm ks) = 1 + T.deepL ks := by simp only [T.deep]
    have e3 : T.many (.mk o a b nm ks) = if 20 < (T.manyL ks 1 0).1 ∨ 7 < (T.manyL ks 1 0).2 + 1 then (21, 8) else ((T.manyL ks 1 0).1, (T.manyL ks 1 0).2 + 1) := by simp only [T.many]
    rw [e3]
    generalize T.size (.mk o a b nm ks) = sz at *
    generalize T.deep (.mk o a b nm ks) = dp at *
    obtain ⟨h1, h2⟩ := h
    by_cases hc : sz ≤ 20 ∧ dp ≤ 7
    · have := h1 (by omega) (by omega) (by omega)
      rw [this, if_pos hc]
      dsimp only
      rw [if_neg (by omega)]
      exact Prod.ext (by dsimp only; omega) (by dsimp only; omega)
    · rw [if_neg hc]
      rw [if_pos]
      rcases Int.lt_or_le 20 (T.manyL ks 1 0).1 with h9 | h9
      · exact .inl h9
      · rcases Int.lt_or_le 7 ((T.manyL ks 1 0).2 + 1) with h8 | h8
        · exact .inr h8
        · exfalso
          have := h2 h9 (by omega)
          omega
theorem T.manyL_eq : ∀ (ks : List T) (n d : Int), 1 ≤ n → 0 ≤ d →
    (n + T.sizeL ks ≤ 20 → T.deepL ks ≤ 7 → d ≤ 7 → T.manyL ks n d = (n + T.sizeL ks, max d (T.deepL ks))) ∧
    ((T.manyL ks n d).1 ≤ 20 → (T.manyL ks n d).2 ≤ 7 → n + T.sizeL ks ≤ 20 ∧ T.deepL ks ≤ 7 ∧ (T.manyL ks n d).2 = max d (T.deepL ks))
  | [], n, d, hn, hd => by
    simp only [T.manyL, T.sizeL, T.deepL]
    refine ⟨fun _ _ _ => Prod.ext (by omega) (by omega), fun h1 h2 => ⟨by omega, by omega, by omega⟩⟩
  | k :: ks, n, d, hn, hd => by
    have hk := T.many_eq k
    have hp := T.size_pos k
    have hdp := T.deep_pos k
    simp only [T.manyL, T.sizeL, T.deepL, imax_eq]
    by_cases hc : T.size k ≤ 20 ∧ T.deep k ≤ 7
    · rw [if_pos hc] at hk
      rw [hk]
      dsimp only
      obtain ⟨i1, i2⟩ := T.manyL_eq ks (n + T.size k) (max d (T.deep k)) (by omega) (by omega)
      refine ⟨fun h1 h2 h3 => ?_, fun h1 h2 => ?_⟩
      · rw [if_pos (by omega)]
        rw [i1 (by omega) (by omega) (by omega)]
        exact Prod.ext (by push_cast; omega) (by push_cast; omega)
      · by_cases hn2 : n ≤ 20
        · rw [if_pos hn2] at h1 h2 ⊢
          obtain ⟨j1, j2, j3⟩ := i2 h1 h2
          refine ⟨by push_cast; omega, by omega, by rw [j3]; push_cast; omega⟩
        · rw [if_neg hn2] at h1
          exact absurd h1 hn2
    · rw [if_neg hc] at hk
      rw [hk]
      dsimp only
      obtain ⟨i1, i2⟩ := T.manyL_eq ks (n + 21) (max d 8) (by omega) (by omega)
      refine ⟨fun h1 h2 h3 => by omega, fun h1 h2 => ?_⟩
      by_cases hn2 : n ≤ 20
      · rw [if_pos hn2] at h1 h2
        obtain ⟨j1, j2, j3⟩ := i2 h1 h2
        omega
      · rw [if_neg hn2] at h1
        exact absurd h1 hn2
end
theorem T.many_one (t : T) : 1 ≤ t.many.1 ∧ t.many.1 ≤ 21 ∧ 1 ≤ t.many.2 ∧ t.many.2 ≤ 8 := by
  have hp := T.size_pos t
  have hdp := T.deep_pos t
  rw [T.many_eq]
  split <;> dsimp only <;> omega
theorem T.many_def (t : T) : t.many = if 20 < (T.manyL t.kids 1 0).1 ∨ 7 < (T.manyL t.kids 1 0).2 + 1 then (21, 8) else ((T.manyL t.kids 1 0).1, (T.manyL t.kids 1 0).2 + 1) := by
  obtain ⟨o, a, b, n, ks⟩ := t
  simp only [T.many, T.kids]
  rfl
theorem T.manyL_step (ks : List T) (k : Nat) (n d : Int) (hk : k < ks.length) (hn : n ≤ 20) : T.manyL (ks.drop k) n d = T.manyL (ks.drop (k + 1)) (n + ks[k].many.1) (imax d ks[k].many.2) := by
  rw [List.drop_eq_getElem_cons hk]
  simp only [T.manyL]
  rw [if_pos hn]
theorem T.manyL_stop (ks : List T) (n d : Int) (hn : ¬ n ≤ 20) : T.manyL ks n d = (n, d) := by
  cases ks with
  | nil => rfl
  | cons k ks => simp only [T.manyL]; rw [if_neg hn]
theorem T.manyL_full (ks : List T) (n d : Int) : T.manyL (ks.drop ks.length) n d = (n, d) := by rw [List.drop_length]; rfl
mutual
theorem T.cnt_eq : ∀ (t : T) (deep m : Int), 1 ≤ deep → deep ≤ 8 → 0 ≤ m → m ≤ 20 →
    (m + T.size t ≤ 20 → deep - 1 + T.deep t ≤ 7 → T.cnt t deep m = (deep - 1 + T.deep t, m + T.size t)) ∧
    ((T.cnt t deep m).1 ≤ 7 → (T.cnt t deep m).2 ≤ 20 → m + T.size t ≤ 20 ∧ deep - 1 + T.deep t ≤ 7) ∧
    m + 1 ≤ (T.cnt t deep m).2 ∧ (T.cnt t deep m).2 ≤ 21 ∧ deep ≤ (T.cnt t deep m).1 ∧ (T.cnt t deep m).1 ≤ 8
  | .mk _ _ _ _ ks, deep, m, h1, h2, h3, h4 => by
    simp only [T.cnt, T.size, T.deep]
    by_cases h7 : 7 < deep
    · rw [if_pos h7]
      dsimp only
      refine ⟨fun _ _ => by omega, fun _ _ => by omega, by omega, by omega, by omega, by omega⟩
    · rw [if_neg h7]
      obtain ⟨i1, i2, i3, i4, i5, i6⟩ := T.cntL_eq ks deep deep (m + 1) h1 (by omega) (by omega) (by omega) (by omega) (by omega)
      refine ⟨fun h5 h6 => ?_, fun h5 h6 => ?_, by omega, by omega, by omega, by omega⟩
      · rw [i1 (by omega) (by omega) (by omega)]
        exact Prod.ext (by push_cast; omega) (by push_cast; omega)
      · obtain ⟨j1, j2⟩ := i2 h5 h6
        push_cast
        omega
theorem T.cntL_eq : ∀ (ks : List T) (deep most m : Int), 1 ≤ deep → deep ≤ 7 → deep ≤ most → most ≤ 8 → 0 ≤ m → m ≤ 21 →
    (m + T.sizeL ks ≤ 20 → deep + T.deepL ks ≤ 7 → most ≤ 7 → T.cntL ks deep most m = (max most (deep + T.deepL ks), m + T.sizeL ks)) ∧
    ((T.cntL ks deep most m).1 ≤ 7 → (T.cntL ks deep most m).2 ≤ 20 → m + T.sizeL ks ≤ 20 ∧ deep + T.deepL ks ≤ 7) ∧
    m ≤ (T.cntL ks deep most m).2 ∧ (T.cntL ks deep most m).2 ≤ 21 ∧ most ≤ (T.cntL ks deep most m).1 ∧ (T.cntL ks deep most m).1 ≤ 8
  | [], deep, most, m, h1, h2, h3, h4, h5, h6 => by
    simp only [T.cntL, T.sizeL, T.deepL]
    refine ⟨fun _ _ _ => Prod.ext (by omega) (by omega), fun _ _ => by omega, by omega, by omega, by omega, by omega⟩
  | k :: ks, deep, most, m, h1, h2, h3, h4, h5, h6 => by
    have hp := T.size_pos k
    have hdp := T.deep_pos k
    simp only [T.cntL, T.sizeL, T.deepL]
    by_cases h20 : 20 < m
    · rw [if_pos h20]
      dsimp only
      refine ⟨fun _ _ _ => by omega, fun _ _ => by omega, by omega, by omega, by omega, by omega⟩
    · rw [if_neg h20]
      obtain ⟨k1, k2, k3, k4, k5, k6⟩ := T.cnt_eq k (deep + 1) m (by omega) (by omega) h5 (by omega)
      generalize T.cnt k (deep + 1) m = r at *
      have hmx : (if most < r.1 then r.1 else most) = max most r.1 := by split <;> omega
      rw [hmx]
      obtain ⟨i1, i2, i3, i4, i5, i6⟩ := T.cntL_eq ks deep (max most r.1) r.2 h1 h2 (by omega) (by omega) (by omega) (by omega)
      refine ⟨fun h7 h8 h9 => ?_, fun h7 h8 => ?_, by omega, by omega, by omega, by omega⟩
      · have e := k1 (by omega) (by omega)
        have e1 : r.1 = deep + 1 - 1 + T.deep k := by rw [e]
        have e2 : r.2 = m + T.size k := by rw [e]
        rw [i1 (by omega) (by omega) (by omega)]
        exact Prod.ext (by push_cast; omega) (by push_cast; omega)
      · obtain ⟨j1, j2⟩ := i2 h7 h8
        obtain ⟨l1, l2⟩ := k2 (by omega) (by omega)
        have e := k1 l1 (by omega)
        have e1 : r.1 = deep + 1 - 1 + T.deep k := by rw [e]
        have e2 : r.2 = m + T.size k := by rw [e]
        push_cast
        omega
end
/-- The two counts say the same. -/
theorem T.cnt_many (t : T) : t.many = if 20 < (T.cnt t 1 0).2 ∨ 7 < (T.cnt t 1 0).1 then (21, 8) else ((T.cnt t 1 0).2, (T.cnt t 1 0).1) := by
  obtain ⟨h1, h2, h3, h4, h5, h6⟩ := T.cnt_eq t 1 0 (by omega) (by omega) (by omega) (by omega)
  rw [T.many_eq]
  by_cases hc : T.size t ≤ 20 ∧ T.deep t ≤ 7
  · have e := h1 (by omega) (by omega)
    rw [if_pos hc, e]
    dsimp only
    rw [if_neg (by omega)]
    exact Prod.ext (by omega) (by omega)
  · rw [if_neg hc, if_pos]
    rcases Int.lt_or_le 20 (T.cnt t 1 0).2 with h9 | h9
    · exact .inl h9
    · rcases Int.lt_or_le 7 (T.cnt t 1 0).1 with h8 | h8
      · exact .inr h8
      · exfalso
        have := h2 h8 h9
        omega
theorem T.cnt_def (t : T) (deep m : Int) : t.cnt deep m = if 7 < deep then (deep, m + 1) else T.cntL t.kids deep deep (m + 1) := by
  obtain ⟨o, a, b, n, ks⟩ := t
  simp only [T.cnt, T.kids]
theorem T.cntL_step (ks : List T) (k : Nat) (deep most m : Int) (hk : k < ks.length) (hm : ¬ 20 < m) : T.cntL (ks.drop k) deep most m = T.cntL (ks.drop (k + 1)) deep (if most < (ks[k].cnt (deep + 1) m).1 then (ks[k].cnt (deep + 1) m).1 else most) (ks[k].cnt (deep + 1) m).2 := by
  rw [List.drop_eq_getElem_cons hk]
  simp only [T.cntL]
  rw [if_neg hm]
theorem T.cntL_stop (ks : List T) (deep most m : Int) (hm : 20 < m) : T.cntL ks deep most m = (most, m) := by
  cases ks with
  | nil => rfl
  | cons k ks => simp only [T.cntL]; rw [if_pos hm]
theorem T.cntL_full (ks : List T) (deep most m : Int) : T.cntL (ks.drop ks.length) deep most m = (most, m) := by rw [List.drop_length]; rfl

/-- How many terms a kind is of, or -1. -/
def arity (op : Int) : Int :=
  if op = 20 then 0 else if op = 21 then 0 else if op = 24 then 0 else if op = 1 then 1 else if op = 2 then 1 else if op = 22 then 1 else if op = 25 then 1 else if op = 23 then 3 else if op = 26 then 2 else if op = 27 then 2
  else if 3 ≤ op then (if op ≤ 17 then 2 else -1) else -1
def plainN (op : Int) (nm : ByteArray) : Bool := op == 21 || nm.toList == []
def plainV (op a b : Int) : Bool := op == 20 || op == 22 || (a == 0 && b == 0)
def plainT (t : T) : Bool := plainN t.op t.name && plainV t.op t.a t.b && ((t.kids.length : Int) == arity t.op)
/-- The sort of a term of one. -/
def oneK (op a b s : Int) : Int :=
  if op = 25 then (if s = 0 then 0 else -1) else if s < 1 then -1 else if op = 22 then (if 0 ≤ b then (if b ≤ a then (if a < s then a - b + 1 else -1) else -1) else -1) else s
/-- The sort of a term of two. -/
def bothK (op s r : Int) : Int :=
  if op = 26 ∨ op = 27 then (if s = 0 then (if r = 0 then 0 else -1) else -1) else if s < 1 ∨ r < 1 then -1 else if op = 14 then (if s + r ≤ 4 then s + r else -1) else if s = r then (if 15 ≤ op then 0 else s) else -1
/-- The sort of a term of three. -/
def threeK (s r q : Int) : Int := if s = 0 then (if r = q then r else -1) else -1
def nameK (ds : List D) (nm : ByteArray) : Int := (ds.find? fun d => d.name.toList == nm.toList).elim (-1) D.wide
mutual
/-- The sort of a term, or -1. -/
def srt (ds : List D) : T → Int
  | .mk op a b nm ks => if plainT (.mk op a b nm ks) = true then
      match srtL ds ks with
      | [] => if op = 20 then (if vecB a b = true then a else -1) else if op = 21 then nameK ds nm else 0
      | [s] => oneK op a b s
      | [s, r] => bothK op s r
      | s :: r :: q :: _ => threeK s r q
    else -1
def srtL (ds : List D) : List T → List Int
  | [] => []
  | k :: ks => srt ds k :: srtL ds ks
end
theorem srt_def (ds : List D) (t : T) : srt ds t = if plainT t = true then
      match srtL ds t.kids with
      | [] => if t.op = 20 then (if vecB t.a t.b = true then t.a else -1) else if t.op = 21 then nameK ds t.name else 0
      | [s] => oneK t.op t.a t.b s
      | [s, r] => bothK t.op s r
      | s :: r :: q :: _ => threeK s r q
    else -1 := by
  obtain ⟨o, a, b, n, ks⟩ := t
  simp only [srt, T.op, T.a, T.b, T.name, T.kids]
  rfl
theorem srtL_map (ds : List D) : ∀ ks : List T, srtL ds ks = ks.map (srt ds)
  | [] => rfl
  | k :: ks => by simp only [srtL, List.map_cons, srtL_map ds ks]
theorem nameK_bounds {ds : List D} (h : ∀ x ∈ ds, 1 ≤ x.wide ∧ x.wide ≤ 4) (nm : ByteArray) : -1 ≤ nameK ds nm ∧ nameK ds nm ≤ 4 := by
  unfold nameK
  cases hf : ds.find? fun d => d.name.toList == nm.toList with
  | none => simp
  | some d =>
    have := h d (List.mem_of_find?_eq_some hf)
    simp only [Option.elim]
    omega
theorem nameK_fN : ∀ (ds : List D) (nm : ByteArray) (k : Nat), (fN k ds nm < 0 → nameK ds nm = -1) ∧ (0 ≤ fN k ds nm → ∃ (j : Nat) (h : j < ds.length), fN k ds nm = k + j ∧ nameK ds nm = ds[j].wide)
  | [], nm, k => ⟨fun _ => rfl, fun h => by simp [fN] at h⟩
  | x :: xs, nm, k => by
    unfold nameK
    simp only [fN, List.find?_cons]
    cases hx : x.name.toList == nm.toList with
    | true =>
      refine ⟨fun h => ?_, fun _ => ⟨0, by simp, by simp, by simp⟩⟩
      simp at h; omega
    | false =>
      obtain ⟨h1, h2⟩ := nameK_fN xs nm (k + 1)
      refine ⟨fun h => h1 (by simpa using h), fun h => ?_⟩
      obtain ⟨j, hj, e1, e2⟩ := h2 (by simpa using h)
      exact ⟨j + 1, by simpa using hj, by simp only [Bool.false_eq_true, if_false, e1]; push_cast; omega, by simpa [nameK] using e2⟩
theorem oneK_bounds {op a b s : Int} (h : -1 ≤ s ∧ s ≤ 4) : -1 ≤ oneK op a b s ∧ oneK op a b s ≤ 4 := by
  unfold oneK; (repeat' split) <;> omega
theorem bothK_bounds {op s r : Int} (h : -1 ≤ s ∧ s ≤ 4) (h' : -1 ≤ r ∧ r ≤ 4) : -1 ≤ bothK op s r ∧ bothK op s r ≤ 4 := by
  unfold bothK; (repeat' split) <;> omega
theorem threeK_bounds {s r q : Int} (h' : -1 ≤ r ∧ r ≤ 4) : -1 ≤ threeK s r q ∧ threeK s r q ≤ 4 := by
  unfold threeK; (repeat' split) <;> omega
theorem srt_bounds {ds : List D} (h : ∀ x ∈ ds, 1 ≤ x.wide ∧ x.wide ≤ 4) (t : T) : -1 ≤ srt ds t ∧ srt ds t ≤ 4 := by
  refine T.ind (p := fun t => -1 ≤ srt ds t ∧ srt ds t ≤ 4) (fun t ih => ?_) t
  rw [srt_def, srtL_map]
  split
  · have hm : ∀ s ∈ t.kids.map (srt ds), -1 ≤ s ∧ s ≤ 4 := fun s hs => by
      obtain ⟨k, hk, rfl⟩ := List.mem_map.1 hs
      exact ih k hk
    generalize t.kids.map (srt ds) = ss at *
    match ss with
    | [] =>
      dsimp only
      split
      · split
        · have := vecB_bounds (by assumption); omega
        · omega
      · split
        · exact nameK_bounds h _
        · omega
    | [s] => exact oneK_bounds (hm s (by simp))
    | [s, r] => exact bothK_bounds (hm s (by simp)) (hm r (by simp))
    | s :: r :: q :: _ => exact threeK_bounds (hm r (by simp))
  · omega
/-- The sort of a right term under right declarations. -/
def tsort (ds : List D) (t : T) : Int := if declOk ds = true ∧ t.many.1 ≤ 20 then srt ds t else -1
end Go.Proofs.YtiahmfpfimmbgaaGreatDoor

/-! Contexts: when they are right. No program is named here. -/
namespace Go.Proofs.YtiahmfpfimmbgaaGreatDoor
open Go Go.RowKit

def dsAll (c : List Ly) : List D := c.flatMap Ly.ds
def tsAll (c : List Ly) : List T := c.flatMap Ly.ts
def sort0 (ds : List D) (t : T) : Bool := tsort ds t == 0
def lyOk (seen : List Ly) (l : Ly) : Bool := l.ts.all (sort0 (dsAll (seen ++ [l])))
def ctxGo : List Ly → List Ly → Bool
  | _, [] => true
  | seen, l :: ls => lyOk seen l && ctxGo (seen ++ [l]) ls
/-- A right context. -/
def ctxOk (c : List Ly) : Bool := decide (1 ≤ c.length) && decide (c.length ≤ 6) && declOk (dsAll c) && decide ((tsAll c).length ≤ 8) && ctxGo [] c
theorem ctxGo_step (c : List Ly) (k : Nat) (h : k < c.length) : ctxGo (c.take k) (c.drop k) = (lyOk (c.take k) c[k] && ctxGo (c.take (k + 1)) (c.drop (k + 1))) := by
  rw [List.drop_eq_getElem_cons h]
  show (_ && ctxGo (c.take k ++ [c[k]]) _) = _
  rw [List.take_succ_eq_append_getElem h]
theorem lyOk_take (c : List Ly) (k : Nat) (h : k < c.length) : lyOk (c.take k) c[k] = c[k].ts.all (sort0 (dsAll (c.take (k + 1)))) := by
  unfold lyOk
  rw [List.take_succ_eq_append_getElem h]
theorem all_step {α : Type} (p : α → Bool) (l : List α) (k : Nat) (h : k < l.length) : (l.drop k).all p = (p l[k] && (l.drop (k + 1)).all p) := by
  rw [List.drop_eq_getElem_cons h]; rfl
theorem dsAll_step (c : List Ly) (k : Nat) (h : k < c.length) : dsAll (c.take (k + 1)) = dsAll (c.take k) ++ c[k].ds := by
  unfold dsAll
  rw [List.take_succ_eq_append_getElem h, List.flatMap_append]
  simp
theorem tsAll_step (c : List Ly) (k : Nat) (h : k < c.length) : tsAll (c.take (k + 1)) = tsAll (c.take k) ++ c[k].ts := by
  unfold tsAll
  rw [List.take_succ_eq_append_getElem h, List.flatMap_append]
  simp
theorem dsAll_le (c : List Ly) (k : Nat) : (dsAll (c.take k)).length ≤ (dsAll c).length := by
  conv => rhs; rw [← List.take_append_drop k c]
  unfold dsAll
  rw [List.flatMap_append, List.length_append]; omega
theorem tsAll_le (c : List Ly) (k : Nat) : (tsAll (c.take k)).length ≤ (tsAll c).length := by
  conv => rhs; rw [← List.take_append_drop k c]
  unfold tsAll
  rw [List.flatMap_append, List.length_append]; omega
theorem dsAll_at (c : List Ly) (k : Nat) (h : k < c.length) : c[k].ds.length ≤ (dsAll c).length := by
  have h1 := dsAll_le c (k + 1)
  rw [dsAll_step c k h, List.length_append] at h1
  omega
theorem tsAll_at (c : List Ly) (k : Nat) (h : k < c.length) : c[k].ts.length ≤ (tsAll c).length := by
  have h1 := tsAll_le c (k + 1)
  rw [tsAll_step c k h, List.length_append] at h1
  omega
theorem dsAll_mem {c : List Ly} {k : Nat} {d : D} (h : d ∈ dsAll (c.take k)) : d ∈ dsAll c := by
  obtain ⟨l, hl, hd⟩ := List.mem_flatMap.1 h
  exact List.mem_flatMap.2 ⟨l, List.mem_of_mem_take hl, hd⟩
theorem tsAll_mem {c : List Ly} {k j : Nat} (h : k < c.length) (hj : j < c[k].ts.length) : c[k].ts[j] ∈ tsAll c := List.mem_flatMap.2 ⟨c[k], List.getElem_mem h, List.getElem_mem hj⟩
theorem ctxOk_short {c : List Ly} (h : ¬ 1 ≤ c.length) : ctxOk c = false := by unfold ctxOk; rw [decide_eq_false h]; rfl
theorem ctxOk_long {c : List Ly} (h : ¬ c.length ≤ 6) : ctxOk c = false := by unfold ctxOk; rw [decide_eq_false h]; simp
theorem ctxOk_decl {c : List Ly} (h : declOk (dsAll c) = false) : ctxOk c = false := by unfold ctxOk; rw [h]; simp
theorem ctxOk_terms {c : List Ly} (h : ¬ (tsAll c).length ≤ 8) : ctxOk c = false := by unfold ctxOk; rw [decide_eq_false h]; simp
theorem ctxOk_go {c : List Ly} (h1 : 1 ≤ c.length) (h6 : c.length ≤ 6) (hd : declOk (dsAll c) = true) (h8 : (tsAll c).length ≤ 8) : ctxOk c = ctxGo [] c := by unfold ctxOk; rw [decide_eq_true h1, decide_eq_true h6, hd, decide_eq_true h8]; rfl
def okT3 (t : T) : Prop := okT2 t ∧ (-9223372036854775808 ≤ t.op ∧ t.op ≤ 9223372036854775807)
/-- What is asked of a context that comes in. -/
structure okC (c : List Ly) : Prop where
  len : c.length ≤ 1048576
  ds : (dsAll c).length ≤ 1048576
  ts : (tsAll c).length ≤ 1048576
  names : ∀ d ∈ dsAll c, d.name.size ≤ 9223372036854775807
  terms : ∀ t ∈ tsAll c, T.All okT3 t
end Go.Proofs.YtiahmfpfimmbgaaGreatDoor

/-! Malformed contexts: plain laws. No program is named here. -/
namespace Go.Proofs.YtiahmfpfimmbgaaGreatDoor
open Go Go.RowKit

theorem allSame_comm {α : Type} {f : α → α → Bool} : ∀ {xs ys : List α}, (∀ x ∈ xs, ∀ y, f x y = f y x) → allSame f xs ys = allSame f ys xs
  | [], [], _ => rfl
  | [], _ :: _, _ => rfl
  | _ :: _, [], _ => rfl
  | x :: xs, y :: ys, h => by
    simp only [allSame]
    rw [h x (List.mem_cons_self ..) y, allSame_comm fun z hz => h z (List.mem_cons_of_mem _ hz)]
theorem beq_comm9 {α : Type} [BEq α] [LawfulBEq α] (x y : α) : (x == y) = (y == x) := by
  by_cases h : x = y
  · subst h; rfl
  · rw [beq_eq_false_iff_ne.2 h, beq_eq_false_iff_ne.2 fun e => h e.symm]
theorem D.same_comm (x y : D) : D.same x y = D.same y x := by
  unfold D.same
  rw [beq_comm9 x.name.toList, beq_comm9 x.wide]
theorem T.same_comm (x : T) : ∀ y, T.same x y = T.same y x := by
  refine T.ind (p := fun x => ∀ y, T.same x y = T.same y x) (fun x ih y => ?_) x
  rw [T.same_eq, T.same_eq, beq_comm9 x.op, beq_comm9 x.a, beq_comm9 x.b, beq_comm9 x.name.toList, allSame_comm ih]
theorem Ly.same_comm (x y : Ly) : Ly.same x y = Ly.same y x := by
  unfold Ly.same
  rw [allSame_comm fun d _ => D.same_comm d, allSame_comm fun t _ => T.same_comm t]
theorem ctx_comm (c x : List Ly) : allSame Ly.same c x = allSame Ly.same x c := allSame_comm fun l _ => Ly.same_comm l
/-- A term ahead of its name; a name twice. -/
def lateN : T := .mk 21 0 0 ⟨#[108, 97, 116, 101]⟩ []
def lateT : T := .mk 15 0 0 ⟨#[]⟩ [lateN, lateN]
def lateD : D := ⟨⟨#[108, 97, 116, 101]⟩, 1⟩
def aD : D := ⟨⟨#[97]⟩, 1⟩
def lateC : List Ly := [⟨[], [lateT]⟩, ⟨[lateD], []⟩]
def turnC : List Ly := [⟨[lateD], []⟩, ⟨[], [lateT]⟩]
def twoC : List Ly := [⟨[aD], []⟩, ⟨[aD], []⟩]
theorem late_no : ctxOk lateC = false := by decide +kernel
theorem turn_yes : ctxOk turnC = true := by decide +kernel
theorem two_no : ctxOk twoC = false := by decide +kernel
theorem seven_no : ctxOk (List.replicate 7 ⟨[], []⟩) = false := by decide +kernel
theorem six_yes : ctxOk (List.replicate 6 ⟨[], []⟩) = true := by decide +kernel
theorem nil_no : ctxOk [] = false := by decide +kernel
theorem lateN_ok : T.All okT3 lateN := .mk _ ⟨⟨by decide, by decide⟩, by decide⟩ fun k hk => by cases hk
theorem lateT_ok : T.All okT3 lateT := .mk _ ⟨⟨by decide, by decide⟩, by decide⟩ fun k hk => by
  have hk : k ∈ [lateN, lateN] := hk
  simp at hk
  subst hk
  exact lateN_ok
theorem okC_lits {c : List Ly} (h1 : c.length ≤ 1048576) (h2 : (dsAll c).length ≤ 1048576) (h3 : (tsAll c).length ≤ 1048576) (h4 : ∀ d ∈ dsAll c, d = lateD ∨ d = aD) (h5 : ∀ t ∈ tsAll c, t = lateT) : okC c :=
  ⟨h1, h2, h3, fun d hd => by rcases h4 d hd with rfl | rfl <;> decide, fun t ht => by rw [h5 t ht]; exact lateT_ok⟩
theorem late_ok : okC lateC := okC_lits (by decide) (by decide) (by decide) (fun d hd => by simp [lateC, dsAll] at hd; exact .inl hd) (fun t ht => by simpa [lateC, tsAll] using ht)
theorem turn_ok : okC turnC := okC_lits (by decide) (by decide) (by decide) (fun d hd => by simp [turnC, dsAll] at hd; exact .inl hd) (fun t ht => by simpa [turnC, tsAll] using ht)
theorem two_ok : okC twoC := okC_lits (by decide) (by decide) (by decide) (fun d hd => by simp [twoC, dsAll] at hd; exact .inr hd) (fun t ht => by simp [twoC, tsAll] at ht)
theorem none_ok (n : Nat) (hn : n ≤ 10) : okC (List.replicate n ⟨[], []⟩) := by
  have h1 : dsAll (List.replicate n ⟨[], []⟩) = [] := by simp [dsAll]
  have h2 : tsAll (List.replicate n ⟨[], []⟩) = [] := by simp [tsAll]
  exact ⟨by simp; omega, by rw [h1]; simp, by rw [h2]; simp, by rw [h1]; simp, by rw [h2]; simp⟩
end Go.Proofs.YtiahmfpfimmbgaaGreatDoor

/-! append of a whole slice onto a row of the call's own. No program is named here. -/
namespace Go.Proofs.YtiahmfpfimmbgaaGreatDoor
open Go Go.RowKit

/-- The slice '.slice A m c' has the cells xs, in the world w. -/
def Src (w : World) (size : Nat) (A : Option Addr) (m : Nat) (xs : List Value) : Prop :=
  xs.length = m * size ∧ (0 < m → ∃ ad, A = some ad ∧ ∀ j u, xs[j]? = some u → w.cell? (ad.add j) = some u)

section
variable {P : Program} (w : World)

theorem run_append_of_nil (base : Nat) (t ty e : TypeId) (i : TypeInfo) (size : Nat) (ht : P.underlying t = some (.slice e)) (hi : P.info? e = some i)
    (v : Value) (n : Nat) (xs : List Value) (hown : w.ownsRow base e size v n xs) (c : Nat) : (Builtin.append_ #[t, t] ty #[v, .slice none 0 c]).run P w = .ok v w := by
  rcases hown.2 with ⟨rfl, rfl⟩ | ⟨g, cap, cur, rfl, _, _, hnc, _⟩
  · simp [Builtin.append_, run_underlying ht, sizeOf, typeInfo, hi, Builtin.lenOf, Builtin.firstCells]
  · simp [Builtin.append_, run_underlying ht, sizeOf, typeInfo, hi, Builtin.lenOf, Builtin.firstCells, hnc, storeCells]

theorem run_append_src (base : Nat) (t ty e : TypeId) (i : TypeInfo) (z : Value) (size bytes : Nat) (ht : P.underlying t = some (.slice e)) (hi : P.info? e = some i) (hz : i.zero = some z)
    (hsize : i.size = size) (hby : i.bytes = bytes) (hzs : z.cells.size = size) (hsz : 0 < size)
    (v : Value) (n : Nat) (xs : List Value) (hown : w.ownsRow base e size v n xs)
    (A : Option Addr) (m c : Nat) (news : List Value) (hr : Src w size A m news) (h1 : ∀ u ∈ news, u.oneCell' = true)
    (nm : Nat) (hnm : n + m = nm) (h63 : nm ≤ maxLen) (hbytes : nm * bytes ≤ 140737488355328) (hbase : base ≤ w.heap.size) (hA : A = none → m = 0) :
    ∃ A' c' w', (Builtin.append_ #[t, t] ty #[v, .slice A m c]).run P w = .ok (.slice A' nm c') w' ∧ w'.ownsRow base e size (.slice A' nm c') nm (xs ++ news) ∧ w.grownBy w' v.ownBlock := by
  subst hnm
  suffices H : ∃ v' w', (Builtin.append_ #[t, t] ty #[v, .slice A m c]).run P w = .ok v' w' ∧ w'.ownsRow base e size v' (n + m) (xs ++ news) ∧ w.grownBy w' v.ownBlock by
    obtain ⟨v', w', h1, h2, h3⟩ := H
    rcases h2.2 with ⟨e1, e2⟩ | ⟨g, cap, cur, e1, _⟩
    · exact ⟨none, 0, w', by rw [h1, e1, e2], by rw [e1] at h2; rw [e2] at h2 ⊢; exact h2, h3⟩
    · exact ⟨_, cap, w', by rw [h1, e1], by rw [e1] at h2; exact h2, h3⟩
  rcases A with _ | ad
  · have hm : m = 0 := hA rfl
    subst hm
    have hn : news = [] := List.eq_nil_of_length_eq_zero (by simpa using hr.1)
    subst hn
    exact ⟨v, w, run_append_of_nil w base t ty e i size ht hi v n xs hown c, by simpa using hown, World.grownBy.refl _ _⟩
  · have hcells : ∀ j u, news[j]? = some u → w.cell? (ad.add j) = some u := by
      intro j u hu
      rcases Nat.eq_zero_or_pos m with h0 | h0
      · subst h0
        have hn : news = [] := List.eq_nil_of_length_eq_zero (by simpa using hr.1)
        subst hn
        simp at hu
      · obtain ⟨ad', h, hc⟩ := hr.2 h0
        injection h with h
        subst h
        exact hc j u hu
    obtain ⟨v', w', hrun, h2, h3, _, _⟩ := run_append_own_at (P := P) w base t ty e i z size bytes ht hi hz hsize hby hzs hsz v n xs hown ad m c news hr.1 hcells h1 h63 hbytes hbase
    exact ⟨v', w', hrun, h2, h3⟩

theorem wp_append_src {o : Oper} {a : Act} {K : Act → World → Prop} {Q : Exit → Act → World → Prop} (s x : Operand) (t : TypeId)
    (ho : o.op = .call { callee := .builtin .append, args := #[s, x], argTypes := #[t, t] })
    (base : Nat) (e : TypeId) (i : TypeInfo) (z : Value) (size bytes : Nat) (ht : P.underlying t = some (.slice e)) (hi : P.info? e = some i) (hz : i.zero = some z)
    (hsize : i.size = size) (hby : i.bytes = bytes) (hzs : z.cells.size = size) (hsz : 0 < size)
    (v : Value) (n : Nat) (xs : List Value) (hs : a.eval s = v) (hown : w.ownsRow base e size v n xs)
    (A : Option Addr) (m c : Nat) (news : List Value) (hx : a.eval x = .slice A m c) (hr : Src w size A m news) (h1 : ∀ u ∈ news, u.oneCell' = true)
    (nm : Nat) (hnm : n + m = nm) (h63 : nm ≤ maxLen) (hbytes : nm * bytes ≤ 140737488355328) (hbase : base ≤ w.heap.size) (hA : A = none → m = 0)
    (h : ∀ A' c' w', w'.ownsRow base e size (.slice A' nm c') nm (xs ++ news) → Below base w w' → w.grownBy w' v.ownBlock → K (a.put o.dst (.slice A' nm c')) w') : o.wp P a w K Q := by
  obtain ⟨A', c', w', hrun, h2, h3⟩ := run_append_src (P := P) w base t o.type e i z size bytes ht hi hz hsize hby hzs hsz v n xs hown A m c news hr h1 nm hnm h63 hbytes hbase hA
  unfold Oper.wp execOp
  simp only [ho, resolve, invoke, builtin, Sem.run_bind, Sem.run_pure, Result.andThen_ok, List.map_toArray, List.map_cons, List.map_nil, hs, hx, hrun]
  exact h A' c' w' h2 ((Below.refl _ _).grown h3 hbase (fun k hk => (hown.lt k hk).1)) h3

theorem wpList_append_src {ops : Array Oper} {rest : List Oper} {o : Oper} {a : Act} {Q : Exit → Act → World → Prop} (hgd : o.guard = none) (s x : Operand) (t : TypeId)
    (ho : o.op = .call { callee := .builtin .append, args := #[s, x], argTypes := #[t, t] })
    (base : Nat) (e : TypeId) (i : TypeInfo) (z : Value) (size bytes : Nat) (ht : P.underlying t = some (.slice e)) (hi : P.info? e = some i) (hz : i.zero = some z)
    (hsize : i.size = size) (hby : i.bytes = bytes) (hzs : z.cells.size = size) (hsz : 0 < size)
    (v : Value) (n : Nat) (xs : List Value) (hs : a.eval s = v) (hown : w.ownsRow base e size v n xs)
    (A : Option Addr) (m c : Nat) (news : List Value) (hx : a.eval x = .slice A m c) (hr : Src w size A m news) (h1 : ∀ u ∈ news, u.oneCell' = true)
    (nm : Nat) (hnm : n + m = nm) (h63 : nm ≤ maxLen) (hbytes : nm * bytes ≤ 140737488355328) (hbase : base ≤ w.heap.size) (hA : A = none → m = 0)
    (h : ∀ A' c' w', w'.ownsRow base e size (.slice A' nm c') nm (xs ++ news) → Below base w w' → w.grownBy w' v.ownBlock → wpList P ops Q rest (a.put o.dst (.slice A' nm c')) w') : wpList P ops Q (o :: rest) a w :=
  wpList_plain hgd fun _ hK => wp_append_src w s x t ho base e i z size bytes ht hi hz hsize hby hzs hsz v n xs hs hown A m c news hx hr h1 nm hnm h63 hbytes hbase hA fun A' c' w' h2 h3 h4 => hK _ _ (h A' c' w' h2 h3 h4)

end
theorem src_block {W : World} {B : Nat} {e : TypeId} {cs : Array Value} {fr : Nat × Nat} {size m : Nat} (hb : W.heap[B]? = some (.cells cs e fr)) (hm : cs.size = m * size) : Src W size (some ⟨B, 0, none⟩) m cs.toList :=
  ⟨by simpa using hm, fun _ => ⟨_, rfl, World.news_of_block hb⟩⟩
theorem own_lit0 {W : World} {S : Nat} {e : TypeId} {size : Nat} (hS : W.heap.size = S) : (W.alloc (.cells #[] e)).ownsRow S e size (.slice (some ⟨S, 0, none⟩) 0 0) 0 [] := by
  subst hS; exact World.ownsRow_lit W #[] 0 (Nat.le_refl _) (by unfold maxLen; omega) (by simp)
end Go.Proofs.YtiahmfpfimmbgaaGreatDoor

/-! What growing and setting leave. No program is named here. -/
namespace Go.Proofs.YtiahmfpfimmbgaaGreatDoor
open Go Go.RowKit

theorem grown_then {a w w' : World} {row : Option Nat} (h : Below a.heap.size a w) (h' : w.grownBy w' row) : a.grownBy w' row :=
  ⟨h'.os.trans h.os, h'.tape.trans h.tape, h'.output.trans h.output, Nat.le_trans h.size h'.size, fun i hi hne => (h'.block i (Nat.lt_of_lt_of_le hi h.size) hne).trans (h.block i hi)⟩
theorem heap_set_same (w : World) (r : Nat) (o : Nat) (u : Value) (cs : Array Value) (t : TypeId) (h : w.heap[r]? = some (.cells cs t (0, 0))) : (w.setCell ⟨r, o, none⟩ u).heap[r]? = some (.cells (cs.setIfInBounds o u) t (0, 0)) := by
  unfold World.setCell
  simp only [Array.getElem?_modify, if_true]
  rw [h]
  rfl
theorem cell_of_block {w : World} {r : Nat} {cs : Array Value} {t : TypeId} (h : w.heap[r]? = some (.cells cs t (0, 0))) (i : Nat) : w.cell? ⟨r, i, none⟩ = cs[i]? ∧ w.frozen? ⟨r, i, none⟩ = false := by
  unfold World.cell? World.frozen?
  simp [h]
theorem size_setCell (w : World) (a : Addr) (v : Value) : (w.setCell a v).heap.size = w.heap.size := by simp [World.setCell]
theorem rows_kept {w w' : World} {base : Nat} {e : TypeId} {size n : Nat} {v : Value} {xs : List Value} {b : Option Nat} (h : w.ownsRow base e size v n xs) (hg : w.grownBy w' b) (hd : ∀ g, v.ownBlock = some g → b ≠ some g) : w'.ownsRow base e size v n xs :=
  h.kept hg (by
    rcases hv : v.ownBlock with _ | g
    · exact .inl rfl
    · exact .inr (fun e => hd g hv e.symm))
end Go.Proofs.YtiahmfpfimmbgaaGreatDoor

/-! VecOk, the program's and the reference's; powers of two. -/
namespace Go.Proofs.YtiahmfpfimmbgaaGreatDoor
open Go Go.RowKit

theorem pow_small16 {n : Nat} (h : n ≤ 16) : 2 ^ n ≤ 65536 := Nat.pow_le_pow_right (by omega) h
/-- l1Two leaves the memory as it was. -/
theorem l1Two_q (n : Nat) (w : World) (hn : n ≤ 16) :
    Calls Tryz.prog 129 #[.int .i64 (n : Int)] w fun e w' => e = .returned (.int .i64 ((2 ^ n : Nat) : Int)) ∧ w = w' := by
  obtain ⟨T, hT⟩ : ∃ T, T = 2 ^ n := ⟨_, rfl⟩
  rw [← hT]
  have HT := Lib.hid hT
  clear hT
  go_enter Tryz.func129, Tryz.ntmps129
  go_wp2
  go_loop [3, 4] (fun o i => ∃ (j p : Nat), j ≤ n ∧ i = .int .i64 j ∧ o = .int .i64 p ∧ p ≤ 65536 ∧ Hid (p = 2 ^ j)) (fun _ i => n - (intOf i).toNat)
  case atStart => exact ⟨0, 1, Nat.zero_le _, rfl, rfl, by omega, Lib.hid rfl⟩
  case round =>
    obtain ⟨j, p, hj, rfl, rfl, hp, HP⟩ := hrel
    by_cases hlt : j < n
    · have hlt2 : (j : Int) < n := by omega
      have HP2 : Hid (p * 2 ≤ 65536 ∧ p * 2 = 2 ^ (j + 1)) := Lib.hid ⟨by rw [HP.out, ← Nat.pow_succ]; exact pow_small16 (by omega), by rw [HP.out, Nat.pow_succ]⟩
      have hq : ((p * 2 : Nat) : Int) ≤ 65536 := by have := HP2.out.1; omega
      go_wp2
      go_round
      case rel => exact ⟨j + 1, p * 2, by omega, by go_num, by go_num, HP2.out.1, Lib.hid HP2.out.2⟩
      case measure => simp [intOf]; omega
    · have hje : j = n := by omega
      subst hje
      have hpT : p = T := by rw [HP.out, HT.out]
      subst hpT
      go_wp2
      go_ret
      exact ⟨rfl, rfl⟩
set_option maxRecDepth 100000 in
set_option maxHeartbeats 4000000 in
theorem specVecOk_any (m n : Int) (w : World) : Calls Tryz.prog 121 #[.agg #[.int .i64 m, .int .i64 n]] w (RetB w (vecB m n)) := by
  have hal : Below w.heap.size w (w.alloc (.cells #[.int .i64 m, .int .i64 n] 140)) := (Below.refl _ _).alloc (Nat.le_refl _) _
  have HAL := Lib.hid hal
  have HB := Lib.hid (heap_alloc_new w (.cells #[.int .i64 m, .int .i64 n] 140))
  clear hal
  unfold vecB
  by_cases h1 : 1 ≤ m
  · by_cases h4 : m ≤ 4
    · by_cases h0 : 0 ≤ n
      · obtain ⟨T, hT⟩ : ∃ T : Nat, T = 2 ^ m.toNat := ⟨_, rfl⟩
        have htwo : ∀ z, Calls Tryz.prog 129 #[.int .i64 m] z fun e w' => e = .returned (.int .i64 (T : Int)) ∧ z = w' := fun z => by
          have h9 := l1Two_q m.toNat z (by omega)
          rw [Int.toNat_of_nonneg (by omega), ← hT] at h9
          exact h9
        have HTWO := Lib.hid htwo
        have hb : ((2 : Int) ^ (m.toNat)) = (T : Int) := by rw [hT]; simp
        rw [hb, decide_eq_true h1, decide_eq_true h4, decide_eq_true h0]
        clear hT hb htwo
        have g1 : decide (1 ≤ m) = true := decide_eq_true h1
        have g4 : decide (m ≤ 4) = true := decide_eq_true h4
        have g0 : decide (0 ≤ n) = true := decide_eq_true h0
        by_cases hl : n < (T : Int)
        all_goals
          go_enter Tryz.func121, Tryz.ntmps121
          go_wp2
          generalize w.alloc (.cells #[.int .i64 m, .int .i64 n] 140) = w1 at *
          have v0 := (cell_of_block HB.out 0).1
          have v1 := (cell_of_block HB.out 1).1
          go_quiet ((go_at_call 129; exact quiet_left (HTWO.out _)))
          go_wp2
          go_ret
          exact ⟨by simp [hl], below_drewN HAL.out _⟩
      · rw [decide_eq_false h0]
        have g1 : decide (1 ≤ m) = true := decide_eq_true h1
        have g4 : decide (m ≤ 4) = true := decide_eq_true h4
        have g0 : decide (0 ≤ n) = false := decide_eq_false h0
        go_enter Tryz.func121, Tryz.ntmps121
        go_wp2
        generalize w.alloc (.cells #[.int .i64 m, .int .i64 n] 140) = w1 at *
        have v0 := (cell_of_block HB.out 0).1
        have v1 := (cell_of_block HB.out 1).1
        go_quiet (fail)
        go_wp2
        go_ret
        exact ⟨by simp, below_drewN HAL.out _⟩
    · rw [decide_eq_false h4]
      have g1 : decide (1 ≤ m) = true := decide_eq_true h1
      have g4 : decide (m ≤ 4) = false := decide_eq_false h4
      go_enter Tryz.func121, Tryz.ntmps121
      go_wp2
      generalize w.alloc (.cells #[.int .i64 m, .int .i64 n] 140) = w1 at *
      have v0 := (cell_of_block HB.out 0).1
      have v1 := (cell_of_block HB.out 1).1
      go_quiet (fail)
      go_wp2
      go_ret
      exact ⟨by simp, below_drewN HAL.out _⟩
  · rw [decide_eq_false h1]
    have g1 : decide (1 ≤ m) = false := decide_eq_false h1
    go_enter Tryz.func121, Tryz.ntmps121
    go_wp2
    generalize w.alloc (.cells #[.int .i64 m, .int .i64 n] 140) = w1 at *
    have v0 := (cell_of_block HB.out 0).1
    have v1 := (cell_of_block HB.out 1).1
    go_quiet (fail)
    go_wp2
    go_ret
    exact ⟨by simp, below_drewN HAL.out _⟩
set_option maxRecDepth 100000 in
set_option maxHeartbeats 8000000 in
theorem implVecOk_any (m n : Int) (w : World) : Calls Tryz.prog 174 #[.agg #[.int .i64 m, .int .i64 n]] w (RetB w (vecB m n)) := by
  have hal : Below w.heap.size w (w.alloc (.cells #[.int .i64 m, .int .i64 n] 140)) := (Below.refl _ _).alloc (Nat.le_refl _) _
  have HAL := Lib.hid hal
  have HB := Lib.hid (heap_alloc_new w (.cells #[.int .i64 m, .int .i64 n] 140))
  clear hal
  unfold vecB
  by_cases h1 : 1 ≤ m
  · by_cases h4 : m ≤ 4
    · by_cases h0 : 0 ≤ n
      · rw [decide_eq_true h1, decide_eq_true h4, decide_eq_true h0]
        rcases (by omega : m = 1 ∨ m = 2 ∨ m = 3 ∨ m = 4) with rfl | rfl | rfl | rfl
        · rw [show ((2 : Int) ^ (Int.toNat 1)) = 2 from rfl]
          by_cases hl : n < 2
          · rw [decide_eq_true hl]
            go_enter Tryz.func174, Tryz.ntmps174
            go_wp2
            generalize w.alloc (.cells #[.int .i64 1, .int .i64 n] 140) = w1 at *
            have v0 := (cell_of_block HB.out 0).1
            have v1 := (cell_of_block HB.out 1).1
            go_quiet (fail)
            go_wp2
            go_ret
            exact ⟨by first | rfl | (simp; omega) | (simp; simpa using hl), below_drewN HAL.out _⟩
          · rw [decide_eq_false hl]
            go_enter Tryz.func174, Tryz.ntmps174
            go_wp2
            generalize w.alloc (.cells #[.int .i64 1, .int .i64 n] 140) = w1 at *
            have v0 := (cell_of_block HB.out 0).1
            have v1 := (cell_of_block HB.out 1).1
            go_quiet (fail)
            go_wp2
            go_ret
            exact ⟨by first | rfl | (simp; omega) | (simp; simpa using hl), below_drewN HAL.out _⟩
        · rw [show ((2 : Int) ^ (Int.toNat 2)) = 4 from rfl]
          by_cases hl : n < 4
          · rw [decide_eq_true hl]
            go_enter Tryz.func174, Tryz.ntmps174
            go_wp2
            generalize w.alloc (.cells #[.int .i64 2, .int .i64 n] 140) = w1 at *
            have v0 := (cell_of_block HB.out 0).1
            have v1 := (cell_of_block HB.out 1).1
            go_quiet (fail)
            go_wp2
            go_ret
            exact ⟨by first | rfl | (simp; omega) | (simp; simpa using hl), below_drewN HAL.out _⟩
          · rw [decide_eq_false hl]
            go_enter Tryz.func174, Tryz.ntmps174
            go_wp2
            generalize w.alloc (.cells #[.int .i64 2, .int .i64 n] 140) = w1 at *
            have v0 := (cell_of_block HB.out 0).1
            have v1 := (cell_of_block HB.out 1).1
            go_quiet (fail)
            go_wp2
            go_ret
            exact ⟨by first | rfl | (simp; omega) | (simp; simpa using hl), below_drewN HAL.out _⟩
        · rw [show ((2 : Int) ^ (Int.toNat 3)) = 8 from rfl]
          by_cases hl : n < 8
          · rw [decide_eq_true hl]
            go_enter Tryz.func174, Tryz.ntmps174
            go_wp2
            generalize w.alloc (.cells #[.int .i64 3, .int .i64 n] 140) = w1 at *
            have v0 := (cell_of_block HB.out 0).1
            have v1 := (cell_of_block HB.out 1).1
            go_quiet (fail)
            go_wp2
            go_ret
            exact ⟨by first | rfl | (simp; omega) | (simp; simpa using hl), below_drewN HAL.out _⟩
          · rw [decide_eq_false hl]
            go_enter Tryz.func174, Tryz.ntmps174
            go_wp2
            generalize w.alloc (.cells #[.int .i64 3, .int .i64 n] 140) = w1 at *
            have v0 := (cell_of_block HB.out 0).1
            have v1 := (cell_of_block HB.out 1).1
            go_quiet (fail)
            go_wp2
            go_ret
            exact ⟨by first | rfl | (simp; omega) | (simp; simpa using hl), below_drewN HAL.out _⟩
        · rw [show ((2 : Int) ^ (Int.toNat 4)) = 16 from rfl]
          by_cases hl : n < 16
          · rw [decide_eq_true hl]
            go_enter Tryz.func174, Tryz.ntmps174
            go_wp2
            generalize w.alloc (.cells #[.int .i64 4, .int .i64 n] 140) = w1 at *
            have v0 := (cell_of_block HB.out 0).1
            have v1 := (cell_of_block HB.out 1).1
            go_quiet (fail)
            go_wp2
            go_ret
            exact ⟨by first | rfl | (simp; omega) | (simp; simpa using hl), below_drewN HAL.out _⟩
          · rw [decide_eq_false hl]
            go_enter Tryz.func174, Tryz.ntmps174
            go_wp2
            generalize w.alloc (.cells #[.int .i64 4, .int .i64 n] 140) = w1 at *
            have v0 := (cell_of_block HB.out 0).1
            have v1 := (cell_of_block HB.out 1).1
            go_quiet (fail)
            go_wp2
            go_ret
            exact ⟨by first | rfl | (simp; omega) | (simp; simpa using hl), below_drewN HAL.out _⟩
      · rw [decide_eq_false h0]
        have g1 : decide (1 ≤ m) = true := decide_eq_true h1
        have g4 : decide (m ≤ 4) = true := decide_eq_true h4
        have g0 : decide (0 ≤ n) = false := decide_eq_false h0
        go_enter Tryz.func174, Tryz.ntmps174
        go_wp2
        generalize w.alloc (.cells #[.int .i64 m, .int .i64 n] 140) = w1 at *
        have v0 := (cell_of_block HB.out 0).1
        have v1 := (cell_of_block HB.out 1).1
        go_quiet (fail)
        go_wp2
        go_ret
        exact ⟨by simp, below_drewN HAL.out _⟩
    · rw [decide_eq_false h4]
      have g1 : decide (1 ≤ m) = true := decide_eq_true h1
      have g4 : decide (m ≤ 4) = false := decide_eq_false h4
      go_enter Tryz.func174, Tryz.ntmps174
      go_wp2
      generalize w.alloc (.cells #[.int .i64 m, .int .i64 n] 140) = w1 at *
      have v0 := (cell_of_block HB.out 0).1
      have v1 := (cell_of_block HB.out 1).1
      go_quiet (fail)
      go_wp2
      go_ret
      exact ⟨by simp, below_drewN HAL.out _⟩
  · rw [decide_eq_false h1]
    have g1 : decide (1 ≤ m) = false := decide_eq_false h1
    go_enter Tryz.func174, Tryz.ntmps174
    go_wp2
    generalize w.alloc (.cells #[.int .i64 m, .int .i64 n] 140) = w1 at *
    have v0 := (cell_of_block HB.out 0).1
    have v1 := (cell_of_block HB.out 1).1
    go_quiet (fail)
    go_wp2
    go_ret
    exact ⟨by simp, below_drewN HAL.out _⟩
end Go.Proofs.YtiahmfpfimmbgaaGreatDoor

/-! The reference's declarations: l2Name, l2Find, DeclOk, l8Bits, EnvOk. -/
namespace Go.Proofs.YtiahmfpfimmbgaaGreatDoor
open Go Go.RowKit

theorem take_let (s : ByteArray) (k : Nat) (h : k < s.size) : (s.data.toList.take (k + 1)).all letter = ((s.data.toList.take k).all letter && letter s[k]) := by
  rw [List.take_succ_eq_append_getElem (by simpa using h), List.all_append]
  simp
  rfl
theorem all_of_take {l : List UInt8} {k : Nat} (h : (l.take k).all letter = false) : l.all letter = false := by
  rw [Bool.eq_false_iff] at h ⊢
  intro h9
  exact h (List.all_eq_true.2 fun x hx => List.all_eq_true.1 h9 x (List.mem_of_mem_take hx))
set_option maxHeartbeats 1000000 in
theorem l2Name_any (s : ByteArray) (w : World) (hs : s.size ≤ 9223372036854775807) :
    Calls Tryz.prog 100 #[.string s] w fun e w' => e = .returned (.bool (nameOk s)) ∧ w = w' := by
  go_enter Tryz.func100, Tryz.ntmps100
  go_wp2
  go_loop [3] (fun i => ∃ k : Nat, k ≤ s.size ∧ i = .int .i64 k ∧ Hid ((s.data.toList.take k).all letter = true)) (fun i => s.size - (intOf i).toNat)
  case atStart => exact ⟨0, Nat.zero_le _, rfl, Lib.hid (by simp)⟩
  case round =>
    obtain ⟨k, hk, rfl, HT⟩ := hrel
    by_cases hlt : k < s.size
    · have HST := Lib.hid (take_let s k hlt)
      by_cases h1 : (s[k].toNat : Int) < 97
      · have HL : Hid (letter s[k] = false) := Lib.hid (by unfold letter; rw [decide_eq_false (by omega)]; rfl)
        have HA : Hid (allLet s = false) := Lib.hid (all_of_take (k := k + 1) (by rw [HST.out, HL.out, Bool.and_false]))
        have g1 : decide ((s[k].toNat : Int) < 97) = true := decide_eq_true h1
        go_wp2
        go_ret
        exact ⟨ret_bool (by unfold nameOk; rw [HA.out, Bool.and_false]), rfl⟩
      · by_cases h2 : (122 : Int) < s[k].toNat
        · have HL : Hid (letter s[k] = false) := Lib.hid (by unfold letter; rw [decide_eq_false (by omega : ¬ (s[k].toNat : Int) ≤ 122), Bool.and_false])
          have HA : Hid (allLet s = false) := Lib.hid (all_of_take (k := k + 1) (by rw [HST.out, HL.out, Bool.and_false]))
          have g1 : decide ((s[k].toNat : Int) < 97) = false := decide_eq_false h1
          go_wp2
          go_ret
          exact ⟨ret_bool (by unfold nameOk; rw [HA.out, Bool.and_false]), rfl⟩
        · have HL : Hid ((s.data.toList.take (k + 1)).all letter = true) := Lib.hid (by rw [HST.out, HT.out]; unfold letter; rw [decide_eq_true (by omega), decide_eq_true (by omega)]; rfl)
          have g1 : decide ((s[k].toNat : Int) < 97) = false := decide_eq_false h1
          go_wp2
          go_round
          case rel => exact ⟨k + 1, by omega, by go_num, HL⟩
          case measure => simp [intOf]; omega
    · have HA : Hid (allLet s = true) := Lib.hid (by have := HT.out; rwa [List.take_of_length_le (by simp; omega)] at this)
      have hke : k = s.size := by omega
      subst hke
      by_cases h1 : 1 ≤ s.size
      · by_cases h4 : s.size ≤ 4
        · obtain ⟨q, hq⟩ : ∃ q, q = tru s := ⟨_, rfl⟩
          have HQ := Lib.hid hq
          have g9 : (s.toList == [116, 114, 117, 101]) = q := hq.symm
          have HN : Hid (nameOk s = !q) := Lib.hid (by unfold nameOk; rw [decide_eq_true h1, decide_eq_true h4, HA.out, HQ.out, Bool.and_true, Bool.true_and, Bool.true_and])
          clear hq
          cases q
          · go_wp2
            go_ret
            exact ⟨ret_bool (by rw [HN.out]; rfl), rfl⟩
          · go_wp2
            go_ret
            exact ⟨ret_bool (by rw [HN.out]; rfl), rfl⟩
        · have HN : Hid (nameOk s = false) := Lib.hid (by unfold nameOk; rw [decide_eq_false h4, Bool.and_false, Bool.false_and, Bool.false_and])
          go_wp2
          go_ret
          exact ⟨ret_bool (by rw [HN.out]), rfl⟩
      · have HN : Hid (nameOk s = false) := Lib.hid (by unfold nameOk; rw [decide_eq_false h1, Bool.false_and, Bool.false_and, Bool.false_and])
        go_wp2
        go_ret
        exact ⟨ret_bool (by rw [HN.out]), rfl⟩
set_option maxHeartbeats 1000000 in
theorem l2Find_any (A : Option Addr) (c : Nat) (xs : List D) (s : ByteArray) (F : Nat → Prop) (w : World) (h : Lay.decl.Sl w F A xs) (hn : xs.length ≤ 9223372036854775807) :
    Calls Tryz.prog 101 #[.slice A xs.length c, .string s] w fun e w' => e = .returned (.int .i64 (fN 0 xs s)) ∧ w = w' := by
  go_enter Tryz.func101, Tryz.ntmps101
  go_wp2
  go_loop [5] (fun i => ∃ k : Nat, k ≤ xs.length ∧ i = .int .i64 k ∧ Hid (fN 0 xs s = fN k (xs.drop k) s)) (fun i => xs.length - (intOf i).toNat)
  case atStart => exact ⟨0, Nat.zero_le _, rfl, Lib.hid rfl⟩
  case round =>
    obtain ⟨k, hk, rfl, HT⟩ := hrel
    by_cases hlt : k < xs.length
    · obtain ⟨ad, rfl, hf, c1, c2⟩ := h.at_decl hlt
      have hk1 : (k : Int) < xs.length := by omega
      have HS := Lib.hid (fN_step xs k s hlt)
      obtain ⟨q, hq⟩ : ∃ q, q = (xs[k].name.toList == s.toList) := ⟨_, rfl⟩
      have HQ := Lib.hid hq
      have g9 := hq.symm
      clear hq
      cases q
      · have HE : Hid (fN 0 xs s = fN (k + 1) (xs.drop (k + 1)) s) := Lib.hid (by rw [HT.out, HS.out, ← HQ.out]; rfl)
        go_wp2
        go_round
        case rel => exact ⟨k + 1, by omega, by go_num, HE⟩
        case measure => simp [intOf]; omega
      · have HE : Hid (fN 0 xs s = (k : Int)) := Lib.hid (by rw [HT.out, HS.out, ← HQ.out]; rfl)
        go_wp2
        go_ret
        exact ⟨ret_int (by rw [HE.out]), rfl⟩
    · have HE : Hid (fN 0 xs s = -1) := Lib.hid (by rw [HT.out, List.drop_of_length_le (by omega)]; rfl)
      have hke : k = xs.length := by omega
      subst hke
      go_wp2
      go_ret
      exact ⟨ret_int (by rw [HE.out]), rfl⟩
theorem dOne_name {seen : List D} {x : D} (h : nameOk x.name = false) : dOne seen x = false := by unfold dOne; rw [h]; rfl
theorem dOne_low {seen : List D} {x : D} (h : ¬ 1 ≤ x.wide) : dOne seen x = false := by unfold dOne wideOk; rw [decide_eq_false h]; simp
theorem dOne_high {seen : List D} {x : D} (h : ¬ x.wide ≤ 4) : dOne seen x = false := by unfold dOne wideOk; rw [decide_eq_false h]; simp
theorem dOne_seen {seen : List D} {x : D} (h : hasN seen x.name = true) : dOne seen x = false := by unfold dOne; rw [h]; simp
theorem dOne_yes {seen : List D} {x : D} (h : nameOk x.name = true) (h1 : 1 ≤ x.wide) (h4 : x.wide ≤ 4) (h' : hasN seen x.name = false) : dOne seen x = true := by
  unfold dOne wideOk; rw [h, h', decide_eq_true h1, decide_eq_true h4]; rfl
def okNames (ds : List D) : Prop := ∀ d ∈ ds, d.name.size ≤ 9223372036854775807
set_option maxRecDepth 100000 in
set_option maxHeartbeats 4000000 in
theorem specDeclOk_any (A : Option Addr) (c : Nat) (xs : List D) (F : Nat → Prop) (w : World) (h : Lay.decl.Sl w F A xs) (hF : ∀ b, F b → b < w.heap.size) (hn : xs.length ≤ 9223372036854775807) (ho : okNames xs) (hc : xs.length ≤ c) :
    Calls Tryz.prog 77 #[.slice A xs.length c] w (RetB w (declOk xs)) := by
  by_cases hl4 : xs.length ≤ 4
  · go_enter Tryz.func77, Tryz.ntmps77
    go_wp2
    go_loopw [3, 4] (fun b i wr => ∃ (k : Nat) (n : Int), k ≤ xs.length ∧ i = .int .i64 k ∧ b = .int .i64 n ∧ 0 ≤ n ∧ n ≤ 4 * k ∧ Below w.heap.size w wr ∧ Hid (dGo [] 0 xs = dGo (xs.take k) n (xs.drop k))) (fun _ i _ => xs.length - (intOf i).toNat)
    case atStart => exact ⟨0, 0, Nat.zero_le _, rfl, rfl, by omega, by omega, Below.refl _ _, Lib.hid rfl⟩
    case round =>
      obtain ⟨k, n, hk, rfl, rfl, n0, n1, hb, HT⟩ := hrel
      by_cases hlt : k < xs.length
      · have hr := h.below hb hF
        have HFI := Lib.hid (fun z (hz : Lay.decl.Sl z F A (xs.take k)) => l2Find_any A c (xs.take k) xs[k].name F z hz (by rw [List.length_take]; omega))
        obtain ⟨ad, rfl, hf, c1, c2⟩ := hr.at_decl hlt
        have hk1 : (k : Int) < xs.length := by omega
        have HN := Lib.hid (fun z => l2Name_any xs[k].name z (ho _ (List.getElem_mem hlt)))
        have hkc : k ≤ c := by omega
        have HR := Lib.hid hr
        clear hr
        by_cases hnm : nameOk xs[k].name = true
        · by_cases h1 : 1 ≤ xs[k].wide
          · by_cases h4 : xs[k].wide ≤ 4
            · have e9 : (xs.take k).length = k := by rw [List.length_take]; omega
              obtain ⟨q, hq⟩ : ∃ q, q = fN 0 (xs.take k) xs[k].name := ⟨_, rfl⟩
              have HFK : Hid (∀ m, Calls Tryz.prog 101 #[.slice (some ad) k c, .string xs[k].name] (wr.drewN m) fun e w' => e = .returned (.int .i64 q) ∧ wr.drewN m = w') := Lib.hid (fun m => by
                have h9 := HFI.out (wr.drewN m) ((HR.out.take k).keep fun _ _ => rfl)
                rw [e9, ← hq] at h9
                exact h9)
              have g1 : decide (xs[k].wide < 1) = false := decide_eq_false (by omega)
              have g4 : decide (4 < xs[k].wide) = false := decide_eq_false (by omega)
              have HQ := Lib.hid hq
              rw [hnm] at HN
              clear hq e9 HFI
              by_cases hq0 : 0 ≤ q
              · have HB : Hid (declOk xs = false) := Lib.hid (declOk_bad xs k n hlt HT.out (dOne_seen ((fN_has 0 _ _).1 (by rw [← HQ.out]; exact hq0))))
                go_wp2
                go_quiet ((first | (go_at_call 100; exact quiet_left (HN.out _)) | (go_at_call 101; exact quiet_left (HFK.out _))))
                go_wp2
                go_ret
                exact ⟨ret_bool (by rw [HB.out]), below_drewN hb _⟩
              · have hh : hasN (xs.take k) xs[k].name = false := Bool.eq_false_iff.2 fun h9 => hq0 (by rw [HQ.out]; exact (fN_has 0 _ _).2 h9)
                have HX : Hid (dGo [] 0 xs = dGo (xs.take (k + 1)) (n + xs[k].wide) (xs.drop (k + 1))) := Lib.hid (declOk_next xs k n hlt HT.out (dOne_yes hnm h1 h4 hh))
                clear hh hnm
                go_wp2
                go_quiet ((first | (go_at_call 100; exact quiet_left (HN.out _)) | (go_at_call 101; exact quiet_left (HFK.out _))))
                go_wp2
                go_roundw
                case rel => exact ⟨k + 1, n + xs[k].wide, by omega, by go_num, rfl, by omega, by omega, below_drewN hb _, HX⟩
                case measure => simp [intOf]; omega
            · have HB : Hid (declOk xs = false) := Lib.hid (declOk_bad xs k n hlt HT.out (dOne_high h4))
              rw [hnm] at HN
              have g1 : decide (xs[k].wide < 1) = false := decide_eq_false (by omega)
              have g4 : decide (4 < xs[k].wide) = true := decide_eq_true (by omega)
              clear hnm HFI
              go_wp2
              go_quiet ((go_at_call 100; exact quiet_left (HN.out _)))
              go_wp2
              go_ret
              exact ⟨ret_bool (by rw [HB.out]), below_drewN hb _⟩
          · have HB : Hid (declOk xs = false) := Lib.hid (declOk_bad xs k n hlt HT.out (dOne_low h1))
            rw [hnm] at HN
            have g1 : decide (xs[k].wide < 1) = true := decide_eq_true (by omega)
            clear hnm HFI
            go_wp2
            go_quiet ((go_at_call 100; exact quiet_left (HN.out _)))
            go_wp2
            go_ret
            exact ⟨ret_bool (by rw [HB.out]), below_drewN hb _⟩
        · have hnm := Bool.eq_false_iff.2 hnm
          have HB : Hid (declOk xs = false) := Lib.hid (declOk_bad xs k n hlt HT.out (dOne_name hnm))
          rw [hnm] at HN
          clear hnm HFI
          go_wp2
          go_quiet ((go_at_call 100; exact quiet_left (HN.out _)))
          go_wp2
          go_ret
          exact ⟨ret_bool (by rw [HB.out]), below_drewN hb _⟩
      · have hke : k = xs.length := by omega
        subst hke
        have HE := Lib.hid (declOk_end xs n hl4 HT.out)
        go_wp2
        go_ret
        exact ⟨ret_bool (by rw [HE.out]), hb⟩
  · have HE := Lib.hid (declOk_long xs hl4)
    go_enter Tryz.func77, Tryz.ntmps77
    go_wp2
    go_ret
    exact ⟨ret_bool (by rw [HE.out]), Below.refl _ _⟩
end Go.Proofs.YtiahmfpfimmbgaaGreatDoor
