/- Where a search is: the plain law. -/
import Derived.Test.YtndolbplkjhooaaUniC
namespace Go.Proofs.Ytndolbplkjhooaa
open Go Go.RowKit

structure S where
  put : List Int
  why : List Int
  learned : List (List Int)
  code : Int
/-- A clause is why a mark is put, behind others. -/
def because (pre cl : List Int) (m : Int) : Bool := decide (m ∈ cl) && cl.all (fun l => l == m || decide (-l ∈ pre))
def whyOk (cs : List (List Int)) (pre : List Int) (m k : Int) : Bool := k == -1 || (decide (0 ≤ k) && decide (k < cs.length) && because pre (cs.getD k.toNat []) m)
def whysF (cs : List (List Int)) : List Int → List Int → List Int → Bool
  | pre, m :: ms, k :: ks => whyOk cs pre m k && whysF cs (pre ++ [m]) ms ks
  | _, _, _ => true
theorem whysF_drop {cs : List (List Int)} {pre put why : List Int} {i : Nat} (h : i < put.length) (h' : i < why.length) :
    whysF cs pre (put.drop i) (why.drop i) = (whyOk cs pre put[i] why[i] && whysF cs (pre ++ [put[i]]) (put.drop (i + 1)) (why.drop (i + 1))) := by
  rw [List.drop_eq_getElem_cons h, List.drop_eq_getElem_cons h', whysF]
def goodB (many : Int) (put : List Int) : Bool := put.all (fun l => decide (l ≠ 0) && decide (-many ≤ l) && decide (l ≤ many)) && decide (put.map Int.natAbs).Nodup
theorem goodB_iff {many : Int} {put : List Int} : goodB many put = true ↔ Good many put := by
  unfold goodB
  simp only [Bool.and_eq_true, List.all_eq_true, decide_eq_true_eq]
  exact ⟨fun h => ⟨fun l hl => ⟨(h.1 l hl).1.1, (h.1 l hl).1.2, (h.1 l hl).2⟩, h.2⟩, fun h => ⟨fun l hl => ⟨⟨(h.rng l hl).1, (h.rng l hl).2.1⟩, (h.rng l hl).2.2⟩, h.nodup⟩⟩
def satPre (s : S) : Bool := decide (s.learned.length ≤ 300) && decide (0 ≤ s.code) && decide (s.code ≤ 3) && decide (s.put.length = s.why.length)
def satOk (c : C) (s : S) : Bool := cnfOk c && (satPre s && (goodB c.many s.put && (s.learned.all (clOk c.many) && whysF (c.list ++ s.learned) [] s.put s.why)))
/-- What the marks say. -/
def valsP (c : C) (s : S) : List Bool := (List.range c.many.toNat).map fun i : Nat => decide (((i : Int) + 1) ∈ s.put)
def satVals (c : C) (s : S) : List Bool := if satOk c s then valsP c s else []
theorem satPre_iff (s : S) : satPre s = true ↔ s.learned.length ≤ 300 ∧ 0 ≤ s.code ∧ s.code ≤ 3 ∧ s.put.length = s.why.length := by
  unfold satPre
  simp only [Bool.and_eq_true, decide_eq_true_eq, and_assoc]
/-- What is true of every valid search. -/
structure SatGood (c : C) (s : S) : Prop where
  cnf : cnfOk c = true
  learned : s.learned.length ≤ 300
  code0 : 0 ≤ s.code
  code1 : s.code ≤ 3
  len : s.put.length = s.why.length
  good : Good c.many s.put
  cls : ∀ cl ∈ s.learned, clOk c.many cl = true
  whys : whysF (c.list ++ s.learned) [] s.put s.why = true
theorem satOk_iff (c : C) (s : S) : satOk c s = true ↔ SatGood c s := by
  unfold satOk
  rw [Bool.and_eq_true, Bool.and_eq_true, Bool.and_eq_true, Bool.and_eq_true, satPre_iff, goodB_iff, List.all_eq_true]
  exact ⟨fun ⟨h1, ⟨h2, h3, h4, h5⟩, h6, h7, h8⟩ => ⟨h1, h2, h3, h4, h5, h6, h7, h8⟩, fun ⟨h1, h2, h3, h4, h5, h6, h7, h8⟩ => ⟨h1, ⟨h2, h3, h4, h5⟩, h6, h7, h8⟩⟩
theorem satOk_no {c : C} {s : S} (h : ¬ SatGood c s) : satOk c s = false := by
  rw [← satOk_iff] at h; simpa using h
theorem sg_neg_iff {many : Int} {pre : List Int} (h : Good many pre) (l : Int) : sg pre l < 0 ↔ -l ∈ pre := by
  unfold sg
  constructor
  · intro h1
    split at h1
    · omega
    · split at h1
      · assumption
      · omega
  · intro h1
    rw [if_neg (fun h2 => h.apart h2 h1), if_pos h1]; omega
theorem all_dropI {p : Int → Bool} {cl : List Int} {j : Nat} (h : j < cl.length) : (cl.drop j).all p = (p cl[j] && (cl.drop (j + 1)).all p) := by
  rw [List.drop_eq_getElem_cons h]; rfl
theorem all_drop' {p : List Int → Bool} {cl : List (List Int)} {j : Nat} (h : j < cl.length) : (cl.drop j).all p = (p cl[j] && (cl.drop (j + 1)).all p) := by
  rw [List.drop_eq_getElem_cons h]; rfl
/-- A search as a value: four cells. -/
def smS (s : S) : Prop := smInts s.put ∧ smInts s.why ∧ smRows s.learned ∧ okInt s.code
/-- How it reads. -/
structure SatR (w : World) (F : Nat → Prop) (A B D : Option Addr) (s : S) : Prop where
  a : Lay.int.Sl w F A s.put
  b : Lay.int.Sl w F B s.why
  d : Lay.int.slice.Sl w F D s.learned
theorem SatR.below {w w' : World} {F : Nat → Prop} {A B D : Option Addr} {s : S} {n : Nat} (h : SatR w F A B D s) (hb : Below n w w') (hF : ∀ b, F b → b < n) : SatR w' F A B D s := ⟨h.a.below hb hF, h.b.below hb hF, h.d.below hb hF⟩
theorem SatR.keep {w w' : World} {F : Nat → Prop} {A B D : Option Addr} {s : S} (h : SatR w F A B D s) (hk : ∀ b, F b → w'.heap[b]? = w.heap[b]?) : SatR w' F A B D s := ⟨h.a.keep hk, h.b.keep hk, h.d.keep hk⟩
theorem SatR.mono {w : World} {F G : Nat → Prop} {A B D : Option Addr} {s : S} (h : SatR w F A B D s) (hk : ∀ b, F b → G b) : SatR w G A B D s := ⟨h.a.mono hk, h.b.mono hk, h.d.mono hk⟩
/-- The k-th clause, given or learned. -/
theorem clause_at {w : World} {F : Nat → Prop} {A D : Option Addr} {xs ys : List (List Int)} (h : Lay.int.slice.Sl w F A xs) (h' : Lay.int.slice.Sl w F D ys) {k : Nat} (hk : k < xs.length + ys.length) :
    ∃ A' c', Lay.int.Sl w F A' ((xs ++ ys).getD k []) ∧ ((xs ++ ys).getD k []).length ≤ c' ∧ ((k < xs.length ∧ ∃ ad, A = some ad ∧ w.cell? (ad.add k) = some (.slice A' ((xs ++ ys).getD k []).length c')) ∨
      (xs.length ≤ k ∧ ∃ ad, D = some ad ∧ w.cell? (ad.add (k - xs.length)) = some (.slice A' ((xs ++ ys).getD k []).length c'))) := by
  rcases Nat.lt_or_ge k xs.length with h1 | h1
  · obtain ⟨ad, A', c', e, _, hc, hl, hs⟩ := h.at_slice h1
    have he : (xs ++ ys).getD k [] = xs[k] := by rw [List.getD_eq_getElem?_getD, List.getElem?_append_left h1, List.getElem?_eq_getElem h1]; rfl
    rw [he]
    exact ⟨A', c', hs, hl, .inl ⟨h1, ad, e, hc⟩⟩
  · have h2 : k - xs.length < ys.length := by omega
    obtain ⟨ad, A', c', e, _, hc, hl, hs⟩ := h'.at_slice h2
    have he : (xs ++ ys).getD k [] = ys[k - xs.length] := by rw [List.getD_eq_getElem?_getD, List.getElem?_append_right h1, List.getElem?_eq_getElem h2]; rfl
    rw [he]
    exact ⟨A', c', hs, hl, .inr ⟨h1, ad, e, hc⟩⟩
end Go.Proofs.Ytndolbplkjhooaa
