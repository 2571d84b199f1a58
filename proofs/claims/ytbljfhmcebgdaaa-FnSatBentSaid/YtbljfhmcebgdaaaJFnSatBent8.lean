/- The reference's steps keep a search right: the plain law. No program is named here. The reference's search: l5Top, l5Has, l5Last, l5Below. The reference's search: l5Last, l5Levels. append of one integer onto a row of the call's own, and where the row lies then. The reference's search: l5Join. -/
import Derived.Test.YtbljfhmcebgdaaaChecked
import Derived.Test.YtbljfhmcebgdaaaJFnSatBent0
import Derived.Test.YtbljfhmcebgdaaaJFnSatBent1
import Derived.Test.YtbljfhmcebgdaaaJFnSatBent2
import Derived.Test.YtbljfhmcebgdaaaJFnSatBent6
import Derived.Test.YtbljfhmcebgdaaaJFnSatBent7
/-! The reference's steps keep a search right: the plain law. No program is named here. -/
namespace Go.Proofs.Ytbljfhmcebgdaaa
open Go Go.RowKit

/-- What the first false clause and the first unit are. -/
theorem fd_at {put : List Int} : ∀ {cs : List (List Int)} {k u f : Int}, 0 ≤ k →
    (0 ≤ (fd put cs k u f).1 → ∃ (i : Nat) (cl : List Int) (m : Int), (fd put cs k u f).1 = k + i ∧ cs[i]? = some cl ∧ lk put cl 0 0 = some (0, m)) ∧
    ((fd put cs k u f).1 < 0 → ((fd put cs k u f).2.1 = u ∧ (fd put cs k u f).2.2 = f) ∨ ∃ (i : Nat) (cl : List Int), (fd put cs k u f).2.1 = k + i ∧ cs[i]? = some cl ∧ lk put cl 0 0 = some (1, (fd put cs k u f).2.2))
  | [], k, u, f, _ => by simp [fd]
  | cl :: cls, k, u, f, hk => by
    have ih := fun u f => @fd_at put cls (k + 1) u f (by omega)
    have lift : ∀ (u f : Int), (0 ≤ (fd put cls (k + 1) u f).1 → ∃ (i : Nat) (c : List Int) (m : Int), (fd put cls (k + 1) u f).1 = k + i ∧ (cl :: cls)[i]? = some c ∧ lk put c 0 0 = some (0, m)) := fun u f h => by
      obtain ⟨i, c, m, h1, h2, h3⟩ := (ih u f).1 h
      exact ⟨i + 1, c, m, by omega, by simpa using h2, h3⟩
    have lift2 : ∀ (u f : Int), (fd put cls (k + 1) u f).1 < 0 → ((fd put cls (k + 1) u f).2.1 = u ∧ (fd put cls (k + 1) u f).2.2 = f) ∨ ∃ (i : Nat) (c : List Int), (fd put cls (k + 1) u f).2.1 = k + i ∧ (cl :: cls)[i]? = some c ∧ lk put c 0 0 = some (1, (fd put cls (k + 1) u f).2.2) := fun u f h => by
      rcases (ih u f).2 h with h9 | ⟨i, c, h1, h2, h3⟩
      · exact .inl h9
      · exact .inr ⟨i + 1, c, by omega, by simpa using h2, h3⟩
    simp only [fd]
    cases hl : lk put cl 0 0 with
    | none => exact ⟨lift u f, lift2 u f⟩
    | some p =>
      obtain ⟨n, m⟩ := p
      dsimp only
      by_cases h0 : n = 0
      · rw [if_pos h0]
        subst h0
        exact ⟨fun _ => ⟨0, cl, m, by simp, rfl, hl⟩, fun h => by dsimp only at h; omega⟩
      rw [if_neg h0]
      by_cases h1 : n = 1 ∧ u < 0
      · rw [if_pos h1]
        refine ⟨lift k m, fun h => ?_⟩
        rcases lift2 k m h with ⟨h2, h3⟩ | h9
        · exact .inr ⟨0, cl, by rw [h2]; simp, rfl, by rw [hl, h3, h1.1]⟩
        · exact .inr h9
      · rw [if_neg h1]; exact ⟨lift u f, lift2 u f⟩
/-- The greatest level below another. -/
def belowP (lv : Nat → Int) (top : Int) : List Int → Int → Int
  | [], o => o
  | l :: ls, o => belowP lv top ls (if lv l.natAbs < top then (if o > lv l.natAbs then o else lv l.natAbs) else o)
/-- How many marks stay. -/
def backN (level : Int) : List Int → Int → Nat
  | [], _ => 0
  | w :: ws, k => if level < k + (if w < 0 then 1 else 0) then 0 else 1 + backN level ws (k + (if w < 0 then 1 else 0))
theorem backN_le (level : Int) : ∀ (ws : List Int) (k : Int), backN level ws k ≤ ws.length
  | [], _ => Nat.le_refl _
  | w :: ws, k => by
    simp only [backN, List.length_cons]
    have := backN_le level ws (k + (if w < 0 then 1 else 0))
    by_cases h : level < k + (if w < 0 then 1 else 0)
    · rw [if_pos h]; exact Nat.zero_le _
    · rw [if_neg h]; omega
/-- The clauses, given and learned. -/
def allC (c : C) (s : S) : List (List Int) := c.list ++ s.learned
/-- What comes of a false clause. -/
def clashP (M : Nat) (c : C) (s : S) (cl : List Int) : S :=
  if (topP (lev s.put s.why 0) cl 0 0).1 = 0 then ⟨s.put, s.why, s.learned, 2⟩
  else if 300 ≤ s.learned.length then ⟨s.put, s.why, s.learned, 3⟩
  else ⟨s.put.take (backN (belowP (lev s.put s.why 0) (topP (lev s.put s.why 0) cl 0 0).1 (learnP M (allC c s) s.put s.why s.put.length cl) 0) s.why 0), s.why.take (backN (belowP (lev s.put s.why 0) (topP (lev s.put s.why 0) cl 0 0).1 (learnP M (allC c s) s.put s.why s.put.length cl) 0) s.why 0), s.learned ++ [learnP M (allC c s) s.put s.why s.put.length cl], s.code⟩
/-- The first free mark from m on. -/
def freeP (put : List Int) : Nat → Nat → Nat
  | 0, m => m
  | n + 1, m => if sg put m ≠ 0 then freeP put n (m + 1) else m
/-- One step. -/
def doP (M : Nat) (c : C) (s : S) : S :=
  if 0 ≤ (fdS s.put (allC c s)).1 then clashP M c s ((allC c s).getD (fdS s.put (allC c s)).1.toNat [])
  else if 0 ≤ (fdS s.put (allC c s)).2.1 then ⟨s.put ++ [(fdS s.put (allC c s)).2.2], s.why ++ [(fdS s.put (allC c s)).2.1], s.learned, s.code⟩
  else if (s.put.length : Int) = c.many then ⟨s.put, s.why, s.learned, 1⟩
  else ⟨s.put ++ [-(freeP s.put M 1 : Int)], s.why ++ [-1], s.learned, s.code⟩
def runP (M : Nat) (c : C) : Nat → S → S
  | 0, s => s
  | n + 1, s => if s.code = 0 then runP M c n (doP M c s) else s
theorem whyOk_more {cs : List (List Int)} {x pre : List Int} {m k : Int} (h : whyOk cs pre m k = true) : whyOk (cs ++ [x]) pre m k = true := by
  unfold whyOk at h ⊢
  rw [Bool.or_eq_true] at h ⊢
  rcases h with h | h
  · exact .inl h
  · right
    rw [Bool.and_eq_true, Bool.and_eq_true, decide_eq_true_eq, decide_eq_true_eq] at h ⊢
    refine ⟨⟨h.1.1, by rw [List.length_append]; omega⟩, ?_⟩
    rw [List.getD_eq_getElem?_getD, List.getElem?_append_left (by omega), ← List.getD_eq_getElem?_getD]
    exact h.2
theorem Good.take {many : Int} {put : List Int} (h : Good many put) (n : Nat) : Good many (put.take n) :=
  ⟨fun l hl => h.rng l (List.mem_of_mem_take hl), ((List.take_sublist n put).map _).nodup h.nodup⟩
/-- A false clause gives a right search. -/
theorem clash_ok {M : Nat} {c : C} {s : S} {cl : List Int} (h : SatGood c s) (hM : c.many = M) (hc : clOk M cl = true) (hf : ∀ l ∈ cl, -l ∈ s.put) : SatGood c (clashP M c s cl) := by
  unfold clashP
  have hg : Good M s.put := by rw [← hM]; exact h.good
  by_cases h1 : (topP (lev s.put s.why 0) cl 0 0).1 = 0
  · rw [if_pos h1]
    exact ⟨h.cnf, h.learned, by show (0 : Int) ≤ 2; decide, by show (2 : Int) ≤ 3; decide, h.len, h.good, h.cls, h.whys⟩
  rw [if_neg h1]
  by_cases h2 : 300 ≤ s.learned.length
  · rw [if_pos h2]
    exact ⟨h.cnf, h.learned, by show (0 : Int) ≤ 3; decide, by show (3 : Int) ≤ 3; decide, h.len, h.good, h.cls, h.whys⟩
  rw [if_neg h2]
  obtain ⟨k1, k2⟩ := learnP_ok hg h.len (cs := allC c s) h.whys s.put.length cl hc (by rw [List.take_length]; exact hf)
  generalize learnP M (allC c s) s.put s.why s.put.length cl = x at *
  generalize backN (belowP (lev s.put s.why 0) (topP (lev s.put s.why 0) cl 0 0).1 x 0) s.why 0 = n at *
  refine ⟨h.cnf, by show (s.learned ++ [x]).length ≤ 300; rw [List.length_append, List.length_singleton]; omega, h.code0, h.code1, by show (s.put.take n).length = (s.why.take n).length; rw [List.length_take, List.length_take, h.len], h.good.take n, fun y hy => ?_, ?_⟩
  · rcases List.mem_append.1 hy with hy | hy
    · exact h.cls y hy
    · rw [List.mem_singleton.1 hy, hM]; exact k1
  · show whysF (c.list ++ (s.learned ++ [x])) [] (s.put.take n) (s.why.take n) = true
    rw [whysF_iff (by rw [List.length_take, List.length_take, h.len])]
    intro i m k hm hk
    rw [List.getElem?_take] at hm hk
    split at hm
    · rename_i hin
      rw [if_pos hin] at hk
      have := (whysF_iff h.len).1 h.whys i m k hm hk
      rw [← List.append_assoc]
      rw [List.take_take, Nat.min_eq_left (by omega)]
      exact whyOk_more this
    · cases hm
/-- One mark more, for a reason. -/
theorem put_ok {c : C} {s : S} {m k : Int} (h : SatGood c s) (h0 : m ≠ 0) (h1 : -c.many ≤ m) (h2 : m ≤ c.many) (h3 : m ∉ s.put) (h4 : -m ∉ s.put) (hw : whyOk (allC c s) s.put m k = true) : SatGood c ⟨s.put ++ [m], s.why ++ [k], s.learned, s.code⟩ := by
  refine ⟨h.cnf, h.learned, h.code0, h.code1, by simp [h.len], h.good.snoc h0 h1 h2 h3 h4, h.cls, ?_⟩
  show whysF (c.list ++ s.learned) [] (s.put ++ [m]) (s.why ++ [k]) = true
  rw [whysF_iff (by simp [h.len])]
  intro i m' k' hm hk
  rcases Nat.lt_or_ge i s.put.length with hi | hi
  · rw [List.getElem?_append_left hi] at hm
    rw [List.getElem?_append_left (by rw [← h.len]; exact hi)] at hk
    have := (whysF_iff h.len).1 h.whys i m' k' hm hk
    rw [List.take_append_of_le_length (by omega)]
    exact this
  · rw [List.getElem?_append_right hi] at hm
    rw [List.getElem?_append_right (by rw [← h.len]; exact hi)] at hk
    have hi0 : i = s.put.length := by
      have := (List.getElem?_eq_some_iff.1 hm).1
      simp at this; omega
    subst hi0
    rw [Nat.sub_self] at hm
    rw [← h.len, Nat.sub_self] at hk
    simp at hm hk
    subst hm hk
    rw [List.take_append_of_le_length (Nat.le_refl _), List.take_length, List.nil_append]
    exact hw
theorem allC_clOk {c : C} {s : S} (h : SatGood c s) : ∀ cl ∈ allC c s, clOk c.many cl = true := fun cl hcl => by
  rcases List.mem_append.1 hcl with hcl | hcl
  · have := h.cnf
    simp only [cnfOk, Bool.and_eq_true, List.all_eq_true] at this
    exact this.2 cl hcl
  · exact h.cls cl hcl
/-- What a false clause is. -/
theorem fdS_clash {c : C} {s : S} (hk : 0 ≤ (fdS s.put (allC c s)).1) : ∃ (i : Nat) (cl : List Int), (fdS s.put (allC c s)).1 = i ∧ (allC c s)[i]? = some cl ∧ ∀ l ∈ cl, -l ∈ s.put := by
  have h1 : (fdS s.put (allC c s)).1 = (fd s.put (allC c s) 0 (-1) 0).1 := by unfold fdS; split <;> rfl
  rw [h1] at hk ⊢
  obtain ⟨i, cl, m, h2, h3, h4⟩ := (fd_at (Int.le_refl 0)).1 hk
  exact ⟨i, cl, by omega, h3, ((lk_some h4).2.2.1 rfl).2⟩
/-- What a unit is. -/
theorem fdS_unit {c : C} {s : S} (hk : ¬ 0 ≤ (fdS s.put (allC c s)).1) (hu : 0 ≤ (fdS s.put (allC c s)).2.1) : ∃ (i : Nat) (cl : List Int), (fdS s.put (allC c s)).2.1 = i ∧ (allC c s)[i]? = some cl ∧ (fdS s.put (allC c s)).2.2 ∈ cl ∧ (fdS s.put (allC c s)).2.2 ∉ s.put ∧ -(fdS s.put (allC c s)).2.2 ∉ s.put ∧ ∀ l ∈ cl, l = (fdS s.put (allC c s)).2.2 ∨ -l ∈ s.put := by
  have h1 : (fdS s.put (allC c s)) = fd s.put (allC c s) 0 (-1) 0 := by
    unfold fdS at hk ⊢
    split
    · rename_i h9; rw [if_pos h9] at hk; exact absurd h9 hk
    · rfl
  rw [h1] at hk hu ⊢
  rcases (fd_at (put := s.put) (cs := allC c s) (k := 0) (u := -1) (f := 0) (Int.le_refl 0)).2 (by omega) with ⟨h2, _⟩ | ⟨i, cl, h2, h3, h4⟩
  · omega
  · obtain ⟨a, _, _, d⟩ := lk_some h4
    obtain ⟨d1, d2, d3⟩ := d rfl
    exact ⟨i, cl, by omega, h3, d1, a _ d1, d2, d3⟩
/-- There is a free mark, and the search for it ends there. -/
theorem freeP_spec {M : Nat} {put : List Int} : ∀ (n m : Nat), (∃ v, m ≤ v ∧ v < m + n ∧ sg put v = 0) → m ≤ freeP put n m ∧ freeP put n m < m + n ∧ sg put (freeP put n m) = 0 ∧ ∀ v, m ≤ v → v < freeP put n m → sg put v ≠ 0
  | 0, m, ⟨v, h1, h2, _⟩ => by omega
  | n + 1, m, ⟨v, h1, h2, h3⟩ => by
    simp only [freeP]
    by_cases h9 : sg put m = 0
    · rw [if_neg fun h => h h9]
      exact ⟨Nat.le_refl _, by omega, h9, fun v hv hv' => by omega⟩
    · rw [if_pos h9]
      have hvm : v ≠ m := fun e => h9 (by rw [← e]; exact h3)
      obtain ⟨a, b, c, d⟩ := freeP_spec (M := M) (put := put) n (m + 1) ⟨v, by omega, by omega, h3⟩
      refine ⟨by omega, by omega, c, fun x hx hx' => ?_⟩
      by_cases e : x = m
      · rw [e]; exact h9
      · exact d x (by omega) hx'
theorem sg_zero {put : List Int} {v : Int} (h : sg put v = 0) : v ∉ put ∧ -v ∉ put := by
  unfold sg at h
  split at h
  · omega
  · split at h
    · omega
    · exact ⟨by assumption, by assumption⟩
theorem sg_free {put : List Int} {v : Int} (h : v ∉ put) (h' : -v ∉ put) : sg put v = 0 := by
  unfold sg
  rw [if_neg h, if_neg h']
theorem cover_len : ∀ (M : Nat) (l : List Nat), (∀ v, 1 ≤ v → v ≤ M → v ∈ l) → M ≤ l.length
  | 0, _, _ => Nat.zero_le _
  | M + 1, l, h => by
    have h1 := h (M + 1) (by omega) (Nat.le_refl _)
    have h2 := cover_len M (l.erase (M + 1)) fun v hv hv' => (List.mem_erase_of_ne (by omega)).2 (h v hv (by omega))
    rw [List.length_erase_of_mem h1] at h2
    have := List.length_pos_of_mem h1
    omega
/-- Fewer marks are put than there are: one is free. -/
theorem free_is {M : Nat} {put : List Int} (hg : Good M put) (hl : put.length < M) : ∃ v : Nat, 1 ≤ v ∧ v < 1 + M ∧ sg put v = 0 := by
  refine Classical.byContradiction fun hno => ?_
  have hall : ∀ v : Nat, 1 ≤ v → v ≤ M → v ∈ put.map Int.natAbs := fun v h1 h2 => Classical.byContradiction fun h9 => hno ⟨v, h1, by omega, by
    have := mt (mem_natAbs (put := put) (l := (v : Int))).2 (by simpa using h9)
    exact sg_free (fun h => this (.inl h)) (fun h => this (.inr h))⟩
  have := cover_len M (put.map Int.natAbs) hall
  rw [List.length_map] at this
  omega
theorem do_ok {M : Nat} {c : C} {s : S} (h : SatGood c s) (hM : c.many = M) : SatGood c (doP M c s) := by
  have hg : Good M s.put := by rw [← hM]; exact h.good
  unfold doP
  by_cases h1 : 0 ≤ (fdS s.put (allC c s)).1
  · rw [if_pos h1]
    obtain ⟨i, cl, e1, e2, e3⟩ := fdS_clash h1
    rw [e1, Int.toNat_natCast, List.getD_eq_getElem?_getD, e2]
    exact clash_ok h hM (by rw [← hM]; exact allC_clOk h cl (List.mem_of_getElem? e2)) e3
  rw [if_neg h1]
  by_cases h2 : 0 ≤ (fdS s.put (allC c s)).2.1
  · rw [if_pos h2]
    obtain ⟨i, cl, e1, e2, e3, e4, e5, e6⟩ := fdS_unit h1 h2
    have hr := clOk_rng (allC_clOk h cl (List.mem_of_getElem? e2)) _ e3
    refine put_ok h hr.1 hr.2.1 hr.2.2 e4 e5 ?_
    have hil := (List.getElem?_eq_some_iff.1 e2).1
    unfold whyOk
    rw [Bool.or_eq_true]
    right
    rw [Bool.and_eq_true, Bool.and_eq_true, decide_eq_true_eq, decide_eq_true_eq]
    refine ⟨⟨h2, by omega⟩, ?_⟩
    rw [e1, Int.toNat_natCast, List.getD_eq_getElem?_getD, e2]
    unfold because
    rw [Bool.and_eq_true, decide_eq_true_eq, List.all_eq_true]
    exact ⟨e3, fun l hl => by simpa using e6 l hl⟩
  rw [if_neg h2]
  by_cases h3 : (s.put.length : Int) = c.many
  · rw [if_pos h3]
    exact ⟨h.cnf, h.learned, by show (0 : Int) ≤ 1; decide, by show (1 : Int) ≤ 3; decide, h.len, h.good, h.cls, h.whys⟩
  rw [if_neg h3]
  have hlt : s.put.length < M := by
    have := hg.length
    rw [Int.toNat_natCast] at this
    omega
  obtain ⟨a, b, e, _⟩ := freeP_spec (M := M) (put := s.put) M 1 (free_is hg hlt)
  obtain ⟨n1, n2⟩ := sg_zero e
  exact put_ok h (by omega) (by omega) (by omega) n2 (by rw [Int.neg_neg]; exact n1) (by unfold whyOk; simp)
theorem run_ok {M : Nat} {c : C} (hM : c.many = M) : ∀ (n : Nat) (s : S), SatGood c s → SatGood c (runP M c n s)
  | 0, s, h => h
  | n + 1, s, h => by
    simp only [runP]
    split
    · exact run_ok hM n _ (do_ok h hM)
    · exact h
theorem sat_new {c : C} (h : cnfOk c = true) : SatGood c ⟨[], [], [], 0⟩ := ⟨h, by simp, by simp, by simp, rfl, Good.nil _, by simp, rfl⟩
end Go.Proofs.Ytbljfhmcebgdaaa

/-! The reference's search: l5Top, l5Has, l5Last, l5Below. -/
namespace Go.Proofs.Ytbljfhmcebgdaaa
open Go Go.RowKit

/-- A row of levels. -/
def LvR (M : Nat) (lv : Nat → Int) (vs : List Int) : Prop := vs.length = M + 1 ∧ ∀ v, v ≤ M → vs[v]? = some (lv v)
theorem lv_at {w : World} {F : Nat → Prop} {A : Option Addr} {M : Nat} {lv : Nat → Int} {vs : List Int} (h : Lay.int.Sl w F A vs) (hv : LvR M lv vs) {v : Nat} (hm : v ≤ M) : ∃ ad, A = some ad ∧ w.cell? (ad.add v) = some (.int .i64 (lv v)) := by
  have hl : v < vs.length := by rw [hv.1]; omega
  obtain ⟨ad, e, _, hc⟩ := h.at_int hl
  have := hv.2 v hm
  rw [List.getElem?_eq_getElem hl] at this
  injection this with this
  rw [this] at hc
  exact ⟨ad, e, hc⟩
theorem natAbs_le {M : Nat} {l : Int} (h1 : -(M : Int) ≤ l) (h2 : l ≤ M) : l.natAbs ≤ M := by omega
set_option maxHeartbeats 1000000 in
theorem l5Top_any (A B : Option Addr) (c d M : Nat) (lv : Nat → Int) (vs cl : List Int) (F G : Nat → Prop) (w : World) (h : Lay.int.Sl w F A vs) (hv : LvR M lv vs) (hcl : Lay.int.Sl w G B cl) (hr : ∀ l ∈ cl, -(M : Int) ≤ l ∧ l ≤ M) (hM : M ≤ 1048576) (hn : cl.length ≤ 1048576) :
    Calls Try.prog 122 #[.slice A vs.length c, .slice B cl.length d] w fun e w' => e = .returned (.tuple #[.int .i64 (topP lv cl 0 0).1, .int .i64 (topP lv cl 0 0).2]) ∧ w = w' := by
  have HV := Lib.hid hv
  clear hv
  go_enter Try.func122, Try.ntmps122
  go_wp2
  go_loop [6, 7, 8] (fun x y i => ∃ (k : Nat) (t n : Int), k ≤ cl.length ∧ i = .int .i64 k ∧ x = .int .i64 t ∧ y = .int .i64 n ∧ 0 ≤ n ∧ n ≤ k ∧ topP lv cl 0 0 = topP lv (cl.drop k) t n) (fun _ _ i => cl.length - (intOf i).toNat)
  case atStart => exact ⟨0, 0, 0, Nat.zero_le _, rfl, rfl, rfl, by omega, by simp, by simp⟩
  case round =>
    obtain ⟨k, t, n, hk, rfl, rfl, rfl, n0, n1, ht⟩ := hrel
    have HT := Lib.hid ht
    clear ht
    by_cases hlt : k < cl.length
    · obtain ⟨ad, rfl, hf, hc⟩ := hcl.at_int hlt
      have hk1 : (k : Int) < cl.length := by omega
      obtain ⟨r1, r2⟩ := hr _ (List.getElem_mem hlt)
      have hd := topP_drop (lv := lv) (t := t) (n := n) hlt
      generalize cl[k] = a at *
      have hna := natAbs_le r1 r2
      have hs := l4Abs_any a w (by omega) (by omega)
      obtain ⟨ae, rfl, he⟩ := lv_at h HV.out hna
      generalize a.natAbs = v at *
      generalize lv v = x at *
      have hv1 : (v : Int) < (vs.length : Int) := by rw [HV.out.1]; omega
      have HS := Lib.hid hs
      by_cases h1 : t < x
      · rw [if_pos h1] at hd
        have HD := Lib.hid hd
        clear hd hs
        go_wp2_with fail
        refine HS.out.mono ?_
        rintro e w' ⟨rfl, rfl⟩
        go_wp2
        go_round
        case rel => exact ⟨k + 1, x, 1, by omega, by go_num, rfl, rfl, by omega, by omega, by rw [HT.out, HD.out]⟩
        case measure => simp [intOf]; omega
      by_cases h2 : x = t
      · rw [if_neg h1, if_pos h2] at hd
        have HD := Lib.hid hd
        have h3 : (x == t) = true := by simpa using h2
        clear hd hs h2
        go_wp2_with fail
        refine HS.out.mono ?_
        rintro e w' ⟨rfl, rfl⟩
        go_wp2
        go_round
        case rel => exact ⟨k + 1, t, n + 1, by omega, by go_num, rfl, rfl, by omega, by omega, by rw [HT.out, HD.out]⟩
        case measure => simp [intOf]; omega
      · rw [if_neg h1, if_neg h2] at hd
        have HD := Lib.hid hd
        have h3 : (x == t) = false := by simpa using h2
        clear hd hs h2
        go_wp2_with fail
        refine HS.out.mono ?_
        rintro e w' ⟨rfl, rfl⟩
        go_wp2
        go_round
        case rel => exact ⟨k + 1, t, n, by omega, by go_num, rfl, rfl, n0, by omega, by rw [HT.out, HD.out]⟩
        case measure => simp [intOf]; omega
    · have hke : k = cl.length := by omega
      subst hke
      have HE := Lib.hid (show topP lv cl 0 0 = (t, n) by rw [HT.out, List.drop_length]; rfl)
      go_wp2
      go_ret2
      exact ⟨ret_two (by rw [HE.out]) (by rw [HE.out]), rfl⟩
theorem hasM_drop {cl : List Int} {k v : Nat} (h : k < cl.length) : hasM (cl.drop k) v = ((cl[k].natAbs == v) || hasM (cl.drop (k + 1)) v) := by
  rw [List.drop_eq_getElem_cons h]; rfl
set_option maxHeartbeats 1000000 in
theorem l5Has_any (B : Option Addr) (d M v : Nat) (cl : List Int) (G : Nat → Prop) (w : World) (hcl : Lay.int.Sl w G B cl) (hr : ∀ l ∈ cl, -(M : Int) ≤ l ∧ l ≤ M) (hM : M ≤ 1048576) (hn : cl.length ≤ 1048576) :
    Calls Try.prog 138 #[.slice B cl.length d, .int .i64 (v : Int)] w fun e w' => e = .returned (.bool (hasM cl v)) ∧ w = w' := by
  go_enter Try.func138, Try.ntmps138
  go_wp2
  go_loop [5] (fun i => ∃ (k : Nat), k ≤ cl.length ∧ i = .int .i64 k ∧ hasM cl v = hasM (cl.drop k) v) (fun i => cl.length - (intOf i).toNat)
  case atStart => exact ⟨0, Nat.zero_le _, rfl, by simp⟩
  case round =>
    obtain ⟨k, hk, rfl, ht⟩ := hrel
    have HT := Lib.hid ht
    clear ht
    by_cases hlt : k < cl.length
    · obtain ⟨ad, rfl, hf, hc⟩ := hcl.at_int hlt
      have hk1 : (k : Int) < cl.length := by omega
      obtain ⟨r1, r2⟩ := hr _ (List.getElem_mem hlt)
      have hd := hasM_drop (v := v) hlt
      generalize cl[k] = a at *
      have HS := Lib.hid (l4Abs_any a w (by omega) (by omega))
      generalize a.natAbs = u at *
      by_cases h1 : u = v
      · subst h1
        have HD : Hid (hasM cl u = true) := Lib.hid (by rw [HT.out, hd]; simp)
        clear hd
        go_wp2_with fail
        refine HS.out.mono ?_
        rintro e w' ⟨rfl, rfl⟩
        go_wp2
        go_ret
        exact ⟨ret_bool (by rw [HD.out]), rfl⟩
      · have h3 : (u == v) = false := by simpa using h1
        have h4 : ((u : Int) == (v : Int)) = false := by rw [beq_eq_false_iff_ne]; omega
        rw [h3, Bool.false_or] at hd
        have HD := Lib.hid hd
        clear hd
        go_wp2_with fail
        refine HS.out.mono ?_
        rintro e w' ⟨rfl, rfl⟩
        go_wp2
        go_round
        case rel => exact ⟨k + 1, by omega, by go_num, by rw [HT.out, HD.out]⟩
        case measure => simp [intOf]; omega
    · have hke : k = cl.length := by omega
      subst hke
      have HE := Lib.hid (show hasM cl v = false by rw [HT.out, List.drop_length]; rfl)
      go_wp2
      go_ret
      exact ⟨ret_bool (by rw [HE.out]), rfl⟩
theorem ret_int9 {k : IntKind} {a b : Int} (h : a = b) : Ending.returned (.int k a) = .returned (.int k b) := by rw [h]
theorem belowP_drop {lv : Nat → Int} {top o : Int} {cl : List Int} {k : Nat} (h : k < cl.length) : belowP lv top (cl.drop k) o = belowP lv top (cl.drop (k + 1)) (if lv cl[k].natAbs < top then (if o > lv cl[k].natAbs then o else lv cl[k].natAbs) else o) := by
  rw [List.drop_eq_getElem_cons h]; rfl
theorem l4Max9_any (a b : Int) (w : World) : Calls Try.prog 74 #[.int .i64 a, .int .i64 b] w fun e w' => e = .returned (.int .i64 (if a > b then a else b)) ∧ w = w' := by
  by_cases h : a > b
  · rw [if_pos h]
    go_enter Try.func74, Try.ntmps74
    go_wp2
    go_ret
    exact ⟨rfl, rfl⟩
  · rw [if_neg h]
    have h : ¬ b < a := h
    go_enter Try.func74, Try.ntmps74
    go_wp2
    go_ret
    exact ⟨rfl, rfl⟩
set_option maxHeartbeats 1000000 in
theorem l5Below_any (A B : Option Addr) (c d M : Nat) (lv : Nat → Int) (top : Int) (vs cl : List Int) (F G : Nat → Prop) (w : World) (h : Lay.int.Sl w F A vs) (hv : LvR M lv vs) (hcl : Lay.int.Sl w G B cl) (hr : ∀ l ∈ cl, -(M : Int) ≤ l ∧ l ≤ M) (hM : M ≤ 1048576) (hn : cl.length ≤ 1048576) :
    Calls Try.prog 125 #[.slice A vs.length c, .slice B cl.length d, .int .i64 top] w fun e w' => e = .returned (.int .i64 (belowP lv top cl 0)) ∧ w = w' := by
  have HV := Lib.hid hv
  clear hv
  go_enter Try.func125, Try.ntmps125
  go_wp2
  go_loop [7, 8] (fun x i => ∃ (k : Nat) (o : Int), k ≤ cl.length ∧ i = .int .i64 k ∧ x = .int .i64 o ∧ belowP lv top cl 0 = belowP lv top (cl.drop k) o) (fun _ i => cl.length - (intOf i).toNat)
  case atStart => exact ⟨0, 0, Nat.zero_le _, rfl, rfl, by simp⟩
  case round =>
    obtain ⟨k, o, hk, rfl, rfl, ht⟩ := hrel
    have HT := Lib.hid ht
    clear ht
    by_cases hlt : k < cl.length
    · obtain ⟨ad, rfl, hf, hc⟩ := hcl.at_int hlt
      have hk1 : (k : Int) < cl.length := by omega
      obtain ⟨r1, r2⟩ := hr _ (List.getElem_mem hlt)
      have hd := belowP_drop (lv := lv) (top := top) (o := o) hlt
      generalize cl[k] = a at *
      have hna := natAbs_le r1 r2
      have HS := Lib.hid (l4Abs_any a w (by omega) (by omega))
      obtain ⟨ae, rfl, he⟩ := lv_at h HV.out hna
      generalize a.natAbs = v at *
      generalize lv v = x at *
      have hv1 : (v : Int) < (vs.length : Int) := by rw [HV.out.1]; omega
      have HMX := Lib.hid (l4Max9_any o x w)
      by_cases h1 : x < top
      · rw [if_pos h1] at hd
        generalize (if o > x then o else x) = y at *
        have HD := Lib.hid hd
        clear hd
        go_wp2_with fail
        refine HS.out.mono ?_
        rintro e w' ⟨rfl, rfl⟩
        go_wp2_with fail
        refine HMX.out.mono ?_
        rintro e w' ⟨rfl, rfl⟩
        go_wp2
        go_round
        case rel => exact ⟨k + 1, y, by omega, by go_num, rfl, by rw [HT.out, HD.out]⟩
        case measure => simp [intOf]; omega
      · rw [if_neg h1] at hd
        have HD := Lib.hid hd
        clear hd HMX
        go_wp2_with fail
        refine HS.out.mono ?_
        rintro e w' ⟨rfl, rfl⟩
        go_wp2
        go_round
        case rel => exact ⟨k + 1, o, by omega, by go_num, rfl, by rw [HT.out, HD.out]⟩
        case measure => simp [intOf]; omega
    · have hke : k = cl.length := by omega
      subst hke
      have HE := Lib.hid (show belowP lv top cl 0 = o by rw [HT.out, List.drop_length]; rfl)
      go_wp2
      go_ret
      exact ⟨ret_int9 (by rw [HE.out]), rfl⟩
end Go.Proofs.Ytbljfhmcebgdaaa

/-! The reference's search: l5Last, l5Levels. -/
namespace Go.Proofs.Ytbljfhmcebgdaaa
open Go Go.RowKit

theorem lastP_step {put cl : List Int} {k : Nat} (h : k < put.length) : lastP put cl (k + 1) = if hasM cl put[k].natAbs then (k : Int) else lastP put cl k := by
  show (if _ then _ else _) = _
  rw [List.getD_eq_getElem?_getD, List.getElem?_eq_getElem h]
  rfl
set_option maxHeartbeats 1000000 in
theorem l5Last_any (s : S) (P Q D B : Option Addr) (p q d e M : Nat) (cl : List Int) (F : Nat → Prop) (w : World) (h : Lay.int.Rd w P s.put) (hcl : Lay.int.Sl w F B cl) (hF : ∀ b, F b → b < w.heap.size) (hg : Good M s.put) (hr : ∀ l ∈ cl, -(M : Int) ≤ l ∧ l ≤ M) (hM : M ≤ 1048576) (hn : cl.length ≤ 1048576) :
    Calls Try.prog 130 #[.agg #[.slice P s.put.length p, .slice Q s.why.length q, .slice D s.learned.length d, .int .i64 s.code], .slice B cl.length e] w fun e w' => e = .returned (.int .i64 (lastP s.put cl s.put.length)) ∧ Below w.heap.size w w' := by
  have hpl : s.put.length ≤ 1048576 := by have := hg.length; rw [Int.toNat_natCast] at this; omega
  have hal : Below w.heap.size w (w.alloc (.cells #[.slice P s.put.length p, .slice Q s.why.length q, .slice D s.learned.length d, .int .i64 s.code] 35)) := (Below.refl _ _).alloc (Nat.le_refl _) _
  have HBX := Lib.hid (heap_alloc_new w (.cells #[.slice P s.put.length p, .slice Q s.why.length q, .slice D s.learned.length d, .int .i64 s.code] 35))
  have H := Lib.hid (h.up hal)
  have HC := Lib.hid (Lay.Sl.below hcl hal hF)
  have HAL := Lib.hid hal
  have HG := Lib.hid hg
  clear h hcl hal hg
  go_enter Try.func130, Try.ntmps130
  go_wp2
  generalize w.alloc (.cells #[.slice P s.put.length p, .slice Q s.why.length q, .slice D s.learned.length d, .int .i64 s.code] 35) = W at *
  have cc0 := (cell_of_block HBX.out 0).1
  go_loop [5] (fun i => ∃ (k : Nat), k ≤ s.put.length ∧ i = .int .i64 ((k : Int) - 1) ∧ lastP s.put cl s.put.length = lastP s.put cl k) (fun i => (intOf i + 1).toNat)
  case atStart => exact ⟨s.put.length, Nat.le_refl _, rfl, rfl⟩
  case round =>
    obtain ⟨k, hk, rfl, ht⟩ := hrel
    have HT := Lib.hid ht
    clear ht
    rcases k with _ | k
    · have HE := Lib.hid (show lastP s.put cl s.put.length = -1 by rw [HT.out]; rfl)
      clear HT
      rw [show (((0 : Nat) : Int) - 1) = -1 from rfl]
      go_wp2
      go_ret
      exact ⟨ret_int9 (by rw [HE.out]), HAL.out⟩
    · rw [show (((k + 1 : Nat) : Int) - 1) = (k : Int) by omega]
      have hlt : k < s.put.length := by omega
      have hk0 : (0 : Int) ≤ k := by omega
      have hk1 : (k : Int) < s.put.length := by omega
      have hst := lastP_step (cl := cl) hlt
      obtain ⟨ad, hP, _, hc⟩ := H.out.at_int hlt
      obtain ⟨_, r1, r2⟩ := HG.out.rng _ (List.getElem_mem hlt)
      generalize s.put[k] = m at *
      subst hP
      have HS := Lib.hid (l4Abs_any m W (by omega) (by omega))
      generalize m.natAbs = u at *
      have HH := Lib.hid (l5Has_any B e M u cl _ W HC.out hr hM hn)
      cases hb : hasM cl u with
      | true =>
        rw [hb] at hst HH
        have HE := Lib.hid (show lastP s.put cl s.put.length = k by rw [HT.out, hst]; rfl)
        clear hst HT hb
        go_wp2_with fail
        refine HS.out.mono ?_
        rintro e w' ⟨rfl, rfl⟩
        go_wp2_with fail
        refine HH.out.mono ?_
        rintro e w' ⟨rfl, rfl⟩
        go_wp2
        go_ret
        exact ⟨ret_int9 (by rw [HE.out]), HAL.out⟩
      | false =>
        rw [hb] at hst HH
        have HE := Lib.hid (show lastP s.put cl s.put.length = lastP s.put cl k by rw [HT.out, hst]; rfl)
        clear hst HT hb
        go_wp2_with fail
        refine HS.out.mono ?_
        rintro e w' ⟨rfl, rfl⟩
        go_wp2_with fail
        refine HH.out.mono ?_
        rintro e w' ⟨rfl, rfl⟩
        go_wp2
        go_round
        case rel => exact ⟨k, by omega, rfl, HE.out⟩
        case measure => simp [intOf]
/-- A row of levels is handed back. -/
def RetLv (M : Nat) (lv : Nat → Int) (w : World) (e : Ending) (w' : World) : Prop := ∃ A c vs, e = .returned (.slice A vs.length c) ∧ LvR M lv vs ∧ Lay.int.Sl w' (fun y => w.heap.size ≤ y ∧ y < w'.heap.size) A vs ∧ Below w.heap.size w w'
set_option maxRecDepth 100000 in
set_option maxHeartbeats 4000000 in
theorem l5Levels_any (x : C) (s : S) (A P Q D : Option Addr) (a p q d M : Nat) (w : World) (hM : x.many = (M : Int)) (hM2 : M ≤ 1000000) (h : Lay.int.Rd w P s.put) (h' : Lay.int.Rd w Q s.why) (hg : Good M s.put) (hl : s.put.length = s.why.length) :
    Calls Try.prog 121 #[.agg #[.int .i64 x.many, .slice A x.list.length a], .agg #[.slice P s.put.length p, .slice Q s.why.length q, .slice D s.learned.length d, .int .i64 s.code]] w (RetLv M (lev s.put s.why 0) w) := by
  obtain ⟨i0, hi0, hz0, hz1, hz2⟩ := info_parts int_info
  have hpl : s.put.length ≤ 1048576 := by have := hg.length; rw [Int.toNat_natCast] at this; omega
  rw [hM]
  have hal1 : Below w.heap.size w (w.alloc (.cells #[.int .i64 (M : Int), .slice A x.list.length a] 25)) := (Below.refl _ _).alloc (Nat.le_refl _) _
  have hs1 : (w.alloc (.cells #[.int .i64 (M : Int), .slice A x.list.length a] 25)).heap.size = w.heap.size + 1 := by simp
  have hb1 := heap_alloc_new w (.cells #[.int .i64 (M : Int), .slice A x.list.length a] 25)
  obtain ⟨w1, hw1⟩ : ∃ w1, w1 = w.alloc (.cells #[.int .i64 (M : Int), .slice A x.list.length a] 25) := ⟨_, rfl⟩
  rw [← hw1] at hal1 hs1 hb1
  have hal2 : Below w1.heap.size w1 (w1.alloc (.cells #[.slice P s.put.length p, .slice Q s.why.length q, .slice D s.learned.length d, .int .i64 s.code] 35)) := (Below.refl _ _).alloc (Nat.le_refl _) _
  have hs2 : (w1.alloc (.cells #[.slice P s.put.length p, .slice Q s.why.length q, .slice D s.learned.length d, .int .i64 s.code] 35)).heap.size = w.heap.size + 1 + 1 := by simp [hs1]
  have hb2 := heap_alloc_new w1 (.cells #[.slice P s.put.length p, .slice Q s.why.length q, .slice D s.learned.length d, .int .i64 s.code] 35)
  rw [hs1] at hb2
  obtain ⟨w2, hw2⟩ : ∃ w2, w2 = w1.alloc (.cells #[.slice P s.put.length p, .slice Q s.why.length q, .slice D s.learned.length d, .int .i64 s.code] 35) := ⟨_, rfl⟩
  rw [← hw2] at hal2 hs2 hb2
  have HB1 := Lib.hid ((hal2.block _ (lt_of_block hb1)).trans hb1)
  have HB2 := Lib.hid hb2
  have H := Lib.hid (And.intro ((h.up hal1).up hal2) ((h'.up hal1).up hal2))
  have HAL := Lib.hid (bthen hal1 hal2)
  have HS2 := Lib.hid hs2
  have HG := Lib.hid hg
  have HLN := Lib.hid hl
  have cm : w2.cell? ⟨w.heap.size, 0, none⟩ = some (.int .i64 (M : Int)) := (cell_of_block HB1.out 0).1
  rw [hw2, hw1] at cm
  have HW1 := Lib.hid hw1
  have HW2 := Lib.hid hw2
  clear h h' hg hl hal1 hs1 hb1 hal2 hs2 hb2 hM hw1 hw2
  go_enter Try.func121, Try.ntmps121
  go_wp2_with (at_make; rw [← HW1.out, ← HW2.out]; refine wpList_make_full _ rfl _ _ 26 rfl w2.heap.size 3 i0 _ 1 Try.underlying26 hi0 hz0 hz1 .i64 .i64 _ _ (M + 1) rfl rfl (by push_cast; rfl) (by push_cast; rfl) (by rw [hz2]; omega) (by unfold maxLen; omega) (Nat.le_refl _) ?_; intro w3 hown hg1)
  have H1 := Lib.hid hg1
  clear hg1 hi0 hz0 hz1 hz2 HW1 HW2 cm
  have hb1 : Below w2.heap.size w2 w3 := (Below.refl _ _).grown H1.out (Nat.le_refl _) (by simp)
  rw [show (madeCells (Value.int .i64 0).cells ((M + 1) * 1)).toList = (List.replicate (M + 1) (0 : Int)).map (Value.int .i64) from by
    rw [show (Value.int .i64 0).cells = #[Value.int .i64 0] from rfl, toList_madeCells_one]; simp] at hown
  rw [HS2.out] at hown ⊢
  have hWle : w2.heap.size ≤ w.heap.size + 1 + 1 := by rw [HS2.out]; exact Nat.le_refl _
  go_wp2
  go_loopw [6, 7] (fun lvv i wr => ∃ (k : Nat) (vs : List Int) (t : Int), k ≤ s.put.length ∧ i = .int .i64 k ∧ lvv = .int .i64 t ∧ 0 ≤ t ∧ t ≤ k ∧ Hid (t = negs (s.why.take k)) ∧ Hid (Below w2.heap.size w2 wr) ∧ Hid (wr.ownsRow (w.heap.size + 1 + 1) 3 1 (.slice (some ⟨w.heap.size + 1 + 1, 0, none⟩) (M + 1) (M + 1)) (M + 1) (vs.map (Value.int .i64))) ∧ Hid (LvR M (lev (s.put.take k) (s.why.take k) 0) vs))
    (fun _ i _ => s.put.length - (intOf i).toNat)
  case atStart => exact ⟨0, _, 0, Nat.zero_le _, rfl, rfl, by omega, by omega, Lib.hid rfl, Lib.hid hb1, Lib.hid hown, Lib.hid ⟨by simp, fun v hv => by rw [List.getElem?_replicate, if_pos (by omega)]; rfl⟩⟩
  case round =>
    clear hown hb1
    obtain ⟨k, vs, t, hk, rfl, rfl, t0, t1, HT, HB, HO, HV⟩ := hrel
    have hbx := (HB.out.block _ (lt_of_block HB2.out)).trans HB2.out
    have cs0 := (cell_of_block hbx 0).1
    have cs1 := (cell_of_block hbx 1).1
    clear hbx
    by_cases hlt : k < s.put.length
    · have hk1 : (k : Int) < s.put.length := by omega
      have hlt2 : k < s.why.length := by rw [← HLN.out]; exact hlt
      have hk2 : (k : Int) < s.why.length := by omega
      obtain ⟨ad, hP, _, hc⟩ := (H.out.1.up HB.out).at_int hlt
      obtain ⟨ae, hQ, _, he⟩ := (H.out.2.up HB.out).at_int hlt2
      obtain ⟨r0, r1, r2⟩ := HG.out.rng _ (List.getElem_mem hlt)
      have htk : s.put.take (k + 1) = s.put.take k ++ [s.put[k]] := List.take_succ_eq_append_getElem hlt
      have htw : s.why.take (k + 1) = s.why.take k ++ [s.why[k]] := List.take_succ_eq_append_getElem hlt2
      have hng := negs_step hlt2
      have hnd : ((s.put.take k ++ [s.put[k]]).map Int.natAbs).Nodup := by rw [← htk]; exact (HG.out.take (k + 1)).nodup
      have hsn := fun v => lev_snoc (s.put.take k) (s.why.take k) 0 s.put[k] s.why[k] v (by rw [List.length_take, List.length_take, HLN.out]) hnd
      rw [← htk, ← htw] at hsn
      have HSN := Lib.hid hsn
      have HNG := Lib.hid hng
      clear htk htw hnd hsn hng
      generalize s.put[k] = m at *
      generalize s.why[k] = y at *
      subst hP hQ
      have hna := natAbs_le r1 r2
      have HS := Lib.hid (l4Abs_any m wr (by omega) (by omega))
      have hst := HO.out.stored m.natAbs
      have hlen : vs.length = M + 1 := HV.out.1
      obtain ⟨old, hold⟩ : ∃ old, wr.cell? ⟨w.heap.size + 1 + 1, m.natAbs, none⟩ = some (.int .i64 old) := by
        have h9 : wr.cell? ⟨w.heap.size + 1 + 1, m.natAbs, none⟩ = _ := HO.out.cellAt m.natAbs (by omega)
        rw [List.getElem?_map, List.getElem?_eq_getElem (by omega), Option.map_some] at h9
        exact ⟨_, h9⟩
      have hfr : wr.frozen? ⟨w.heap.size + 1 + 1, m.natAbs, none⟩ = false := HO.out.frozenAt m.natAbs
      have HST := Lib.hid hst
      clear hst
      have hv1 : ((m.natAbs : Nat) : Int) < ((M + 1 : Nat) : Int) := by omega
      have hv2 : ((m.natAbs : Nat) : Int) < (M : Int) + 1 := by omega
      have hVN : ∀ z : Int, z = negs (s.why.take (k + 1)) → LvR M (lev (s.put.take (k + 1)) (s.why.take (k + 1)) 0) (vs.set m.natAbs z) := fun z hz => ⟨by simp [hlen], fun v hv => by
        rw [HSN.out v, List.getElem?_set]
        by_cases e : m.natAbs = v
        · rw [if_pos e, if_pos e, if_pos (by omega), hz]; simp
        · rw [if_neg e, if_neg e]; exact HV.out.2 v hv⟩
      have HVN := Lib.hid hVN
      clear hVN hlen
      generalize m.natAbs = u at *
      by_cases hy : y < 0
      · have HN9 : Hid (t + 1 = negs (s.why.take (k + 1))) := Lib.hid (by rw [HNG.out, if_pos hy, HT.out])
        go_wp2_with fail
        refine HS.out.mono ?_
        rintro e w' ⟨rfl, rfl⟩
        go_wp2
        go_roundw
        case rel => exact ⟨k + 1, _, t + 1, by omega, by go_num, rfl, by omega, by omega, HN9, Lib.hid (HB.out.setCell hWle _), Lib.hid (by rw [List.map_set]; exact (HST.out (.int .i64 (t + 1))).1), Lib.hid (HVN.out _ HN9.out)⟩
        case measure => simp [intOf]; omega
      · have HN9 : Hid (t = negs (s.why.take (k + 1))) := Lib.hid (by rw [HNG.out, if_neg hy, HT.out]; simp)
        go_wp2_with fail
        refine HS.out.mono ?_
        rintro e w' ⟨rfl, rfl⟩
        go_wp2
        go_roundw
        case rel => exact ⟨k + 1, _, t, by omega, by go_num, rfl, by omega, by omega, HN9, Lib.hid (HB.out.setCell hWle _), Lib.hid (by rw [List.map_set]; exact (HST.out (.int .i64 t)).1), Lib.hid (HVN.out _ HN9.out)⟩
        case measure => simp [intOf]; omega
    · have hke : k = s.put.length := by omega
      subst hke
      have hvs := HV.out
      rw [List.take_length, HLN.out, List.take_length] at hvs
      have HV2 := Lib.hid hvs
      have HRD := Lib.hid (sl_ints_of_own (F := fun y => w.heap.size ≤ y ∧ y < wr.heap.size) HO.out (fun g h8 h9 => ⟨by omega, h9⟩)).1
      have HL : Hid (vs.length = M + 1) := Lib.hid HV.out.1
      clear hvs
      go_wp2
      go_ret
      exact ⟨some ⟨w.heap.size + 1 + 1, 0, none⟩, M + 1, vs, ret_slice (by rw [HL.out]), HV2.out, HRD.out, bthen HAL.out HB.out⟩
end Go.Proofs.Ytbljfhmcebgdaaa

/-! append of one integer onto a row of the call's own, and where the row lies then. -/
namespace Go.Proofs.Ytbljfhmcebgdaaa
open Go Go.RowKit

theorem wpList_append_int8 {Q : Exit → Act → World → Prop} {ops : Array Oper} {rest : List Oper} {o : Oper} {a : Act} {W : World} {lo : Nat} {A : Option Addr} {c : Nat} {xs ys : List Int} {x : Int} {e' : TypeId} (hgd : o.guard = none) (s y : Operand)
    (ho : o.op = .call { callee := .builtin .append, args := #[s, y], argTypes := #[26, 26] }) (hs : a.eval s = .slice A xs.length c) (hy : a.eval y = .slice (some ⟨W.heap.size, 0, none⟩) 1 1)
    (hown : OwnI W lo (.slice A xs.length c) xs) (hn : xs.length ≤ 2000000) (hlo : lo ≤ W.heap.size) (hys : ys = xs ++ [x])
    (h : ∀ A' c' w', OwnI w' lo (.slice A' ys.length c') ys → W.grownBy w' (Value.slice A xs.length c).ownBlock →
      ((Value.slice A' ys.length c').ownBlock = (Value.slice A xs.length c).ownBlock ∨ ∃ g, (Value.slice A' ys.length c').ownBlock = some g ∧ W.heap.size ≤ g) → wpList Try.prog ops Q rest (a.put o.dst (.slice A' ys.length c')) w') :
    wpList Try.prog ops Q (o :: rest) a (W.alloc (.cells #[.int .i64 x] e')) := by
  obtain ⟨i0, hi0, hz0, hz1, hz2⟩ := info_parts int_info
  have hal : Below W.heap.size W (W.alloc (.cells #[.int .i64 x] e')) := (Below.refl _ _).alloc (Nat.le_refl _) _
  have hl : ys.length = xs.length + 1 := by rw [hys]; simp
  have hm : ys.map (Value.int .i64) = xs.map (Value.int .i64) ++ [.int .i64 x] := by rw [hys]; simp
  refine wpList_plain hgd fun _ hK => ?_
  obtain ⟨v', w', hrun, ho', hg', _, hbk⟩ := run_append_own_at (P := Try.prog) (W.alloc (.cells #[.int .i64 x] e')) lo 26 o.type 3 i0 _ 1 8 Try.underlying26 hi0 hz0 hz1 hz2 (by rfl) (by omega)
    (.slice A xs.length c) xs.length (xs.map (Value.int .i64)) (hown.up hal) ⟨W.heap.size, 0, none⟩ 1 1 [.int .i64 x] (by rfl) (fun j u hu => by
      have := World.news_of_block (heap_alloc_new W (.cells #[.int .i64 x] e')) j u hu
      exact this) (by simp; rfl) (by unfold maxLen; omega) (by omega) (Nat.le_trans hlo hal.size)
  rw [← hl, ← hm] at ho'
  obtain ⟨A', c', rfl, _, _⟩ := OwnI.form (xs := ys) ho'
  unfold Oper.wp execOp
  simp only [ho, resolve, invoke, builtin, Sem.run_bind, Sem.run_pure, Result.andThen_ok, List.map_toArray, List.map_cons, List.map_nil, hs, hy, hrun]
  refine hK _ _ (h A' c' w' ho' (grown_then hal hg') ?_)
  rcases hbk with e | e
  · exact .inl e
  · exact .inr ⟨_, e, hal.size⟩
end Go.Proofs.Ytbljfhmcebgdaaa

/-! The reference's search: l5Join. -/
namespace Go.Proofs.Ytbljfhmcebgdaaa
open Go Go.RowKit

theorem litOf_snoc (xs : List Int) (l : Int) (v : Nat) : litOf (xs ++ [l]) v = if l.natAbs = v then l else litOf xs v := by
  rw [litOf_app]
  have e : hasM [l] v = (l.natAbs == v) := by simp [hasM]
  rw [e]
  by_cases h : l.natAbs = v
  · rw [if_pos (by simpa using h), if_pos h]
    simp [litOf, hasM, h]
  · rw [if_neg (by simpa using h), if_neg h]
theorem joinF_snoc (ab : List Int) (m : Nat) : ∀ (n a : Nat), joinF ab m a (n + 1) = joinF ab m a n ++ (if a + n + 1 ≠ m ∧ litOf ab (a + n + 1) ≠ 0 then [litOf ab (a + n + 1)] else [])
  | 0, a => by simp [joinF]
  | n + 1, a => by
    rw [joinF, joinF_snoc ab m n (a + 1)]
    conv => rhs; rw [joinF]
    rw [List.append_assoc, show a + 1 + n + 1 = a + (n + 1) + 1 by omega]
/-- A row of the numbers of the marks. -/
def LitR (M : Nat) (ab vs : List Int) : Prop := vs.length = M + 1 ∧ ∀ v, v ≤ M → 1 ≤ v → vs[v]? = some (litOf ab v)
theorem LitR.put {M : Nat} {ab vs : List Int} (h : LitR M ab vs) {l : Int} (hl : l.natAbs ≤ M) : LitR M (ab ++ [l]) (vs.set l.natAbs l) := ⟨by simp [h.1], fun v hv hv1 => by
  rw [litOf_snoc, List.getElem?_set]
  by_cases e : l.natAbs = v
  · rw [if_pos e, if_pos e, if_pos (by have := h.1; omega)]
  · rw [if_neg e, if_neg e]; exact h.2 v hv hv1⟩
theorem sl_block {w : World} {F : Nat → Prop} {g : Nat} {xs : List Int} (h : Lay.int.Sl w F (some ⟨g, 0, none⟩) xs) : Lay.int.Sl w (fun y => y = g) (some ⟨g, 0, none⟩) xs := fun h0 => by
  obtain ⟨ad, e, hf, hc⟩ := h h0
  injection e with e
  subst e
  exact ⟨_, rfl, rfl, fun k x hx => by
    obtain ⟨vs, h1, h2⟩ := hc k x hx
    exact ⟨vs, h1, h2⟩⟩
/-- A row of the call's own is handed back. -/
def RetJ (r : List Int) (w : World) (e : Ending) (w' : World) : Prop := ∃ A c, e = .returned (.slice A r.length c) ∧ OwnI w' w.heap.size (.slice A r.length c) r ∧ Below w.heap.size w w'
set_option maxRecDepth 100000 in
set_option maxHeartbeats 8000000 in
theorem l5Join_any (A B : Option Addr) (ca cb M m : Nat) (xa xb : List Int) (F G : Nat → Prop) (w : World) (ha : Lay.int.Sl w F A xa) (hb : Lay.int.Sl w G B xb) (hF : ∀ b, F b → b < w.heap.size) (hG : ∀ b, G b → b < w.heap.size) (hra : ∀ l ∈ xa, -(M : Int) ≤ l ∧ l ≤ M) (hrb : ∀ l ∈ xb, -(M : Int) ≤ l ∧ l ≤ M) (hM : M ≤ 1000000) (hm : m ≤ M) (hna : xa.length ≤ 1048576) (hnb : xb.length ≤ 1048576) :
    Calls Try.prog 131 #[.int .i64 (M : Int), .slice A xa.length ca, .slice B xb.length cb, .int .i64 (m : Int)] w (RetJ (joinP M xa xb m) w) := by
  obtain ⟨i0, hi0, hz0, hz1, hz2⟩ := info_parts int_info
  have hal1 : Below w.heap.size w (w.alloc (.cells #[] 3)) := (Below.refl _ _).alloc (Nat.le_refl _) _
  have hs1 : (w.alloc (.cells #[] 3)).heap.size = w.heap.size + 1 := by simp
  have hown1 : OwnI (w.alloc (.cells #[] 3)) w.heap.size (.slice (some ⟨w.heap.size, 0, none⟩) 0 0) [] := own_lit0 rfl
  obtain ⟨w1, hw1⟩ : ∃ w1, w1 = w.alloc (.cells #[] 3) := ⟨_, rfl⟩
  rw [← hw1] at hal1 hs1 hown1
  have HAL := Lib.hid hal1
  have HOUT := Lib.hid hown1
  have HS1 := Lib.hid hs1
  have KA := Lib.hid (Lay.Sl.below ha hal1 hF)
  have KB := Lib.hid (Lay.Sl.below hb hal1 hG)
  have HW1 := Lib.hid hw1
  have HFF := Lib.hid (And.intro hF hG)
  clear hal1 hs1 hown1 hw1 ha hb hF hG
  go_enter Try.func131, Try.ntmps131
  go_wp2_with (at_make; rw [← HW1.out]; refine wpList_make_full _ rfl _ _ 26 rfl w1.heap.size 3 i0 _ 1 Try.underlying26 hi0 hz0 hz1 .i64 .i64 _ _ (M + 1) rfl rfl (by push_cast; rfl) (by push_cast; rfl) (by rw [hz2]; omega) (by unfold maxLen; omega) (Nat.le_refl _) ?_; intro w3 hown hg1)
  have H1 := Lib.hid hg1
  clear hg1 hi0 hz0 hz1 hz2 HW1
  have hb1 : Below w1.heap.size w1 w3 := (Below.refl _ _).grown H1.out (Nat.le_refl _) (by simp)
  rw [show (madeCells (Value.int .i64 0).cells ((M + 1) * 1)).toList = (List.replicate (M + 1) (0 : Int)).map (Value.int .i64) from by
    rw [show (Value.int .i64 0).cells = #[Value.int .i64 0] from rfl, toList_madeCells_one]; simp] at hown
  rw [HS1.out] at hown ⊢
  have hWle : w1.heap.size ≤ w.heap.size + 1 := by rw [HS1.out]; exact Nat.le_refl _
  go_wp2
  go_loopw [11] (fun i wr => ∃ (k : Nat) (vs : List Int), k ≤ xa.length ∧ i = .int .i64 k ∧ Hid (Below w1.heap.size w1 wr) ∧ Hid (wr.ownsRow (w.heap.size + 1) 3 1 (.slice (some ⟨w.heap.size + 1, 0, none⟩) (M + 1) (M + 1)) (M + 1) (vs.map (Value.int .i64))) ∧ Hid (LitR M (xa.take k) vs))
    (fun i _ => xa.length - (intOf i).toNat)
  case atStart => exact ⟨0, _, Nat.zero_le _, rfl, Lib.hid hb1, Lib.hid hown, Lib.hid ⟨by simp, fun v hv h1 => by rw [List.getElem?_replicate, if_pos (by omega)]; rfl⟩⟩
  case round =>
    clear hown hb1
    obtain ⟨k, vs, hk, rfl, HB, HO, HV⟩ := hrel
    by_cases hlt : k < xa.length
    · have hk1 : (k : Int) < xa.length := by omega
      obtain ⟨ad, hA, _, hc⟩ := (Lay.Sl.below KA.out HB.out (fun b h9 => Nat.lt_of_lt_of_le (HFF.out.1 b h9) HAL.out.size)).at_int hlt
      obtain ⟨r1, r2⟩ := hra _ (List.getElem_mem hlt)
      have htk : xa.take (k + 1) = xa.take k ++ [xa[k]] := List.take_succ_eq_append_getElem hlt
      have HTK := Lib.hid htk
      clear htk
      generalize xa[k] = l at *
      subst hA
      have hna9 := natAbs_le r1 r2
      have HS := Lib.hid (fun z => l4Abs_any l z (by omega) (by omega))
      have HVN : Hid (LitR M (xa.take (k + 1)) (vs.set l.natAbs l)) := Lib.hid (by rw [HTK.out]; exact HV.out.put hna9)
      have hlen : vs.length = M + 1 := HV.out.1
      have hq1 := Later.cell hc
      have HLE := Lib.hid hlen
      clear hlen
      generalize hu : l.natAbs = u at *
      have HU := Lib.hid hu
      clear hu
      have hv1 : (u : Int) < ((M + 1 : Nat) : Int) := by omega
      have hv2 : (u : Int) < (M : Int) + 1 := by omega
      go_wp2
      refine wp_region_later_tail 11 (by kernel_rfl) (by kernel_rfl) ?_
      simp only [List.take_succ_cons, List.take_zero, List.drop_succ_cons, List.drop_zero]
      repeat (go_big_quiet_step ((go_at_call 75; exact later_of_same (HS.out _))))
      refine wpQuiet_nil ?_
      rintro _ ⟨x9, rfl⟩
      have HO9 := Lib.hid (own_below HO.out x9.le (Nat.le_refl _))
      obtain ⟨old, hold⟩ : ∃ old, x9.W.cell? ⟨w.heap.size + 1, u, none⟩ = some (.int .i64 old) := by
        have h9 : x9.W.cell? ⟨w.heap.size + 1, u, none⟩ = _ := HO9.out.cellAt u (by omega)
        rw [List.getElem?_map, List.getElem?_eq_getElem (by rw [HLE.out]; omega), Option.map_some] at h9
        exact ⟨_, h9⟩
      have hfr : x9.W.frozen? ⟨w.heap.size + 1, u, none⟩ = false := HO9.out.frozenAt u
      have HST := Lib.hid (HO9.out.stored u (.int .i64 l)).1
      have HB9 := Lib.hid (bthen HB.out x9.le)
      clear hq1 hc
      go_wp2
      go_roundw
      case rel => exact ⟨k + 1, _, by omega, by go_num, Lib.hid (HB9.out.setCell hWle _), Lib.hid (by rw [List.map_set]; exact HST.out), HVN⟩
      case measure => simp [intOf]; omega
    · have hke : k = xa.length := by omega
      subst hke
      have hvs := HV.out
      rw [List.take_length] at hvs
      have HV2 := Lib.hid hvs
      clear hvs HV
      go_wp2
      go_loopw [12] (fun i wr => ∃ (k : Nat) (vs : List Int), k ≤ xb.length ∧ i = .int .i64 k ∧ Hid (Below w1.heap.size w1 wr) ∧ Hid (wr.ownsRow (w.heap.size + 1) 3 1 (.slice (some ⟨w.heap.size + 1, 0, none⟩) (M + 1) (M + 1)) (M + 1) (vs.map (Value.int .i64))) ∧ Hid (LitR M (xa ++ xb.take k) vs))
        (fun i _ => xb.length - (intOf i).toNat)
      case atStart => exact ⟨0, _, Nat.zero_le _, rfl, HB, HO, Lib.hid (by simpa using HV2.out)⟩
      case round =>
        clear HB HO HV2
        obtain ⟨k, vs, hk, rfl, HB, HO, HV⟩ := hrel
        by_cases hlt : k < xb.length
        · have hk1 : (k : Int) < xb.length := by omega
          obtain ⟨ad, hA, _, hc⟩ := (Lay.Sl.below KB.out HB.out (fun b h9 => Nat.lt_of_lt_of_le (HFF.out.2 b h9) HAL.out.size)).at_int hlt
          obtain ⟨r1, r2⟩ := hrb _ (List.getElem_mem hlt)
          have htk : xb.take (k + 1) = xb.take k ++ [xb[k]] := List.take_succ_eq_append_getElem hlt
          have HTK := Lib.hid htk
          clear htk
          generalize xb[k] = l at *
          subst hA
          have hna9 := natAbs_le r1 r2
          have HS := Lib.hid (fun z => l4Abs_any l z (by omega) (by omega))
          have HVN : Hid (LitR M (xa ++ xb.take (k + 1)) (vs.set l.natAbs l)) := Lib.hid (by rw [HTK.out]; rw [← List.append_assoc]; exact HV.out.put hna9)
          have hlen : vs.length = M + 1 := HV.out.1
          have hq1 := Later.cell hc
          have HLE := Lib.hid hlen
          clear hlen
          generalize hu : l.natAbs = u at *
          have HU := Lib.hid hu
          clear hu
          have hv1 : (u : Int) < ((M + 1 : Nat) : Int) := by omega
          have hv2 : (u : Int) < (M : Int) + 1 := by omega
          go_wp2
          refine wp_region_later_tail 11 (by kernel_rfl) (by kernel_rfl) ?_
          simp only [List.take_succ_cons, List.take_zero, List.drop_succ_cons, List.drop_zero]
          repeat (go_big_quiet_step ((go_at_call 75; exact later_of_same (HS.out _))))
          refine wpQuiet_nil ?_
          rintro _ ⟨x9, rfl⟩
          have HO9 := Lib.hid (own_below HO.out x9.le (Nat.le_refl _))
          obtain ⟨old, hold⟩ : ∃ old, x9.W.cell? ⟨w.heap.size + 1, u, none⟩ = some (.int .i64 old) := by
            have h9 : x9.W.cell? ⟨w.heap.size + 1, u, none⟩ = _ := HO9.out.cellAt u (by omega)
            rw [List.getElem?_map, List.getElem?_eq_getElem (by rw [HLE.out]; omega), Option.map_some] at h9
            exact ⟨_, h9⟩
          have hfr : x9.W.frozen? ⟨w.heap.size + 1, u, none⟩ = false := HO9.out.frozenAt u
          have HST := Lib.hid (HO9.out.stored u (.int .i64 l)).1
          have HB9 := Lib.hid (bthen HB.out x9.le)
          clear hq1 hc
          go_wp2
          go_roundw
          case rel => exact ⟨k + 1, _, by omega, by go_num, Lib.hid (HB9.out.setCell hWle _), Lib.hid (by rw [List.map_set]; exact HST.out), HVN⟩
          case measure => simp [intOf]; omega
        · have hke : k = xb.length := by omega
          subst hke
          have hvs := HV.out
          rw [List.take_length] at hvs
          have HV2 := Lib.hid hvs
          clear hvs HV
          go_wp2
          have HOW := Lib.hid (own_of_heap HOUT.out fun g hg => by
            have hg9 := (World.ownsRow.lt HOUT.out g hg).2
            exact HB.out.block g hg9)
          have HRX := Lib.hid (sl_block (sl_ints_of_own (F := fun y => y < wr.heap.size) HO.out (fun g _ h9 => h9)).1)
          have HBW := Lib.hid (bthen HAL.out HB.out)
          have HSZ : Hid (w.heap.size + 1 < wr.heap.size) := Lib.hid (World.ownsRow.lt HO.out _ rfl).2
          clear HO HB HOUT
          obtain ⟨ab, hab⟩ : ∃ ab, ab = xa ++ xb := ⟨_, rfl⟩
          rw [← hab] at HV2
          have HAB := Lib.hid hab
          clear hab
          go_loopw [9, 13] (fun o i wr => ∃ (k : Nat) (A' : Option Addr) (c' : Nat) (os : List Int), k ≤ M ∧ i = .int .i64 ((k : Int) + 1) ∧ o = .slice A' os.length c' ∧ os.length ≤ k ∧ Hid (os = joinF ab m 0 k) ∧ Hid (OwnI wr w.heap.size (.slice A' os.length c') os) ∧ Hid (∀ g, (Value.slice A' os.length c').ownBlock = some g → g ≠ w.heap.size + 1) ∧ Hid (Lay.int.Sl wr (fun y => y = w.heap.size + 1) (some ⟨w.heap.size + 1, 0, none⟩) vs) ∧ Hid (Below w.heap.size w wr) ∧ Hid (w.heap.size + 1 < wr.heap.size)) (fun _ i _ => M + 1 - (intOf i).toNat)
          case atStart => exact ⟨0, _, _, [], Nat.zero_le _, rfl, rfl, by simp, Lib.hid rfl, HOW, Lib.hid (fun g hg => by have hg : some w.heap.size = some g := hg; injection hg with hg; omega), HRX, HBW, HSZ⟩
          case round =>
            clear HOW HRX HBW HSZ
            obtain ⟨k, A', c', os, hk, rfl, rfl, hol, HOS, HOW, HNE, HRX, HBW, HSZ⟩ := hrel
            by_cases hlt : k < M
            · have hk1 : (k : Int) + 1 ≤ M := by omega
              have hsn := joinF_snoc ab m k 0
              rw [← HOS.out, Nat.zero_add] at hsn
              have HSN := Lib.hid hsn
              clear hsn
              obtain ⟨ae, hae, hc⟩ : ∃ ae : Addr, ae = ⟨w.heap.size + 1, k + 1, none⟩ ∧ wr.cell? ae = some (.int .i64 (litOf ab (k + 1))) := by
                have hkl : k + 1 < vs.length := by rw [HV2.out.1]; omega
                obtain ⟨ae, e1, _, e2⟩ := HRX.out.at_int hkl
                injection e1 with e1
                subst e1
                have h9 := HV2.out.2 (k + 1) (by omega) (by omega)
                rw [List.getElem?_eq_getElem hkl] at h9
                injection h9 with h9
                refine ⟨_, rfl, ?_⟩
                rw [h9] at e2
                have e : (⟨w.heap.size + 1, 0, none⟩ : Addr).add (k + 1) = ⟨w.heap.size + 1, k + 1, none⟩ := by simp [Addr.add]
                rw [e] at e2
                exact e2
              subst hae
              have hk2 : ((k : Int) + 1).toNat = k + 1 := by omega
              have hk3 : (0 : Int) ≤ (k : Int) + 1 := by omega
              have hk4 : (k : Int) + 1 < ((M + 1 : Nat) : Int) := by omega
              have hk5 : (k : Int) + 1 < (M : Int) + 1 := by omega
              generalize litOf ab (k + 1) = y at *
              by_cases hkm : k + 1 = m
              · have h3 : ((k : Int) + 1 != (m : Int)) = false := by simp; omega
                have HE : Hid (os = joinF ab m 0 (k + 1)) := Lib.hid (by rw [HSN.out, if_neg (fun h => h.1 hkm), List.append_nil])
                clear hkm
                go_wp2
                go_roundw
                case rel => exact ⟨k + 1, A', c', os, by omega, by go_num, rfl, by omega, HE, HOW, HNE, HRX, HBW, HSZ⟩
                case measure => simp [intOf]; omega
              have h3 : ((k : Int) + 1 != (m : Int)) = true := by simp; omega
              by_cases hy : y = 0
              · have HE : Hid (os = joinF ab m 0 (k + 1)) := Lib.hid (by rw [HSN.out, if_neg (fun h => h.2 hy), List.append_nil])
                have h4 : (y != 0) = false := by simpa using hy
                clear hy hkm
                go_wp2
                go_roundw
                case rel => exact ⟨k + 1, A', c', os, by omega, by go_num, rfl, by omega, HE, HOW, HNE, HRX, HBW, HSZ⟩
                case measure => simp [intOf]; omega
              · have h4 : (y != 0) = true := by simpa using hy
                obtain ⟨zs, hzs⟩ : ∃ zs, zs = os ++ [y] := ⟨_, rfl⟩
                have HE : Hid (zs = joinF ab m 0 (k + 1)) := Lib.hid (by rw [HSN.out, if_pos ⟨hkm, hy⟩, hzs])
                have HZS := Lib.hid hzs
                have HZL : Hid (zs.length = os.length + 1) := Lib.hid (by rw [hzs]; simp)
                clear hzs hy hkm
                have hol2 : os.length ≤ 2000000 := by omega
                have hlw : w.heap.size ≤ wr.heap.size := by have := HSZ.out; omega
                go_wp2_with (at_builtin; refine wpList_append_int8 (ys := zs) (by rfl) (.tmp 67) (.tmp 72) (by rfl) (by rfl) (by rfl) HOW.out hol2 hlw HZS.out ?_; intro A3 c3 w4 hown4 hg4 hbk4)
                have HO4 := Lib.hid hown4
                have HN4 : Hid (∀ g, (Value.slice A3 zs.length c3).ownBlock = some g → g ≠ w.heap.size + 1) := Lib.hid fun g hg => by
                  rcases hbk4 with e | ⟨g9, e, hge⟩
                  · exact HNE.out g (e ▸ hg)
                  · rw [e] at hg; injection hg with hg; have := HSZ.out; omega
                have HR4 : Hid (Lay.int.Sl w4 (fun y => y = w.heap.size + 1) (some ⟨w.heap.size + 1, 0, none⟩) vs) := Lib.hid (HRX.out.keep fun b hb => by
                  rw [show b = w.heap.size + 1 from hb]
                  exact hg4.block _ HSZ.out fun e => HNE.out _ e.symm rfl)
                have HB4 : Hid (Below w.heap.size w w4) := Lib.hid (HBW.out.grown hg4 hlw fun g hg => (World.ownsRow.lt HOW.out g hg).1)
                have HS4 : Hid (w.heap.size + 1 < w4.heap.size) := Lib.hid (Nat.lt_of_lt_of_le HSZ.out hg4.size)
                clear hown4 hg4 hbk4
                go_wp2
                go_roundw
                case rel => exact ⟨k + 1, A3, c3, zs, by omega, by go_num, rfl, by rw [HZL.out]; omega, HE, HO4, HN4, HR4, HB4, HS4⟩
                case measure => simp [intOf]; omega
            · have hke : k = M := by omega
              subst hke
              have HE : Hid (os = joinP k xa xb m) := Lib.hid (by rw [HOS.out, HAB.out]; rfl)
              go_wp2
              go_ret
              rw [← HE.out]
              exact ⟨A', c', rfl, HOW.out, HBW.out⟩
end Go.Proofs.Ytbljfhmcebgdaaa
