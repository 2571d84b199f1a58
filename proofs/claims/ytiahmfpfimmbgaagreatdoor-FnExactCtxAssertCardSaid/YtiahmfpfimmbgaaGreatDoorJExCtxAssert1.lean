/- Words on sizes and copies. No program is named here. append of a whole slice onto a row of the call's own. No program is named here. What growing and setting leave. No program is named here. Contracts of the copies and comparisons of lists of integers and of truth values. VecOk, the program's and the reference's; powers of two. The reference's declarations: l2Name, l2Find, DeclOk, l8Bits, EnvOk. Contracts of the laws' sizes: szDeclS, szTermS, szLayerS. -/
import Derived.Deep.RegionHeld3
import Derived.Handy
import Derived.Test.YtiahmfpfimmbgaaGreatDoorProg
import Derived.Test.YtiahmfpfimmbgaaGreatDoorChecked
import Derived.Deep.QuietTactic
import Derived.BigQuiet
import Derived.Test.YtiahmfpfimmbgaaGreatDoorJExCtxAssert0
/-! Words on sizes and copies. No program is named here. -/
namespace Go.Proofs.YtiahmfpfimmbgaaGreatDoor
open Go Go.RowKit
def szRes (left : Int) (n : Nat) : Int := if left < n then -1 else left - n
theorem szRes_lt {l : Int} {n : Nat} (h : l < n) : szRes l n = -1 := by simp [szRes, h]
theorem szRes_ge {l : Int} {n : Nat} (h : ¬ l < n) : szRes l n = l - n := by simp [szRes, h]
def wsum {α : Type} (f : α → Nat) : List α → Nat
  | [] => 0
  | x :: xs => f x + wsum f xs
theorem wsum_take {α : Type} (f : α → Nat) : ∀ (xs : List α) (k : Nat) (h : k < xs.length), wsum f (xs.take (k + 1)) = wsum f (xs.take k) + f xs[k]
  | x :: xs, 0, h => by simp [wsum]
  | x :: xs, k + 1, h => by
    have := wsum_take f xs k (by simpa using h)
    simp only [List.take_succ_cons, wsum, List.getElem_cons_succ] at this ⊢
    omega
theorem wsum_le {α : Type} (f : α → Nat) : ∀ (xs : List α) (k : Nat), wsum f (xs.take k) ≤ wsum f xs
  | [], k => by simp [wsum]
  | x :: xs, 0 => by simp [wsum]
  | x :: xs, k + 1 => by
    have := wsum_le f xs k
    simp only [List.take_succ_cons, wsum]; omega
theorem wsum_mem {α : Type} (f : α → Nat) : ∀ {xs : List α} {x : α}, x ∈ xs → f x ≤ wsum f xs
  | y :: xs, x, h => by
    simp only [wsum]
    rcases List.mem_cons.1 h with rfl | h
    · omega
    · have := wsum_mem f h; omega
/-- The block is the call's own, and may be written. -/
def Own (lo : Nat) (w : World) (b : Nat) : Prop := lo ≤ b ∧ b < w.heap.size ∧ ∀ o, w.frozen? ⟨b, o, none⟩ = false
theorem Own.up {lo : Nat} {w w' : World} {b : Nat} (h : Own lo w b) (hb : Below w.heap.size w w') : Own lo w' b :=
  ⟨h.1, Nat.lt_of_lt_of_le h.2.1 hb.size, fun o => ((bcell hb).2 b o h.2.1).trans (h.2.2 o)⟩
theorem Own.set {lo : Nat} {w : World} {b : Nat} (h : Own lo w b) (p : Addr) (u : Value) : Own lo (w.setCell p u) b :=
  ⟨h.1, by simpa [World.setCell] using h.2.1, fun o => by rw [World.frozen?_setCell]; exact h.2.2 o⟩
theorem Own.mono {lo lo' : Nat} {w : World} {b : Nat} (h : Own lo w b) (hl : lo' ≤ lo) : Own lo' w b := ⟨Nat.le_trans hl h.1, h.2.1, h.2.2⟩
theorem Lay.Sl.own_up {α : Type} {L : Lay α} {w w' : World} {lo : Nat} {A : Option Addr} {xs : List α} (h : L.Sl w (Own lo w) A xs) (hb : Below w.heap.size w w') : L.Sl w' (Own lo w') A xs :=
  (h.below hb (fun _ h => h.2.1)).mono fun _ h => h.up hb
theorem Lay.Sl.own_set {α : Type} {L : Lay α} {w : World} {lo : Nat} {A : Option Addr} {xs : List α} (h : L.Sl w (Own lo w) A xs) (p : Addr) (u : Value) (hp : p.block < lo) : L.Sl (w.setCell p u) (Own lo (w.setCell p u)) A xs :=
  (h.far p u fun b hb e => by have := hb.1; omega).mono fun _ h => h.set p u
theorem Lay.Sl.own_mono {α : Type} {L : Lay α} {w : World} {lo lo' : Nat} {A : Option Addr} {xs : List α} (h : L.Sl w (Own lo w) A xs) (hl : lo' ≤ lo) : L.Sl w (Own lo' w) A xs := h.mono fun _ h => h.mono hl
theorem Own.ofRow {w : World} {base lo g n c : Nat} {e : TypeId} {size : Nat} {cs : List Value} (h : w.ownsRow base e size (.slice (some ⟨g, 0, none⟩) n c) n cs) (hl : lo ≤ g) : Own lo w g :=
  ⟨hl, (h.lt g rfl).2, fun o => h.frozenAt o⟩

/-- What a function returns that makes a slice of its own, which may be written. -/
def RetO {α : Type} (L : Lay α) (w : World) (xs : List α) (e : Ending) (w' : World) : Prop :=
  ∃ A c, e = .returned (.slice A xs.length c) ∧ xs.length ≤ c ∧ L.Sl w' (Own w.heap.size w') A xs ∧ Below w.heap.size w w'

def setAt : List Value → Nat → List Value → List Value
  | cs, _, [] => cs
  | cs, p, v :: vs => setAt (cs.set p v) (p + 1) vs
theorem setAt_out : ∀ (vs cs : List Value) (p i : Nat), i < p ∨ p + vs.length ≤ i → (setAt cs p vs)[i]? = cs[i]?
  | [], _, _, _, _ => rfl
  | v :: vs, cs, p, i, h => by
    simp only [setAt]
    simp only [List.length_cons] at h
    rw [setAt_out vs _ _ i (by omega), List.getElem?_set_ne (by omega)]
theorem setAt_in : ∀ (vs cs : List Value) (p j : Nat), j < vs.length → p + vs.length ≤ cs.length → (setAt cs p vs)[p + j]? = vs[j]?
  | v :: vs, cs, p, 0, _, h => by
    simp only [List.length_cons] at h
    simp only [setAt]
    rw [setAt_out vs _ _ _ (by omega), Nat.add_zero, List.getElem?_set_self (by omega)]
    rfl
  | v :: vs, cs, p, j + 1, hj, h => by
    simp only [List.length_cons] at h hj
    simp only [setAt]
    have := setAt_in vs (cs.set p v) (p + 1) j (by omega) (by simp; omega)
    rw [show p + (j + 1) = p + 1 + j by omega, this]
    rfl
/-- The first k elements of the row lie laid, behind lo. -/
def Laid {α : Type} (L : Lay α) (lo : Nat) (w : World) (k : Nat) (xs : List α) (cs : List Value) : Prop :=
  ∀ i x, i < k → xs[i]? = some x → ∃ vs, L.R w (Own lo w) x vs ∧ ∀ j u, vs[j]? = some u → cs[i * L.size + j]? = some u
theorem Laid.up {α : Type} {L : Lay α} {lo : Nat} {w w' : World} {k : Nat} {xs : List α} {cs : List Value} (h : Laid L lo w k xs cs) (hb : Below w.heap.size w w') : Laid L lo w' k xs cs := fun i x hi hx => by
  obtain ⟨vs, hr, hu⟩ := h i x hi hx
  exact ⟨vs, L.mono (fun _ h => h.up hb) (L.keep (fun b hB => hb.block b hB.2.1) hr), hu⟩
theorem Laid.set {α : Type} {L : Lay α} {lo : Nat} {w : World} {k : Nat} {xs : List α} {cs : List Value} (h : Laid L lo w k xs cs) (p : Addr) (u : Value) (hp : p.block < lo) : Laid L lo (w.setCell p u) k xs cs := fun i x hi hx => by
  obtain ⟨vs, hr, hu⟩ := h i x hi hx
  exact ⟨vs, L.mono (fun _ h => h.set p u) (L.keep (fun b hB => Below.heap_setCell w p u b (fun e => by have := hB.1; omega)) hr), hu⟩
/-- One element more. -/
theorem Laid.next {α : Type} {L : Lay α} {lo : Nat} {w : World} {k : Nat} {xs : List α} {cs vs : List Value} {x : α} (h : Laid L lo w k xs cs) (hx : xs[k]? = some x) (hr : L.R w (Own lo w) x vs) (hl : k * L.size + L.size ≤ cs.length) :
    Laid L lo w (k + 1) xs (setAt cs (k * L.size) vs) := fun i y hi hy => by
  have hvl := L.len hr
  rcases Nat.lt_or_ge i k with h' | h'
  · obtain ⟨us, hr', hu⟩ := h i y h' hy
    have hul := L.len hr'
    refine ⟨us, hr', fun j u hj => ?_⟩
    have hjl : j < L.size := by
      rcases Nat.lt_or_ge j us.length with h | h
      · omega
      · rw [List.getElem?_eq_none h] at hj; cases hj
    have hm : (i + 1) * L.size ≤ k * L.size := Nat.mul_le_mul_right _ h'
    rw [Nat.add_mul, Nat.one_mul] at hm
    rw [setAt_out _ _ _ _ (by omega)]
    exact hu j u hj
  · have : i = k := by omega
    subst this
    rw [hx] at hy; cases hy
    refine ⟨vs, hr, fun j u hj => ?_⟩
    have hjl : j < vs.length := by
      rcases Nat.lt_or_ge j vs.length with h | h
      · exact h
      · rw [List.getElem?_eq_none h] at hj; cases hj
    rw [setAt_in _ _ _ _ hjl (by omega)]
    exact hj
theorem Laid.done {α : Type} {L : Lay α} {w w' : World} {xs : List α} {cs : List Value} {e : TypeId} {n : Nat} (hn : n = xs.length) (h : Laid L (w.heap.size + 1) w' n xs cs)
    (ho : w'.ownsRow w.heap.size e L.size (.slice (some ⟨w.heap.size, 0, none⟩) n n) n cs) (hb : Below w.heap.size w w') : RetO L w xs (.returned (.slice (some ⟨w.heap.size, 0, none⟩) n n)) w' := by
  subst hn
  refine ⟨_, _, rfl, Nat.le_refl _, fun _ => ⟨_, rfl, Own.ofRow ho (Nat.le_refl _), fun k x hx => ?_⟩, hb⟩
  have hk : k < xs.length := by
    rcases Nat.lt_or_ge k xs.length with h | h
    · exact h
    · rw [List.getElem?_eq_none h] at hx; cases hx
  obtain ⟨vs, hr, hu⟩ := h k x hk hx
  exact ⟨vs, L.mono (fun _ h => h.mono (Nat.le_succ _)) hr, fun j u hj => ho.cells (g := w.heap.size) rfl _ _ (hu j u hj)⟩

end Go.Proofs.YtiahmfpfimmbgaaGreatDoor

/-! append of a whole slice onto a row of the call's own. No program is named here. -/
namespace Go.Proofs.YtiahmfpfimmbgaaGreatDoor
open Go Go.RowKit

/-- The slice '.slice A m c' has the cells xs, in the world w. -/
def Src (w : World) (size : Nat) (A : Option Addr) (m : Nat) (xs : List Value) : Prop :=
  xs.length = m * size ∧ (0 < m → ∃ ad, A = some ad ∧ ∀ j u, xs[j]? = some u → w.cell? (ad.add j) = some u)

section
variable {P : Program} (w : World)

theorem run_append_of_nil (base : Nat) (t ty e : TypeId) (i : TypeInfo) (size : Nat) (ht : P.underlying t = some (.slice e)) (hi : P.info? e = some i)
    (v : Value) (n : Nat) (xs : List Value) (hown : w.ownsRow base e size v n xs) (c : Nat) : (Builtin.append_ #[t, t] ty #[v, .slice none 0 c]).run P w = .ok v w := by
  rcases hown.2 with ⟨rfl, rfl⟩ | ⟨g, cap, cur, rfl, _, _, hnc, _⟩
  · simp [Builtin.append_, run_underlying ht, sizeOf, typeInfo, hi, Builtin.lenOf, Builtin.firstCells]
  · simp [Builtin.append_, run_underlying ht, sizeOf, typeInfo, hi, Builtin.lenOf, Builtin.firstCells, hnc, storeCells]

theorem run_append_src (base : Nat) (t ty e : TypeId) (i : TypeInfo) (z : Value) (size bytes : Nat) (ht : P.underlying t = some (.slice e)) (hi : P.info? e = some i) (hz : i.zero = some z)
    (hsize : i.size = size) (hby : i.bytes = bytes) (hzs : z.cells.size = size) (hsz : 0 < size)
    (v : Value) (n : Nat) (xs : List Value) (hown : w.ownsRow base e size v n xs)
    (A : Option Addr) (m c : Nat) (news : List Value) (hr : Src w size A m news) (h1 : ∀ u ∈ news, u.oneCell' = true)
    (nm : Nat) (hnm : n + m = nm) (h63 : nm ≤ maxLen) (hbytes : nm * bytes ≤ 140737488355328) (hbase : base ≤ w.heap.size) (hA : A = none → m = 0) :
    ∃ A' c' w', (Builtin.append_ #[t, t] ty #[v, .slice A m c]).run P w = .ok (.slice A' nm c') w' ∧ w'.ownsRow base e size (.slice A' nm c') nm (xs ++ news) ∧ w.grownBy w' v.ownBlock := by
  subst hnm
  suffices H : ∃ v' w', (Builtin.append_ #[t, t] ty #[v, .slice A m c]).run P w = .ok v' w' ∧ w'.ownsRow base e size v' (n + m) (xs ++ news) ∧ w.grownBy w' v.ownBlock by
    obtain ⟨v', w', h1, h2, h3⟩ := H
    rcases h2.2 with ⟨e1, e2⟩ | ⟨g, cap, cur, e1, _⟩
    · exact ⟨none, 0, w', by rw [h1, e1, e2], by rw [e1] at h2; rw [e2] at h2 ⊢; exact h2, h3⟩
    · exact ⟨_, cap, w', by rw [h1, e1], by rw [e1] at h2; exact h2, h3⟩
  rcases A with _ | ad
  · have hm : m = 0 := hA rfl
    subst hm
    have hn : news = [] := List.eq_nil_of_length_eq_zero (by simpa using hr.1)
    subst hn
    exact ⟨v, w, run_append_of_nil w base t ty e i size ht hi v n xs hown c, by simpa using hown, World.grownBy.refl _ _⟩
  · have hcells : ∀ j u, news[j]? = some u → w.cell? (ad.add j) = some u := by
      intro j u hu
      rcases Nat.eq_zero_or_pos m with h0 | h0
      · subst h0
        have hn : news = [] := List.eq_nil_of_length_eq_zero (by simpa using hr.1)
        subst hn
        simp at hu
      · obtain ⟨ad', h, hc⟩ := hr.2 h0
        injection h with h
        subst h
        exact hc j u hu
    obtain ⟨v', w', hrun, h2, h3, _, _⟩ := run_append_own_at (P := P) w base t ty e i z size bytes ht hi hz hsize hby hzs hsz v n xs hown ad m c news hr.1 hcells h1 h63 hbytes hbase
    exact ⟨v', w', hrun, h2, h3⟩

theorem wp_append_src {o : Oper} {a : Act} {K : Act → World → Prop} {Q : Exit → Act → World → Prop} (s x : Operand) (t : TypeId)
    (ho : o.op = .call { callee := .builtin .append, args := #[s, x], argTypes := #[t, t] })
    (base : Nat) (e : TypeId) (i : TypeInfo) (z : Value) (size bytes : Nat) (ht : P.underlying t = some (.slice e)) (hi : P.info? e = some i) (hz : i.zero = some z)
    (hsize : i.size = size) (hby : i.bytes = bytes) (hzs : z.cells.size = size) (hsz : 0 < size)
    (v : Value) (n : Nat) (xs : List Value) (hs : a.eval s = v) (hown : w.ownsRow base e size v n xs)
    (A : Option Addr) (m c : Nat) (news : List Value) (hx : a.eval x = .slice A m c) (hr : Src w size A m news) (h1 : ∀ u ∈ news, u.oneCell' = true)
    (nm : Nat) (hnm : n + m = nm) (h63 : nm ≤ maxLen) (hbytes : nm * bytes ≤ 140737488355328) (hbase : base ≤ w.heap.size) (hA : A = none → m = 0)
    (h : ∀ A' c' w', w'.ownsRow base e size (.slice A' nm c') nm (xs ++ news) → Below base w w' → w.grownBy w' v.ownBlock → K (a.put o.dst (.slice A' nm c')) w') : o.wp P a w K Q := by
  obtain ⟨A', c', w', hrun, h2, h3⟩ := run_append_src (P := P) w base t o.type e i z size bytes ht hi hz hsize hby hzs hsz v n xs hown A m c news hr h1 nm hnm h63 hbytes hbase hA
  unfold Oper.wp execOp
  simp only [ho, resolve, invoke, builtin, Sem.run_bind, Sem.run_pure, Result.andThen_ok, List.map_toArray, List.map_cons, List.map_nil, hs, hx, hrun]
  exact h A' c' w' h2 ((Below.refl _ _).grown h3 hbase (fun k hk => (hown.lt k hk).1)) h3

theorem wpList_append_src {ops : Array Oper} {rest : List Oper} {o : Oper} {a : Act} {Q : Exit → Act → World → Prop} (hgd : o.guard = none) (s x : Operand) (t : TypeId)
    (ho : o.op = .call { callee := .builtin .append, args := #[s, x], argTypes := #[t, t] })
    (base : Nat) (e : TypeId) (i : TypeInfo) (z : Value) (size bytes : Nat) (ht : P.underlying t = some (.slice e)) (hi : P.info? e = some i) (hz : i.zero = some z)
    (hsize : i.size = size) (hby : i.bytes = bytes) (hzs : z.cells.size = size) (hsz : 0 < size)
    (v : Value) (n : Nat) (xs : List Value) (hs : a.eval s = v) (hown : w.ownsRow base e size v n xs)
    (A : Option Addr) (m c : Nat) (news : List Value) (hx : a.eval x = .slice A m c) (hr : Src w size A m news) (h1 : ∀ u ∈ news, u.oneCell' = true)
    (nm : Nat) (hnm : n + m = nm) (h63 : nm ≤ maxLen) (hbytes : nm * bytes ≤ 140737488355328) (hbase : base ≤ w.heap.size) (hA : A = none → m = 0)
    (h : ∀ A' c' w', w'.ownsRow base e size (.slice A' nm c') nm (xs ++ news) → Below base w w' → w.grownBy w' v.ownBlock → wpList P ops Q rest (a.put o.dst (.slice A' nm c')) w') : wpList P ops Q (o :: rest) a w :=
  wpList_plain hgd fun _ hK => wp_append_src w s x t ho base e i z size bytes ht hi hz hsize hby hzs hsz v n xs hs hown A m c news hx hr h1 nm hnm h63 hbytes hbase hA fun A' c' w' h2 h3 h4 => hK _ _ (h A' c' w' h2 h3 h4)

end
theorem src_block {W : World} {B : Nat} {e : TypeId} {cs : Array Value} {fr : Nat × Nat} {size m : Nat} (hb : W.heap[B]? = some (.cells cs e fr)) (hm : cs.size = m * size) : Src W size (some ⟨B, 0, none⟩) m cs.toList :=
  ⟨by simpa using hm, fun _ => ⟨_, rfl, World.news_of_block hb⟩⟩
theorem own_lit0 {W : World} {S : Nat} {e : TypeId} {size : Nat} (hS : W.heap.size = S) : (W.alloc (.cells #[] e)).ownsRow S e size (.slice (some ⟨S, 0, none⟩) 0 0) 0 [] := by
  subst hS; exact World.ownsRow_lit W #[] 0 (Nat.le_refl _) (by unfold maxLen; omega) (by simp)
end Go.Proofs.YtiahmfpfimmbgaaGreatDoor

/-! What growing and setting leave. No program is named here. -/
namespace Go.Proofs.YtiahmfpfimmbgaaGreatDoor
open Go Go.RowKit

theorem grown_then {a w w' : World} {row : Option Nat} (h : Below a.heap.size a w) (h' : w.grownBy w' row) : a.grownBy w' row :=
  ⟨h'.os.trans h.os, h'.tape.trans h.tape, h'.output.trans h.output, Nat.le_trans h.size h'.size, fun i hi hne => (h'.block i (Nat.lt_of_lt_of_le hi h.size) hne).trans (h.block i hi)⟩
theorem heap_set_same (w : World) (r : Nat) (o : Nat) (u : Value) (cs : Array Value) (t : TypeId) (h : w.heap[r]? = some (.cells cs t (0, 0))) : (w.setCell ⟨r, o, none⟩ u).heap[r]? = some (.cells (cs.setIfInBounds o u) t (0, 0)) := by
  unfold World.setCell
  simp only [Array.getElem?_modify, if_true]
  rw [h]
  rfl
theorem cell_of_block {w : World} {r : Nat} {cs : Array Value} {t : TypeId} (h : w.heap[r]? = some (.cells cs t (0, 0))) (i : Nat) : w.cell? ⟨r, i, none⟩ = cs[i]? ∧ w.frozen? ⟨r, i, none⟩ = false := by
  unfold World.cell? World.frozen?
  simp [h]
theorem size_setCell (w : World) (a : Addr) (v : Value) : (w.setCell a v).heap.size = w.heap.size := by simp [World.setCell]
theorem rows_kept {w w' : World} {base : Nat} {e : TypeId} {size n : Nat} {v : Value} {xs : List Value} {b : Option Nat} (h : w.ownsRow base e size v n xs) (hg : w.grownBy w' b) (hd : ∀ g, v.ownBlock = some g → b ≠ some g) : w'.ownsRow base e size v n xs :=
  h.kept hg (by
    rcases hv : v.ownBlock with _ | g
    · exact .inl rfl
    · exact .inr (fun e => hd g hv e.symm))
end Go.Proofs.YtiahmfpfimmbgaaGreatDoor

/-! Contracts of the copies and comparisons of lists of integers and of truth values. -/
namespace Go.Proofs.YtiahmfpfimmbgaaGreatDoor
open Go Go.RowKit

theorem int_info : (Tryz.prog.info? 3).map (fun i => (i.zero, i.size, i.bytes)) = some (some (.int .i64 0), 1, 8) := by kernel_rfl
theorem sl_ints_of_own {w : World} {F : Nat → Prop} {base : Nat} {e : TypeId} {A : Option Addr} {n c : Nat} {xs : List Int} (h : w.ownsRow base e 1 (.slice A n c) n (xs.map (Value.int .i64)))
    (hF : ∀ g, base ≤ g → g < w.heap.size → F g) : Lay.int.Sl w F A xs ∧ n = xs.length ∧ n ≤ c := by
  have hn : n = xs.length := by have := h.1; simp at this; omega
  refine ⟨.of_own h hn hF fun k x hx => ⟨_, rfl, fun j u hu => ?_⟩, hn, ?_⟩
  · match j, hu with
    | 0, hu => simp [Lay.int, Lay.flat, hx]; simpa using hu
  · rcases h.2 with ⟨h1, h2⟩ | ⟨g, cap, cur, h1, _, _, h2, _⟩
    · omega
    · injection h1 with _ _ h3; omega
end Go.Proofs.YtiahmfpfimmbgaaGreatDoor

/-! VecOk, the program's and the reference's; powers of two. -/
namespace Go.Proofs.YtiahmfpfimmbgaaGreatDoor
open Go Go.RowKit

theorem pow_small16 {n : Nat} (h : n ≤ 16) : 2 ^ n ≤ 65536 := Nat.pow_le_pow_right (by omega) h
/-- l1Two leaves the memory as it was. -/
theorem l1Two_q (n : Nat) (w : World) (hn : n ≤ 16) :
    Calls Tryz.prog 129 #[.int .i64 (n : Int)] w fun e w' => e = .returned (.int .i64 ((2 ^ n : Nat) : Int)) ∧ w = w' := by
  obtain ⟨T, hT⟩ : ∃ T, T = 2 ^ n := ⟨_, rfl⟩
  rw [← hT]
  have HT := Lib.hid hT
  clear hT
  go_enter Tryz.func129, Tryz.ntmps129
  go_wp2
  go_loop [3, 4] (fun o i => ∃ (j p : Nat), j ≤ n ∧ i = .int .i64 j ∧ o = .int .i64 p ∧ p ≤ 65536 ∧ Hid (p = 2 ^ j)) (fun _ i => n - (intOf i).toNat)
  case atStart => exact ⟨0, 1, Nat.zero_le _, rfl, rfl, by omega, Lib.hid rfl⟩
  case round =>
    obtain ⟨j, p, hj, rfl, rfl, hp, HP⟩ := hrel
    by_cases hlt : j < n
    · have hlt2 : (j : Int) < n := by omega
      have HP2 : Hid (p * 2 ≤ 65536 ∧ p * 2 = 2 ^ (j + 1)) := Lib.hid ⟨by rw [HP.out, ← Nat.pow_succ]; exact pow_small16 (by omega), by rw [HP.out, Nat.pow_succ]⟩
      have hq : ((p * 2 : Nat) : Int) ≤ 65536 := by have := HP2.out.1; omega
      go_wp2
      go_round
      case rel => exact ⟨j + 1, p * 2, by omega, by go_num, by go_num, HP2.out.1, Lib.hid HP2.out.2⟩
      case measure => simp [intOf]; omega
    · have hje : j = n := by omega
      subst hje
      have hpT : p = T := by rw [HP.out, HT.out]
      subst hpT
      go_wp2
      go_ret
      exact ⟨rfl, rfl⟩
set_option maxRecDepth 100000 in
set_option maxHeartbeats 4000000 in
theorem specVecOk_any (m n : Int) (w : World) : Calls Tryz.prog 121 #[.agg #[.int .i64 m, .int .i64 n]] w (RetB w (vecB m n)) := by
  have hal : Below w.heap.size w (w.alloc (.cells #[.int .i64 m, .int .i64 n] 140)) := (Below.refl _ _).alloc (Nat.le_refl _) _
  have HAL := Lib.hid hal
  have HB := Lib.hid (heap_alloc_new w (.cells #[.int .i64 m, .int .i64 n] 140))
  clear hal
  unfold vecB
  by_cases h1 : 1 ≤ m
  · by_cases h4 : m ≤ 4
    · by_cases h0 : 0 ≤ n
      · obtain ⟨T, hT⟩ : ∃ T : Nat, T = 2 ^ m.toNat := ⟨_, rfl⟩
        have htwo : ∀ z, Calls Tryz.prog 129 #[.int .i64 m] z fun e w' => e = .returned (.int .i64 (T : Int)) ∧ z = w' := fun z => by
          have h9 := l1Two_q m.toNat z (by omega)
          rw [Int.toNat_of_nonneg (by omega), ← hT] at h9
          exact h9
        have HTWO := Lib.hid htwo
        have hb : ((2 : Int) ^ (m.toNat)) = (T : Int) := by rw [hT]; simp
        rw [hb, decide_eq_true h1, decide_eq_true h4, decide_eq_true h0]
        clear hT hb htwo
        have g1 : decide (1 ≤ m) = true := decide_eq_true h1
        have g4 : decide (m ≤ 4) = true := decide_eq_true h4
        have g0 : decide (0 ≤ n) = true := decide_eq_true h0
        by_cases hl : n < (T : Int)
        all_goals
          go_enter Tryz.func121, Tryz.ntmps121
          go_wp2
          generalize w.alloc (.cells #[.int .i64 m, .int .i64 n] 140) = w1 at *
          have v0 := (cell_of_block HB.out 0).1
          have v1 := (cell_of_block HB.out 1).1
          go_quiet ((go_at_call 129; exact quiet_left (HTWO.out _)))
          go_wp2
          go_ret
          exact ⟨by simp [hl], below_drewN HAL.out _⟩
      · rw [decide_eq_false h0]
        have g1 : decide (1 ≤ m) = true := decide_eq_true h1
        have g4 : decide (m ≤ 4) = true := decide_eq_true h4
        have g0 : decide (0 ≤ n) = false := decide_eq_false h0
        go_enter Tryz.func121, Tryz.ntmps121
        go_wp2
        generalize w.alloc (.cells #[.int .i64 m, .int .i64 n] 140) = w1 at *
        have v0 := (cell_of_block HB.out 0).1
        have v1 := (cell_of_block HB.out 1).1
        go_quiet (fail)
        go_wp2
        go_ret
        exact ⟨by simp, below_drewN HAL.out _⟩
    · rw [decide_eq_false h4]
      have g1 : decide (1 ≤ m) = true := decide_eq_true h1
      have g4 : decide (m ≤ 4) = false := decide_eq_false h4
      go_enter Tryz.func121, Tryz.ntmps121
      go_wp2
      generalize w.alloc (.cells #[.int .i64 m, .int .i64 n] 140) = w1 at *
      have v0 := (cell_of_block HB.out 0).1
      have v1 := (cell_of_block HB.out 1).1
      go_quiet (fail)
      go_wp2
      go_ret
      exact ⟨by simp, below_drewN HAL.out _⟩
  · rw [decide_eq_false h1]
    have g1 : decide (1 ≤ m) = false := decide_eq_false h1
    go_enter Tryz.func121, Tryz.ntmps121
    go_wp2
    generalize w.alloc (.cells #[.int .i64 m, .int .i64 n] 140) = w1 at *
    have v0 := (cell_of_block HB.out 0).1
    have v1 := (cell_of_block HB.out 1).1
    go_quiet (fail)
    go_wp2
    go_ret
    exact ⟨by simp, below_drewN HAL.out _⟩
set_option maxRecDepth 100000 in
set_option maxHeartbeats 8000000 in
theorem implVecOk_any (m n : Int) (w : World) : Calls Tryz.prog 174 #[.agg #[.int .i64 m, .int .i64 n]] w (RetB w (vecB m n)) := by
  have hal : Below w.heap.size w (w.alloc (.cells #[.int .i64 m, .int .i64 n] 140)) := (Below.refl _ _).alloc (Nat.le_refl _) _
  have HAL := Lib.hid hal
  have HB := Lib.hid (heap_alloc_new w (.cells #[.int .i64 m, .int .i64 n] 140))
  clear hal
  unfold vecB
  by_cases h1 : 1 ≤ m
  · by_cases h4 : m ≤ 4
    · by_cases h0 : 0 ≤ n
      · rw [decide_eq_true h1, decide_eq_true h4, decide_eq_true h0]
        rcases (by omega : m = 1 ∨ m = 2 ∨ m = 3 ∨ m = 4) with rfl | rfl | rfl | rfl
        · rw [show ((2 : Int) ^ (Int.toNat 1)) = 2 from rfl]
          by_cases hl : n < 2
          · rw [decide_eq_true hl]
            go_enter Tryz.func174, Tryz.ntmps174
            go_wp2
            generalize w.alloc (.cells #[.int .i64 1, .int .i64 n] 140) = w1 at *
            have v0 := (cell_of_block HB.out 0).1
            have v1 := (cell_of_block HB.out 1).1
            go_quiet (fail)
            go_wp2
            go_ret
            exact ⟨by first | rfl | (simp; omega) | (simp; simpa using hl), below_drewN HAL.out _⟩
          · rw [decide_eq_false hl]
            go_enter Tryz.func174, Tryz.ntmps174
            go_wp2
            generalize w.alloc (.cells #[.int .i64 1, .int .i64 n] 140) = w1 at *
            have v0 := (cell_of_block HB.out 0).1
            have v1 := (cell_of_block HB.out 1).1
            go_quiet (fail)
            go_wp2
            go_ret
            exact ⟨by first | rfl | (simp; omega) | (simp; simpa using hl), below_drewN HAL.out _⟩
        · rw [show ((2 : Int) ^ (Int.toNat 2)) = 4 from rfl]
          by_cases hl : n < 4
          · rw [decide_eq_true hl]
            go_enter Tryz.func174, Tryz.ntmps174
            go_wp2
            generalize w.alloc (.cells #[.int .i64 2, .int .i64 n] 140) = w1 at *
            have v0 := (cell_of_block HB.out 0).1
            have v1 := (cell_of_block HB.out 1).1
            go_quiet (fail)
            go_wp2
            go_ret
            exact ⟨by first | rfl | (simp; omega) | (simp; simpa using hl), below_drewN HAL.out _⟩
          · rw [decide_eq_false hl]
            go_enter Tryz.func174, Tryz.ntmps174
            go_wp2
            generalize w.alloc (.cells #[.int .i64 2, .int .i64 n] 140) = w1 at *
            have v0 := (cell_of_block HB.out 0).1
            have v1 := (cell_of_block HB.out 1).1
            go_quiet (fail)
            go_wp2
            go_ret
            exact ⟨by first | rfl | (simp; omega) | (simp; simpa using hl), below_drewN HAL.out _⟩
        · rw [show ((2 : Int) ^ (Int.toNat 3)) = 8 from rfl]
          by_cases hl : n < 8
          · rw [decide_eq_true hl]
            go_enter Tryz.func174, Tryz.ntmps174
            go_wp2
            generalize w.alloc (.cells #[.int .i64 3, .int .i64 n] 140) = w1 at *
            have v0 := (cell_of_block HB.out 0).1
            have v1 := (cell_of_block HB.out 1).1
            go_quiet (fail)
            go_wp2
            go_ret
            exact ⟨by first | rfl | (simp; omega) | (simp; simpa using hl), below_drewN HAL.out _⟩
          · rw [decide_eq_false hl]
            go_enter Tryz.func174, Tryz.ntmps174
            go_wp2
            generalize w.alloc (.cells #[.int .i64 3, .int .i64 n] 140) = w1 at *
            have v0 := (cell_of_block HB.out 0).1
            have v1 := (cell_of_block HB.out 1).1
            go_quiet (fail)
            go_wp2
            go_ret
            exact ⟨by first | rfl | (simp; omega) | (simp; simpa using hl), below_drewN HAL.out _⟩
        · rw [show ((2 : Int) ^ (Int.toNat 4)) = 16 from rfl]
          by_cases hl : n < 16
          · rw [decide_eq_true hl]
            go_enter Tryz.func174, Tryz.ntmps174
            go_wp2
            generalize w.alloc (.cells #[.int .i64 4, .int .i64 n] 140) = w1 at *
            have v0 := (cell_of_block HB.out 0).1
            have v1 := (cell_of_block HB.out 1).1
            go_quiet (fail)
            go_wp2
            go_ret
            exact ⟨by first | rfl | (simp; omega) | (simp; simpa using hl), below_drewN HAL.out _⟩
          · rw [decide_eq_false hl]
            go_enter Tryz.func174, Tryz.ntmps174
            go_wp2
            generalize w.alloc (.cells #[.int .i64 4, .int .i64 n] 140) = w1 at *
            have v0 := (cell_of_block HB.out 0).1
            have v1 := (cell_of_block HB.out 1).1
            go_quiet (fail)
            go_wp2
            go_ret
            exact ⟨by first | rfl | (simp; omega) | (simp; simpa using hl), below_drewN HAL.out _⟩
      · rw [decide_eq_false h0]
        have g1 : decide (1 ≤ m) = true := decide_eq_true h1
        have g4 : decide (m ≤ 4) = true := decide_eq_true h4
        have g0 : decide (0 ≤ n) = false := decide_eq_false h0
        go_enter Tryz.func174, Tryz.ntmps174
        go_wp2
        generalize w.alloc (.cells #[.int .i64 m, .int .i64 n] 140) = w1 at *
        have v0 := (cell_of_block HB.out 0).1
        have v1 := (cell_of_block HB.out 1).1
        go_quiet (fail)
        go_wp2
        go_ret
        exact ⟨by simp, below_drewN HAL.out _⟩
    · rw [decide_eq_false h4]
      have g1 : decide (1 ≤ m) = true := decide_eq_true h1
      have g4 : decide (m ≤ 4) = false := decide_eq_false h4
      go_enter Tryz.func174, Tryz.ntmps174
      go_wp2
      generalize w.alloc (.cells #[.int .i64 m, .int .i64 n] 140) = w1 at *
      have v0 := (cell_of_block HB.out 0).1
      have v1 := (cell_of_block HB.out 1).1
      go_quiet (fail)
      go_wp2
      go_ret
      exact ⟨by simp, below_drewN HAL.out _⟩
  · rw [decide_eq_false h1]
    have g1 : decide (1 ≤ m) = false := decide_eq_false h1
    go_enter Tryz.func174, Tryz.ntmps174
    go_wp2
    generalize w.alloc (.cells #[.int .i64 m, .int .i64 n] 140) = w1 at *
    have v0 := (cell_of_block HB.out 0).1
    have v1 := (cell_of_block HB.out 1).1
    go_quiet (fail)
    go_wp2
    go_ret
    exact ⟨by simp, below_drewN HAL.out _⟩
end Go.Proofs.YtiahmfpfimmbgaaGreatDoor

/-! The reference's declarations: l2Name, l2Find, DeclOk, l8Bits, EnvOk. -/
namespace Go.Proofs.YtiahmfpfimmbgaaGreatDoor
open Go Go.RowKit

theorem take_let (s : ByteArray) (k : Nat) (h : k < s.size) : (s.data.toList.take (k + 1)).all letter = ((s.data.toList.take k).all letter && letter s[k]) := by
  rw [List.take_succ_eq_append_getElem (by simpa using h), List.all_append]
  simp
  rfl
theorem all_of_take {l : List UInt8} {k : Nat} (h : (l.take k).all letter = false) : l.all letter = false := by
  rw [Bool.eq_false_iff] at h ⊢
  intro h9
  exact h (List.all_eq_true.2 fun x hx => List.all_eq_true.1 h9 x (List.mem_of_mem_take hx))
set_option maxHeartbeats 1000000 in
theorem l2Name_any (s : ByteArray) (w : World) (hs : s.size ≤ 9223372036854775807) :
    Calls Tryz.prog 100 #[.string s] w fun e w' => e = .returned (.bool (nameOk s)) ∧ w = w' := by
  go_enter Tryz.func100, Tryz.ntmps100
  go_wp2
  go_loop [3] (fun i => ∃ k : Nat, k ≤ s.size ∧ i = .int .i64 k ∧ Hid ((s.data.toList.take k).all letter = true)) (fun i => s.size - (intOf i).toNat)
  case atStart => exact ⟨0, Nat.zero_le _, rfl, Lib.hid (by simp)⟩
  case round =>
    obtain ⟨k, hk, rfl, HT⟩ := hrel
    by_cases hlt : k < s.size
    · have HST := Lib.hid (take_let s k hlt)
      by_cases h1 : (s[k].toNat : Int) < 97
      · have HL : Hid (letter s[k] = false) := Lib.hid (by unfold letter; rw [decide_eq_false (by omega)]; rfl)
        have HA : Hid (allLet s = false) := Lib.hid (all_of_take (k := k + 1) (by rw [HST.out, HL.out, Bool.and_false]))
        have g1 : decide ((s[k].toNat : Int) < 97) = true := decide_eq_true h1
        go_wp2
        go_ret
        exact ⟨ret_bool (by unfold nameOk; rw [HA.out, Bool.and_false]), rfl⟩
      · by_cases h2 : (122 : Int) < s[k].toNat
        · have HL : Hid (letter s[k] = false) := Lib.hid (by unfold letter; rw [decide_eq_false (by omega : ¬ (s[k].toNat : Int) ≤ 122), Bool.and_false])
          have HA : Hid (allLet s = false) := Lib.hid (all_of_take (k := k + 1) (by rw [HST.out, HL.out, Bool.and_false]))
          have g1 : decide ((s[k].toNat : Int) < 97) = false := decide_eq_false h1
          go_wp2
          go_ret
          exact ⟨ret_bool (by unfold nameOk; rw [HA.out, Bool.and_false]), rfl⟩
        · have HL : Hid ((s.data.toList.take (k + 1)).all letter = true) := Lib.hid (by rw [HST.out, HT.out]; unfold letter; rw [decide_eq_true (by omega), decide_eq_true (by omega)]; rfl)
          have g1 : decide ((s[k].toNat : Int) < 97) = false := decide_eq_false h1
          go_wp2
          go_round
          case rel => exact ⟨k + 1, by omega, by go_num, HL⟩
          case measure => simp [intOf]; omega
    · have HA : Hid (allLet s = true) := Lib.hid (by have := HT.out; rwa [List.take_of_length_le (by simp; omega)] at this)
      have hke : k = s.size := by omega
      subst hke
      by_cases h1 : 1 ≤ s.size
      · by_cases h4 : s.size ≤ 4
        · obtain ⟨q, hq⟩ : ∃ q, q = tru s := ⟨_, rfl⟩
          have HQ := Lib.hid hq
          have g9 : (s.toList == [116, 114, 117, 101]) = q := hq.symm
          have HN : Hid (nameOk s = !q) := Lib.hid (by unfold nameOk; rw [decide_eq_true h1, decide_eq_true h4, HA.out, HQ.out, Bool.and_true, Bool.true_and, Bool.true_and])
          clear hq
          cases q
          · go_wp2
            go_ret
            exact ⟨ret_bool (by rw [HN.out]; rfl), rfl⟩
          · go_wp2
            go_ret
            exact ⟨ret_bool (by rw [HN.out]; rfl), rfl⟩
        · have HN : Hid (nameOk s = false) := Lib.hid (by unfold nameOk; rw [decide_eq_false h4, Bool.and_false, Bool.false_and, Bool.false_and])
          go_wp2
          go_ret
          exact ⟨ret_bool (by rw [HN.out]), rfl⟩
      · have HN : Hid (nameOk s = false) := Lib.hid (by unfold nameOk; rw [decide_eq_false h1, Bool.false_and, Bool.false_and, Bool.false_and])
        go_wp2
        go_ret
        exact ⟨ret_bool (by rw [HN.out]), rfl⟩
set_option maxHeartbeats 1000000 in
theorem l2Find_any (A : Option Addr) (c : Nat) (xs : List D) (s : ByteArray) (F : Nat → Prop) (w : World) (h : Lay.decl.Sl w F A xs) (hn : xs.length ≤ 9223372036854775807) :
    Calls Tryz.prog 101 #[.slice A xs.length c, .string s] w fun e w' => e = .returned (.int .i64 (fN 0 xs s)) ∧ w = w' := by
  go_enter Tryz.func101, Tryz.ntmps101
  go_wp2
  go_loop [5] (fun i => ∃ k : Nat, k ≤ xs.length ∧ i = .int .i64 k ∧ Hid (fN 0 xs s = fN k (xs.drop k) s)) (fun i => xs.length - (intOf i).toNat)
  case atStart => exact ⟨0, Nat.zero_le _, rfl, Lib.hid rfl⟩
  case round =>
    obtain ⟨k, hk, rfl, HT⟩ := hrel
    by_cases hlt : k < xs.length
    · obtain ⟨ad, rfl, hf, c1, c2⟩ := h.at_decl hlt
      have hk1 : (k : Int) < xs.length := by omega
      have HS := Lib.hid (fN_step xs k s hlt)
      obtain ⟨q, hq⟩ : ∃ q, q = (xs[k].name.toList == s.toList) := ⟨_, rfl⟩
      have HQ := Lib.hid hq
      have g9 := hq.symm
      clear hq
      cases q
      · have HE : Hid (fN 0 xs s = fN (k + 1) (xs.drop (k + 1)) s) := Lib.hid (by rw [HT.out, HS.out, ← HQ.out]; rfl)
        go_wp2
        go_round
        case rel => exact ⟨k + 1, by omega, by go_num, HE⟩
        case measure => simp [intOf]; omega
      · have HE : Hid (fN 0 xs s = (k : Int)) := Lib.hid (by rw [HT.out, HS.out, ← HQ.out]; rfl)
        go_wp2
        go_ret
        exact ⟨ret_int (by rw [HE.out]), rfl⟩
    · have HE : Hid (fN 0 xs s = -1) := Lib.hid (by rw [HT.out, List.drop_of_length_le (by omega)]; rfl)
      have hke : k = xs.length := by omega
      subst hke
      go_wp2
      go_ret
      exact ⟨ret_int (by rw [HE.out]), rfl⟩
theorem dOne_name {seen : List D} {x : D} (h : nameOk x.name = false) : dOne seen x = false := by unfold dOne; rw [h]; rfl
theorem dOne_low {seen : List D} {x : D} (h : ¬ 1 ≤ x.wide) : dOne seen x = false := by unfold dOne wideOk; rw [decide_eq_false h]; simp
theorem dOne_high {seen : List D} {x : D} (h : ¬ x.wide ≤ 4) : dOne seen x = false := by unfold dOne wideOk; rw [decide_eq_false h]; simp
theorem dOne_seen {seen : List D} {x : D} (h : hasN seen x.name = true) : dOne seen x = false := by unfold dOne; rw [h]; simp
theorem dOne_yes {seen : List D} {x : D} (h : nameOk x.name = true) (h1 : 1 ≤ x.wide) (h4 : x.wide ≤ 4) (h' : hasN seen x.name = false) : dOne seen x = true := by
  unfold dOne wideOk; rw [h, h', decide_eq_true h1, decide_eq_true h4]; rfl
def okNames (ds : List D) : Prop := ∀ d ∈ ds, d.name.size ≤ 9223372036854775807
set_option maxRecDepth 100000 in
set_option maxHeartbeats 4000000 in
theorem specDeclOk_any (A : Option Addr) (c : Nat) (xs : List D) (F : Nat → Prop) (w : World) (h : Lay.decl.Sl w F A xs) (hF : ∀ b, F b → b < w.heap.size) (hn : xs.length ≤ 9223372036854775807) (ho : okNames xs) (hc : xs.length ≤ c) :
    Calls Tryz.prog 77 #[.slice A xs.length c] w (RetB w (declOk xs)) := by
  by_cases hl4 : xs.length ≤ 4
  · go_enter Tryz.func77, Tryz.ntmps77
    go_wp2
    go_loopw [3, 4] (fun b i wr => ∃ (k : Nat) (n : Int), k ≤ xs.length ∧ i = .int .i64 k ∧ b = .int .i64 n ∧ 0 ≤ n ∧ n ≤ 4 * k ∧ Below w.heap.size w wr ∧ Hid (dGo [] 0 xs = dGo (xs.take k) n (xs.drop k))) (fun _ i _ => xs.length - (intOf i).toNat)
    case atStart => exact ⟨0, 0, Nat.zero_le _, rfl, rfl, by omega, by omega, Below.refl _ _, Lib.hid rfl⟩
    case round =>
      obtain ⟨k, n, hk, rfl, rfl, n0, n1, hb, HT⟩ := hrel
      by_cases hlt : k < xs.length
      · have hr := h.below hb hF
        have HFI := Lib.hid (fun z (hz : Lay.decl.Sl z F A (xs.take k)) => l2Find_any A c (xs.take k) xs[k].name F z hz (by rw [List.length_take]; omega))
        obtain ⟨ad, rfl, hf, c1, c2⟩ := hr.at_decl hlt
        have hk1 : (k : Int) < xs.length := by omega
        have HN := Lib.hid (fun z => l2Name_any xs[k].name z (ho _ (List.getElem_mem hlt)))
        have hkc : k ≤ c := by omega
        have HR := Lib.hid hr
        clear hr
        by_cases hnm : nameOk xs[k].name = true
        · by_cases h1 : 1 ≤ xs[k].wide
          · by_cases h4 : xs[k].wide ≤ 4
            · have e9 : (xs.take k).length = k := by rw [List.length_take]; omega
              obtain ⟨q, hq⟩ : ∃ q, q = fN 0 (xs.take k) xs[k].name := ⟨_, rfl⟩
              have HFK : Hid (∀ m, Calls Tryz.prog 101 #[.slice (some ad) k c, .string xs[k].name] (wr.drewN m) fun e w' => e = .returned (.int .i64 q) ∧ wr.drewN m = w') := Lib.hid (fun m => by
                have h9 := HFI.out (wr.drewN m) ((HR.out.take k).keep fun _ _ => rfl)
                rw [e9, ← hq] at h9
                exact h9)
              have g1 : decide (xs[k].wide < 1) = false := decide_eq_false (by omega)
              have g4 : decide (4 < xs[k].wide) = false := decide_eq_false (by omega)
              have HQ := Lib.hid hq
              rw [hnm] at HN
              clear hq e9 HFI
              by_cases hq0 : 0 ≤ q
              · have HB : Hid (declOk xs = false) := Lib.hid (declOk_bad xs k n hlt HT.out (dOne_seen ((fN_has 0 _ _).1 (by rw [← HQ.out]; exact hq0))))
                go_wp2
                go_quiet ((first | (go_at_call 100; exact quiet_left (HN.out _)) | (go_at_call 101; exact quiet_left (HFK.out _))))
                go_wp2
                go_ret
                exact ⟨ret_bool (by rw [HB.out]), below_drewN hb _⟩
              · have hh : hasN (xs.take k) xs[k].name = false := Bool.eq_false_iff.2 fun h9 => hq0 (by rw [HQ.out]; exact (fN_has 0 _ _).2 h9)
                have HX : Hid (dGo [] 0 xs = dGo (xs.take (k + 1)) (n + xs[k].wide) (xs.drop (k + 1))) := Lib.hid (declOk_next xs k n hlt HT.out (dOne_yes hnm h1 h4 hh))
                clear hh hnm
                go_wp2
                go_quiet ((first | (go_at_call 100; exact quiet_left (HN.out _)) | (go_at_call 101; exact quiet_left (HFK.out _))))
                go_wp2
                go_roundw
                case rel => exact ⟨k + 1, n + xs[k].wide, by omega, by go_num, rfl, by omega, by omega, below_drewN hb _, HX⟩
                case measure => simp [intOf]; omega
            · have HB : Hid (declOk xs = false) := Lib.hid (declOk_bad xs k n hlt HT.out (dOne_high h4))
              rw [hnm] at HN
              have g1 : decide (xs[k].wide < 1) = false := decide_eq_false (by omega)
              have g4 : decide (4 < xs[k].wide) = true := decide_eq_true (by omega)
              clear hnm HFI
              go_wp2
              go_quiet ((go_at_call 100; exact quiet_left (HN.out _)))
              go_wp2
              go_ret
              exact ⟨ret_bool (by rw [HB.out]), below_drewN hb _⟩
          · have HB : Hid (declOk xs = false) := Lib.hid (declOk_bad xs k n hlt HT.out (dOne_low h1))
            rw [hnm] at HN
            have g1 : decide (xs[k].wide < 1) = true := decide_eq_true (by omega)
            clear hnm HFI
            go_wp2
            go_quiet ((go_at_call 100; exact quiet_left (HN.out _)))
            go_wp2
            go_ret
            exact ⟨ret_bool (by rw [HB.out]), below_drewN hb _⟩
        · have hnm := Bool.eq_false_iff.2 hnm
          have HB : Hid (declOk xs = false) := Lib.hid (declOk_bad xs k n hlt HT.out (dOne_name hnm))
          rw [hnm] at HN
          clear hnm HFI
          go_wp2
          go_quiet ((go_at_call 100; exact quiet_left (HN.out _)))
          go_wp2
          go_ret
          exact ⟨ret_bool (by rw [HB.out]), below_drewN hb _⟩
      · have hke : k = xs.length := by omega
        subst hke
        have HE := Lib.hid (declOk_end xs n hl4 HT.out)
        go_wp2
        go_ret
        exact ⟨ret_bool (by rw [HE.out]), hb⟩
  · have HE := Lib.hid (declOk_long xs hl4)
    go_enter Tryz.func77, Tryz.ntmps77
    go_wp2
    go_ret
    exact ⟨ret_bool (by rw [HE.out]), Below.refl _ _⟩
end Go.Proofs.YtiahmfpfimmbgaaGreatDoor

/-! Contracts of the laws' sizes: szDeclS, szTermS, szLayerS. -/
namespace Go.Proofs.YtiahmfpfimmbgaaGreatDoor
open Go Go.RowKit

mutual
def T.w : T → Nat
  | .mk _ _ _ n k => n.size + T.wl k
def T.wl : List T → Nat
  | [] => 0
  | x :: xs => 1 + T.w x + T.wl xs
end
theorem T.wl_eq : ∀ xs : List T, T.wl xs = xs.length + wsum T.w xs
  | [] => by simp [T.wl, wsum]
  | x :: xs => by simp only [T.wl, wsum, List.length_cons, T.wl_eq xs]; omega
theorem T.w_eq (t : T) : t.w = t.name.size + (t.kids.length + wsum T.w t.kids) := by
  cases t; simp only [T.w, T.wl_eq]; rfl
def D.w (d : D) : Nat := d.name.size
def Ly.w (l : Ly) : Nat := (l.ds.length + wsum D.w l.ds) + (l.ts.length + wsum T.w l.ts)
/-- All lists are short. -/
def okT2 (t : T) : Prop := t.kids.length ≤ 1048576 ∧ t.name.size ≤ 1048576
theorem T.small (t : T) (h : t.w ≤ 1048576) : T.All okT2 t := by
  revert h
  refine T.ind (p := fun t => t.w ≤ 1048576 → T.All okT2 t) (fun t ih h => ?_) t
  rw [T.w_eq] at h
  refine .mk t ⟨by omega, by omega⟩ fun k hk => ih k hk ?_
  have := wsum_mem T.w hk
  omega
theorem T.smallS {xs : List T} (h : xs.length + wsum T.w xs ≤ 1048576) : xs.length ≤ 1048576 ∧ ∀ x ∈ xs, T.All okT2 x :=
  ⟨by omega, fun x hx => T.small x (by have := wsum_mem T.w hx; omega)⟩

theorem szDecl_any (d : D) (left : Int) (w : World) (hd : d.name.size ≤ 9223372036854775807) (h0 : 0 ≤ left) (h1 : left ≤ 1048576) :
    Calls Tryz.prog 24 #[.agg #[.string d.name, .int .i64 d.wide], .int .i64 left] w fun e w' => e = .returned (.int .i64 (szRes left (D.w d))) ∧ Below w.heap.size w w' := by
  by_cases h : left < d.name.size
  all_goals
    go_enter Tryz.func24, Tryz.ntmps24
    go_wp2
    go_ret
    exact ⟨ret_int (by unfold szRes D.w; first | rw [if_pos (by omega)] | rw [if_neg (by omega)]), (Below.refl _ _).alloc (Nat.le_refl _) _⟩

set_option maxHeartbeats 400000 in
theorem szDeclS_any (A : Option Addr) (c : Nat) (xs : List D) (left : Int) (F : Nat → Prop) (w : World) (h : Lay.decl.Sl w F A xs) (hF : ∀ b, F b → b < w.heap.size) (ho : ∀ d ∈ xs, d.name.size ≤ 9223372036854775807) (hn : xs.length ≤ 9223372036854775807) (h0 : 0 ≤ left) (h1 : left ≤ 1048576) :
    Calls Tryz.prog 91 #[.slice A xs.length c, .int .i64 left] w fun e w' => e = .returned (.int .i64 (szRes left (xs.length + wsum D.w xs))) ∧ Below w.heap.size w w' := by
  by_cases hl : left < xs.length
  · have HR := Lib.hid (szRes_lt (l := left) (n := xs.length + wsum D.w xs) (by omega))
    go_enter Tryz.func91, Tryz.ntmps91
    go_wp2
    go_ret
    exact ⟨ret_int (by rw [HR.out]), Below.refl _ _⟩
  · go_enter Tryz.func91, Tryz.ntmps91
    go_wp2
    go_loopw [1, 5] (fun l i wr => ∃ k : Nat, k ≤ xs.length ∧ i = .int .i64 k ∧ l = .int .i64 (left - xs.length - wsum D.w (xs.take k)) ∧ 0 ≤ left - xs.length - wsum D.w (xs.take k) ∧ Below w.heap.size w wr) (fun _ i _ => xs.length - (intOf i).toNat)
    case atStart => exact ⟨0, Nat.zero_le _, rfl, by simp [wsum], by simp [wsum]; omega, Below.refl _ _⟩
    case round =>
      obtain ⟨k, hk, rfl, rfl, hge, hb⟩ := hrel
      by_cases hlt : k < xs.length
      · have hlater := h.below hb hF
        have hFr : ∀ b, F b → b < wr.heap.size := fun b hb' => Nat.lt_of_lt_of_le (hF b hb') hb.size
        obtain ⟨ad, rfl, hf, c1, c2⟩ := hlater.at_decl hlt
        have hsn := wsum_take D.w xs k hlt
        have hle := wsum_le D.w xs (k + 1)
        have hk1 : (k : Int) < xs.length := by omega
        generalize hL : left - (xs.length : Int) - (wsum D.w (xs.take k) : Int) = L at *
        by_cases hs : L < (D.w xs[k] : Nat)
        · have HX := Lib.hid (szRes_lt hs)
          have HY := Lib.hid (szRes_lt (l := left) (n := xs.length + wsum D.w xs) (by omega))
          have hLb : 0 ≤ L ∧ L ≤ 1048576 := by omega
          obtain ⟨hL0, hL1⟩ := hLb
          clear hsn hle hL hs
          go_wp2_with fail
          refine (szDecl_any xs[k] L _ (ho _ (List.getElem_mem _)) hL0 hL1).mono ?_
          rw [HX.out]
          rintro e w2 ⟨rfl, hb2⟩
          have hbb := bthen hb hb2
          go_wp2
          go_ret
          exact ⟨ret_int (by rw [HY.out]), hbb⟩
        · have HX := Lib.hid (szRes_ge hs)
          have HY := Lib.hid (show left - (xs.length : Int) - (wsum D.w (xs.take (k + 1)) : Int) = L - (D.w xs[k] : Nat) by omega)
          have hLb : 0 ≤ L ∧ L ≤ 1048576 := by omega
          obtain ⟨hL0, hL1⟩ := hLb
          have hwb : ((D.w xs[k] : Nat) : Int) ≤ L := by omega
          clear hsn hle hL hs
          go_wp2_with fail
          refine (szDecl_any xs[k] L _ (ho _ (List.getElem_mem _)) hL0 hL1).mono ?_
          rw [HX.out]
          rintro e w2 ⟨rfl, hb2⟩
          have hbb := bthen hb hb2
          generalize hM : L - ((D.w xs[k] : Nat) : Int) = M at *
          have hM0 : 0 ≤ M := by omega
          have HM := Lib.hid hM
          clear hM hwb
          go_wp2
          go_roundw
          case rel => exact ⟨k + 1, by omega, by go_num, by rw [HY.out], by rw [HY.out]; exact hM0, hbb⟩
          case measure => simp [intOf]; omega
      · have hke : k = xs.length := by omega
        have HE := Lib.hid (show szRes left (xs.length + wsum D.w xs) = left - xs.length - wsum D.w (xs.take k) by rw [szRes_ge (by rw [hke, List.take_length] at hge; omega), hke, List.take_length]; omega)
        go_wp2
        go_ret
        exact ⟨ret_int (by rw [HE.out]), hb⟩

/-- What a term's size is. -/
def SzT (t : T) : Prop := ∀ (A : Option Addr) (c : Nat) (left : Int) (F : Nat → Prop) (w : World), Lay.term.Sl w F A t.kids → (∀ b, F b → b < w.heap.size) → 0 ≤ left → left ≤ 1048576 →
  Calls Tryz.prog 30 #[.agg #[.int .i64 t.op, .int .i64 t.a, .int .i64 t.b, .string t.name, .slice A t.kids.length c], .int .i64 left] w fun e w' => e = .returned (.int .i64 (szRes left t.w)) ∧ Below w.heap.size w w'

set_option maxHeartbeats 400000 in
theorem szTermS_any (A : Option Addr) (c : Nat) (xs : List T) (left : Int) (F : Nat → Prop) (w : World) (h : Lay.term.Sl w F A xs) (hF : ∀ b, F b → b < w.heap.size) (ho : ∀ t ∈ xs, SzT t) (hn : xs.length ≤ 9223372036854775807) (h0 : 0 ≤ left) (h1 : left ≤ 1048576) :
    Calls Tryz.prog 67 #[.slice A xs.length c, .int .i64 left] w fun e w' => e = .returned (.int .i64 (szRes left (xs.length + wsum T.w xs))) ∧ Below w.heap.size w w' := by
  by_cases hl : left < xs.length
  · have HR := Lib.hid (szRes_lt (l := left) (n := xs.length + wsum T.w xs) (by omega))
    go_enter Tryz.func67, Tryz.ntmps67
    go_wp2
    go_ret
    exact ⟨ret_int (by rw [HR.out]), Below.refl _ _⟩
  · go_enter Tryz.func67, Tryz.ntmps67
    go_wp2
    go_loopw [1, 5] (fun l i wr => ∃ k : Nat, k ≤ xs.length ∧ i = .int .i64 k ∧ l = .int .i64 (left - xs.length - wsum T.w (xs.take k)) ∧ 0 ≤ left - xs.length - wsum T.w (xs.take k) ∧ Below w.heap.size w wr) (fun _ i _ => xs.length - (intOf i).toNat)
    case atStart => exact ⟨0, Nat.zero_le _, rfl, by simp [wsum], by simp [wsum]; omega, Below.refl _ _⟩
    case round =>
      obtain ⟨k, hk, rfl, rfl, hge, hb⟩ := hrel
      by_cases hlt : k < xs.length
      · have hlater := h.below hb hF
        have hFr : ∀ b, F b → b < wr.heap.size := fun b hb' => Nat.lt_of_lt_of_le (hF b hb') hb.size
        obtain ⟨ad, A', c', rfl, hf, c1, c2, c3, c4, c5, hcc, hkk⟩ := hlater.at_term hlt
        have hsn := wsum_take T.w xs k hlt
        have hle := wsum_le T.w xs (k + 1)
        have hk1 : (k : Int) < xs.length := by omega
        generalize hL : left - (xs.length : Int) - (wsum T.w (xs.take k) : Int) = L at *
        by_cases hs : L < (T.w xs[k] : Nat)
        · have HX := Lib.hid (szRes_lt hs)
          have HY := Lib.hid (szRes_lt (l := left) (n := xs.length + wsum T.w xs) (by omega))
          have hLb : 0 ≤ L ∧ L ≤ 1048576 := by omega
          obtain ⟨hL0, hL1⟩ := hLb
          clear hsn hle hL hs
          go_wp2_with fail
          refine (ho xs[k] (List.getElem_mem _) A' c' L F _ hkk hFr hL0 hL1).mono ?_
          rw [HX.out]
          rintro e w2 ⟨rfl, hb2⟩
          have hbb := bthen hb hb2
          go_wp2
          go_ret
          exact ⟨ret_int (by rw [HY.out]), hbb⟩
        · have HX := Lib.hid (szRes_ge hs)
          have HY := Lib.hid (show left - (xs.length : Int) - (wsum T.w (xs.take (k + 1)) : Int) = L - (T.w xs[k] : Nat) by omega)
          have hLb : 0 ≤ L ∧ L ≤ 1048576 := by omega
          obtain ⟨hL0, hL1⟩ := hLb
          have hwb : ((T.w xs[k] : Nat) : Int) ≤ L := by omega
          clear hsn hle hL hs
          go_wp2_with fail
          refine (ho xs[k] (List.getElem_mem _) A' c' L F _ hkk hFr hL0 hL1).mono ?_
          rw [HX.out]
          rintro e w2 ⟨rfl, hb2⟩
          have hbb := bthen hb hb2
          generalize hM : L - ((T.w xs[k] : Nat) : Int) = M at *
          have hM0 : 0 ≤ M := by omega
          have HM := Lib.hid hM
          clear hM hwb
          go_wp2
          go_roundw
          case rel => exact ⟨k + 1, by omega, by go_num, by rw [HY.out], by rw [HY.out]; exact hM0, hbb⟩
          case measure => simp [intOf]; omega
      · have hke : k = xs.length := by omega
        have HE := Lib.hid (show szRes left (xs.length + wsum T.w xs) = left - xs.length - wsum T.w (xs.take k) by rw [szRes_ge (by rw [hke, List.take_length] at hge; omega), hke, List.take_length]; omega)
        go_wp2
        go_ret
        exact ⟨ret_int (by rw [HE.out]), hb⟩

theorem szTerm_any (t : T) (ho : okTerm t) : SzT t := by
  revert ho
  refine T.ind (p := fun t => okTerm t → SzT t) (fun t ih ho => ?_) t
  obtain ⟨_, _, _, hnm, hkl⟩ := ho.here
  have ihk : ∀ k ∈ t.kids, SzT k := fun k hk => ih k hk (ho.kid k hk)
  clear ih
  intro A c left F w h hF h0 h1
  have HW := Lib.hid (T.w_eq t)
  unfold maxLen at hnm hkl
  by_cases hl : left < t.name.size
  · have HR := Lib.hid (szRes_lt (l := left) (n := t.w) (by rw [T.w_eq]; omega))
    go_enter Tryz.func30, Tryz.ntmps30
    go_wp2
    go_ret
    exact ⟨ret_int (by rw [HR.out]), (Below.refl _ _).alloc (Nat.le_refl _) _⟩
  · have hw : Below w.heap.size w (w.alloc (.cells #[.int .i64 t.op, .int .i64 t.a, .int .i64 t.b, .string t.name, .slice A t.kids.length c] 44)) := (Below.refl _ _).alloc (Nat.le_refl _) _
    go_enter Tryz.func30, Tryz.ntmps30
    go_wp2_with fail
    refine (szTermS_any A c t.kids _ F _ (h.below hw hF) (fun b hb => Nat.lt_of_lt_of_le (hF b hb) hw.size) ihk (by omega) (by omega) (by omega)).mono ?_
    by_cases hs : left - (t.name.size : Int) < (t.kids.length + wsum T.w t.kids : Nat)
    · rw [szRes_lt hs]
      have HR := Lib.hid (szRes_lt (l := left) (n := t.w) (by rw [T.w_eq]; omega))
      rintro e w2 ⟨rfl, hb2⟩
      have hbb := bthen hw hb2
      go_wp2
      go_ret
      exact ⟨ret_int (by rw [HR.out]), hbb⟩
    · rw [szRes_ge hs]
      have HR := Lib.hid (show szRes left t.w = left - (t.name.size : Int) - (t.kids.length + wsum T.w t.kids : Nat) by rw [szRes_ge (by rw [T.w_eq]; omega), T.w_eq]; omega)
      rintro e w2 ⟨rfl, hb2⟩
      have hbb := bthen hw hb2
      generalize hM : left - (t.name.size : Int) - ((t.kids.length + wsum T.w t.kids : Nat) : Int) = M at *
      have hM0 : 0 ≤ M := by omega
      have HM := Lib.hid hM
      clear hM
      go_wp2
      go_ret
      exact ⟨ret_int (by rw [HR.out]), hbb⟩

theorem szLayer_any (l : Ly) (ho : okLayer l) (A B : Option Addr) (c d : Nat) (left : Int) (F : Nat → Prop) (w : World) (hA : Lay.decl.Sl w F A l.ds) (hB : Lay.term.Sl w F B l.ts) (hF : ∀ b, F b → b < w.heap.size) (h0 : 0 ≤ left) (h1 : left ≤ 1048576) :
    Calls Tryz.prog 50 #[.agg #[.slice A l.ds.length c, .slice B l.ts.length d], .int .i64 left] w fun e w' => e = .returned (.int .i64 (szRes left l.w)) ∧ Below w.heap.size w w' := by
  obtain ⟨⟨od1, od2⟩, ot1, ot2⟩ := ho
  unfold maxLen at od1 ot1
  have hod : ∀ x ∈ l.ds, x.name.size ≤ 9223372036854775807 := fun x hx => by have := (od2 x hx).1; unfold maxLen at this; omega
  have hot : ∀ x ∈ l.ts, SzT x := fun x hx => szTerm_any x (ot2 x hx)
  have hw : Below w.heap.size w (w.alloc (.cells #[.slice A l.ds.length c, .slice B l.ts.length d] 73)) := (Below.refl _ _).alloc (Nat.le_refl _) _
  clear od2 ot2
  go_enter Tryz.func50, Tryz.ntmps50
  go_wp2_with fail
  refine (szDeclS_any A c l.ds left F _ (hA.below hw hF) (fun b hb => Nat.lt_of_lt_of_le (hF b hb) hw.size) hod (by omega) h0 h1).mono ?_
  by_cases hs : left < (l.ds.length + wsum D.w l.ds : Nat)
  · rw [szRes_lt hs]
    have HR := Lib.hid (szRes_lt (l := left) (n := l.w) (by unfold Ly.w; omega))
    rintro e w2 ⟨rfl, hb2⟩
    have hbb := bthen hw hb2
    go_wp2
    go_ret
    exact ⟨ret_int (by rw [HR.out]), hbb⟩
  · rw [szRes_ge hs]
    rintro e w2 ⟨rfl, hb2⟩
    have hbb := bthen hw hb2
    obtain ⟨hcc, hff⟩ := bcell hb2
    have k1 : w2.cell? ⟨w.heap.size, 1, none⟩ = some (.slice B l.ts.length d) := (hcc _ _ (by simp)).trans (by simp [go_sem])
    have HW := Lib.hid (show l.w = (l.ds.length + wsum D.w l.ds) + (l.ts.length + wsum T.w l.ts) from rfl)
    generalize hM : left - ((l.ds.length + wsum D.w l.ds : Nat) : Int) = M at *
    have hM0 : 0 ≤ M := by omega
    have hM1 : M ≤ 1048576 := by omega
    have HM := Lib.hid hM
    clear hM hcc hff
    go_wp2_with fail
    refine (szTermS_any B d l.ts M F _ (hB.below hbb hF) (fun b hb => Nat.lt_of_lt_of_le (hF b hb) hbb.size) hot (by omega) hM0 hM1).mono ?_
    by_cases hs2 : M < (l.ts.length + wsum T.w l.ts : Nat)
    · rw [szRes_lt hs2]
      have HR := Lib.hid (szRes_lt (l := left) (n := l.w) (by rw [HW.out]; have := HM.out; omega))
      rintro e w3 ⟨rfl, hb3⟩
      have hbc := bthen hbb hb3
      go_wp2
      go_ret
      exact ⟨ret_int (by rw [HR.out]), hbc⟩
    · rw [szRes_ge hs2]
      have HR := Lib.hid (show szRes left l.w = M - (l.ts.length + wsum T.w l.ts : Nat) by rw [szRes_ge (by rw [HW.out]; have := HM.out; omega), HW.out]; have := HM.out; omega)
      rintro e w3 ⟨rfl, hb3⟩
      have hbc := bthen hbb hb3
      generalize hM : M - ((l.ts.length + wsum T.w l.ts : Nat) : Int) = M2 at *
      have hM20 : 0 ≤ M2 := by omega
      have HM2 := Lib.hid hM
      clear hM
      go_wp2
      go_ret
      exact ⟨ret_int (by rw [HR.out]), hbc⟩

set_option maxHeartbeats 400000 in
theorem szLayerS_any (A : Option Addr) (c : Nat) (xs : List Ly) (left : Int) (F : Nat → Prop) (w : World) (h : Lay.layer.Sl w F A xs) (hF : ∀ b, F b → b < w.heap.size) (ho : ∀ t ∈ xs, okLayer t) (hn : xs.length ≤ 9223372036854775807) (h0 : 0 ≤ left) (h1 : left ≤ 1048576) :
    Calls Tryz.prog 12 #[.slice A xs.length c, .int .i64 left] w fun e w' => e = .returned (.int .i64 (szRes left (xs.length + wsum Ly.w xs))) ∧ Below w.heap.size w w' := by
  by_cases hl : left < xs.length
  · have HR := Lib.hid (szRes_lt (l := left) (n := xs.length + wsum Ly.w xs) (by omega))
    go_enter Tryz.func12, Tryz.ntmps12
    go_wp2
    go_ret
    exact ⟨ret_int (by rw [HR.out]), Below.refl _ _⟩
  · go_enter Tryz.func12, Tryz.ntmps12
    go_wp2
    go_loopw [1, 5] (fun l i wr => ∃ k : Nat, k ≤ xs.length ∧ i = .int .i64 k ∧ l = .int .i64 (left - xs.length - wsum Ly.w (xs.take k)) ∧ 0 ≤ left - xs.length - wsum Ly.w (xs.take k) ∧ Below w.heap.size w wr) (fun _ i _ => xs.length - (intOf i).toNat)
    case atStart => exact ⟨0, Nat.zero_le _, rfl, by simp [wsum], by simp [wsum]; omega, Below.refl _ _⟩
    case round =>
      obtain ⟨k, hk, rfl, rfl, hge, hb⟩ := hrel
      by_cases hlt : k < xs.length
      · have hlater := h.below hb hF
        have hFr : ∀ b, F b → b < wr.heap.size := fun b hb' => Nat.lt_of_lt_of_le (hF b hb') hb.size
        obtain ⟨ad, A1, c1, A2, c2, rfl, hf, e1, e2, hl1, hl2, s1, s2⟩ := hlater.at_layer hlt
        have hsn := wsum_take Ly.w xs k hlt
        have hle := wsum_le Ly.w xs (k + 1)
        have hk1 : (k : Int) < xs.length := by omega
        generalize hL : left - (xs.length : Int) - (wsum Ly.w (xs.take k) : Int) = L at *
        by_cases hs : L < (Ly.w xs[k] : Nat)
        · have HX := Lib.hid (szRes_lt hs)
          have HY := Lib.hid (szRes_lt (l := left) (n := xs.length + wsum Ly.w xs) (by omega))
          have hLb : 0 ≤ L ∧ L ≤ 1048576 := by omega
          obtain ⟨hL0, hL1⟩ := hLb
          clear hsn hle hL hs
          go_wp2_with fail
          refine (szLayer_any xs[k] (ho _ (List.getElem_mem _)) A1 A2 c1 c2 L F _ s1 s2 hFr hL0 hL1).mono ?_
          rw [HX.out]
          rintro e w2 ⟨rfl, hb2⟩
          have hbb := bthen hb hb2
          go_wp2
          go_ret
          exact ⟨ret_int (by rw [HY.out]), hbb⟩
        · have HX := Lib.hid (szRes_ge hs)
          have HY := Lib.hid (show left - (xs.length : Int) - (wsum Ly.w (xs.take (k + 1)) : Int) = L - (Ly.w xs[k] : Nat) by omega)
          have hLb : 0 ≤ L ∧ L ≤ 1048576 := by omega
          obtain ⟨hL0, hL1⟩ := hLb
          have hwb : ((Ly.w xs[k] : Nat) : Int) ≤ L := by omega
          clear hsn hle hL hs
          go_wp2_with fail
          refine (szLayer_any xs[k] (ho _ (List.getElem_mem _)) A1 A2 c1 c2 L F _ s1 s2 hFr hL0 hL1).mono ?_
          rw [HX.out]
          rintro e w2 ⟨rfl, hb2⟩
          have hbb := bthen hb hb2
          generalize hM : L - ((Ly.w xs[k] : Nat) : Int) = M at *
          have hM0 : 0 ≤ M := by omega
          have HM := Lib.hid hM
          clear hM hwb
          go_wp2
          go_roundw
          case rel => exact ⟨k + 1, by omega, by go_num, by rw [HY.out], by rw [HY.out]; exact hM0, hbb⟩
          case measure => simp [intOf]; omega
      · have hke : k = xs.length := by omega
        have HE := Lib.hid (show szRes left (xs.length + wsum Ly.w xs) = left - xs.length - wsum Ly.w (xs.take k) by rw [szRes_ge (by rw [hke, List.take_length] at hge; omega), hke, List.take_length]; omega)
        go_wp2
        go_ret
        exact ⟨ret_int (by rw [HE.out]), hb⟩

end Go.Proofs.YtiahmfpfimmbgaaGreatDoor
