/- Clauses, what is put, unit propagation: the plain law. No program is named here. A drawn region whose operations but the last ones are quiet in every later world, and whose last ones come in one forced order. No program is named here. Contracts of the laws' sizes, copies and comparisons of clauses; the reference's CnfOk. The call's own rows of integers. append of one integer onto a row of the call's own, and where the row lies then. The program's sortOf, TermSort. -/
import Derived.StillTail
import Derived.Test.YtiahmfpfimmbgaaGreatDoorChecked
import Derived.Maps.OwnSet
import Derived.Test.YtiahmfpfimmbgaaGreatDoorJFnCtx0
import Derived.Test.YtiahmfpfimmbgaaGreatDoorJFnCtx1
import Derived.Test.YtiahmfpfimmbgaaGreatDoorJFnCtx2
import Derived.Test.YtiahmfpfimmbgaaGreatDoorJFnCtx4
/-! Clauses, what is put, unit propagation: the plain law. No program is named here. -/
namespace Go.Proofs.YtiahmfpfimmbgaaGreatDoor
open Go Go.RowKit

structure C where
  many : Int
  list : List (List Int)
/-- What is put: marks that are there, each at most once. -/
structure Good (many : Int) (put : List Int) : Prop where
  rng : ∀ l ∈ put, l ≠ 0 ∧ -many ≤ l ∧ l ≤ many
  nodup : (put.map Int.natAbs).Nodup
theorem Good.nil (many : Int) : Good many [] := ⟨by simp, by simp⟩
theorem mem_natAbs {put : List Int} {l : Int} : l.natAbs ∈ put.map Int.natAbs ↔ l ∈ put ∨ -l ∈ put := by
  rw [List.mem_map]
  constructor
  · rintro ⟨x, hx, he⟩
    have : x = l ∨ x = -l := by omega
    rcases this with rfl | rfl
    · exact .inl hx
    · exact .inr hx
  · rintro (h | h)
    · exact ⟨l, h, rfl⟩
    · exact ⟨-l, h, by omega⟩
theorem Good.snoc {many : Int} {put : List Int} {l : Int} (h : Good many put) (h0 : l ≠ 0) (h1 : -many ≤ l) (h2 : l ≤ many) (h3 : l ∉ put) (h4 : -l ∉ put) : Good many (put ++ [l]) := by
  refine ⟨fun x hx => ?_, ?_⟩
  · rcases List.mem_append.1 hx with hx | hx
    · exact h.rng x hx
    · rw [List.mem_singleton.1 hx]; exact ⟨h0, h1, h2⟩
  · rw [List.map_append]
    refine List.nodup_append.2 ⟨h.nodup, by simp, fun a ha b hb => ?_⟩
    simp only [List.map_cons, List.map_nil, List.mem_singleton] at hb
    rintro rfl
    rw [hb] at ha
    rcases mem_natAbs.1 ha with h' | h'
    · exact h3 h'
    · exact h4 h'
theorem nodup_bound : ∀ (m : Nat) (l : List Nat), l.Nodup → (∀ x ∈ l, 1 ≤ x ∧ x ≤ m) → l.length ≤ m
  | 0, l, _, h => by
    cases l with
    | nil => simp
    | cons x xs => have := h x (by simp); omega
  | m + 1, l, hn, h => by
    have h1 : (l.filter (fun x => x != m + 1)).length ≤ m := nodup_bound m _ (hn.filter _) (fun x hx => by
      have hx' := List.mem_filter.1 hx
      have := h x hx'.1
      have hne : x ≠ m + 1 := by simpa using hx'.2
      omega)
    have h2 : (l.filter (fun x => x == m + 1)).length ≤ 1 := by
      have : ∀ (l : List Nat), l.Nodup → (l.filter (fun x => x == m + 1)).length ≤ 1 := by
        intro l hn
        induction l with
        | nil => simp
        | cons x xs ih =>
          have hx := List.nodup_cons.1 hn
          by_cases e : x = m + 1
          · subst e
            have : xs.filter (fun x => x == m + 1) = [] := List.filter_eq_nil_iff.2 (fun y hy => by
              simp only [beq_iff_eq]; rintro rfl; exact hx.1 hy)
            simp [this]
          · have hf : (x == m + 1) = false := by simp [e]
            rw [List.filter_cons, hf]
            exact ih hx.2
      exact this l hn
    have h3 : l.length = (l.filter (fun x => x == m + 1)).length + (l.filter (fun x => x != m + 1)).length := by
      clear h hn h1 h2
      induction l with
      | nil => rfl
      | cons x xs ih =>
        by_cases e : x = m + 1
        · have h1 : (x == m + 1) = true := by simp [e]
          have h2 : (x != m + 1) = false := by simp [e]
          simp only [List.filter_cons, h1, h2, List.length_cons, if_true]
          simp only [Bool.false_eq_true, if_false]
          omega
        · have h1 : (x == m + 1) = false := by simp [e]
          have h2 : (x != m + 1) = true := by simp [e]
          simp only [List.filter_cons, h1, h2, List.length_cons, if_true]
          simp only [Bool.false_eq_true, if_false]
          omega
    omega
theorem Good.length {many : Int} {put : List Int} (h : Good many put) : put.length ≤ many.toNat := by
  have := nodup_bound many.toNat (put.map Int.natAbs) h.nodup (fun x hx => by
    obtain ⟨l, hl, rfl⟩ := List.mem_map.1 hx
    have := h.rng l hl
    omega)
  simpa using this
theorem Good.apart {many : Int} {put : List Int} (h : Good many put) {l : Int} (h1 : l ∈ put) (h2 : -l ∈ put) : False := by
  have h0 := (h.rng l h1).1
  have := h.nodup
  obtain ⟨i, hi, ei⟩ := List.getElem_of_mem h1
  obtain ⟨j, hj, ej⟩ := List.getElem_of_mem h2
  have hp := List.pairwise_iff_getElem.1 this
  have hne : i ≠ j := by
    rintro rfl
    rw [ei] at ej; omega
  rcases Nat.lt_or_ge i j with hlt | hge
  · exact hp i j (by simpa using hi) (by simpa using hj) hlt (by simp only [List.getElem_map, ei, ej]; omega)
  · exact hp j i (by simpa using hj) (by simpa using hi) (by omega) (by simp only [List.getElem_map, ei, ej]; omega)
/-- How a mark is: 1 put, -1 turned, 0 free. -/
def sg (put : List Int) (m : Int) : Int := if m ∈ put then 1 else if -m ∈ put then -1 else 0

/-- The look at a clause: nothing if one is put; else how many are free, and the last one of these. -/
def lk (put : List Int) : List Int → Int → Int → Option (Int × Int)
  | [], n, f => some (n, f)
  | l :: ls, n, f => if l ∈ put then none else if -l ∈ put then lk put ls n f else lk put ls (n + 1) l
/-- The first false clause, and the first one with a single free mark, and that one. -/
def fd (put : List Int) : List (List Int) → Int → Int → Int → Int × Int × Int
  | [], _, u, f => (-1, u, f)
  | cl :: cls, k, u, f => match lk put cl 0 0 with
    | none => fd put cls (k + 1) u f
    | some (n, m) => if n = 0 then (k, u, f) else if n = 1 ∧ u < 0 then fd put cls (k + 1) k m else fd put cls (k + 1) u f
/-- Unit propagation, with fuel. -/
def un (cs : List (List Int)) : Nat → List Int → List Int × Bool
  | 0, put => (put, false)
  | n + 1, put => if 0 ≤ (fd put cs 0 (-1) 0).1 then (put, true) else if (fd put cs 0 (-1) 0).2.1 < 0 then (put, false) else un cs n (put ++ [(fd put cs 0 (-1) 0).2.2])
theorem lk_free {many : Int} {put : List Int} : ∀ {cl : List Int} {n f n' f' : Int}, (∀ l ∈ cl, l ≠ 0 ∧ -many ≤ l ∧ l ≤ many) → (0 < n → f ≠ 0 ∧ -many ≤ f ∧ f ≤ many ∧ f ∉ put ∧ -f ∉ put) → 0 ≤ n → lk put cl n f = some (n', f') → 0 < n' → f' ≠ 0 ∧ -many ≤ f' ∧ f' ≤ many ∧ f' ∉ put ∧ -f' ∉ put
  | [], n, f, n', f', _, hf, _, h, hp => by
    simp only [lk, Option.some.injEq, Prod.mk.injEq] at h
    obtain ⟨rfl, rfl⟩ := h
    exact hf hp
  | l :: ls, n, f, n', f', hc, hf, h0, h, hp => by
    have hl := hc l (by simp)
    have hls : ∀ l ∈ ls, l ≠ 0 ∧ -many ≤ l ∧ l ≤ many := fun x hx => hc x (by simp [hx])
    simp only [lk] at h
    split at h
    · cases h
    · rename_i h1
      split at h
      · exact lk_free hls hf h0 h hp
      · rename_i h2
        exact lk_free hls (fun _ => ⟨hl.1, hl.2.1, hl.2.2, h1, h2⟩) (by omega) h hp
theorem fd_free {many : Int} {put : List Int} : ∀ {cs : List (List Int)} {k u f : Int}, (∀ cl ∈ cs, ∀ l ∈ cl, l ≠ 0 ∧ -many ≤ l ∧ l ≤ many) → (0 ≤ u → f ≠ 0 ∧ -many ≤ f ∧ f ≤ many ∧ f ∉ put ∧ -f ∉ put) → 0 ≤ k →
    0 ≤ (fd put cs k u f).2.1 → (fd put cs k u f).2.2 ≠ 0 ∧ -many ≤ (fd put cs k u f).2.2 ∧ (fd put cs k u f).2.2 ≤ many ∧ (fd put cs k u f).2.2 ∉ put ∧ -(fd put cs k u f).2.2 ∉ put
  | [], k, u, f, _, hf, _, h => hf h
  | cl :: cls, k, u, f, hc, hf, hk, h => by
    have hcl := hc cl (by simp)
    have hcls : ∀ cl ∈ cls, ∀ l ∈ cl, l ≠ 0 ∧ -many ≤ l ∧ l ≤ many := fun x hx => hc x (by simp [hx])
    simp only [fd] at h ⊢
    cases hlk : lk put cl 0 0 with
    | none =>
      rw [hlk] at h
      exact fd_free hcls hf (by omega) h
    | some p =>
      obtain ⟨n, m⟩ := p
      rw [hlk] at h
      dsimp only at h ⊢
      split at h
      · rename_i hn
        rw [if_pos hn]; exact hf h
      · rename_i hn
        rw [if_neg hn]
        split at h
        · rename_i h1
          rw [if_pos h1]
          exact fd_free hcls (fun _ => lk_free hcl (fun h => absurd h (by omega)) (by omega) hlk (by omega)) (by omega) h
        · rename_i h1
          rw [if_neg h1]
          exact fd_free hcls hf (by omega) h
/-- The next unit may be put. -/
theorem Good.next {many : Int} {put : List Int} {cs : List (List Int)} (h : Good many put) (hc : ∀ cl ∈ cs, ∀ l ∈ cl, l ≠ 0 ∧ -many ≤ l ∧ l ≤ many) (hu : 0 ≤ (fd put cs 0 (-1) 0).2.1) : Good many (put ++ [(fd put cs 0 (-1) 0).2.2]) := by
  have := fd_free hc (fun h => absurd h (by omega)) (Int.le_refl 0) hu
  exact h.snoc this.1 this.2.1 this.2.2.1 this.2.2.2.1 this.2.2.2.2
end Go.Proofs.YtiahmfpfimmbgaaGreatDoor

/-! A drawn region whose operations but the last ones are quiet in every later world, and whose last ones come in one forced order. No program is named here. -/
namespace Go.Proofs.YtiahmfpfimmbgaaGreatDoor
open Go Go.RowKit

section
variable {P : Program} {ops : Array Oper} {md : Region.Mode} {C : World → Prop}

end

end Go.Proofs.YtiahmfpfimmbgaaGreatDoor

/-! Contracts of the laws' sizes, copies and comparisons of clauses; the reference's CnfOk. -/
namespace Go.Proofs.YtiahmfpfimmbgaaGreatDoor
open Go Go.RowKit

theorem ne_len {n m : Nat} (h : n = m) : ((n : Int) != (m : Int)) = false := by simp [h]
theorem allSame_yes {α : Type} {f : α → α → Bool} {xs ys : List α} {k : Nat} {b : Bool} (h : allSame f xs ys = allSame f (xs.drop k) (ys.drop k)) (hx : k < xs.length) (hy : k < ys.length) (he : f xs[k] ys[k] = b) :
    allSame f xs ys = (b && allSame f (xs.drop (k + 1)) (ys.drop (k + 1))) := by rw [h, allSame_drop hx hy, he]
theorem allSame_end {α : Type} {f : α → α → Bool} {xs ys : List α} (h : allSame f xs ys = allSame f (xs.drop xs.length) (ys.drop xs.length)) (hl : xs.length = ys.length) : allSame f xs ys = true := by
  rw [h, List.drop_length, hl, List.drop_length]; rfl

end Go.Proofs.YtiahmfpfimmbgaaGreatDoor

/-! The call's own rows of integers. -/
namespace Go.Proofs.YtiahmfpfimmbgaaGreatDoor
open Go Go.RowKit

/-- The call's own row of integers. -/
def OwnI (w : World) (base : Nat) (v : Value) (xs : List Int) : Prop := w.ownsRow base 3 1 v xs.length (xs.map (Value.int .i64))
theorem OwnI.up {w w' : World} {base : Nat} {v : Value} {xs : List Int} (h : OwnI w base v xs) (hb : Below w.heap.size w w') : OwnI w' base v xs := own_below h hb (Nat.le_refl _)
theorem OwnI.form {w : World} {base : Nat} {v : Value} {xs : List Int} (h : OwnI w base v xs) : ∃ A c, v = .slice A xs.length c ∧ xs.length ≤ c ∧ Lay.int.Sl w (fun b => base ≤ b ∧ b < w.heap.size) A xs := by
  have hh := h
  unfold OwnI at h
  rcases h.2 with ⟨h1, h2⟩ | ⟨g, cap, cur, h1, _, _, h3, _⟩
  · subst h1
    have : xs = [] := List.eq_nil_of_length_eq_zero h2
    subst this
    exact ⟨none, 0, rfl, by simp, .nil _ _ _ _⟩
  · subst h1
    exact ⟨_, cap, rfl, h3, (sl_ints_of_own hh (fun g h1 h2 => ⟨h1, h2⟩)).1⟩
theorem OwnI.rd {w : World} {base c : Nat} {A : Option Addr} {xs : List Int} (h : OwnI w base (.slice A xs.length c) xs) : Lay.int.Rd w A xs := by
  obtain ⟨A', c', e, h1, h2⟩ := h.form
  injection e with e1 e2 e3
  subst e1
  exact h2.rd
end Go.Proofs.YtiahmfpfimmbgaaGreatDoor

/-! append of one integer onto a row of the call's own, and where the row lies then. -/
namespace Go.Proofs.YtiahmfpfimmbgaaGreatDoor
open Go Go.RowKit

theorem wpList_append_int8 {Q : Exit → Act → World → Prop} {ops : Array Oper} {rest : List Oper} {o : Oper} {a : Act} {W : World} {lo : Nat} {A : Option Addr} {c : Nat} {xs ys : List Int} {x : Int} {e' : TypeId} (hgd : o.guard = none) (s y : Operand)
    (ho : o.op = .call { callee := .builtin .append, args := #[s, y], argTypes := #[110, 110] }) (hs : a.eval s = .slice A xs.length c) (hy : a.eval y = .slice (some ⟨W.heap.size, 0, none⟩) 1 1)
    (hown : OwnI W lo (.slice A xs.length c) xs) (hn : xs.length ≤ 2000000) (hlo : lo ≤ W.heap.size) (hys : ys = xs ++ [x])
    (h : ∀ A' c' w', OwnI w' lo (.slice A' ys.length c') ys → W.grownBy w' (Value.slice A xs.length c).ownBlock →
      ((Value.slice A' ys.length c').ownBlock = (Value.slice A xs.length c).ownBlock ∨ ∃ g, (Value.slice A' ys.length c').ownBlock = some g ∧ W.heap.size ≤ g) → wpList Tryz.prog ops Q rest (a.put o.dst (.slice A' ys.length c')) w') :
    wpList Tryz.prog ops Q (o :: rest) a (W.alloc (.cells #[.int .i64 x] e')) := by
  obtain ⟨i0, hi0, hz0, hz1, hz2⟩ := info_parts int_info
  have hal : Below W.heap.size W (W.alloc (.cells #[.int .i64 x] e')) := (Below.refl _ _).alloc (Nat.le_refl _) _
  have hl : ys.length = xs.length + 1 := by rw [hys]; simp
  have hm : ys.map (Value.int .i64) = xs.map (Value.int .i64) ++ [.int .i64 x] := by rw [hys]; simp
  refine wpList_plain hgd fun _ hK => ?_
  obtain ⟨v', w', hrun, ho', hg', _, hbk⟩ := run_append_own_at (P := Tryz.prog) (W.alloc (.cells #[.int .i64 x] e')) lo 110 o.type 3 i0 _ 1 8 Tryz.underlying110 hi0 hz0 hz1 hz2 (by rfl) (by omega)
    (.slice A xs.length c) xs.length (xs.map (Value.int .i64)) (hown.up hal) ⟨W.heap.size, 0, none⟩ 1 1 [.int .i64 x] (by rfl) (fun j u hu => by
      have := World.news_of_block (heap_alloc_new W (.cells #[.int .i64 x] e')) j u hu
      exact this) (by simp; rfl) (by unfold maxLen; omega) (by omega) (Nat.le_trans hlo hal.size)
  rw [← hl, ← hm] at ho'
  obtain ⟨A', c', rfl, _, _⟩ := OwnI.form (xs := ys) ho'
  unfold Oper.wp execOp
  simp only [ho, resolve, invoke, builtin, Sem.run_bind, Sem.run_pure, Result.andThen_ok, List.map_toArray, List.map_cons, List.map_nil, hs, hy, hrun]
  refine hK _ _ (h A' c' w' ho' (grown_then hal hg') ?_)
  rcases hbk with e | e
  · exact .inl e
  · exact .inr ⟨_, e, hal.size⟩
end Go.Proofs.YtiahmfpfimmbgaaGreatDoor

/-! The program's sortOf, TermSort. -/
namespace Go.Proofs.YtiahmfpfimmbgaaGreatDoor
open Go Go.RowKit Go.Maps

theorem meth_fuel2 : Tryz.prog.types.size + Made.depth = 303 := by kernel_rfl
theorem zero_kind (w : World) : (zeroValue 149).run Tryz.prog w = .ok .nilIface w := by kernel_rfl
theorem KAt.look {w : World} {b n : Nat} {f : Int → Option Value} (h : KAt w b n f) (k : Int) (hk : i64 k) :
    ∃ v, (Instr.lookup 132 (.map (some b)) (.int .i64 k) true).run Tryz.prog w = .ok (.tuple #[v, .bool (f k).isSome]) w ∧ ∀ u, f k = some u → v = u := by
  obtain ⟨D, h1, h2⟩ := h
  obtain ⟨v, ps, hrun, hv⟩ := h1.look_ok int_kd Tryz.underlying132 (zero_kind w) (zd := .held .nilIface) (zp := []) rfl (keyI hk)
  refine ⟨v, by rw [← h2.has k hk]; exact hrun, fun u hu => ?_⟩
  rw [h2.at_ k u hk hu] at hv
  simp only [heldV, Option.some.injEq, Prod.mk.injEq, DataW.held.injEq] at hv
  exact hv.1
/-- The kind's method kids. -/
structure KMeth (v : Value) (T : TypeId) (p : Value) (s : ByteArray) (many : Int) : Prop where
  is : v = .iface T p
  ahead : ∀ w, (nilAhead (Tryz.prog.types.size + Made.depth) T p "loop.example/seedlip/impl.kids").run Tryz.prog w = .ok (some false) w
  meth : ∀ w, (Go.method (Tryz.prog.types.size + Made.depth) T p "loop.example/seedlip/impl.kids").run Tryz.prog w = .ok (163, .agg #[.string s, .int .i64 many]) w
theorem IsKind.kids {op : Int} {v : Value} (h : IsKind op v) : ∃ T p s, KMeth v T p s (arity op) := by
  cases h with
  | un _ h s =>
    have e : arity op = 1 := by rcases h with rfl | rfl <;> rfl
    rw [e]
    exact ⟨_, _, s, rfl, fun w => by kernel_rfl, fun w => by kernel_rfl⟩
  | bin _ h s =>
    have e : arity op = 2 := by
      unfold arity
      rw [if_neg (by omega), if_neg (by omega), if_neg (by omega), if_neg (by omega), if_neg (by omega), if_neg (by omega), if_neg (by omega), if_neg (by omega), if_neg (by omega), if_neg (by omega), if_pos (by omega), if_pos (by omega)]
    rw [e]
    exact ⟨_, _, s, rfl, fun w => by kernel_rfl, fun w => by kernel_rfl⟩
  | cat s => exact ⟨_, _, s, rfl, fun w => by kernel_rfl, fun w => by kernel_rfl⟩
  | cmp _ h s =>
    have e : arity op = 2 := by
      unfold arity
      rw [if_neg (by omega), if_neg (by omega), if_neg (by omega), if_neg (by omega), if_neg (by omega), if_neg (by omega), if_neg (by omega), if_neg (by omega), if_neg (by omega), if_neg (by omega), if_pos (by omega), if_pos (by omega)]
    rw [e]
    exact ⟨_, _, s, rfl, fun w => by kernel_rfl, fun w => by kernel_rfl⟩
  | vec s => exact ⟨_, _, s, rfl, fun w => by kernel_rfl, fun w => by kernel_rfl⟩
  | name s => exact ⟨_, _, s, rfl, fun w => by kernel_rfl, fun w => by kernel_rfl⟩
  | cut s => exact ⟨_, _, s, rfl, fun w => by kernel_rfl, fun w => by kernel_rfl⟩
  | cond s => exact ⟨_, _, s, rfl, fun w => by kernel_rfl, fun w => by kernel_rfl⟩
  | bool _ h s fn => exact ⟨_, _, s, rfl, fun w => by kernel_rfl, fun w => by kernel_rfl⟩
theorem arity_28 : ∀ n : Fin 28, (baseOp (n.val : Int) = true ∨ (3 ≤ (n.val : Int) ∧ (n.val : Int) < 14) ↔ arity (n.val : Int) ≠ -1) ∧ (arity (n.val : Int) = -1 ∨ 0 ≤ arity (n.val : Int)) := by decide
theorem arity_out {op : Int} (h : ¬ (0 ≤ op ∧ op < 28)) : arity op = -1 := by
  unfold arity
  rw [if_neg (by omega), if_neg (by omega), if_neg (by omega), if_neg (by omega), if_neg (by omega), if_neg (by omega), if_neg (by omega), if_neg (by omega), if_neg (by omega), if_neg (by omega)]
  by_cases h3 : 3 ≤ op
  · rw [if_pos h3, if_neg (by omega)]
  · rw [if_neg h3]
theorem arity_base (op : Int) : (baseOp op = true ∨ (3 ≤ op ∧ op < 14) ↔ arity op ≠ -1) ∧ (arity op = -1 ∨ 0 ≤ arity op) := by
  by_cases h : 0 ≤ op ∧ op < 28
  · have h9 := arity_28 ⟨op.toNat, by omega⟩
    dsimp only at h9
    rw [Int.toNat_of_nonneg h.1] at h9
    exact h9
  · have e := arity_out h
    refine ⟨⟨fun h9 => ?_, fun h9 => absurd e h9⟩, .inl e⟩
    exfalso
    simp only [baseOp, Bool.or_eq_true, beq_iff_eq] at h9
    omega
theorem Upto.at_ {f : Int → Option Value} (h : Upto 11 f) (op : Int) : (arity op = -1 ∧ f op = none) ∨ (0 ≤ arity op ∧ ∃ v, f op = some v ∧ IsKind op v) := by
  have h9 := h op
  obtain ⟨a1, a2⟩ := arity_base op
  have e : (3 : Int) + (11 : Nat) = 14 := by omega
  rw [e] at h9
  by_cases hc : baseOp op = true ∨ (3 ≤ op ∧ op < 14)
  · rw [if_pos hc] at h9
    exact .inr ⟨a2.resolve_left (a1.1 hc), h9⟩
  · rw [if_neg hc] at h9
    refine .inl ⟨?_, h9⟩
    by_cases h8 : arity op = -1
    · exact h8
    · exact absurd (a1.2 h8) hc
theorem srt_kid {ds : List D} {x : T} (k : Nat) (hk : k < x.kids.length) (h : srt ds x.kids[k] = -1) : srt ds x = -1 := by
  cases hp : plainT x with
  | false => exact srt_bad ds hp
  | true =>
    have har := plainT_many hp
    have := arity_le x.op
    rcases (by omega : x.kids.length = 1 ∨ x.kids.length = 2 ∨ x.kids.length = 3) with h1 | h1 | h1
    · rw [srt_one ds hp h1]
      obtain rfl : k = 0 := by omega
      rw [h]; unfold oneK; (repeat' split) <;> omega
    · rw [srt_two ds hp h1]
      rcases (by omega : k = 0 ∨ k = 1) with rfl | rfl <;> (rw [h]; unfold bothK; (repeat' split) <;> omega)
    · rw [srt_three ds hp h1]
      rcases (by omega : k = 0 ∨ k = 1 ∨ k = 2) with rfl | rfl | rfl <;> (rw [h]; unfold threeK; (repeat' split) <;> omega)
theorem arity_two {op : Int} (h : (3 ≤ op ∧ op ≤ 13) ∨ (14 ≤ op ∧ op ≤ 17)) : arity op = 2 := by
  unfold arity
  rw [if_neg (by omega), if_neg (by omega), if_neg (by omega), if_neg (by omega), if_neg (by omega), if_neg (by omega), if_neg (by omega), if_neg (by omega), if_neg (by omega), if_neg (by omega), if_pos (by omega), if_pos (by omega)]
theorem row1 {w : World} {A : Option Addr} {s : Int} (h : Lay.int.Rd w A [s]) : ∃ ad, A = some ad ∧ ad.block < w.heap.size ∧ w.cell? ad = some (.int .i64 s) := by
  obtain ⟨ad, e, hf, c0⟩ := Lay.Sl.at_int h (k := 0) (by simp)
  exact ⟨ad, e, hf, c0⟩
theorem row2 {w : World} {A : Option Addr} {s r : Int} (h : Lay.int.Rd w A [s, r]) : ∃ ad, A = some ad ∧ ad.block < w.heap.size ∧ w.cell? ad = some (.int .i64 s) ∧ w.cell? ⟨ad.block, ad.off + 1, none⟩ = some (.int .i64 r) := by
  obtain ⟨ad, e, hf, c0⟩ := Lay.Sl.at_int h (k := 0) (by simp)
  obtain ⟨ad', e', _, c1⟩ := Lay.Sl.at_int h (k := 1) (by simp)
  rw [e] at e'
  cases e'
  exact ⟨ad, e, hf, c0, c1⟩
theorem row3 {w : World} {A : Option Addr} {s r q : Int} (h : Lay.int.Rd w A [s, r, q]) : ∃ ad, A = some ad ∧ ad.block < w.heap.size ∧ w.cell? ad = some (.int .i64 s) ∧ w.cell? ⟨ad.block, ad.off + 1, none⟩ = some (.int .i64 r) ∧ w.cell? ⟨ad.block, ad.off + 2, none⟩ = some (.int .i64 q) := by
  obtain ⟨ad, e, hf, c0⟩ := Lay.Sl.at_int h (k := 0) (by simp)
  obtain ⟨ad', e', _, c1⟩ := Lay.Sl.at_int h (k := 1) (by simp)
  obtain ⟨ad2, e2, _, c2⟩ := Lay.Sl.at_int h (k := 2) (by simp)
  rw [e] at e' e2
  cases e'
  cases e2
  exact ⟨ad, e, hf, c0, c1, c2⟩
theorem srt_bool (ds : List D) {x : T} (hp : plainT x = true) (h : 24 ≤ x.op ∧ x.op ≤ 27) (h4 : ∀ q ∈ x.kids.map (srt ds), 0 ≤ q ∧ q ≤ 4) : srt ds x = boolK (x.kids.map (srt ds)) := by
  have har := plainT_many hp
  rcases (by omega : x.op = 24 ∨ x.op = 25 ∨ x.op = 26 ∨ x.op = 27) with e | e | e | e
  · have hl : x.kids.length = 0 := by rw [e, show arity 24 = 0 from rfl] at har; omega
    rw [srt_true ds hp e hl, List.eq_nil_of_length_eq_zero hl]; rfl
  · have hl : x.kids.length = 1 := by rw [e, show arity 25 = 1 from rfl] at har; omega
    rw [srt_one ds hp hl, e]
    have e2 : x.kids.map (srt ds) = [srt ds x.kids[0]] := by
      conv => lhs; rw [list_one hl]
      rfl
    rw [e2] at h4 ⊢
    generalize srt ds x.kids[0] = s at *
    have := h4 s (by simp)
    by_cases h0 : s = 0
    · subst h0; rfl
    · have e3 : boolK [s] = -1 := by unfold boolK; rw [if_neg (by simpa using h0)]
      rw [e3]; unfold oneK; (repeat' split) <;> omega
  · have hl : x.kids.length = 2 := by rw [e, show arity 26 = 2 from rfl] at har; omega
    rw [srt_two ds hp hl, e]
    have e2 : x.kids.map (srt ds) = [srt ds x.kids[0], srt ds x.kids[1]] := by
      conv => lhs; rw [list_two hl]
      rfl
    rw [e2]
    generalize srt ds x.kids[0] = s at *
    generalize srt ds x.kids[1] = q at *
    unfold bothK boolK
    rw [if_pos (.inl rfl)]
    by_cases h0 : s = 0
    · by_cases h1 : q = 0
      · subst h0; subst h1; rfl
      · rw [if_pos h0, if_neg h1, if_neg (by simp [h1])]
    · rw [if_neg h0, if_neg (by simp [h0])]
  · have hl : x.kids.length = 2 := by rw [e, show arity 27 = 2 from rfl] at har; omega
    rw [srt_two ds hp hl, e]
    have e2 : x.kids.map (srt ds) = [srt ds x.kids[0], srt ds x.kids[1]] := by
      conv => lhs; rw [list_two hl]
      rfl
    rw [e2]
    generalize srt ds x.kids[0] = s at *
    generalize srt ds x.kids[1] = q at *
    unfold bothK boolK
    rw [if_pos (.inr rfl)]
    by_cases h0 : s = 0
    · by_cases h1 : q = 0
      · subst h0; subst h1; rfl
      · rw [if_pos h0, if_neg h1, if_neg (by simp [h1])]
    · rw [if_neg h0, if_neg (by simp [h0])]
theorem own_nilT (w : World) (lo : Nat) : OwnI w lo (.slice none ([] : List Int).length 0) [] := ⟨by simp, .inl ⟨rfl, rfl⟩⟩
theorem T.All.three {t : T} (h : T.All okT3 t) : T.All okT2 t := h.imp fun _ h => h.1
/-- What the program's sortOf is asked. -/
def SortT (ds : List D) (t : T) : Prop := ∀ (A B : Option Addr) (c d M n : Nat) (f : Int → Option Value) (F : Nat → Prop) (w : World), KAt w M n f → Upto 11 f → Lay.term.Sl w F A t.kids → Lay.decl.Sl w F B ds → (∀ b, F b → b < w.heap.size) →
  Calls Tryz.prog 115 #[.map (some M), .slice B ds.length d, .agg #[.int .i64 t.op, .int .i64 t.a, .int .i64 t.b, .string t.name, .slice A t.kids.length c]] w fun e w' => e = .returned (.int .i64 (srt ds t)) ∧ Below w.heap.size w w'
set_option maxRecDepth 100000 in
set_option maxHeartbeats 8000000 in
theorem sortOf_any (ds : List D) (hw : ∀ x ∈ ds, 1 ≤ x.wide ∧ x.wide ≤ 4) (hd4 : ds.length ≤ 9223372036854775807) (t : T) (ho : T.All okT3 t) : SortT ds t := by
  revert ho
  refine T.ind (p := fun x => T.All okT3 x → SortT ds x) (fun x ih ho => ?_) t
  obtain ⟨⟨hkl, _⟩, hop⟩ := ho.here
  have ihk : ∀ k ∈ x.kids, SortT ds k := fun k hk => ih k hk (ho.kid k hk)
  clear ih ho
  intro A B c d M n f F w hkm hup h hd hF
  have hal : Below w.heap.size w (w.alloc (.cells #[.int .i64 x.op, .int .i64 x.a, .int .i64 x.b, .string x.name, .slice A x.kids.length c] 48)) := (Below.refl _ _).alloc (Nat.le_refl _) _
  have hFW : ∀ b, F b → b < (w.alloc (.cells #[.int .i64 x.op, .int .i64 x.a, .int .i64 x.b, .string x.name, .slice A x.kids.length c] 48)).heap.size := fun b hb => Nat.lt_of_lt_of_le (hF b hb) hal.size
  have H := Lib.hid (h.below hal hF)
  have HD := Lib.hid (hd.below hal hF)
  have hkW := hkm.up hal hkm.lt
  obtain ⟨v, hlk, hv⟩ := hkW.look x.op hop
  have hB := heap_alloc_new w (.cells #[.int .i64 x.op, .int .i64 x.a, .int .i64 x.b, .string x.name, .slice A x.kids.length c] 48)
  obtain ⟨r, hr⟩ : ∃ r, r = srt ds x := ⟨_, rfl⟩
  rw [← hr]
  have HR := Lib.hid hr
  have HAL := Lib.hid hal
  clear hr h hd hal
  have v0 := (cell_of_block hB 0).1
  have v1 := (cell_of_block hB 1).1
  have v2 := (cell_of_block hB 2).1
  have v3 := (cell_of_block hB 3).1
  have v4 := (cell_of_block hB 4).1
  rcases hup.at_ x.op with ⟨har, hnone⟩ | ⟨har, u, hsome, hkind⟩
  · have HX : Hid (r = -1) := Lib.hid (by
      rw [HR.out]
      cases hp : plainT x with
      | false => exact srt_bad ds hp
      | true => have := plainT_many hp; omega)
    rw [hnone] at hlk
    clear hv hnone har ihk
    go_enter Tryz.func115, Tryz.ntmps115
    go_wp2
    go_quiet (fail)
    go_wp2
    go_ret
    exact ⟨ret_int (by rw [HX.out]), below_drewN HAL.out _⟩
  obtain rfl := hv u hsome
  rw [hsome] at hlk
  obtain ⟨T9, p9, s9, rfl, ka, km⟩ := hkind.kids
  rw [meth_fuel2] at ka km
  clear hv hsome
  obtain ⟨ar, hare⟩ : ∃ ar, ar = arity x.op := ⟨_, rfl⟩
  rw [← hare] at km har
  by_cases hlen : (x.kids.length : Int) = ar
  rotate_left
  · have HX : Hid (r = -1) := Lib.hid (by
      rw [HR.out]
      cases hp : plainT x with
      | false => exact srt_bad ds hp
      | true => exact absurd ((plainT_many hp).trans hare.symm) hlen)
    have gl : ((x.kids.length : Int) != ar) = true := bne_iff_ne.2 hlen
    clear hkind hlen hare har ihk hB
    go_enter Tryz.func115, Tryz.ntmps115
    go_wp2
    generalize w.alloc (.cells #[.int .i64 x.op, .int .i64 x.a, .int .i64 x.b, .string x.name, .slice A x.kids.length c] 48) = W at *
    have d0 := Later.cell v0
    have d4 := Later.cell v4
    refine wp_region_later (by kernel_rfl) (by kernel_rfl) ?_
    repeat (go_big_quiet_step ((go_at_call 163; exact later_of_below (kids_any _ _ _))))
    refine wpQuiet_nil ?_
    rintro _ ⟨y, rfl⟩
    go_wp2
    go_ret
    exact ⟨ret_int (by rw [HX.out]), bthen HAL.out y.le⟩
  have gl : ((x.kids.length : Int) != ar) = false := by simpa using hlen
  have HP := Lib.hid (fun z => plain_any x.op x.a x.b x.name A x.kids.length c z)
  obtain ⟨pl, hpl⟩ : ∃ pl, pl = (plainN x.op x.name && plainV x.op x.a x.b) := ⟨_, rfl⟩
  rw [← hpl] at HP
  have hpt : plainT x = pl := by
    unfold plainT
    rw [← hpl, ← hare, beq_iff_eq.2 hlen, Bool.and_true]
  have HPT := Lib.hid hpt
  have HKD := Lib.hid hkind
  have HAR := Lib.hid (show (x.kids.length : Int) = arity x.op from hlen.trans hare)
  have HIK := Lib.hid ihk
  have HB := Lib.hid hB
  clear hpl hpt hkind hlen hare har ihk hB
  go_enter Tryz.func115, Tryz.ntmps115
  go_wp2
  generalize w.alloc (.cells #[.int .i64 x.op, .int .i64 x.a, .int .i64 x.b, .string x.name, .slice A x.kids.length c] 48) = W at *
  have d0 := Later.cell v0
  have d1 := Later.cell v1
  have d2 := Later.cell v2
  have d3 := Later.cell v3
  have d4 := Later.cell v4
  refine wp_region_later (by kernel_rfl) (by kernel_rfl) ?_
  repeat (go_big_quiet_step ((first | (go_at_call 163; exact later_of_below (kids_any _ _ _)) | (go_at_call 131; exact later_of_below (HP.out _)))))
  refine wpQuiet_nil ?_
  rintro _ ⟨y, rfl⟩
  obtain ⟨W1, hy⟩ := y
  dsimp only
  have HAL := Lib.hid (bthen HAL.out hy)
  clear d0 d1 d2 d3 d4 gl ka km HP
  cases pl
  · have HX : Hid (r = -1) := Lib.hid (by rw [HR.out]; exact srt_bad ds HPT.out)
    go_wp2
    go_ret
    exact ⟨ret_int (by rw [HX.out]), HAL.out⟩
  have H := Lib.hid (H.out.below hy hFW)
  have HD := Lib.hid (HD.out.below hy hFW)
  have hF1 : ∀ b, F b → b < W1.heap.size := fun b hb => Nat.lt_of_lt_of_le (hFW b hb) hy.size
  have hkm1 := hkW.up hy hkW.lt
  have HB := Lib.hid ((hy.block _ (lt_of_block HB.out)).trans HB.out)
  have v4 := (cell_of_block HB.out 4).1
  have v0 := (cell_of_block HB.out 0).1
  clear hlk hkW hFW hy hkm v1 v2 v3
  simp only [Bool.not_true]
  go_wp2
  go_loopw [9, 38] (fun a i wr => ∃ (k : Nat) (ss : List Int) (A9 : Option Addr) (c9 : Nat), k ≤ x.kids.length ∧ a = .slice A9 ss.length c9 ∧ i = .int .i64 k ∧ OwnI wr W1.heap.size (.slice A9 ss.length c9) ss ∧ Below W1.heap.size W1 wr ∧ Hid (ss = (x.kids.take k).map (srt ds)) ∧ Hid (∀ s ∈ ss, 0 ≤ s ∧ s ≤ 4)) (fun _ i _ => x.kids.length - (intOf i).toNat)
  case atStart => exact ⟨0, [], none, 0, Nat.zero_le _, rfl, rfl, own_nilT _ _, Below.refl _ _, Lib.hid (by simp), Lib.hid (by simp)⟩
  case round =>
    obtain ⟨k, ss, A9, c99, hk, rfl, rfl, hown, hb, HSS, HS4⟩ := hrel
    have HBR := Lib.hid ((hb.block _ (lt_of_block HB.out)).trans HB.out)
    have hkr := hkm1.up hb hkm1.lt
    by_cases hlt9 : k < x.kids.length
    · have hk1 : (k : Int) < x.kids.length := by omega
      have hFr : ∀ y, F y → y < wr.heap.size := fun y hy => Nat.lt_of_lt_of_le (hF1 y hy) hb.size
      obtain ⟨ad, A1, c9, rfl, hf, c1, c2, c3, c4, c5, hcc, hkk⟩ := (H.out.below hb hF1).at_term hlt9
      have hal : Below wr.heap.size wr (wr.alloc (.cells #[.int .i64 x.kids[k].op, .int .i64 x.kids[k].a, .int .i64 x.kids[k].b, .string x.kids[k].name, .slice A1 x.kids[k].kids.length c9] 48)) := (Below.refl _ _).alloc (Nat.le_refl _) _
      have HAL2 := Lib.hid (bthen hb hal)
      have HI := Lib.hid (HIK.out _ (List.getElem_mem hlt9) A1 B c9 d M n f F _ (hkr.up hal hkr.lt) hup (hkk.below hal hFr) ((HD.out.below hb hF1).below hal hFr) (fun y hy => Nat.lt_of_lt_of_le (hFr y hy) hal.size))
      have hbd := srt_bounds hw x.kids[k]
      have hssl : ss.length = k := by rw [HSS.out]; simp; omega
      have HON := Lib.hid (hown.up hal)
      obtain ⟨s, hs⟩ : ∃ s, s = srt ds x.kids[k] := ⟨_, rfl⟩
      rw [← hs] at HI hbd
      have HSK := Lib.hid hs
      have HSL := Lib.hid hssl
      clear hs hown hkr hkk hssl
      go_wp2_with fail
      generalize wr.alloc (.cells #[.int .i64 x.kids[k].op, .int .i64 x.kids[k].a, .int .i64 x.kids[k].b, .string x.kids[k].name, .slice A1 x.kids[k].kids.length c9] 48) = w1 at *
      refine HI.out.mono ?_
      rintro e w2 ⟨rfl, hb2⟩
      have HB2 := Lib.hid (bthen HAL2.out hb2)
      have hON2 := HON.out.up hb2
      clear hb2 hal HI HON
      by_cases hs1 : s = -1
      · have HX : Hid (r = -1) := Lib.hid (by rw [HR.out]; exact srt_kid k hlt9 (by rw [← HSK.out]; exact hs1))
        subst hs1
        go_wp2
        go_ret
        exact ⟨ret_int (by rw [HX.out]), bthen HAL.out HB2.out⟩
      · have gs : (s == -1) = false := by simpa using hs1
        obtain ⟨ps, hps⟩ : ∃ ps, ps = ss ++ [s] := ⟨_, rfl⟩
        have HPS := Lib.hid hps
        have HPX : Hid (ps = (x.kids.take (k + 1)).map (srt ds)) := Lib.hid (by rw [hps, List.take_succ_eq_append_getElem hlt9, List.map_append, ← HSS.out, HSK.out]; rfl)
        have HP4 : Hid (∀ q ∈ ps, 0 ≤ q ∧ q ≤ 4) := Lib.hid (by
          intro q hq
          rw [hps] at hq
          rcases List.mem_append.1 hq with hq | hq
          · exact HS4.out q hq
          · obtain rfl := List.mem_singleton.1 hq
            omega)
        have hsz := HB2.out.size
        have hl2 : ss.length ≤ 2000000 := by have := HSL.out; omega
        clear hps hs1
        go_wp2_with (at_builtin; refine wpList_append_int8 (ys := ps) (by rfl) (.tmp 48) (.tmp 50) (by rfl) (by rfl) (by rfl) hON2 hl2 hsz HPS.out ?_; intro A3 c3 w3 hown3 hg3 hbk3; have HB3 := Lib.hid (HB2.out.grown hg3 hsz (fun g e => (hON2.lt g e).1)); have HO3 := Lib.hid hown3; clear hg3 hbk3 hown3)
        go_roundw
        case rel => exact ⟨k + 1, ps, A3, c3, by omega, rfl, by go_num, HO3.out, HB3.out, HPX, HP4⟩
        case measure => simp [intOf]; omega
    · have hke : k = x.kids.length := by omega
      subst hke
      have HSS2 : Hid (ss = x.kids.map (srt ds)) := Lib.hid (by rw [HSS.out, List.take_length])
      have HALL := Lib.hid (bthen HAL.out hb)
      have hl9 : ss.length ≤ 9223372036854775807 := by rw [HSS2.out]; simp; omega
      have hFr : ∀ y, F y → y < wr.heap.size := fun y hy => Nat.lt_of_lt_of_le (hF1 y hy) hb.size
      have hdr := HD.out.below hb hF1
      have hrow := hown.rd
      have v0 := (cell_of_block HBR.out 0).1
      have v1 := (cell_of_block HBR.out 1).1
      have v2 := (cell_of_block HBR.out 2).1
      have v3 := (cell_of_block HBR.out 3).1
      have v4 := (cell_of_block HBR.out 4).1
      have hk9 := HKD.out
      obtain ⟨o, ho⟩ : ∃ o, o = x.op := ⟨_, rfl⟩
      rw [← ho] at hk9
      clear hown hkr hkm1 hb
      cases hk9 with
      | un _ h s =>
        have hl : x.kids.length = 1 := by have h9 := HAR.out; rw [← ho, show arity o = 1 by rcases h with rfl | rfl <;> rfl] at h9; omega
        have hss : ss = [srt ds x.kids[0]] := by
          rw [HSS2.out]
          conv => lhs; rw [list_one hl]
          rfl
        obtain ⟨s0, hs0⟩ : ∃ s, s = srt ds x.kids[0] := ⟨_, rfl⟩
        rw [← hs0] at hss
        subst hss
        have bs0 := HS4.out s0 (by simp)
        obtain ⟨ad, rfl, hblk, k0⟩ := row1 hrow
        have ka : ∀ w, (nilAhead 303 156 (.agg #[.string s, .int .i64 1]) "loop.example/seedlip/impl.sort").run Tryz.prog w = .ok (some false) w := fun w => by kernel_rfl
        have km : ∀ w, (Go.method 303 156 (.agg #[.string s, .int .i64 1]) "loop.example/seedlip/impl.sort").run Tryz.prog w = .ok (165, .agg #[.string s, .int .i64 1]) w := fun w => by kernel_rfl
        have HX : Hid (r = unK s0) := Lib.hid (by rw [HR.out, srt_one ds HPT.out hl, ← hs0, ← ho]; unfold oneK unK; rcases h with rfl | rfl <;> (repeat' split) <;> omega)
        have HC := Lib.hid (unSort_any s 1 (.slice B ds.length d) x.op x.a x.b x.name A x.kids.length c s0 ad c99 wr bs0 hblk k0)
        rw [← HX.out] at HC
        clear hrow HKD HSS2 HSS HS4 HPT HR HIK H HD HAR ho hs0 hl
        go_wp2_with fail
        refine HC.out.mono ?_
        rintro e w9 ⟨rfl, hb9⟩
        have HE9 := Lib.hid (bthen HALL.out hb9)
        clear hb9
        go_wp2
        go_ret
        exact ⟨rfl, HE9.out⟩
      | bin _ h s =>
        have hl : x.kids.length = 2 := by have h9 := HAR.out; rw [← ho, arity_two (by omega)] at h9; omega
        have hss : ss = [srt ds x.kids[0], srt ds x.kids[1]] := by
          rw [HSS2.out]
          conv => lhs; rw [list_two hl]
          rfl
        obtain ⟨s0, hs0⟩ : ∃ s, s = srt ds x.kids[0] := ⟨_, rfl⟩
        obtain ⟨s1, hs1⟩ : ∃ s, s = srt ds x.kids[1] := ⟨_, rfl⟩
        rw [← hs0, ← hs1] at hss
        subst hss
        have bs0 := HS4.out s0 (by simp)
        have bs1 := HS4.out s1 (by simp)
        obtain ⟨ad, rfl, hblk, k0, k1⟩ := row2 hrow
        have ka : ∀ w, (nilAhead 303 167 (.agg #[.string s, .int .i64 2]) "loop.example/seedlip/impl.sort").run Tryz.prog w = .ok (some false) w := fun w => by kernel_rfl
        have km : ∀ w, (Go.method 303 167 (.agg #[.string s, .int .i64 2]) "loop.example/seedlip/impl.sort").run Tryz.prog w = .ok (187, .agg #[.string s, .int .i64 2]) w := fun w => by kernel_rfl
        have HX : Hid (r = binK s0 s1) := Lib.hid (by rw [HR.out, srt_two ds HPT.out hl, ← hs0, ← hs1, ← ho]; unfold bothK binK; (repeat' split) <;> omega)
        have HC := Lib.hid (binSort_any s 2 (.slice B ds.length d) x.op x.a x.b x.name A x.kids.length c s0 s1 ad c99 wr bs0 bs1 hblk k0 k1)
        rw [← HX.out] at HC
        clear hrow HKD HSS2 HSS HS4 HPT HR HIK H HD HAR ho hs0 hs1 hl
        go_wp2_with fail
        refine HC.out.mono ?_
        rintro e w9 ⟨rfl, hb9⟩
        have HE9 := Lib.hid (bthen HALL.out hb9)
        clear hb9
        go_wp2
        go_ret
        exact ⟨rfl, HE9.out⟩
      | cat s =>
        have hl : x.kids.length = 2 := by have h9 := HAR.out; rw [← ho, show arity 14 = 2 from rfl] at h9; omega
        have hss : ss = [srt ds x.kids[0], srt ds x.kids[1]] := by
          rw [HSS2.out]
          conv => lhs; rw [list_two hl]
          rfl
        obtain ⟨s0, hs0⟩ : ∃ s, s = srt ds x.kids[0] := ⟨_, rfl⟩
        obtain ⟨s1, hs1⟩ : ∃ s, s = srt ds x.kids[1] := ⟨_, rfl⟩
        rw [← hs0, ← hs1] at hss
        subst hss
        have bs0 := HS4.out s0 (by simp)
        have bs1 := HS4.out s1 (by simp)
        obtain ⟨ad, rfl, hblk, k0, k1⟩ := row2 hrow
        have ka : ∀ w, (nilAhead 303 157 (.agg #[.string s, .int .i64 2]) "loop.example/seedlip/impl.sort").run Tryz.prog w = .ok (some false) w := fun w => by kernel_rfl
        have km : ∀ w, (Go.method 303 157 (.agg #[.string s, .int .i64 2]) "loop.example/seedlip/impl.sort").run Tryz.prog w = .ok (168, .agg #[.string s, .int .i64 2]) w := fun w => by kernel_rfl
        have HX : Hid (r = catK s0 s1) := Lib.hid (by rw [HR.out, srt_two ds HPT.out hl, ← hs0, ← hs1, ← ho]; unfold bothK catK; (repeat' split) <;> omega)
        have HC := Lib.hid (catSort_any s 2 (.slice B ds.length d) x.op x.a x.b x.name A x.kids.length c s0 s1 ad c99 wr bs0 bs1 hblk k0 k1)
        rw [← HX.out] at HC
        clear hrow HKD HSS2 HSS HS4 HPT HR HIK H HD HAR ho hs0 hs1 hl
        go_wp2_with fail
        refine HC.out.mono ?_
        rintro e w9 ⟨rfl, hb9⟩
        have HE9 := Lib.hid (bthen HALL.out hb9)
        clear hb9
        go_wp2
        go_ret
        exact ⟨rfl, HE9.out⟩
      | cmp _ h s =>
        have hl : x.kids.length = 2 := by have h9 := HAR.out; rw [← ho, arity_two (by omega)] at h9; omega
        have hss : ss = [srt ds x.kids[0], srt ds x.kids[1]] := by
          rw [HSS2.out]
          conv => lhs; rw [list_two hl]
          rfl
        obtain ⟨s0, hs0⟩ : ∃ s, s = srt ds x.kids[0] := ⟨_, rfl⟩
        obtain ⟨s1, hs1⟩ : ∃ s, s = srt ds x.kids[1] := ⟨_, rfl⟩
        rw [← hs0, ← hs1] at hss
        subst hss
        have bs0 := HS4.out s0 (by simp)
        have bs1 := HS4.out s1 (by simp)
        obtain ⟨ad, rfl, hblk, k0, k1⟩ := row2 hrow
        have ka : ∀ w, (nilAhead 303 158 (.agg #[.string s, .int .i64 2]) "loop.example/seedlip/impl.sort").run Tryz.prog w = .ok (some false) w := fun w => by kernel_rfl
        have km : ∀ w, (Go.method 303 158 (.agg #[.string s, .int .i64 2]) "loop.example/seedlip/impl.sort").run Tryz.prog w = .ok (170, .agg #[.string s, .int .i64 2]) w := fun w => by kernel_rfl
        have HX : Hid (r = cmpK s0 s1) := Lib.hid (by rw [HR.out, srt_two ds HPT.out hl, ← hs0, ← hs1, ← ho]; unfold bothK cmpK; (repeat' split) <;> omega)
        have HC := Lib.hid (cmpSort_any s 2 (.slice B ds.length d) x.op x.a x.b x.name A x.kids.length c s0 s1 ad c99 wr bs0 bs1 hblk k0 k1)
        rw [← HX.out] at HC
        clear hrow HKD HSS2 HSS HS4 HPT HR HIK H HD HAR ho hs0 hs1 hl
        go_wp2_with fail
        refine HC.out.mono ?_
        rintro e w9 ⟨rfl, hb9⟩
        have HE9 := Lib.hid (bthen HALL.out hb9)
        clear hb9
        go_wp2
        go_ret
        exact ⟨rfl, HE9.out⟩
      | vec s =>
        have hl : x.kids.length = 0 := by have h9 := HAR.out; rw [← ho, show arity 20 = 0 from rfl] at h9; omega
        have ka : ∀ w, (nilAhead 303 159 (.agg #[.string s, .int .i64 0]) "loop.example/seedlip/impl.sort").run Tryz.prog w = .ok (some false) w := fun w => by kernel_rfl
        have km : ∀ w, (Go.method 303 159 (.agg #[.string s, .int .i64 0]) "loop.example/seedlip/impl.sort").run Tryz.prog w = .ok (172, .agg #[.string s, .int .i64 0]) w := fun w => by kernel_rfl
        have HX : Hid (r = vecK x.a x.b) := Lib.hid (by rw [HR.out, srt_vec ds HPT.out ho.symm hl]; rfl)
        have HC := Lib.hid (vecSort_any s 0 (.slice B ds.length d) (.slice A9 ss.length c99) x.op x.a x.b x.name A x.kids.length c wr)
        rw [← HX.out] at HC
        clear hrow HKD HSS2 HSS HS4 HPT HR HIK H HD HAR ho hl
        go_wp2_with fail
        refine HC.out.mono ?_
        rintro e w9 ⟨rfl, hb9⟩
        have HE9 := Lib.hid (bthen HALL.out hb9)
        clear hb9
        go_wp2
        go_ret
        exact ⟨rfl, HE9.out⟩
      | name s =>
        have hl : x.kids.length = 0 := by have h9 := HAR.out; rw [← ho, show arity 21 = 0 from rfl] at h9; omega
        have ka : ∀ w, (nilAhead 303 160 (.agg #[.string s, .int .i64 0]) "loop.example/seedlip/impl.sort").run Tryz.prog w = .ok (some false) w := fun w => by kernel_rfl
        have km : ∀ w, (Go.method 303 160 (.agg #[.string s, .int .i64 0]) "loop.example/seedlip/impl.sort").run Tryz.prog w = .ok (175, .agg #[.string s, .int .i64 0]) w := fun w => by kernel_rfl
        have HX : Hid (r = nameK ds x.name) := Lib.hid (by rw [HR.out, srt_name ds HPT.out ho.symm hl])
        have HC := Lib.hid (nameSort_any s 0 (.slice A9 ss.length c99) B d ds x.op x.a x.b x.name A x.kids.length c F wr hdr hFr hd4)
        rw [← HX.out] at HC
        clear hrow HKD HSS2 HSS HS4 HPT HR HIK H HD HAR ho hl
        go_wp2_with fail
        refine HC.out.mono ?_
        rintro e w9 ⟨rfl, hb9⟩
        have HE9 := Lib.hid (bthen HALL.out hb9)
        clear hb9
        go_wp2
        go_ret
        exact ⟨rfl, HE9.out⟩
      | cut s =>
        have hl : x.kids.length = 1 := by have h9 := HAR.out; rw [← ho, show arity 22 = 1 from rfl] at h9; omega
        have hss : ss = [srt ds x.kids[0]] := by
          rw [HSS2.out]
          conv => lhs; rw [list_one hl]
          rfl
        obtain ⟨s0, hs0⟩ : ∃ s, s = srt ds x.kids[0] := ⟨_, rfl⟩
        rw [← hs0] at hss
        subst hss
        have bs0 := HS4.out s0 (by simp)
        obtain ⟨ad, rfl, hblk, k0⟩ := row1 hrow
        have ka : ∀ w, (nilAhead 303 161 (.agg #[.string s, .int .i64 1]) "loop.example/seedlip/impl.sort").run Tryz.prog w = .ok (some false) w := fun w => by kernel_rfl
        have km : ∀ w, (Go.method 303 161 (.agg #[.string s, .int .i64 1]) "loop.example/seedlip/impl.sort").run Tryz.prog w = .ok (178, .agg #[.string s, .int .i64 1]) w := fun w => by kernel_rfl
        have HX : Hid (r = cutK x.a x.b s0) := Lib.hid (by rw [HR.out, srt_one ds HPT.out hl, ← hs0, ← ho]; unfold oneK cutK; (repeat' split) <;> omega)
        have HC := Lib.hid (cutSort_any s 1 (.slice B ds.length d) x.op x.a x.b x.name A x.kids.length c s0 ad c99 wr bs0 hblk k0)
        rw [← HX.out] at HC
        clear hrow HKD HSS2 HSS HS4 HPT HR HIK H HD HAR ho hs0 hl
        go_wp2_with fail
        refine HC.out.mono ?_
        rintro e w9 ⟨rfl, hb9⟩
        have HE9 := Lib.hid (bthen HALL.out hb9)
        clear hb9
        go_wp2
        go_ret
        exact ⟨rfl, HE9.out⟩
      | cond s =>
        have hl : x.kids.length = 3 := by have h9 := HAR.out; rw [← ho, show arity 23 = 3 from rfl] at h9; omega
        have hss : ss = [srt ds x.kids[0], srt ds x.kids[1], srt ds x.kids[2]] := by
          rw [HSS2.out]
          conv => lhs; rw [list_three hl]
          rfl
        obtain ⟨s0, hs0⟩ : ∃ s, s = srt ds x.kids[0] := ⟨_, rfl⟩
        obtain ⟨s1, hs1⟩ : ∃ s, s = srt ds x.kids[1] := ⟨_, rfl⟩
        obtain ⟨s2, hs2⟩ : ∃ s, s = srt ds x.kids[2] := ⟨_, rfl⟩
        rw [← hs0, ← hs1, ← hs2] at hss
        subst hss
        have bs0 := HS4.out s0 (by simp)
        have bs1 := HS4.out s1 (by simp)
        have bs2 := HS4.out s2 (by simp)
        obtain ⟨ad, rfl, hblk, k0, k1, k2⟩ := row3 hrow
        have ka : ∀ w, (nilAhead 303 162 (.agg #[.string s, .int .i64 3]) "loop.example/seedlip/impl.sort").run Tryz.prog w = .ok (some false) w := fun w => by kernel_rfl
        have km : ∀ w, (Go.method 303 162 (.agg #[.string s, .int .i64 3]) "loop.example/seedlip/impl.sort").run Tryz.prog w = .ok (180, .agg #[.string s, .int .i64 3]) w := fun w => by kernel_rfl
        have HX : Hid (r = threeK s0 s1 s2) := Lib.hid (by rw [HR.out, srt_three ds HPT.out hl, ← hs0, ← hs1, ← hs2])
        have HC := Lib.hid (ifSort_any s 3 (.slice B ds.length d) x.op x.a x.b x.name A x.kids.length c s0 s1 s2 ad c99 wr bs0 bs1 bs2 hblk k0 k1 k2)
        rw [← HX.out] at HC
        clear hrow HKD HSS2 HSS HS4 HPT HR HIK H HD HAR ho hs0 hs1 hs2 hl
        go_wp2_with fail
        refine HC.out.mono ?_
        rintro e w9 ⟨rfl, hb9⟩
        have HE9 := Lib.hid (bthen HALL.out hb9)
        clear hb9
        go_wp2
        go_ret
        exact ⟨rfl, HE9.out⟩
      | bool _ h s fn =>
        have ka : ∀ w, (nilAhead 303 166 (.agg #[.string s, .int .i64 (arity o), fn]) "loop.example/seedlip/impl.sort").run Tryz.prog w = .ok (some false) w := fun w => by kernel_rfl
        have km : ∀ w, (Go.method 303 166 (.agg #[.string s, .int .i64 (arity o), fn]) "loop.example/seedlip/impl.sort").run Tryz.prog w = .ok (182, .agg #[.string s, .int .i64 (arity o), fn]) w := fun w => by kernel_rfl
        have HX : Hid (r = boolK ss) := Lib.hid (by rw [HR.out, HSS2.out]; exact srt_bool ds HPT.out (by rw [← ho]; exact h) (fun q hq => HS4.out q (by rw [HSS2.out]; exact hq)))
        have HC := Lib.hid (boolSort_any s (arity o) fn (.slice B ds.length d) x.op x.a x.b x.name A x.kids.length c A9 c99 ss _ wr hrow (fun _ h => h) hl9)
        rw [← HX.out] at HC
        clear hrow HKD HSS2 HSS HS4 HPT HR HIK H HD HAR ho
        go_wp2_with fail
        refine HC.out.mono ?_
        rintro e w9 ⟨rfl, hb9⟩
        have HE9 := Lib.hid (bthen HALL.out hb9)
        clear hb9
        go_wp2
        go_ret
        exact ⟨rfl, HE9.out⟩
end Go.Proofs.YtiahmfpfimmbgaaGreatDoor
