/- The program's trail: push. The program's trail: newTrail, unit, trailOk. The program's trail: trailOk; clauseOk. The program's clauseOk, CnfOk. The program's rup, RupOk. What a law leaves. What a mark does to memory: cells of plain values turn into others of their kind, in some blocks. Copies of the call's own, made between two sizes of the heap; what stays over calls and over marks. Marks on integers. Rows of integers: what comes in, copies, comparisons, marks; one form for all. -/
import Derived.Test.YtbljfhmcebgdaaaChecked
import Derived.Test.YtbljfhmcebgdaaaJFnSatBent0
import Derived.Test.YtbljfhmcebgdaaaJFnSatBent1
import Derived.Test.YtbljfhmcebgdaaaJFnSatBent2
/-! The program's trail: push. -/
namespace Go.Proofs.Ytbljfhmcebgdaaa
open Go Go.RowKit

theorem rowI_ne {w : World} {lo : Nat} {v : Value} {xs : List Int} (h : OwnI w lo v xs) (r : Nat) (o : Obj) (hr : w.heap[r]? = some o) (ho : ∀ cs fr, o ≠ .cells cs 3 fr) : v.ownBlock ≠ some r := by
  rcases h.2 with ⟨e, _⟩ | ⟨g, cap, cur, e, _, hg, _⟩
  · rw [e]; intro h; cases h
  · rw [e]
    intro h
    injection h with h
    subst h
    rw [hr] at hg
    injection hg with hg
    exact ho _ _ hg
/-- append of one integer onto a row of the call's own. -/
theorem wpList_append_int {Q : Exit → Act → World → Prop} {ops : Array Oper} {rest : List Oper} {o : Oper} {a : Act} {W : World} {lo : Nat} {A : Option Addr} {c : Nat} {xs ys : List Int} {x : Int} {e' : TypeId} (hgd : o.guard = none) (s y : Operand)
    (ho : o.op = .call { callee := .builtin .append, args := #[s, y], argTypes := #[26, 26] }) (hs : a.eval s = .slice A xs.length c) (hy : a.eval y = .slice (some ⟨W.heap.size, 0, none⟩) 1 1)
    (hown : OwnI W lo (.slice A xs.length c) xs) (hn : xs.length ≤ 2000000) (hlo : lo ≤ W.heap.size) (hys : ys = xs ++ [x])
    (h : ∀ A' c' w', OwnI w' lo (.slice A' ys.length c') ys → W.grownBy w' (Value.slice A xs.length c).ownBlock →
      ((Value.slice A' ys.length c').ownBlock = (Value.slice A xs.length c).ownBlock ∨ ∃ g, (Value.slice A' ys.length c').ownBlock = some g ∧ W.heap.size ≤ g) → wpList Try.prog ops Q rest (a.put o.dst (.slice A' ys.length c')) w') :
    wpList Try.prog ops Q (o :: rest) a (W.alloc (.cells #[.int .i64 x] e')) := by
  obtain ⟨i0, hi0, hz0, hz1, hz2⟩ := info_parts int_info
  have hal : Below W.heap.size W (W.alloc (.cells #[.int .i64 x] e')) := (Below.refl _ _).alloc (Nat.le_refl _) _
  have hl : ys.length = xs.length + 1 := by rw [hys]; simp
  have hm : ys.map (Value.int .i64) = xs.map (Value.int .i64) ++ [.int .i64 x] := by rw [hys]; simp
  refine wpList_plain hgd fun _ hK => ?_
  obtain ⟨v', w', hrun, ho', hg', _, hbk⟩ := run_append_own_at (P := Try.prog) (W.alloc (.cells #[.int .i64 x] e')) lo 26 o.type 3 i0 _ 1 8 Try.underlying26 hi0 hz0 hz1 hz2 (by rfl) (by omega)
    (.slice A xs.length c) xs.length (xs.map (Value.int .i64)) (hown.up hal) ⟨W.heap.size, 0, none⟩ 1 1 [.int .i64 x] (by rfl) (fun j u hu => by
      have := World.news_of_block (heap_alloc_new W (.cells #[.int .i64 x] e')) j u hu
      exact this) (by simp; rfl) (by unfold maxLen; omega) (by omega) (Nat.le_trans hlo hal.size)
  rw [← hl, ← hm] at ho'
  obtain ⟨A', c', rfl, _, _⟩ := OwnI.form (xs := ys) ho'
  unfold Oper.wp execOp
  simp only [ho, resolve, invoke, builtin, Sem.run_bind, Sem.run_pure, Result.andThen_ok, List.map_toArray, List.map_cons, List.map_nil, hs, hy, hrun]
  refine hK _ _ (h A' c' w' ho' (grown_then hal hg') ?_)
  rcases hbk with e | e
  · exact .inl e
  · exact .inr ⟨_, e, hal.size⟩

theorem TrB.lt {lo M : Nat} {S : Nat → Prop} {w : World} {t : Nat} {put ls : List Int} {A B : Option Addr} {c d Q : Nat} {pl : List Int} (h : TrB lo S M w t put ls A B c d Q pl) : lo ≤ w.heap.size := Nat.le_trans h.hlo (Nat.le_of_lt (lt_of_block h.blk))
theorem TrB.q {lo M : Nat} {S : Nat → Prop} {w : World} {t : Nat} {put ls : List Int} {A B : Option Addr} {c d Q : Nat} {pl : List Int} (h : TrB lo S M w t put ls A B c d Q pl) : lo ≤ Q ∧ Q < w.heap.size := h.hpl.lt Q rfl
theorem own_at_least {w w' : World} {lo : Nat} {v : Value} {xs : List Int} (h : OwnI w lo v xs) (hlo : lo ≤ w.heap.size) (hg : w.grownBy w' v.ownBlock) : Below lo w w' :=
  (Below.refl lo w).grown hg hlo (fun k hk => (h.lt k hk).1)
theorem tne {cs : Array Value} {t : TypeId} {fr : Nat × Nat} (ht : t ≠ 3) : ∀ cs' fr', Obj.cells cs t fr ≠ .cells cs' 3 fr' := fun _ _ e => by injection e with _ e _; exact ht e
/-- Below lo, and on the spared blocks, nothing turned. -/
def BelowS (lo : Nat) (S : Nat → Prop) (w w' : World) : Prop := Below lo w w' ∧ ∀ x, S x → w'.heap[x]? = w.heap[x]?
theorem BelowS.refl (lo : Nat) (S : Nat → Prop) (w : World) : BelowS lo S w w := ⟨Below.refl _ _, fun _ _ => rfl⟩
theorem BelowS.trans {lo : Nat} {S : Nat → Prop} {w w' w'' : World} (h : BelowS lo S w w') (h' : BelowS lo S w' w'') : BelowS lo S w w'' := ⟨h.1.trans h'.1, fun x hx => (h'.2 x hx).trans (h.2 x hx)⟩
theorem BelowS.of {lo : Nat} {S : Nat → Prop} {w w' : World} (h : Below w.heap.size w w') (hlo : lo ≤ w.heap.size) (hS : ∀ x, S x → x < w.heap.size) : BelowS lo S w w' := ⟨h.mono hlo, fun x hx => h.block x (hS x hx)⟩
/-- The trail's put row turns. -/
theorem TrB.setPut {lo M : Nat} {S : Nat → Prop} {W w' : World} {t : Nat} {put ls ys : List Int} {A B A' : Option Addr} {c d Q c' : Nat} {pl : List Int} (h : TrB lo S M W t put ls A B c d Q pl) (hown : OwnI w' lo (.slice A' ys.length c') ys) (hg : W.grownBy w' (Value.slice A put.length c).ownBlock)
    (hb : (Value.slice A' ys.length c').ownBlock = (Value.slice A put.length c).ownBlock ∨ ∃ g, (Value.slice A' ys.length c').ownBlock = some g ∧ W.heap.size ≤ g) :
    TrB lo S M (w'.setCell ⟨t, 0, none⟩ (.slice A' ys.length c')) t ys ls A' B c' d Q pl ∧ BelowS lo S W (w'.setCell ⟨t, 0, none⟩ (.slice A' ys.length c')) := by
  have hnt := rowI_ne h.hput t _ h.blk (tne (by decide))
  have hblk := (hg.block t (lt_of_block h.blk) (fun e => hnt e.symm)).trans h.blk
  have hnt' := rowI_ne hown t _ hblk (tne (by decide))
  have hQ := h.q
  have hQt : Q ≠ t := by
    rintro rfl
    obtain ⟨_, g⟩ := h.hpl
    rcases g with ⟨e, _⟩ | ⟨g, cap, cur, e, _, hgg, _⟩
    · cases e
    · injection e with e; injection e with e; injection e with e; subst e
      rw [h.blk] at hgg; injection hgg with hgg; exact tne (by decide) _ _ hgg
  refine ⟨⟨by rw [heap_set_same _ _ _ _ _ _ hblk]; rfl, h.hlo, rows_set hown t 0 _ hnt', rows_set (rows_kept h.hpl hg (fun g e => by injection e with e; rw [← e]; exact h.d1)) t 0 _ (fun e => by injection e with e; exact hQt e),
    rows_set (rows_kept h.hls hg (fun g e e' => h.d3 g e' e)) t 0 _ (rowI_ne (w := w') (rows_kept h.hls hg (fun g e e' => h.d3 g e' e)) t _ hblk (tne (by decide))), ?_, h.d2, ?_, fun x hx => ⟨by rw [size_setCell]; exact Nat.lt_of_lt_of_le (h.d4 x hx).1 hg.size, (h.d4 x hx).2.1, (h.d4 x hx).2.2.1, fun e => by rcases hb with e1 | ⟨g, e1, hge⟩; exact (h.d4 x hx).2.2.2.1 (e1.symm.trans e); (rw [e1] at e; injection e with e; have := (h.d4 x hx).1; omega), (h.d4 x hx).2.2.2.2⟩⟩, ?_⟩
  · rcases hb with e | ⟨g, e, hge⟩
    · rw [e]; exact h.d1
    · rw [e]; intro e2; injection e2 with e2; omega
  · intro g e
    rcases hb with e1 | ⟨g', e1, hge⟩
    · exact h.d3 g (e1.symm.trans e)
    · rw [e1] at e; injection e with e; subst e
      intro e2
      have := (h.hls.lt _ e2).2
      omega
  · have hb1 := own_at_least h.hput h.lt hg
    refine ⟨⟨hb1.os, hb1.tape, hb1.output, by simpa [World.setCell] using hb1.size, fun b hlt => (Below.heap_setCell w' ⟨t, 0, none⟩ _ b (by have := h.hlo; dsimp only; omega)).trans (hb1.block b hlt)⟩, fun x hx => (Below.heap_setCell w' ⟨t, 0, none⟩ _ x (h.d4 x hx).2.1).trans (hg.block x (h.d4 x hx).1 (fun e => (h.d4 x hx).2.2.2.1 e.symm))⟩
/-- The trail's levels turn. -/
theorem TrB.setLs {lo M : Nat} {S : Nat → Prop} {W w' : World} {t : Nat} {put ls ys : List Int} {A B B' : Option Addr} {c d Q d' : Nat} {pl : List Int} (h : TrB lo S M W t put ls A B c d Q pl) (hown : OwnI w' lo (.slice B' ys.length d') ys) (hg : W.grownBy w' (Value.slice B ls.length d).ownBlock)
    (hb : (Value.slice B' ys.length d').ownBlock = (Value.slice B ls.length d).ownBlock ∨ ∃ g, (Value.slice B' ys.length d').ownBlock = some g ∧ W.heap.size ≤ g) :
    TrB lo S M (w'.setCell ⟨t, 2, none⟩ (.slice B' ys.length d')) t put ys A B' c d' Q pl ∧ BelowS lo S W (w'.setCell ⟨t, 2, none⟩ (.slice B' ys.length d')) := by
  have hnt := rowI_ne h.hls t _ h.blk (tne (by decide))
  have hblk := (hg.block t (lt_of_block h.blk) (fun e => hnt e.symm)).trans h.blk
  have hnt' := rowI_ne hown t _ hblk (tne (by decide))
  have hQ := h.q
  have hQt : Q ≠ t := by
    rintro rfl
    obtain ⟨_, g⟩ := h.hpl
    rcases g with ⟨e, _⟩ | ⟨g, cap, cur, e, _, hgg, _⟩
    · cases e
    · injection e with e; injection e with e; injection e with e; subst e
      rw [h.blk] at hgg; injection hgg with hgg; exact tne (by decide) _ _ hgg
  refine ⟨⟨by rw [heap_set_same _ _ _ _ _ _ hblk]; rfl, h.hlo, rows_set (rows_kept h.hput hg (fun g e e' => h.d3 g e e')) t 2 _ (rowI_ne (w := w') (rows_kept h.hput hg (fun g e e' => h.d3 g e e')) t _ hblk (tne (by decide))),
    rows_set (rows_kept h.hpl hg (fun g e => by injection e with e; rw [← e]; exact h.d2)) t 2 _ (fun e => by injection e with e; exact hQt e), rows_set hown t 2 _ hnt', h.d1, ?_, ?_, fun x hx => ⟨by rw [size_setCell]; exact Nat.lt_of_lt_of_le (h.d4 x hx).1 hg.size, (h.d4 x hx).2.1, (h.d4 x hx).2.2.1, (h.d4 x hx).2.2.2.1, fun e => by rcases hb with e1 | ⟨g, e1, hge⟩; exact (h.d4 x hx).2.2.2.2 (e1.symm.trans e); (rw [e1] at e; injection e with e; have := (h.d4 x hx).1; omega)⟩⟩, ?_⟩
  · rcases hb with e | ⟨g, e, hge⟩
    · rw [e]; exact h.d2
    · rw [e]; intro e2; injection e2 with e2; omega
  · intro g e
    rcases hb with e1 | ⟨g', e1, hge⟩
    · rw [e1]; exact h.d3 g e
    · rw [e1]
      intro e2; injection e2 with e2; subst e2
      have := (h.hput.lt _ e).2
      omega
  · have hb1 := own_at_least h.hls h.lt hg
    refine ⟨⟨hb1.os, hb1.tape, hb1.output, by simpa [World.setCell] using hb1.size, fun b hlt => (Below.heap_setCell w' ⟨t, 2, none⟩ _ b (by have := h.hlo; dsimp only; omega)).trans (hb1.block b hlt)⟩, fun x hx => (Below.heap_setCell w' ⟨t, 2, none⟩ _ x (h.d4 x hx).2.1).trans (hg.block x (h.d4 x hx).1 (fun e => (h.d4 x hx).2.2.2.2 e.symm))⟩
/-- A place turns. -/
theorem TrB.setPl {lo M : Nat} {S : Nat → Prop} {W : World} {t : Nat} {put ls : List Int} {A B : Option Addr} {c d Q : Nat} {pl : List Int} (h : TrB lo S M W t put ls A B c d Q pl) (v : Nat) (x : Int) :
    TrB lo S M (W.setCell ⟨Q, v, none⟩ (.int .i64 x)) t put ls A B c d Q (pl.set v x) ∧ BelowS lo S W (W.setCell ⟨Q, v, none⟩ (.int .i64 x)) := by
  have hQ := h.q
  have hQt : t ≠ Q := by
    rintro rfl
    obtain ⟨_, g⟩ := h.hpl
    rcases g with ⟨e, _⟩ | ⟨g, cap, cur, e, _, hgg, _⟩
    · cases e
    · injection e with e; injection e with e; injection e with e; subst e
      rw [h.blk] at hgg; injection hgg with hgg; exact tne (by decide) _ _ hgg
  refine ⟨⟨(Below.heap_setCell W ⟨Q, v, none⟩ _ t hQt).trans h.blk, h.hlo, rows_set h.hput Q v _ h.d1, by rw [List.map_set]; exact (h.hpl.stored v _).1, rows_set h.hls Q v _ h.d2, h.d1, h.d2, h.d3, fun x hx => ⟨by rw [size_setCell]; exact (h.d4 x hx).1, (h.d4 x hx).2⟩⟩, ?_⟩
  exact ⟨⟨rfl, rfl, rfl, by simp [World.setCell], fun b hlt => Below.heap_setCell W ⟨Q, v, none⟩ _ b (by dsimp only; omega)⟩, fun x hx => Below.heap_setCell W ⟨Q, v, none⟩ _ x (h.d4 x hx).2.2.1⟩

def lastI (ls : List Int) : Int := match ls.getLast? with | some x => x | none => 0
theorem lastI_at {ls : List Int} (h : 0 < ls.length) : ls[ls.length - 1] = lastI ls := by
  unfold lastI
  rw [List.getLast?_eq_getElem?, List.getElem?_eq_getElem (by omega)]
theorem lastI_rng {ls : List Int} (h : ∀ x ∈ ls, 0 ≤ x ∧ x ≤ ls.length) : 0 ≤ lastI ls ∧ lastI ls ≤ ls.length := by
  rcases Nat.eq_zero_or_pos ls.length with h0 | h0
  · have : ls = [] := List.eq_nil_of_length_eq_zero h0
    subst this; simp [lastI]
  · rw [← lastI_at h0]; exact h _ (List.getElem_mem _)
/-- The level behind. -/
def lvl (ls : List Int) (dec : Bool) : Int := lastI ls + if dec then 1 else 0
theorem PlacesOk.snoc {M : Nat} {put pl : List Int} (h : PlacesOk M put pl) {l : Int} (h0 : l ≠ 0) (h1 : -(M : Int) ≤ l) (h2 : l ≤ M) (h3 : l ∉ put) (h4 : -l ∉ put) : PlacesOk M (put ++ [l]) (pl.set l.natAbs ((put.length : Int) + 1)) := by
  refine ⟨by rw [List.length_set]; exact h.1, fun v hv1 hv2 => ?_⟩
  by_cases e : l.natAbs = v
  · refine .inl ⟨put.length, by simp, by simp [e], ?_⟩
    rw [← e, List.getElem?_set_self (by rw [h.1]; omega)]
  · rw [List.getElem?_set_ne e]
    rcases h.2 v hv1 hv2 with ⟨k, hk, hk1, hk2⟩ | ⟨hn, hk2⟩
    · exact .inl ⟨k, by simp; omega, by rw [List.getElem_append_left hk]; exact hk1, hk2⟩
    · refine .inr ⟨fun x hx => ?_, hk2⟩
      rcases List.mem_append.1 hx with hx | hx
      · exact hn x hx
      · rw [List.mem_singleton.1 hx]; exact e
theorem lvl_rng {ls : List Int} (h : ∀ x ∈ ls, 0 ≤ x ∧ x ≤ ls.length) (dec : Bool) : ∀ x ∈ ls ++ [lvl ls dec], 0 ≤ x ∧ x ≤ (ls ++ [lvl ls dec]).length := by
  have hl := lastI_rng h
  intro x hx
  rw [List.length_append, List.length_singleton]
  rcases List.mem_append.1 hx with hx | hx
  · have := h x hx; omega
  · rw [List.mem_singleton.1 hx]
    unfold lvl
    cases dec <;> simp <;> omega
theorem push_done {lo M : Nat} {S : Nat → Prop} {w' : World} {t : Nat} {put ls ps ms pl : List Int} {A B : Option Addr} {c d Q v : Nat} {x l : Int} {dec : Bool} (h : TrB lo S M w' t ps ms A B c d Q (pl.set v x)) (hp : ps = put ++ [l]) (hm : ms = ls ++ [lvl ls dec])
    (hok : PlacesOk M (put ++ [l]) (pl.set l.natAbs ((put.length : Int) + 1))) (hv : v = l.natAbs) (hx : x = (put.length : Int) + 1) (hlen : ls.length = put.length) (hlv : ∀ x ∈ ls, 0 ≤ x ∧ x ≤ ls.length) : Tr lo S M w' t (put ++ [l]) (ls ++ [lvl ls dec]) := by
  subst hp hm hv hx
  exact ⟨A, B, c, d, Q, _, ⟨h, hok, by simp [hlen], lvl_rng hlv dec⟩⟩
def RetPush (lo : Nat) (S : Nat → Prop) (M : Nat) (w : World) (t : Nat) (put ls : List Int) (e : Ending) (w' : World) : Prop := e = .returned (.tuple #[]) ∧ Tr lo S M w' t put ls ∧ BelowS lo S w w'
set_option maxRecDepth 100000 in
set_option maxHeartbeats 8000000 in
theorem push_any (lo : Nat) (S : Nat → Prop) (M t : Nat) (put ls : List Int) (l : Int) (dec : Bool) (w : World) (h : Tr lo S M w t put ls) (hg : Good M put) (h0 : l ≠ 0) (h1 : -(M : Int) ≤ l) (h2 : l ≤ M) (h3 : l ∉ put) (h4 : -l ∉ put) (hM : M ≤ 1000000) :
    Calls Try.prog 105 #[.pointer (some ⟨t, 0, none⟩), .int .i64 l, .bool dec] w (RetPush lo S M w t (put ++ [l]) (ls ++ [lvl ls dec])) := by
  have hpl := hg.length
  have hpn : put.length ≤ 1000000 := by omega
  obtain ⟨A, B, c, d, Q, pl, h⟩ := h
  have hlr := lastI_rng h.lv
  have hlen := h.len
  have z2 : w.cell? ⟨t, 2, none⟩ = some (.slice B ls.length d) := (cell_of_block h.blk 2).1
  have hok := h.ok.snoc h0 h1 h2 h3 h4
  have HOK := Lib.hid hok
  have HLEN := Lib.hid hlen
  have HLV := Lib.hid h.lv
  have hls : ls.length ≤ 1000000 := by omega
  obtain ⟨na, hna⟩ : ∃ na : Int, na = l.natAbs := ⟨_, rfl⟩
  have qa : ∀ W : World, Calls Try.prog 93 #[.int .i64 l] W fun e w' => e = .returned (.int .i64 na) ∧ W = w' := fun W => by rw [hna]; exact variable_any l W (by omega) (by omega)
  have Qa := Lib.hid qa
  have hn0 : 0 ≤ na := by omega
  have hn1 : na < (M : Int) + 1 := by omega
  have hn2 : na < ((M + 1 : Nat) : Int) := by omega
  have HN3 := Lib.hid (show na.toNat = l.natAbs by omega)
  have TB := h.toTrB
  clear qa hna hok h hlen hpl h3 h4

  have HB : Hid (BelowS lo S w w) := Lib.hid (BelowS.refl _ _ _)
  by_cases hz : put.length = 0
  · have hl0 : ls.length = 0 := by rw [HLEN.out]; exact hz
    have hlnil : lastI ls = 0 := by rw [List.eq_nil_of_length_eq_zero hl0]; rfl
    have hd : decide (0 < ls.length) = false := by simp [hl0]
    have y0 : w.cell? ⟨t, 0, none⟩ = some (.slice A put.length c) := (cell_of_block TB.blk 0).1
    have y1 : w.cell? ⟨t, 1, none⟩ = some (.slice (some ⟨Q, 0, none⟩) (M + 1) (M + 1)) := (cell_of_block TB.blk 1).1
    have HZ := Lib.hid hz
    clear hz hl0
    cases dec
    · have HLV2 : Hid (lvl ls false = 0) := Lib.hid (by unfold lvl; rw [hlnil]; rfl)
      clear hlnil
      go_enter Try.func105, Try.ntmps105
      obtain ⟨ps, hps⟩ : ∃ ps, ps = put ++ [l] := ⟨_, rfl⟩
      obtain ⟨ms, hms⟩ : ∃ ms, ms = ls ++ [(0 : Int)] := ⟨_, rfl⟩
      have HPS := Lib.hid hps
      have HMS := Lib.hid hms
      have HPL := Lib.hid (show ps.length = put.length + 1 by rw [hps]; simp)
      have HML := Lib.hid (show ms.length = ls.length + 1 by rw [hms]; simp)
      clear hps hms
      have HTL := Lib.hid (lt_of_block TB.blk)
      go_wp2_with (at_builtin; first | (refine wpList_append_int (ys := ps) (by rfl) (.tmp 32) (.tmp 34) (by rfl) (by rfl) (by rfl) TB.hput (by omega) TB.lt HPS.out ?_; intro A1 c1 w1 hown1 hg1 hbk1; have hblk1 := (hg1.block t HTL.out (fun e => rowI_ne TB.hput t _ TB.blk (tne (by decide)) e.symm)).trans TB.blk; obtain ⟨TB1, hb1⟩ := TB.setPut hown1 hg1 hbk1; have x0 : w1.cell? ⟨t, 0, none⟩ = some (.slice A put.length c) := (cell_of_block hblk1 0).1; have x1 : w1.frozen? ⟨t, 0, none⟩ = false := (cell_of_block hblk1 0).2; have x2 : w1.cell? ⟨t, 2, none⟩ = some (.slice B ls.length d) := (cell_of_block hblk1 2).1) | (refine wpList_append_int (ys := ms) (by rfl) (.tmp 42) (.tmp 44) (by rfl) (by rfl) (by rw [size_setCell]; rfl) TB1.hls (by omega) TB1.lt HMS.out ?_; intro A2 c2 w2 hown2 hg2 hbk2; have hblk2 := (hg2.block t (lt_of_block TB1.blk) (fun e => rowI_ne TB1.hls t _ TB1.blk (tne (by decide)) e.symm)).trans TB1.blk; obtain ⟨TB2, hb2⟩ := TB1.setLs hown2 hg2 hbk2; have x3 : w2.cell? ⟨t, 2, none⟩ = some (.slice B ls.length d) := (cell_of_block hblk2 2).1; have x4 : w2.frozen? ⟨t, 2, none⟩ = false := (cell_of_block hblk2 2).2))
      generalize w2.setCell ⟨t, 2, none⟩ (.slice A2 ms.length c2) = W9 at *
      have hB9 := (HB.out.trans hb1).trans hb2
      have HB9 := Lib.hid hB9
      have q0 : W9.cell? ⟨t, 0, none⟩ = some (.slice A1 ps.length c1) := (cell_of_block TB2.blk 0).1
      have q1 : W9.cell? ⟨t, 1, none⟩ = some (.slice (some ⟨Q, 0, none⟩) (M + 1) (M + 1)) := (cell_of_block TB2.blk 1).1
      have q0 := Later.cell q0
      have q1 := Later.cell q1
      clear hB9 hb1 hb2 x0 x1 x2 x3 x4 hblk1 hblk2 hown1 hg1 hbk1 hown2 hg2 hbk2 y0 y1 z2
      refine wp_region_later_tail 12 (by kernel_rfl) (by kernel_rfl) ?_
      simp only [List.take_succ_cons, List.take_zero, List.drop_succ_cons, List.drop_zero]
      repeat (go_big_quiet_step ((go_at_call 93; exact later_of_same (Qa.out _))))
      refine wpQuiet_nil ?_
      rintro _ ⟨x9, rfl⟩
      have TB9 := TB2.up x9.le
      have u0 : ∃ v, x9.W.cell? ⟨Q, na.toNat, none⟩ = some v := by
        rw [TB9.hpl.cellAt na.toNat (by omega), List.getElem?_eq_getElem (by have := HOK.out.1; simp at this ⊢; omega)]
        exact ⟨_, rfl⟩
      obtain ⟨v0, u0⟩ := u0
      have u1 : x9.W.frozen? ⟨Q, na.toNat, none⟩ = false := TB9.hpl.frozenAt _
      have TB3 := TB9.setPl na.toNat (ps.length : Int)
      have HF := Lib.hid TB3
      clear TB3 q0 q1
      go_wp2
      refine bodyPost_end (results_none rfl _ _ _) rfl ?_
      exact ⟨rfl, push_done HF.out.1 HPS.out (by rw [HMS.out, HLV2.out]) HOK.out HN3.out (by rw [HPL.out]; push_cast; rfl) HLEN.out HLV.out, (HB9.out.trans (BelowS.of x9.le TB2.lt (fun x hx => (TB2.d4 x hx).1))).trans HF.out.2⟩

    · have HLV2 : Hid (lvl ls true = 1) := Lib.hid (by unfold lvl; rw [hlnil]; rfl)
      clear hlnil
      go_enter Try.func105, Try.ntmps105
      obtain ⟨ps, hps⟩ : ∃ ps, ps = put ++ [l] := ⟨_, rfl⟩
      obtain ⟨ms, hms⟩ : ∃ ms, ms = ls ++ [(1 : Int)] := ⟨_, rfl⟩
      have HPS := Lib.hid hps
      have HMS := Lib.hid hms
      have HPL := Lib.hid (show ps.length = put.length + 1 by rw [hps]; simp)
      have HML := Lib.hid (show ms.length = ls.length + 1 by rw [hms]; simp)
      clear hps hms
      have HTL := Lib.hid (lt_of_block TB.blk)
      go_wp2_with (at_builtin; first | (refine wpList_append_int (ys := ps) (by rfl) (.tmp 32) (.tmp 34) (by rfl) (by rfl) (by rfl) TB.hput (by omega) TB.lt HPS.out ?_; intro A1 c1 w1 hown1 hg1 hbk1; have hblk1 := (hg1.block t HTL.out (fun e => rowI_ne TB.hput t _ TB.blk (tne (by decide)) e.symm)).trans TB.blk; obtain ⟨TB1, hb1⟩ := TB.setPut hown1 hg1 hbk1; have x0 : w1.cell? ⟨t, 0, none⟩ = some (.slice A put.length c) := (cell_of_block hblk1 0).1; have x1 : w1.frozen? ⟨t, 0, none⟩ = false := (cell_of_block hblk1 0).2; have x2 : w1.cell? ⟨t, 2, none⟩ = some (.slice B ls.length d) := (cell_of_block hblk1 2).1) | (refine wpList_append_int (ys := ms) (by rfl) (.tmp 42) (.tmp 44) (by rfl) (by rfl) (by rw [size_setCell]; rfl) TB1.hls (by omega) TB1.lt HMS.out ?_; intro A2 c2 w2 hown2 hg2 hbk2; have hblk2 := (hg2.block t (lt_of_block TB1.blk) (fun e => rowI_ne TB1.hls t _ TB1.blk (tne (by decide)) e.symm)).trans TB1.blk; obtain ⟨TB2, hb2⟩ := TB1.setLs hown2 hg2 hbk2; have x3 : w2.cell? ⟨t, 2, none⟩ = some (.slice B ls.length d) := (cell_of_block hblk2 2).1; have x4 : w2.frozen? ⟨t, 2, none⟩ = false := (cell_of_block hblk2 2).2))
      generalize w2.setCell ⟨t, 2, none⟩ (.slice A2 ms.length c2) = W9 at *
      have hB9 := (HB.out.trans hb1).trans hb2
      have HB9 := Lib.hid hB9
      have q0 : W9.cell? ⟨t, 0, none⟩ = some (.slice A1 ps.length c1) := (cell_of_block TB2.blk 0).1
      have q1 : W9.cell? ⟨t, 1, none⟩ = some (.slice (some ⟨Q, 0, none⟩) (M + 1) (M + 1)) := (cell_of_block TB2.blk 1).1
      have q0 := Later.cell q0
      have q1 := Later.cell q1
      clear hB9 hb1 hb2 x0 x1 x2 x3 x4 hblk1 hblk2 hown1 hg1 hbk1 hown2 hg2 hbk2 y0 y1 z2
      refine wp_region_later_tail 12 (by kernel_rfl) (by kernel_rfl) ?_
      simp only [List.take_succ_cons, List.take_zero, List.drop_succ_cons, List.drop_zero]
      repeat (go_big_quiet_step ((go_at_call 93; exact later_of_same (Qa.out _))))
      refine wpQuiet_nil ?_
      rintro _ ⟨x9, rfl⟩
      have TB9 := TB2.up x9.le
      have u0 : ∃ v, x9.W.cell? ⟨Q, na.toNat, none⟩ = some v := by
        rw [TB9.hpl.cellAt na.toNat (by omega), List.getElem?_eq_getElem (by have := HOK.out.1; simp at this ⊢; omega)]
        exact ⟨_, rfl⟩
      obtain ⟨v0, u0⟩ := u0
      have u1 : x9.W.frozen? ⟨Q, na.toNat, none⟩ = false := TB9.hpl.frozenAt _
      have TB3 := TB9.setPl na.toNat (ps.length : Int)
      have HF := Lib.hid TB3
      clear TB3 q0 q1
      go_wp2
      refine bodyPost_end (results_none rfl _ _ _) rfl ?_
      exact ⟨rfl, push_done HF.out.1 HPS.out (by rw [HMS.out, HLV2.out]) HOK.out HN3.out (by rw [HPL.out]; push_cast; rfl) HLEN.out HLV.out, (HB9.out.trans (BelowS.of x9.le TB2.lt (fun x hx => (TB2.d4 x hx).1))).trans HF.out.2⟩

  · have hl0 : 0 < ls.length := by rw [HLEN.out]; omega
    obtain ⟨ad, hB, _, hc⟩ := (OwnI.rd TB.hls).at_int (k := ls.length - 1) (by omega)
    rw [lastI_at hl0] at hc
    subst hB
    have e1 : IntKind.i64.wrap ((ls.length : Int) - 1) = (ls.length : Int) - 1 := IntWalk.i64_in _ (by omega)
    have e2 : ((ls.length : Int) - 1).toNat = ls.length - 1 := by omega
    have e3 : (0 : Int) ≤ (ls.length : Int) - 1 := by omega
    have e4 : (ls.length : Int) - 1 < ls.length := by omega
    have y0 : w.cell? ⟨t, 0, none⟩ = some (.slice A put.length c) := (cell_of_block TB.blk 0).1
    have y1 : w.cell? ⟨t, 1, none⟩ = some (.slice (some ⟨Q, 0, none⟩) (M + 1) (M + 1)) := (cell_of_block TB.blk 1).1
    generalize hla : lastI ls = la at *
    have HLA := Lib.hid hla
    clear hla
    have e5 : IntKind.i64.wrap (la + 1) = la + 1 := IntWalk.i64_in _ (by omega)
    cases dec
    · have HLV2 : Hid (lvl ls false = la) := Lib.hid (by unfold lvl; rw [HLA.out]; simp)
      go_enter Try.func105, Try.ntmps105
      go_wp2
      go_quiet (fail)
      have TB' := TB.up (below_drewN (Below.refl _ w) nq)
      have HB' : Hid (BelowS lo S w (w.drewN nq)) := Lib.hid (BelowS.of (below_drewN (Below.refl _ _) nq) TB.lt (fun x hx => (TB.d4 x hx).1))
      clear TB HB y0 y1 z2 hc
      generalize w.drewN nq = W at *
      have TB := TB'
      have HB := HB'
      have y0 : W.cell? ⟨t, 0, none⟩ = some (.slice A put.length c) := (cell_of_block TB.blk 0).1
      have y1 : W.cell? ⟨t, 1, none⟩ = some (.slice (some ⟨Q, 0, none⟩) (M + 1) (M + 1)) := (cell_of_block TB.blk 1).1
      have z2 : W.cell? ⟨t, 2, none⟩ = some (.slice (some ad) ls.length d) := (cell_of_block TB.blk 2).1
      obtain ⟨ps, hps⟩ : ∃ ps, ps = put ++ [l] := ⟨_, rfl⟩
      obtain ⟨ms, hms⟩ : ∃ ms, ms = ls ++ [la] := ⟨_, rfl⟩
      have HPS := Lib.hid hps
      have HMS := Lib.hid hms
      have HPL := Lib.hid (show ps.length = put.length + 1 by rw [hps]; simp)
      have HML := Lib.hid (show ms.length = ls.length + 1 by rw [hms]; simp)
      clear hps hms
      have HTL := Lib.hid (lt_of_block TB.blk)
      go_wp2_with (at_builtin; first | (refine wpList_append_int (ys := ps) (by rfl) (.tmp 32) (.tmp 34) (by rfl) (by rfl) (by rfl) TB.hput (by omega) TB.lt HPS.out ?_; intro A1 c1 w1 hown1 hg1 hbk1; have hblk1 := (hg1.block t HTL.out (fun e => rowI_ne TB.hput t _ TB.blk (tne (by decide)) e.symm)).trans TB.blk; obtain ⟨TB1, hb1⟩ := TB.setPut hown1 hg1 hbk1; have x0 : w1.cell? ⟨t, 0, none⟩ = some (.slice A put.length c) := (cell_of_block hblk1 0).1; have x1 : w1.frozen? ⟨t, 0, none⟩ = false := (cell_of_block hblk1 0).2; have x2 : w1.cell? ⟨t, 2, none⟩ = some (.slice (some ad) ls.length d) := (cell_of_block hblk1 2).1) | (refine wpList_append_int (ys := ms) (by rfl) (.tmp 42) (.tmp 44) (by rfl) (by rfl) (by rw [size_setCell]; rfl) TB1.hls (by omega) TB1.lt HMS.out ?_; intro A2 c2 w2 hown2 hg2 hbk2; have hblk2 := (hg2.block t (lt_of_block TB1.blk) (fun e => rowI_ne TB1.hls t _ TB1.blk (tne (by decide)) e.symm)).trans TB1.blk; obtain ⟨TB2, hb2⟩ := TB1.setLs hown2 hg2 hbk2; have x3 : w2.cell? ⟨t, 2, none⟩ = some (.slice (some ad) ls.length d) := (cell_of_block hblk2 2).1; have x4 : w2.frozen? ⟨t, 2, none⟩ = false := (cell_of_block hblk2 2).2))
      generalize w2.setCell ⟨t, 2, none⟩ (.slice A2 ms.length c2) = W9 at *
      have hB9 := (HB.out.trans hb1).trans hb2
      have HB9 := Lib.hid hB9
      have q0 : W9.cell? ⟨t, 0, none⟩ = some (.slice A1 ps.length c1) := (cell_of_block TB2.blk 0).1
      have q1 : W9.cell? ⟨t, 1, none⟩ = some (.slice (some ⟨Q, 0, none⟩) (M + 1) (M + 1)) := (cell_of_block TB2.blk 1).1
      have q0 := Later.cell q0
      have q1 := Later.cell q1
      clear hB9 hb1 hb2 x0 x1 x2 x3 x4 hblk1 hblk2 hown1 hg1 hbk1 hown2 hg2 hbk2 y0 y1 z2
      refine wp_region_later_tail 12 (by kernel_rfl) (by kernel_rfl) ?_
      simp only [List.take_succ_cons, List.take_zero, List.drop_succ_cons, List.drop_zero]
      repeat (go_big_quiet_step ((go_at_call 93; exact later_of_same (Qa.out _))))
      refine wpQuiet_nil ?_
      rintro _ ⟨x9, rfl⟩
      have TB9 := TB2.up x9.le
      have u0 : ∃ v, x9.W.cell? ⟨Q, na.toNat, none⟩ = some v := by
        rw [TB9.hpl.cellAt na.toNat (by omega), List.getElem?_eq_getElem (by have := HOK.out.1; simp at this ⊢; omega)]
        exact ⟨_, rfl⟩
      obtain ⟨v0, u0⟩ := u0
      have u1 : x9.W.frozen? ⟨Q, na.toNat, none⟩ = false := TB9.hpl.frozenAt _
      have TB3 := TB9.setPl na.toNat (ps.length : Int)
      have HF := Lib.hid TB3
      clear TB3 q0 q1
      go_wp2
      refine bodyPost_end (results_none rfl _ _ _) rfl ?_
      exact ⟨rfl, push_done HF.out.1 HPS.out (by rw [HMS.out, HLV2.out]) HOK.out HN3.out (by rw [HPL.out]; push_cast; rfl) HLEN.out HLV.out, (HB9.out.trans (BelowS.of x9.le TB2.lt (fun x hx => (TB2.d4 x hx).1))).trans HF.out.2⟩

    · have HLV2 : Hid (lvl ls true = la + 1) := Lib.hid (by unfold lvl; rw [HLA.out]; simp)
      go_enter Try.func105, Try.ntmps105
      go_wp2
      go_quiet (fail)
      have TB' := TB.up (below_drewN (Below.refl _ w) nq)
      have HB' : Hid (BelowS lo S w (w.drewN nq)) := Lib.hid (BelowS.of (below_drewN (Below.refl _ _) nq) TB.lt (fun x hx => (TB.d4 x hx).1))
      clear TB HB y0 y1 z2 hc
      generalize w.drewN nq = W at *
      have TB := TB'
      have HB := HB'
      have y0 : W.cell? ⟨t, 0, none⟩ = some (.slice A put.length c) := (cell_of_block TB.blk 0).1
      have y1 : W.cell? ⟨t, 1, none⟩ = some (.slice (some ⟨Q, 0, none⟩) (M + 1) (M + 1)) := (cell_of_block TB.blk 1).1
      have z2 : W.cell? ⟨t, 2, none⟩ = some (.slice (some ad) ls.length d) := (cell_of_block TB.blk 2).1
      obtain ⟨ps, hps⟩ : ∃ ps, ps = put ++ [l] := ⟨_, rfl⟩
      obtain ⟨ms, hms⟩ : ∃ ms, ms = ls ++ [la + 1] := ⟨_, rfl⟩
      have HPS := Lib.hid hps
      have HMS := Lib.hid hms
      have HPL := Lib.hid (show ps.length = put.length + 1 by rw [hps]; simp)
      have HML := Lib.hid (show ms.length = ls.length + 1 by rw [hms]; simp)
      clear hps hms
      have HTL := Lib.hid (lt_of_block TB.blk)
      go_wp2_with (at_builtin; first | (refine wpList_append_int (ys := ps) (by rfl) (.tmp 32) (.tmp 34) (by rfl) (by rfl) (by rfl) TB.hput (by omega) TB.lt HPS.out ?_; intro A1 c1 w1 hown1 hg1 hbk1; have hblk1 := (hg1.block t HTL.out (fun e => rowI_ne TB.hput t _ TB.blk (tne (by decide)) e.symm)).trans TB.blk; obtain ⟨TB1, hb1⟩ := TB.setPut hown1 hg1 hbk1; have x0 : w1.cell? ⟨t, 0, none⟩ = some (.slice A put.length c) := (cell_of_block hblk1 0).1; have x1 : w1.frozen? ⟨t, 0, none⟩ = false := (cell_of_block hblk1 0).2; have x2 : w1.cell? ⟨t, 2, none⟩ = some (.slice (some ad) ls.length d) := (cell_of_block hblk1 2).1) | (refine wpList_append_int (ys := ms) (by rfl) (.tmp 42) (.tmp 44) (by rfl) (by rfl) (by rw [size_setCell]; rfl) TB1.hls (by omega) TB1.lt HMS.out ?_; intro A2 c2 w2 hown2 hg2 hbk2; have hblk2 := (hg2.block t (lt_of_block TB1.blk) (fun e => rowI_ne TB1.hls t _ TB1.blk (tne (by decide)) e.symm)).trans TB1.blk; obtain ⟨TB2, hb2⟩ := TB1.setLs hown2 hg2 hbk2; have x3 : w2.cell? ⟨t, 2, none⟩ = some (.slice (some ad) ls.length d) := (cell_of_block hblk2 2).1; have x4 : w2.frozen? ⟨t, 2, none⟩ = false := (cell_of_block hblk2 2).2))
      generalize w2.setCell ⟨t, 2, none⟩ (.slice A2 ms.length c2) = W9 at *
      have hB9 := (HB.out.trans hb1).trans hb2
      have HB9 := Lib.hid hB9
      have q0 : W9.cell? ⟨t, 0, none⟩ = some (.slice A1 ps.length c1) := (cell_of_block TB2.blk 0).1
      have q1 : W9.cell? ⟨t, 1, none⟩ = some (.slice (some ⟨Q, 0, none⟩) (M + 1) (M + 1)) := (cell_of_block TB2.blk 1).1
      have q0 := Later.cell q0
      have q1 := Later.cell q1
      clear hB9 hb1 hb2 x0 x1 x2 x3 x4 hblk1 hblk2 hown1 hg1 hbk1 hown2 hg2 hbk2 y0 y1 z2
      refine wp_region_later_tail 12 (by kernel_rfl) (by kernel_rfl) ?_
      simp only [List.take_succ_cons, List.take_zero, List.drop_succ_cons, List.drop_zero]
      repeat (go_big_quiet_step ((go_at_call 93; exact later_of_same (Qa.out _))))
      refine wpQuiet_nil ?_
      rintro _ ⟨x9, rfl⟩
      have TB9 := TB2.up x9.le
      have u0 : ∃ v, x9.W.cell? ⟨Q, na.toNat, none⟩ = some v := by
        rw [TB9.hpl.cellAt na.toNat (by omega), List.getElem?_eq_getElem (by have := HOK.out.1; simp at this ⊢; omega)]
        exact ⟨_, rfl⟩
      obtain ⟨v0, u0⟩ := u0
      have u1 : x9.W.frozen? ⟨Q, na.toNat, none⟩ = false := TB9.hpl.frozenAt _
      have TB3 := TB9.setPl na.toNat (ps.length : Int)
      have HF := Lib.hid TB3
      clear TB3 q0 q1
      go_wp2
      refine bodyPost_end (results_none rfl _ _ _) rfl ?_
      exact ⟨rfl, push_done HF.out.1 HPS.out (by rw [HMS.out, HLV2.out]) HOK.out HN3.out (by rw [HPL.out]; push_cast; rfl) HLEN.out HLV.out, (HB9.out.trans (BelowS.of x9.le TB2.lt (fun x hx => (TB2.d4 x hx).1))).trans HF.out.2⟩

end Go.Proofs.Ytbljfhmcebgdaaa

/-! The program's trail: newTrail, unit, trailOk. -/
namespace Go.Proofs.Ytbljfhmcebgdaaa
open Go Go.RowKit

theorem PlacesOk.nil (M : Nat) : PlacesOk M [] (List.replicate (M + 1) 0) :=
  ⟨by simp, fun v h1 h2 => .inr ⟨by simp, by rw [List.getElem?_replicate, if_pos (by omega)]⟩⟩
def RetNew (M : Nat) (w : World) (e : Ending) (w' : World) : Prop := ∃ t, e = .returned (.pointer (some ⟨t, 0, none⟩)) ∧ Tr w.heap.size (fun _ => False) M w' t [] [] ∧ Below w.heap.size w w'
theorem newTrail_done {M : Nat} {w w1 : World} (h : w1.ownsRow w.heap.size 3 1 (.slice (some ⟨w.heap.size, 0, none⟩) (M + 1) (M + 1)) (M + 1) ((List.replicate (M + 1) (0 : Int)).map (Value.int .i64))) (hb : Below w.heap.size w w1) :
    Tr w.heap.size (fun _ => False) M (w1.alloc (.cells #[.slice none 0 0, .slice (some ⟨w.heap.size, 0, none⟩) (M + 1) (M + 1), .slice none 0 0] 108)) w1.heap.size [] [] ∧ Below w.heap.size w (w1.alloc (.cells #[.slice none 0 0, .slice (some ⟨w.heap.size, 0, none⟩) (M + 1) (M + 1), .slice none 0 0] 108)) :=
  ⟨⟨none, none, 0, 0, w.heap.size, List.replicate (M + 1) 0, ⟨⟨heap_alloc_new _ _, hb.size, World.ownsRow_nil _ _ _ _, h.alloc _, World.ownsRow_nil _ _ _ _, by simp [Value.ownBlock], by simp [Value.ownBlock], by simp [Value.ownBlock], fun _ h => h.elim⟩, PlacesOk.nil M, rfl, by simp⟩⟩, hb.alloc hb.size _⟩
theorem newTrail_any (M : Nat) (w : World) (hM : M ≤ 1000000) :
    Calls Try.prog 100 #[.int .i64 M] w (RetNew M w) := by
  obtain ⟨i0, hi0, hz0, hz1, hz2⟩ := info_parts int_info
  go_enter Try.func100, Try.ntmps100
  go_wp2_with (at_make; refine wpList_make_full _ rfl _ _ 26 rfl w.heap.size 3 i0 _ 1 Try.underlying26 hi0 hz0 hz1 .i64 .i64 _ _ (M + 1) rfl rfl (by push_cast; rfl) (by push_cast; rfl) (by rw [hz2]; omega) (by unfold maxLen; omega) (Nat.le_refl _) ?_; intro w1 hown hg1)
  have hb1 : Below w.heap.size w w1 := (Below.refl _ _).grown hg1 (Nat.le_refl _) (by simp)
  rw [show (madeCells (Value.int .i64 0).cells ((M + 1) * 1)).toList = (List.replicate (M + 1) (0 : Int)).map (Value.int .i64) from by
    rw [show (Value.int .i64 0).cells = #[Value.int .i64 0] from rfl, toList_madeCells_one]; simp] at hown
  have HD := Lib.hid (newTrail_done hown hb1)
  clear hown hb1 hg1
  go_wp2
  go_ret
  exact ⟨_, rfl, HD.out⟩

/-- A fresh block is spared. -/
theorem Tr.spare {lo M : Nat} {w : World} {t : Nat} {put ls : List Int} (h : Tr lo (fun _ => False) M w t put ls) (o : Obj) : Tr lo (fun x => x = w.heap.size) M (w.alloc o) t put ls := by
  obtain ⟨A, B, c, d, Q, pl, h⟩ := h
  have h9 := h.toTrB.up ((Below.refl _ _).alloc (Nat.le_refl _) o)
  have hq := h.toTrB.q
  have ht := lt_of_block h.blk
  refine ⟨A, B, c, d, Q, pl, ⟨⟨h9.blk, h9.hlo, h9.hput, h9.hpl, h9.hls, h9.d1, h9.d2, h9.d3, ?_⟩, h.ok, h.len, h.lv⟩⟩
  rintro x rfl
  refine ⟨by simp, by omega, by omega, fun e => ?_, fun e => ?_⟩
  · have := (h.hput.lt _ e).2; omega
  · have := (h.hls.lt _ e).2; omega
end Go.Proofs.Ytbljfhmcebgdaaa

/-! The program's trail: trailOk; clauseOk. -/
namespace Go.Proofs.Ytbljfhmcebgdaaa
open Go Go.RowKit

def RetTk (M : Nat) (w : World) (sl : List Int) (e : Ending) (w' : World) : Prop :=
  (Good M sl ∧ ∃ t ls, e = .returned (.tuple #[.pointer (some ⟨t, 0, none⟩), .bool true]) ∧ Tr w.heap.size (fun _ => False) M w' t sl ls ∧ Below w.heap.size w w') ∨ (¬ Good M sl ∧ e = .returned (.tuple #[.pointer none, .bool false]) ∧ Below w.heap.size w w')
end Go.Proofs.Ytbljfhmcebgdaaa

/-! The program's clauseOk, CnfOk. -/
namespace Go.Proofs.Ytbljfhmcebgdaaa
open Go Go.RowKit

def lastOk (m : Int) (cl : List Int) (k : Nat) (last : Int) : Prop := (k = 0 ∧ last = 0) ∨ (0 < k ∧ ∃ h : k - 1 < cl.length, last = (cl[k - 1].natAbs : Int) ∧ -m ≤ cl[k - 1] ∧ cl[k - 1] ≤ m)
theorem cOk_lit {m last a : Int} (h0 : 0 ≤ last) : (decide (-m ≤ a) && decide (a ≤ m) && decide (last < (a.natAbs : Int))) = (litOk a m && decide (last < (a.natAbs : Int))) := by
  unfold litOk
  rw [Bool.eq_iff_iff]
  simp only [Bool.and_eq_true, decide_eq_true_eq]
  constructor
  · rintro ⟨⟨h1, h2⟩, h3⟩
    exact ⟨⟨by omega, h1, h2⟩, h3⟩
  · rintro ⟨⟨_, h1, h2⟩, h3⟩
    exact ⟨⟨h1, h2⟩, h3⟩
set_option maxRecDepth 100000 in
set_option maxHeartbeats 4000000 in
theorem clauseOk_any (cl : List Int) (m : Int) (A : Option Addr) (c : Nat) (F : Nat → Prop) (w : World) (h : Lay.int.Sl w F A cl) (hn : cl.length ≤ 1048576) (hi : i64s cl) (m0 : 0 ≤ m) (m1 : m ≤ 700) :
    Calls Try.prog 78 #[.slice A cl.length c, .int .i64 m] w fun e w' => e = .returned (.bool (clOk m cl)) ∧ w = w' := by
  go_enter Try.func78, Try.ntmps78
  go_wp2
  go_loopw [9] (fun i wr => wr = w ∧ ∃ (k : Nat) (last : Int), k ≤ cl.length ∧ i = .int .i64 k ∧ lastOk m cl k last ∧ 0 ≤ last ∧ clOk m cl = cOk m last (cl.drop k)) (fun i _ => cl.length - (intOf i).toNat)
  case atStart => exact ⟨rfl, 0, 0, Nat.zero_le _, rfl, .inl ⟨rfl, rfl⟩, by omega, rfl⟩
  case round =>
    obtain ⟨rfl, k, last, hk, rfl, hlast, hl0, ht⟩ := hrel
    have HT := Lib.hid ht
    clear ht
    by_cases hlt : k < cl.length
    · obtain ⟨ad, rfl, hf, hc⟩ := h.at_int hlt
      have hk1 : (k : Int) < cl.length := by omega
      obtain ⟨i1, i2⟩ := hi _ (List.getElem_mem hlt)
      have hd := cOk_drop (many := m) (last := last) hlt
      rw [cOk_lit hl0] at hd
      have hlit := litOf_any cl[k] m
      have hnext : lastOk m cl (k + 1) (cl[k].natAbs : Int) ∨ litOk cl[k] m = false := by
        by_cases h9 : litOk cl[k] m = true
        · unfold litOk at h9
          rw [decide_eq_true_eq] at h9
          exact .inl (.inr ⟨by omega, by simpa using hlt, by simp, by simpa using h9.2.1, by simpa using h9.2.2⟩)
        · exact .inr (by simpa using h9)
      have hat : ∀ h0 : k - 1 < cl.length, wr.cell? (ad.add (k - 1)) = some (.int .i64 cl[k - 1]) := fun h0 => by
        obtain ⟨ad', e9, _, h9⟩ := h.at_int (k := k - 1) h0
        injection e9 with e9
        rw [e9]; exact h9
      generalize cl[k] = a at *
      have HD := Lib.hid hd
      have HX := Lib.hid hnext
      clear hd hnext
      by_cases h1 : litOk a m = true
      · rw [h1] at hlit
        have HL := Lib.hid (fun W => hlit W i1 i2 (by omega) (by omega))
        clear hlit
        have hlo : -m ≤ a ∧ a ≤ m := by unfold litOk at h1; rw [decide_eq_true_eq] at h1; exact h1.2
        obtain ⟨a1, a2⟩ := hlo
        rcases hlast with ⟨rfl, rfl⟩ | ⟨hk0, hk9, hla, hl1, hl2⟩
        · have HE := Lib.hid (show clOk m cl = cOk m a.natAbs (cl.drop (0 + 1)) ∨ a = 0 by
            by_cases h9 : a = 0
            · exact .inr h9
            · exact .inl (by rw [HT.out, HD.out, h1, decide_eq_true (by omega)]; rfl))
          have ha0 : a ≠ 0 := by unfold litOk at h1; rw [decide_eq_true_eq] at h1; exact h1.1
          have HE := Lib.hid (HE.out.resolve_right ha0)
          have HX := Lib.hid (HX.out.resolve_right (by rw [h1]; simp))
          clear h1 hat
          have hc : wr.cell? ad = some (.int .i64 a) := by have h9 := hc; cases ad; simpa [Addr.add] using h9
          go_wp2_with fail
          refine (HL.out _).mono ?_
          rintro e w' ⟨rfl, rfl⟩
          go_wp2
          go_roundw
          case rel => exact ⟨by trivial, 0 + 1, _, by omega, by first | rfl | go_num, HX.out, by omega, HE.out⟩
          case measure => simp [intOf]; omega
        · have hc9 := hat hk9
          generalize cl[k - 1] = b at *
          have HX := Lib.hid (HX.out.resolve_right (by rw [h1]; simp))
          have e1 : IntKind.i64.wrap ((k : Int) - 1) = (k : Int) - 1 := IntWalk.i64_in _ (by omega)
          have e2 : ((k : Int) - 1).toNat = k - 1 := by omega
          have e3 : (0 : Int) ≤ (k : Int) - 1 := by omega
          have e4 : (k : Int) - 1 < cl.length := by omega
          have hkz : (0 : Int) < k := by omega
          have HB := Lib.hid (fun W => variable_any b W (by omega) (by omega))
          have HA := Lib.hid (fun W => variable_any a W (by omega) (by omega))
          have HLA := Lib.hid hla
          have h1H := Lib.hid h1
          clear h1 hat
          by_cases hge : last < (a.natAbs : Int)
          · have HE := Lib.hid (show clOk m cl = cOk m a.natAbs (cl.drop (k + 1)) by rw [HT.out, HD.out, h1H.out, decide_eq_true hge]; rfl)
            have hge2 : ¬ ((a.natAbs : Int) ≤ (b.natAbs : Int)) := by omega
            generalize (b.natAbs : Int) = nb at *
            generalize hna : (a.natAbs : Int) = na at *
            have HNA := Lib.hid hna
            clear hna
            go_wp2_with fail
            refine (HL.out _).mono ?_
            rintro e w' ⟨rfl, rfl⟩
            go_wp2_with fail
            refine (HB.out _).mono ?_
            rintro e w' ⟨rfl, rfl⟩
            go_wp2_with fail
            refine (HA.out _).mono ?_
            rintro e w' ⟨rfl, rfl⟩
            go_wp2
            go_roundw
            case rel => exact ⟨by trivial, k + 1, _, by omega, by go_num, HX.out, by omega, HE.out⟩
            case measure => simp [intOf]; omega
          · have HE := Lib.hid (show clOk m cl = false by rw [HT.out, HD.out, h1H.out, decide_eq_false hge]; rfl)
            have hge2 : (a.natAbs : Int) ≤ (b.natAbs : Int) := by omega
            generalize (b.natAbs : Int) = nb at *
            generalize hna : (a.natAbs : Int) = na at *
            have HNA := Lib.hid hna
            clear hna
            go_wp2_with fail
            refine (HL.out _).mono ?_
            rintro e w' ⟨rfl, rfl⟩
            go_wp2_with fail
            refine (HB.out _).mono ?_
            rintro e w' ⟨rfl, rfl⟩
            go_wp2_with fail
            refine (HA.out _).mono ?_
            rintro e w' ⟨rfl, rfl⟩
            go_wp2
            go_ret
            exact ⟨by rw [HE.out]; rfl, rfl⟩
      · rw [Bool.not_eq_true] at h1
        rw [h1] at hlit
        have HL := Lib.hid (fun W => hlit W i1 i2 (by omega) (by omega))
        have HE := Lib.hid (show clOk m cl = false by rw [HT.out, HD.out, h1]; rfl)
        clear hlit h1
        go_wp2_with fail
        refine (HL.out _).mono ?_
        rintro e w' ⟨rfl, rfl⟩
        go_wp2
        go_ret
        exact ⟨by rw [HE.out]; rfl, rfl⟩
    · have hke : k = cl.length := by omega
      subst hke
      have HE := Lib.hid (show clOk m cl = true by rw [HT.out, List.drop_length]; rfl)
      go_wp2
      go_ret
      exact ⟨by rw [HE.out]; rfl, rfl⟩


theorem cnfOk1_any (cl : List Int) (m : Int) (A : Option Addr) (c b : Nat) (F : Nat → Prop) (w : World) (h : Lay.int.Sl w F A cl) (hn : cl.length ≤ 1048576) (hi : i64s cl) (m0 : 0 ≤ m) (m1 : m ≤ 700) (hm : w.cell? ⟨b, 0, none⟩ = some (.int .i64 m)) :
    Calls Try.prog 77 #[.slice A cl.length c, .pointer (some ⟨b, 0, none⟩)] w fun e w' => e = .returned (.bool (!clOk m cl)) ∧ w = w' := by
  go_enter Try.func77, Try.ntmps77
  go_wp2_with fail
  refine (clauseOk_any cl m A c F w h hn hi m0 m1).mono ?_
  rintro e w' ⟨rfl, rfl⟩
  go_wp2
  go_ret
  exact ⟨rfl, rfl⟩
theorem all_drop {f : List Int → Bool} {xs : List (List Int)} {k : Nat} (h : k < xs.length) : (xs.drop k).all f = (f xs[k] && (xs.drop (k + 1)).all f) := by
  rw [List.drop_eq_getElem_cons h]; rfl
set_option maxHeartbeats 1000000 in
theorem idxFunc_any (xs : List (List Int)) (m : Int) (A : Option Addr) (c b : Nat) (F : Nat → Prop) (w : World) (h : Lay.int.slice.Sl w F A xs) (hx : xs.length ≤ 1048576) (hn : ∀ cl ∈ xs, cl.length ≤ 1048576 ∧ i64s cl) (m0 : 0 ≤ m) (m1 : m ≤ 700) (hm : w.cell? ⟨b, 0, none⟩ = some (.int .i64 m)) :
    Calls Try.prog 102 #[.slice A xs.length c, .func (.func 77) #[] #[.pointer (some ⟨b, 0, none⟩)]] w fun e w' => ∃ r : Int, e = .returned (.int .i64 r) ∧ decide (0 ≤ r) = !xs.all (clOk m) ∧ w = w' := by
  go_enter Try.func102, Try.ntmps102
  go_wp2
  go_loopw [8] (fun i wr => wr = w ∧ ∃ k : Nat, k ≤ xs.length ∧ i = .int .i64 k ∧ xs.all (clOk m) = (xs.drop k).all (clOk m)) (fun i _ => xs.length - (intOf i).toNat)
  case atStart => exact ⟨rfl, 0, Nat.zero_le _, rfl, rfl⟩
  case round =>
    obtain ⟨rfl, k, hk, rfl, ht⟩ := hrel
    have HT := Lib.hid ht
    clear ht
    by_cases hlt : k < xs.length
    · obtain ⟨ad, A', c', rfl, hf, k1, hl1, s1⟩ := h.at_slice hlt
      have hk1 : (k : Int) < xs.length := by omega
      obtain ⟨n1, n2⟩ := hn _ (List.getElem_mem hlt)
      have hd := all_drop (f := clOk m) hlt
      have hcall := cnfOk1_any xs[k] m A' c' b F wr s1 n1 n2 m0 m1 hm
      generalize xs[k] = cl at *
      have HD := Lib.hid hd
      clear hd
      by_cases h1 : clOk m cl = true
      · rw [h1] at hcall
        have HC := Lib.hid hcall
        have HE := Lib.hid (show xs.all (clOk m) = (xs.drop (k + 1)).all (clOk m) by rw [HT.out, HD.out, h1]; rfl)
        clear hcall h1
        go_wp2_with fail
        refine HC.out.mono ?_
        rintro e w' ⟨rfl, rfl⟩
        go_wp2
        go_roundw
        case rel => exact ⟨by trivial, k + 1, by omega, by go_num, HE.out⟩
        case measure => simp [intOf]; omega
      · rw [Bool.not_eq_true] at h1
        rw [h1] at hcall
        have HC := Lib.hid hcall
        have HE := Lib.hid (show xs.all (clOk m) = false by rw [HT.out, HD.out, h1]; rfl)
        clear hcall h1
        go_wp2_with fail
        refine HC.out.mono ?_
        rintro e w' ⟨rfl, rfl⟩
        go_wp2
        go_ret
        exact ⟨_, rfl, by rw [HE.out]; simp, rfl⟩
    · have hke : k = xs.length := by omega
      subst hke
      have HE := Lib.hid (show xs.all (clOk m) = true by rw [HT.out, List.drop_length]; rfl)
      go_wp2
      go_ret
      exact ⟨-1, rfl, by rw [HE.out]; rfl, rfl⟩
theorem hasFunc_any (xs : List (List Int)) (m : Int) (A : Option Addr) (c b : Nat) (F : Nat → Prop) (w : World) (h : Lay.int.slice.Sl w F A xs) (hx : xs.length ≤ 1048576) (hn : ∀ cl ∈ xs, cl.length ≤ 1048576 ∧ i64s cl) (m0 : 0 ≤ m) (m1 : m ≤ 700) (hm : w.cell? ⟨b, 0, none⟩ = some (.int .i64 m)) :
    Calls Try.prog 76 #[.slice A xs.length c, .func (.func 77) #[] #[.pointer (some ⟨b, 0, none⟩)]] w fun e w' => e = .returned (.bool (!xs.all (clOk m))) ∧ w = w' := by
  go_enter Try.func76, Try.ntmps76
  go_wp2_with fail
  refine (idxFunc_any xs m A c b F w h hx hn m0 m1 hm).mono ?_
  rintro e w' ⟨r, rfl, hr, rfl⟩
  have HR := Lib.hid hr
  clear hr
  go_wp2
  go_ret
  exact ⟨ret_bool (by rw [← HR.out]), rfl⟩
theorem cnfOkP_any (x : C) (A : Option Addr) (p : Nat) (F : Nat → Prop) (w : World) (h : Lay.int.slice.Sl w F A x.list) (hF : ∀ b, F b → b < w.heap.size) (hm : -9223372036854775808 ≤ x.many ∧ x.many ≤ 9223372036854775807) (hx : x.list.length ≤ 9223372036854775807)
    (hn : ∀ cl ∈ x.list, cl.length ≤ 1048576 ∧ i64s cl) :
    Calls Try.prog 42 #[.agg #[.int .i64 x.many, .slice A x.list.length p]] w (RetB w (cnfOk x)) := by
  obtain ⟨hm1, hm2⟩ := hm
  have hw : Below w.heap.size w (w.alloc (.cells #[.int .i64 x.many, .slice A x.list.length p] 25)) := (Below.refl _ _).alloc (Nat.le_refl _) _
  have K := h.below hw hF
  have HW := Lib.hid hw
  have HE : Hid (cnfOk x = (decide (0 ≤ x.many) && decide (x.many ≤ 700) && decide (x.list.length ≤ 2500) && x.list.all (clOk x.many))) := Lib.hid rfl
  have v0 : (w.alloc (.cells #[.int .i64 x.many, .slice A x.list.length p] 25)).cell? ⟨w.heap.size, 0, none⟩ = some (.int .i64 x.many) := by simp [go_sem]
  clear hw h
  by_cases h0 : 0 ≤ x.many
  · by_cases h1 : x.many ≤ 700
    · by_cases h2 : x.list.length ≤ 2500
      · rw [decide_eq_true h0, decide_eq_true h1, decide_eq_true h2] at HE
        have HC := Lib.hid (hasFunc_any x.list x.many A p w.heap.size F _ K (by omega) hn h0 h1 v0)
        clear v0
        go_enter Try.func42, Try.ntmps42
        go_wp2_with fail
        refine HC.out.mono ?_
        rintro e w' ⟨rfl, rfl⟩
        go_wp2
        go_ret
        exact ⟨ret_bool (by rw [HE.out]; simp), HW.out⟩
      · rw [decide_eq_false h2] at HE
        go_enter Try.func42, Try.ntmps42
        go_wp2
        go_ret
        exact ⟨ret_bool (by rw [HE.out]; simp), HW.out⟩
    · rw [decide_eq_false h1] at HE
      go_enter Try.func42, Try.ntmps42
      go_wp2
      go_ret
      exact ⟨ret_bool (by rw [HE.out]; simp), HW.out⟩
  · rw [decide_eq_false h0] at HE
    go_enter Try.func42, Try.ntmps42
    go_wp2
    go_ret
    exact ⟨ret_bool (by rw [HE.out]; simp), HW.out⟩

end Go.Proofs.Ytbljfhmcebgdaaa

/-! The program's rup, RupOk. -/
namespace Go.Proofs.Ytbljfhmcebgdaaa
open Go Go.RowKit

theorem OwnI.nil (w : World) (lo : Nat) : OwnI w lo (.slice none 0 0) [] := World.ownsRow_nil _ _ _ _
end Go.Proofs.Ytbljfhmcebgdaaa

/-! What a law leaves. -/
namespace Go.Proofs.Ytbljfhmcebgdaaa
open Go Go.RowKit

def LawC (w : World) (e : Ending) (w' : World) : Prop := e = .returned (.bool true) ∧ Below w.heap.size w w'
end Go.Proofs.Ytbljfhmcebgdaaa

/-! What a mark does to memory: cells of plain values turn into others of their kind, in some blocks. -/
namespace Go.Proofs.Ytbljfhmcebgdaaa
open Go Go.RowKit

/-- One value for another of its kind; a slice or a pointer for itself alone. -/
inductive Kin : Value → Value → Prop
  | same (v : Value) : Kin v v
  | int (a b : Int) : Kin (.int .i64 a) (.int .i64 b)
  | bool (a b : Bool) : Kin (.bool a) (.bool b)
  | str (a b : ByteArray) : Kin (.string a) (.string b)
theorem Kin.trans {a b c : Value} (h : Kin a b) (h' : Kin b c) : Kin a c := by
  cases h <;> cases h' <;> constructor
theorem Kin.ofInt {a : Int} {v : Value} (h : Kin (.int .i64 a) v) : ∃ b, v = .int .i64 b := by
  cases h
  · exact ⟨a, rfl⟩
  · exact ⟨_, rfl⟩
/-- Nothing turned but plain values in the blocks F. -/
structure Dab (F : Nat → Prop) (w w' : World) : Prop where
  os : w'.os = w.os
  tape : w'.tape = w.tape
  output : w'.output = w.output
  size : w.heap.size ≤ w'.heap.size
  block : ∀ b, b < w.heap.size → ¬ F b → w'.heap[b]? = w.heap[b]?
  kin : ∀ a v, w.cell? a = some v → ∃ v', w'.cell? a = some v' ∧ Kin v v'
  frz : ∀ a : Addr, a.block < w.heap.size → w'.frozen? a = w.frozen? a
theorem Dab.refl (F : Nat → Prop) (w : World) : Dab F w w := ⟨rfl, rfl, rfl, Nat.le_refl _, fun _ _ _ => rfl, fun _ v h => ⟨v, h, .same v⟩, fun _ _ => rfl⟩
theorem Dab.trans {F : Nat → Prop} {a b c : World} (h : Dab F a b) (k : Dab F b c) : Dab F a c := by
  refine ⟨k.os.trans h.os, k.tape.trans h.tape, k.output.trans h.output, Nat.le_trans h.size k.size, fun i hi hn => (k.block i (Nat.lt_of_lt_of_le hi h.size) hn).trans (h.block i hi hn), fun p v hv => ?_, fun p hp => (k.frz p (Nat.lt_of_lt_of_le hp h.size)).trans (h.frz p hp)⟩
  obtain ⟨v1, h1, k1⟩ := h.kin p v hv
  obtain ⟨v2, h2, k2⟩ := k.kin p v1 h1
  exact ⟨v2, h2, k1.trans k2⟩
theorem Dab.mono {F G : Nat → Prop} {w w' : World} (h : Dab F w w') (hFG : ∀ b, F b → G b) : Dab G w w' := ⟨h.os, h.tape, h.output, h.size, fun b hb hn => h.block b hb (fun hf => hn (hFG b hf)), h.kin, h.frz⟩
theorem Dab.of {F : Nat → Prop} {w w' : World} (h : Below w.heap.size w w') : Dab F w w' := by
  have hlt : ∀ p v, w.cell? p = some v → p.block < w.heap.size := fun p v hv => World.block_lt_of_cell? w p hv
  exact ⟨h.os, h.tape, h.output, h.size, fun b hb _ => h.block b hb, fun p v hv => ⟨v, (World.cell?_of_block (h.block _ (hlt p v hv))).trans hv, .same v⟩, fun p hp => World.frozen?_of_block (h.block _ hp)⟩
theorem Dab.set {F : Nat → Prop} {w : World} {p : Addr} {u z : Value} (hF : F p.block) (hz : w.cell? p = some z) (hk : Kin z u) : Dab F w (w.setCell p u) := by
  refine ⟨rfl, rfl, rfl, by simp [World.setCell], fun b _ hn => Below.heap_setCell w p _ b (fun e => hn (e ▸ hF)), fun a v hv => ?_, fun a _ => World.frozen?_setCell _ _ _ _⟩
  by_cases e : p = a
  · subst e
    rw [hz] at hv
    injection hv with hv
    subst hv
    exact ⟨u, World.cell?_setCell_same _ _ _ hz, hk⟩
  · exact ⟨v, (World.cell?_setCell_other _ _ _ _ e).trans hv, .same v⟩
theorem Dab.then {F : Nat → Prop} {a b c : World} (h : Below a.heap.size a b) (k : Dab F b c) : Dab F a c := (Dab.of h).trans k
theorem Dab.below {F : Nat → Prop} {w w' : World} {B : Nat} (h : Dab F w w') (hB : B ≤ w.heap.size) (hF : ∀ b, F b → B ≤ b) : Below B w w' :=
  ⟨h.os, h.tape, h.output, h.size, fun b hb => h.block b (Nat.lt_of_lt_of_le hb hB) (fun hf => absurd (hF b hf) (by omega))⟩
/-- n integers lie there, and may be written. -/
def IntsAt (w : World) (F : Nat → Prop) (A : Option Addr) (n : Nat) : Prop :=
  0 < n → ∃ ad, A = some ad ∧ F ad.block ∧ ∀ k, k < n → (∃ z, w.cell? (ad.add k) = some (.int .i64 z)) ∧ w.frozen? (ad.add k) = false
theorem IntsAt.mono {w : World} {F G : Nat → Prop} {A : Option Addr} {n : Nat} (h : IntsAt w F A n) (hFG : ∀ b, F b → G b) : IntsAt w G A n := fun hn => by
  obtain ⟨ad, e, hf, hc⟩ := h hn
  exact ⟨ad, e, hFG _ hf, hc⟩
theorem IntsAt.of {w : World} {F G : Nat → Prop} {A : Option Addr} {xs : List Int} (h : Lay.int.Sl w F A xs) (hF : ∀ b, F b → G b ∧ ∀ o, w.frozen? ⟨b, o, none⟩ = false) : IntsAt w G A xs.length := fun hn => by
  obtain ⟨ad, e, hf, hc⟩ := h hn
  refine ⟨ad, e, (hF _ hf).1, fun k hk => ?_⟩
  obtain ⟨vs, rfl, hcell⟩ := hc k xs[k] (List.getElem?_eq_getElem hk)
  refine ⟨⟨xs[k], by simpa [Lay.int, Lay.flat] using hcell 0 _ rfl⟩, ?_⟩
  have := (hF _ hf).2 (ad.add k).off
  rw [← this]
  unfold World.frozen?
  rw [block_of_add]
/-- Rows of integers lie there. -/
def RowsAt (w : World) (F : Nat → Prop) (A : Option Addr) (ns : List Nat) : Prop :=
  0 < ns.length → ∃ ad, A = some ad ∧ ∀ k (h : k < ns.length), ∃ A' c', w.cell? (ad.add k) = some (.slice A' ns[k] c') ∧ IntsAt w F A' ns[k]
theorem RowsAt.of {w : World} {F G : Nat → Prop} {A : Option Addr} {xs : List (List Int)} (h : Lay.int.slice.Sl w F A xs) (hF : ∀ b, F b → G b ∧ ∀ o, w.frozen? ⟨b, o, none⟩ = false) : RowsAt w G A (xs.map List.length) := fun hn => by
  obtain ⟨ad, e, _, _⟩ := h (by simpa using hn)
  refine ⟨ad, e, fun k hk => ?_⟩
  obtain ⟨ad2, A', c', e2, _, hc, _, hs⟩ := h.at_slice (k := k) (by simpa using hk)
  rw [e] at e2
  injection e2 with e2
  subst e2
  rw [List.getElem_map]
  exact ⟨A', c', hc, IntsAt.of hs hF⟩
def nsum : List Nat → Nat
  | [] => 0
  | n :: ns => n + nsum ns
end Go.Proofs.Ytbljfhmcebgdaaa

/-! Copies of the call's own, made between two sizes of the heap; what stays over calls and over marks. -/
namespace Go.Proofs.Ytbljfhmcebgdaaa
open Go Go.RowKit

/-- Between two sizes. -/
def Rng (lo hi b : Nat) : Prop := lo ≤ b ∧ b < hi
/-- A block of a copy: made between two sizes of the heap, may be written. -/
def Cp (lo hi : Nat) (w : World) (b : Nat) : Prop := lo ≤ b ∧ b < hi ∧ hi ≤ w.heap.size ∧ ∀ o, w.frozen? ⟨b, o, none⟩ = false
theorem Cp.up {lo hi : Nat} {w w' : World} {b : Nat} (h : Cp lo hi w b) (hb : Below w.heap.size w w') : Cp lo hi w' b :=
  ⟨h.1, h.2.1, Nat.le_trans h.2.2.1 hb.size, fun o => (World.frozen?_of_block (a := ⟨b, o, none⟩) (hb.block b (by have := h.2.1; have := h.2.2.1; omega))).trans (h.2.2.2 o)⟩
theorem Cp.lt {lo hi : Nat} {w : World} {b : Nat} (h : Cp lo hi w b) : b < w.heap.size := Nat.lt_of_lt_of_le h.2.1 h.2.2.1
section
variable {α : Type} {L : Lay α} {w w' : World} {lo hi : Nat} {A : Option Addr} {xs : List α}
theorem Dab.rng (hd : Dab (Cp lo hi w) w w') : Dab (Rng lo hi) w w' := hd.mono fun _ h => ⟨h.1, h.2.1⟩
end
end Go.Proofs.Ytbljfhmcebgdaaa

/-! Marks on integers. -/
namespace Go.Proofs.Ytbljfhmcebgdaaa
open Go Go.RowKit

end Go.Proofs.Ytbljfhmcebgdaaa

/-! Rows of integers: what comes in, copies, comparisons, marks; one form for all. -/
namespace Go.Proofs.Ytbljfhmcebgdaaa
open Go Go.RowKit Go.ChangeShapes Go.WideShapes Go.ChangeAt Go.Deep

def okList (l : List Int) : Prop := l.length ≤ maxLen ∧ ∀ x ∈ l, okInt x
/-- Small enough for every count. -/
def smInts (xs : List Int) : Prop := xs.length ≤ 1048576 ∧ i64s xs
/-- A row of the call's own is a copy that may be written. -/
theorem OwnI.own {w : World} {base c : Nat} {A : Option Addr} {xs : List Int} (h : OwnI w base (.slice A xs.length c) xs) : Lay.int.Sl w (Own base w) A xs := fun hn => by
  obtain ⟨A', c', e, _, hs⟩ := h.form
  injection e with e1 e2 e3
  subst e1
  obtain ⟨ad, e, hf, hc⟩ := hs hn
  refine ⟨ad, e, ⟨hf.1, hf.2, fun o => ?_⟩, hc⟩
  subst e
  rcases h.2 with ⟨e, _⟩ | ⟨g, cap, cur, e, _, hg, _⟩
  · cases e
  · injection e with e1 e2 e3
    injection e1 with e1
    subst e1
    unfold World.frozen?
    rw [hg]
    simp
theorem OwnI.cap {w : World} {base c : Nat} {A : Option Addr} {xs : List Int} (h : OwnI w base (.slice A xs.length c) xs) : xs.length ≤ c := by
  obtain ⟨A', c', e, hl, hs⟩ := h.form
  injection e with e1 e2 e3
  omega
end Go.Proofs.Ytbljfhmcebgdaaa
