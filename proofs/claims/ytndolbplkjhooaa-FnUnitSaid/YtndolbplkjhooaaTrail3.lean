/- The program's trail: push. -/
import Derived.Test.YtndolbplkjhooaaTrail2
import Derived.Test.YtndolbplkjhooaaGrow
namespace Go.Proofs.Ytndolbplkjhooaa
open Go Go.RowKit

theorem rowI_ne {w : World} {lo : Nat} {v : Value} {xs : List Int} (h : OwnI w lo v xs) (r : Nat) (o : Obj) (hr : w.heap[r]? = some o) (ho : ∀ cs fr, o ≠ .cells cs 3 fr) : v.ownBlock ≠ some r := by
  rcases h.2 with ⟨e, _⟩ | ⟨g, cap, cur, e, _, hg, _⟩
  · rw [e]; intro h; cases h
  · rw [e]
    intro h
    injection h with h
    subst h
    rw [hr] at hg
    injection hg with hg
    exact ho _ _ hg
/-- append of one integer onto a row of the call's own. -/
theorem wpList_append_int {Q : Exit → Act → World → Prop} {ops : Array Oper} {rest : List Oper} {o : Oper} {a : Act} {W : World} {lo : Nat} {A : Option Addr} {c : Nat} {xs ys : List Int} {x : Int} {e' : TypeId} (hgd : o.guard = none) (s y : Operand)
    (ho : o.op = .call { callee := .builtin .append, args := #[s, y], argTypes := #[25, 25] }) (hs : a.eval s = .slice A xs.length c) (hy : a.eval y = .slice (some ⟨W.heap.size, 0, none⟩) 1 1)
    (hown : OwnI W lo (.slice A xs.length c) xs) (hn : xs.length ≤ 2000000) (hlo : lo ≤ W.heap.size) (hys : ys = xs ++ [x])
    (h : ∀ A' c' w', OwnI w' lo (.slice A' ys.length c') ys → W.grownBy w' (Value.slice A xs.length c).ownBlock →
      ((Value.slice A' ys.length c').ownBlock = (Value.slice A xs.length c).ownBlock ∨ ∃ g, (Value.slice A' ys.length c').ownBlock = some g ∧ W.heap.size ≤ g) → wpList Try.prog ops Q rest (a.put o.dst (.slice A' ys.length c')) w') :
    wpList Try.prog ops Q (o :: rest) a (W.alloc (.cells #[.int .i64 x] e')) := by
  obtain ⟨i0, hi0, hz0, hz1, hz2⟩ := info_parts int_info
  have hal : Below W.heap.size W (W.alloc (.cells #[.int .i64 x] e')) := (Below.refl _ _).alloc (Nat.le_refl _) _
  have hl : ys.length = xs.length + 1 := by rw [hys]; simp
  have hm : ys.map (Value.int .i64) = xs.map (Value.int .i64) ++ [.int .i64 x] := by rw [hys]; simp
  refine wpList_plain hgd fun _ hK => ?_
  obtain ⟨v', w', hrun, ho', hg', _, hbk⟩ := run_append_own_at (P := Try.prog) (W.alloc (.cells #[.int .i64 x] e')) lo 25 o.type 3 i0 _ 1 8 Try.underlying25 hi0 hz0 hz1 hz2 (by rfl) (by omega)
    (.slice A xs.length c) xs.length (xs.map (Value.int .i64)) (hown.up hal) ⟨W.heap.size, 0, none⟩ 1 1 [.int .i64 x] (by rfl) (fun j u hu => by
      have := World.news_of_block (heap_alloc_new W (.cells #[.int .i64 x] e')) j u hu
      exact this) (by simp; rfl) (by unfold maxLen; omega) (by omega) (Nat.le_trans hlo hal.size)
  rw [← hl, ← hm] at ho'
  obtain ⟨A', c', rfl, _, _⟩ := OwnI.form (xs := ys) ho'
  unfold Oper.wp execOp
  simp only [ho, resolve, invoke, builtin, Sem.run_bind, Sem.run_pure, Result.andThen_ok, List.map_toArray, List.map_cons, List.map_nil, hs, hy, hrun]
  refine hK _ _ (h A' c' w' ho' (grown_then hal hg') ?_)
  rcases hbk with e | e
  · exact .inl e
  · exact .inr ⟨_, e, hal.size⟩

theorem TrB.lt {lo M : Nat} {S : Nat → Prop} {w : World} {t : Nat} {put ls : List Int} {A B : Option Addr} {c d Q : Nat} {pl : List Int} (h : TrB lo S M w t put ls A B c d Q pl) : lo ≤ w.heap.size := Nat.le_trans h.hlo (Nat.le_of_lt (lt_of_block h.blk))
theorem TrB.q {lo M : Nat} {S : Nat → Prop} {w : World} {t : Nat} {put ls : List Int} {A B : Option Addr} {c d Q : Nat} {pl : List Int} (h : TrB lo S M w t put ls A B c d Q pl) : lo ≤ Q ∧ Q < w.heap.size := h.hpl.lt Q rfl
theorem own_at_least {w w' : World} {lo : Nat} {v : Value} {xs : List Int} (h : OwnI w lo v xs) (hlo : lo ≤ w.heap.size) (hg : w.grownBy w' v.ownBlock) : Below lo w w' :=
  (Below.refl lo w).grown hg hlo (fun k hk => (h.lt k hk).1)
theorem tne {cs : Array Value} {t : TypeId} {fr : Nat × Nat} (ht : t ≠ 3) : ∀ cs' fr', Obj.cells cs t fr ≠ .cells cs' 3 fr' := fun _ _ e => by injection e with _ e _; exact ht e
/-- Below lo, and on the spared blocks, nothing turned. -/
def BelowS (lo : Nat) (S : Nat → Prop) (w w' : World) : Prop := Below lo w w' ∧ ∀ x, S x → w'.heap[x]? = w.heap[x]?
theorem BelowS.refl (lo : Nat) (S : Nat → Prop) (w : World) : BelowS lo S w w := ⟨Below.refl _ _, fun _ _ => rfl⟩
theorem BelowS.trans {lo : Nat} {S : Nat → Prop} {w w' w'' : World} (h : BelowS lo S w w') (h' : BelowS lo S w' w'') : BelowS lo S w w'' := ⟨h.1.trans h'.1, fun x hx => (h'.2 x hx).trans (h.2 x hx)⟩
theorem BelowS.of {lo : Nat} {S : Nat → Prop} {w w' : World} (h : Below w.heap.size w w') (hlo : lo ≤ w.heap.size) (hS : ∀ x, S x → x < w.heap.size) : BelowS lo S w w' := ⟨h.mono hlo, fun x hx => h.block x (hS x hx)⟩
/-- The trail's put row turns. -/
theorem TrB.setPut {lo M : Nat} {S : Nat → Prop} {W w' : World} {t : Nat} {put ls ys : List Int} {A B A' : Option Addr} {c d Q c' : Nat} {pl : List Int} (h : TrB lo S M W t put ls A B c d Q pl) (hown : OwnI w' lo (.slice A' ys.length c') ys) (hg : W.grownBy w' (Value.slice A put.length c).ownBlock)
    (hb : (Value.slice A' ys.length c').ownBlock = (Value.slice A put.length c).ownBlock ∨ ∃ g, (Value.slice A' ys.length c').ownBlock = some g ∧ W.heap.size ≤ g) :
    TrB lo S M (w'.setCell ⟨t, 0, none⟩ (.slice A' ys.length c')) t ys ls A' B c' d Q pl ∧ BelowS lo S W (w'.setCell ⟨t, 0, none⟩ (.slice A' ys.length c')) := by
  have hnt := rowI_ne h.hput t _ h.blk (tne (by decide))
  have hblk := (hg.block t (lt_of_block h.blk) (fun e => hnt e.symm)).trans h.blk
  have hnt' := rowI_ne hown t _ hblk (tne (by decide))
  have hQ := h.q
  have hQt : Q ≠ t := by
    rintro rfl
    obtain ⟨_, g⟩ := h.hpl
    rcases g with ⟨e, _⟩ | ⟨g, cap, cur, e, _, hgg, _⟩
    · cases e
    · injection e with e; injection e with e; injection e with e; subst e
      rw [h.blk] at hgg; injection hgg with hgg; exact tne (by decide) _ _ hgg
  refine ⟨⟨by rw [heap_set_same _ _ _ _ _ _ hblk]; rfl, h.hlo, rows_set hown t 0 _ hnt', rows_set (rows_kept h.hpl hg (fun g e => by injection e with e; rw [← e]; exact h.d1)) t 0 _ (fun e => by injection e with e; exact hQt e),
    rows_set (rows_kept h.hls hg (fun g e e' => h.d3 g e' e)) t 0 _ (rowI_ne (w := w') (rows_kept h.hls hg (fun g e e' => h.d3 g e' e)) t _ hblk (tne (by decide))), ?_, h.d2, ?_, fun x hx => ⟨by rw [size_setCell]; exact Nat.lt_of_lt_of_le (h.d4 x hx).1 hg.size, (h.d4 x hx).2.1, (h.d4 x hx).2.2.1, fun e => by rcases hb with e1 | ⟨g, e1, hge⟩; exact (h.d4 x hx).2.2.2.1 (e1.symm.trans e); (rw [e1] at e; injection e with e; have := (h.d4 x hx).1; omega), (h.d4 x hx).2.2.2.2⟩⟩, ?_⟩
  · rcases hb with e | ⟨g, e, hge⟩
    · rw [e]; exact h.d1
    · rw [e]; intro e2; injection e2 with e2; omega
  · intro g e
    rcases hb with e1 | ⟨g', e1, hge⟩
    · exact h.d3 g (e1.symm.trans e)
    · rw [e1] at e; injection e with e; subst e
      intro e2
      have := (h.hls.lt _ e2).2
      omega
  · have hb1 := own_at_least h.hput h.lt hg
    refine ⟨⟨hb1.os, hb1.tape, hb1.output, by simpa [World.setCell] using hb1.size, fun b hlt => (Below.heap_setCell w' ⟨t, 0, none⟩ _ b (by have := h.hlo; dsimp only; omega)).trans (hb1.block b hlt)⟩, fun x hx => (Below.heap_setCell w' ⟨t, 0, none⟩ _ x (h.d4 x hx).2.1).trans (hg.block x (h.d4 x hx).1 (fun e => (h.d4 x hx).2.2.2.1 e.symm))⟩
/-- The trail's levels turn. -/
theorem TrB.setLs {lo M : Nat} {S : Nat → Prop} {W w' : World} {t : Nat} {put ls ys : List Int} {A B B' : Option Addr} {c d Q d' : Nat} {pl : List Int} (h : TrB lo S M W t put ls A B c d Q pl) (hown : OwnI w' lo (.slice B' ys.length d') ys) (hg : W.grownBy w' (Value.slice B ls.length d).ownBlock)
    (hb : (Value.slice B' ys.length d').ownBlock = (Value.slice B ls.length d).ownBlock ∨ ∃ g, (Value.slice B' ys.length d').ownBlock = some g ∧ W.heap.size ≤ g) :
    TrB lo S M (w'.setCell ⟨t, 2, none⟩ (.slice B' ys.length d')) t put ys A B' c d' Q pl ∧ BelowS lo S W (w'.setCell ⟨t, 2, none⟩ (.slice B' ys.length d')) := by
  have hnt := rowI_ne h.hls t _ h.blk (tne (by decide))
  have hblk := (hg.block t (lt_of_block h.blk) (fun e => hnt e.symm)).trans h.blk
  have hnt' := rowI_ne hown t _ hblk (tne (by decide))
  have hQ := h.q
  have hQt : Q ≠ t := by
    rintro rfl
    obtain ⟨_, g⟩ := h.hpl
    rcases g with ⟨e, _⟩ | ⟨g, cap, cur, e, _, hgg, _⟩
    · cases e
    · injection e with e; injection e with e; injection e with e; subst e
      rw [h.blk] at hgg; injection hgg with hgg; exact tne (by decide) _ _ hgg
  refine ⟨⟨by rw [heap_set_same _ _ _ _ _ _ hblk]; rfl, h.hlo, rows_set (rows_kept h.hput hg (fun g e e' => h.d3 g e e')) t 2 _ (rowI_ne (w := w') (rows_kept h.hput hg (fun g e e' => h.d3 g e e')) t _ hblk (tne (by decide))),
    rows_set (rows_kept h.hpl hg (fun g e => by injection e with e; rw [← e]; exact h.d2)) t 2 _ (fun e => by injection e with e; exact hQt e), rows_set hown t 2 _ hnt', h.d1, ?_, ?_, fun x hx => ⟨by rw [size_setCell]; exact Nat.lt_of_lt_of_le (h.d4 x hx).1 hg.size, (h.d4 x hx).2.1, (h.d4 x hx).2.2.1, (h.d4 x hx).2.2.2.1, fun e => by rcases hb with e1 | ⟨g, e1, hge⟩; exact (h.d4 x hx).2.2.2.2 (e1.symm.trans e); (rw [e1] at e; injection e with e; have := (h.d4 x hx).1; omega)⟩⟩, ?_⟩
  · rcases hb with e | ⟨g, e, hge⟩
    · rw [e]; exact h.d2
    · rw [e]; intro e2; injection e2 with e2; omega
  · intro g e
    rcases hb with e1 | ⟨g', e1, hge⟩
    · rw [e1]; exact h.d3 g e
    · rw [e1]
      intro e2; injection e2 with e2; subst e2
      have := (h.hput.lt _ e).2
      omega
  · have hb1 := own_at_least h.hls h.lt hg
    refine ⟨⟨hb1.os, hb1.tape, hb1.output, by simpa [World.setCell] using hb1.size, fun b hlt => (Below.heap_setCell w' ⟨t, 2, none⟩ _ b (by have := h.hlo; dsimp only; omega)).trans (hb1.block b hlt)⟩, fun x hx => (Below.heap_setCell w' ⟨t, 2, none⟩ _ x (h.d4 x hx).2.1).trans (hg.block x (h.d4 x hx).1 (fun e => (h.d4 x hx).2.2.2.2 e.symm))⟩
/-- A place turns. -/
theorem TrB.setPl {lo M : Nat} {S : Nat → Prop} {W : World} {t : Nat} {put ls : List Int} {A B : Option Addr} {c d Q : Nat} {pl : List Int} (h : TrB lo S M W t put ls A B c d Q pl) (v : Nat) (x : Int) :
    TrB lo S M (W.setCell ⟨Q, v, none⟩ (.int .i64 x)) t put ls A B c d Q (pl.set v x) ∧ BelowS lo S W (W.setCell ⟨Q, v, none⟩ (.int .i64 x)) := by
  have hQ := h.q
  have hQt : t ≠ Q := by
    rintro rfl
    obtain ⟨_, g⟩ := h.hpl
    rcases g with ⟨e, _⟩ | ⟨g, cap, cur, e, _, hgg, _⟩
    · cases e
    · injection e with e; injection e with e; injection e with e; subst e
      rw [h.blk] at hgg; injection hgg with hgg; exact tne (by decide) _ _ hgg
  refine ⟨⟨(Below.heap_setCell W ⟨Q, v, none⟩ _ t hQt).trans h.blk, h.hlo, rows_set h.hput Q v _ h.d1, by rw [List.map_set]; exact (h.hpl.stored v _).1, rows_set h.hls Q v _ h.d2, h.d1, h.d2, h.d3, fun x hx => ⟨by rw [size_setCell]; exact (h.d4 x hx).1, (h.d4 x hx).2⟩⟩, ?_⟩
  exact ⟨⟨rfl, rfl, rfl, by simp [World.setCell], fun b hlt => Below.heap_setCell W ⟨Q, v, none⟩ _ b (by dsimp only; omega)⟩, fun x hx => Below.heap_setCell W ⟨Q, v, none⟩ _ x (h.d4 x hx).2.2.1⟩

def lastI (ls : List Int) : Int := match ls.getLast? with | some x => x | none => 0
theorem lastI_at {ls : List Int} (h : 0 < ls.length) : ls[ls.length - 1] = lastI ls := by
  unfold lastI
  rw [List.getLast?_eq_getElem?, List.getElem?_eq_getElem (by omega)]
theorem lastI_rng {ls : List Int} (h : ∀ x ∈ ls, 0 ≤ x ∧ x ≤ ls.length) : 0 ≤ lastI ls ∧ lastI ls ≤ ls.length := by
  rcases Nat.eq_zero_or_pos ls.length with h0 | h0
  · have : ls = [] := List.eq_nil_of_length_eq_zero h0
    subst this; simp [lastI]
  · rw [← lastI_at h0]; exact h _ (List.getElem_mem _)
/-- The level behind. -/
def lvl (ls : List Int) (dec : Bool) : Int := lastI ls + if dec then 1 else 0
theorem PlacesOk.snoc {M : Nat} {put pl : List Int} (h : PlacesOk M put pl) {l : Int} (h0 : l ≠ 0) (h1 : -(M : Int) ≤ l) (h2 : l ≤ M) (h3 : l ∉ put) (h4 : -l ∉ put) : PlacesOk M (put ++ [l]) (pl.set l.natAbs ((put.length : Int) + 1)) := by
  refine ⟨by rw [List.length_set]; exact h.1, fun v hv1 hv2 => ?_⟩
  by_cases e : l.natAbs = v
  · refine .inl ⟨put.length, by simp, by simp [e], ?_⟩
    rw [← e, List.getElem?_set_self (by rw [h.1]; omega)]
  · rw [List.getElem?_set_ne e]
    rcases h.2 v hv1 hv2 with ⟨k, hk, hk1, hk2⟩ | ⟨hn, hk2⟩
    · exact .inl ⟨k, by simp; omega, by rw [List.getElem_append_left hk]; exact hk1, hk2⟩
    · refine .inr ⟨fun x hx => ?_, hk2⟩
      rcases List.mem_append.1 hx with hx | hx
      · exact hn x hx
      · rw [List.mem_singleton.1 hx]; exact e
theorem lvl_rng {ls : List Int} (h : ∀ x ∈ ls, 0 ≤ x ∧ x ≤ ls.length) (dec : Bool) : ∀ x ∈ ls ++ [lvl ls dec], 0 ≤ x ∧ x ≤ (ls ++ [lvl ls dec]).length := by
  have hl := lastI_rng h
  intro x hx
  rw [List.length_append, List.length_singleton]
  rcases List.mem_append.1 hx with hx | hx
  · have := h x hx; omega
  · rw [List.mem_singleton.1 hx]
    unfold lvl
    cases dec <;> simp <;> omega
theorem push_done {lo M : Nat} {S : Nat → Prop} {w' : World} {t : Nat} {put ls ps ms pl : List Int} {A B : Option Addr} {c d Q v : Nat} {x l : Int} {dec : Bool} (h : TrB lo S M w' t ps ms A B c d Q (pl.set v x)) (hp : ps = put ++ [l]) (hm : ms = ls ++ [lvl ls dec])
    (hok : PlacesOk M (put ++ [l]) (pl.set l.natAbs ((put.length : Int) + 1))) (hv : v = l.natAbs) (hx : x = (put.length : Int) + 1) (hlen : ls.length = put.length) (hlv : ∀ x ∈ ls, 0 ≤ x ∧ x ≤ ls.length) : Tr lo S M w' t (put ++ [l]) (ls ++ [lvl ls dec]) := by
  subst hp hm hv hx
  exact ⟨A, B, c, d, Q, _, ⟨h, hok, by simp [hlen], lvl_rng hlv dec⟩⟩
def RetPush (lo : Nat) (S : Nat → Prop) (M : Nat) (w : World) (t : Nat) (put ls : List Int) (e : Ending) (w' : World) : Prop := e = .returned (.tuple #[]) ∧ Tr lo S M w' t put ls ∧ BelowS lo S w w'
set_option maxRecDepth 100000 in
set_option maxHeartbeats 8000000 in
theorem push_any (lo : Nat) (S : Nat → Prop) (M t : Nat) (put ls : List Int) (l : Int) (dec : Bool) (w : World) (h : Tr lo S M w t put ls) (hg : Good M put) (h0 : l ≠ 0) (h1 : -(M : Int) ≤ l) (h2 : l ≤ M) (h3 : l ∉ put) (h4 : -l ∉ put) (hM : M ≤ 1000000) :
    Calls Try.prog 75 #[.pointer (some ⟨t, 0, none⟩), .int .i64 l, .bool dec] w (RetPush lo S M w t (put ++ [l]) (ls ++ [lvl ls dec])) := by
  have hpl := hg.length
  have hpn : put.length ≤ 1000000 := by omega
  obtain ⟨A, B, c, d, Q, pl, h⟩ := h
  have hlr := lastI_rng h.lv
  have hlen := h.len
  have z2 : w.cell? ⟨t, 2, none⟩ = some (.slice B ls.length d) := (cell_of_block h.blk 2).1
  have hok := h.ok.snoc h0 h1 h2 h3 h4
  have HOK := Lib.hid hok
  have HLEN := Lib.hid hlen
  have HLV := Lib.hid h.lv
  have hls : ls.length ≤ 1000000 := by omega
  obtain ⟨na, hna⟩ : ∃ na : Int, na = l.natAbs := ⟨_, rfl⟩
  have qa : ∀ W : World, Calls Try.prog 90 #[.int .i64 l] W fun e w' => e = .returned (.int .i64 na) ∧ W = w' := fun W => by rw [hna]; exact variable_any l W (by omega) (by omega)
  have Qa := Lib.hid qa
  have hn0 : 0 ≤ na := by omega
  have hn1 : na < (M : Int) + 1 := by omega
  have hn2 : na < ((M + 1 : Nat) : Int) := by omega
  have HN3 := Lib.hid (show na.toNat = l.natAbs by omega)
  have TB := h.toTrB
  clear qa hna hok h hlen hpl h3 h4

  have HB : Hid (BelowS lo S w w) := Lib.hid (BelowS.refl _ _ _)
  by_cases hz : put.length = 0
  · have hl0 : ls.length = 0 := by rw [HLEN.out]; exact hz
    have hlnil : lastI ls = 0 := by rw [List.eq_nil_of_length_eq_zero hl0]; rfl
    have hd : decide (0 < ls.length) = false := by simp [hl0]
    have y0 : w.cell? ⟨t, 0, none⟩ = some (.slice A put.length c) := (cell_of_block TB.blk 0).1
    have y1 : w.cell? ⟨t, 1, none⟩ = some (.slice (some ⟨Q, 0, none⟩) (M + 1) (M + 1)) := (cell_of_block TB.blk 1).1
    have HZ := Lib.hid hz
    clear hz hl0
    cases dec
    · have HLV2 : Hid (lvl ls false = 0) := Lib.hid (by unfold lvl; rw [hlnil]; rfl)
      clear hlnil
      go_enter Try.func75, Try.ntmps75
      obtain ⟨ps, hps⟩ : ∃ ps, ps = put ++ [l] := ⟨_, rfl⟩
      obtain ⟨ms, hms⟩ : ∃ ms, ms = ls ++ [(0 : Int)] := ⟨_, rfl⟩
      have HPS := Lib.hid hps
      have HMS := Lib.hid hms
      have HPL := Lib.hid (show ps.length = put.length + 1 by rw [hps]; simp)
      have HML := Lib.hid (show ms.length = ls.length + 1 by rw [hms]; simp)
      clear hps hms
      have HTL := Lib.hid (lt_of_block TB.blk)
      go_wp2_with (at_builtin; first | (refine wpList_append_int (ys := ps) (by rfl) (.tmp 32) (.tmp 34) (by rfl) (by rfl) (by rfl) TB.hput (by omega) TB.lt HPS.out ?_; intro A1 c1 w1 hown1 hg1 hbk1; have hblk1 := (hg1.block t HTL.out (fun e => rowI_ne TB.hput t _ TB.blk (tne (by decide)) e.symm)).trans TB.blk; obtain ⟨TB1, hb1⟩ := TB.setPut hown1 hg1 hbk1; have x0 : w1.cell? ⟨t, 0, none⟩ = some (.slice A put.length c) := (cell_of_block hblk1 0).1; have x1 : w1.frozen? ⟨t, 0, none⟩ = false := (cell_of_block hblk1 0).2; have x2 : w1.cell? ⟨t, 2, none⟩ = some (.slice B ls.length d) := (cell_of_block hblk1 2).1) | (refine wpList_append_int (ys := ms) (by rfl) (.tmp 42) (.tmp 44) (by rfl) (by rfl) (by rw [size_setCell]; rfl) TB1.hls (by omega) TB1.lt HMS.out ?_; intro A2 c2 w2 hown2 hg2 hbk2; have hblk2 := (hg2.block t (lt_of_block TB1.blk) (fun e => rowI_ne TB1.hls t _ TB1.blk (tne (by decide)) e.symm)).trans TB1.blk; obtain ⟨TB2, hb2⟩ := TB1.setLs hown2 hg2 hbk2; have x3 : w2.cell? ⟨t, 2, none⟩ = some (.slice B ls.length d) := (cell_of_block hblk2 2).1; have x4 : w2.frozen? ⟨t, 2, none⟩ = false := (cell_of_block hblk2 2).2))
      generalize w2.setCell ⟨t, 2, none⟩ (.slice A2 ms.length c2) = W9 at *
      have hB9 := (HB.out.trans hb1).trans hb2
      have HB9 := Lib.hid hB9
      have q0 : W9.cell? ⟨t, 0, none⟩ = some (.slice A1 ps.length c1) := (cell_of_block TB2.blk 0).1
      have q1 : W9.cell? ⟨t, 1, none⟩ = some (.slice (some ⟨Q, 0, none⟩) (M + 1) (M + 1)) := (cell_of_block TB2.blk 1).1
      have q0 := Later.cell q0
      have q1 := Later.cell q1
      clear hB9 hb1 hb2 x0 x1 x2 x3 x4 hblk1 hblk2 hown1 hg1 hbk1 hown2 hg2 hbk2 y0 y1 z2
      refine wp_region_later_tail 12 (by kernel_rfl) (by kernel_rfl) ?_
      simp only [List.take_succ_cons, List.take_zero, List.drop_succ_cons, List.drop_zero]
      repeat (go_big_quiet_step ((go_at_call 90; exact later_of_same (Qa.out _))))
      refine wpQuiet_nil ?_
      rintro _ ⟨x9, rfl⟩
      have TB9 := TB2.up x9.le
      have u0 : ∃ v, x9.W.cell? ⟨Q, na.toNat, none⟩ = some v := by
        rw [TB9.hpl.cellAt na.toNat (by omega), List.getElem?_eq_getElem (by have := HOK.out.1; simp at this ⊢; omega)]
        exact ⟨_, rfl⟩
      obtain ⟨v0, u0⟩ := u0
      have u1 : x9.W.frozen? ⟨Q, na.toNat, none⟩ = false := TB9.hpl.frozenAt _
      have TB3 := TB9.setPl na.toNat (ps.length : Int)
      have HF := Lib.hid TB3
      clear TB3 q0 q1
      go_wp2
      refine bodyPost_end (results_none rfl _ _ _) rfl ?_
      exact ⟨rfl, push_done HF.out.1 HPS.out (by rw [HMS.out, HLV2.out]) HOK.out HN3.out (by rw [HPL.out]; push_cast; rfl) HLEN.out HLV.out, (HB9.out.trans (BelowS.of x9.le TB2.lt (fun x hx => (TB2.d4 x hx).1))).trans HF.out.2⟩

    · have HLV2 : Hid (lvl ls true = 1) := Lib.hid (by unfold lvl; rw [hlnil]; rfl)
      clear hlnil
      go_enter Try.func75, Try.ntmps75
      obtain ⟨ps, hps⟩ : ∃ ps, ps = put ++ [l] := ⟨_, rfl⟩
      obtain ⟨ms, hms⟩ : ∃ ms, ms = ls ++ [(1 : Int)] := ⟨_, rfl⟩
      have HPS := Lib.hid hps
      have HMS := Lib.hid hms
      have HPL := Lib.hid (show ps.length = put.length + 1 by rw [hps]; simp)
      have HML := Lib.hid (show ms.length = ls.length + 1 by rw [hms]; simp)
      clear hps hms
      have HTL := Lib.hid (lt_of_block TB.blk)
      go_wp2_with (at_builtin; first | (refine wpList_append_int (ys := ps) (by rfl) (.tmp 32) (.tmp 34) (by rfl) (by rfl) (by rfl) TB.hput (by omega) TB.lt HPS.out ?_; intro A1 c1 w1 hown1 hg1 hbk1; have hblk1 := (hg1.block t HTL.out (fun e => rowI_ne TB.hput t _ TB.blk (tne (by decide)) e.symm)).trans TB.blk; obtain ⟨TB1, hb1⟩ := TB.setPut hown1 hg1 hbk1; have x0 : w1.cell? ⟨t, 0, none⟩ = some (.slice A put.length c) := (cell_of_block hblk1 0).1; have x1 : w1.frozen? ⟨t, 0, none⟩ = false := (cell_of_block hblk1 0).2; have x2 : w1.cell? ⟨t, 2, none⟩ = some (.slice B ls.length d) := (cell_of_block hblk1 2).1) | (refine wpList_append_int (ys := ms) (by rfl) (.tmp 42) (.tmp 44) (by rfl) (by rfl) (by rw [size_setCell]; rfl) TB1.hls (by omega) TB1.lt HMS.out ?_; intro A2 c2 w2 hown2 hg2 hbk2; have hblk2 := (hg2.block t (lt_of_block TB1.blk) (fun e => rowI_ne TB1.hls t _ TB1.blk (tne (by decide)) e.symm)).trans TB1.blk; obtain ⟨TB2, hb2⟩ := TB1.setLs hown2 hg2 hbk2; have x3 : w2.cell? ⟨t, 2, none⟩ = some (.slice B ls.length d) := (cell_of_block hblk2 2).1; have x4 : w2.frozen? ⟨t, 2, none⟩ = false := (cell_of_block hblk2 2).2))
      generalize w2.setCell ⟨t, 2, none⟩ (.slice A2 ms.length c2) = W9 at *
      have hB9 := (HB.out.trans hb1).trans hb2
      have HB9 := Lib.hid hB9
      have q0 : W9.cell? ⟨t, 0, none⟩ = some (.slice A1 ps.length c1) := (cell_of_block TB2.blk 0).1
      have q1 : W9.cell? ⟨t, 1, none⟩ = some (.slice (some ⟨Q, 0, none⟩) (M + 1) (M + 1)) := (cell_of_block TB2.blk 1).1
      have q0 := Later.cell q0
      have q1 := Later.cell q1
      clear hB9 hb1 hb2 x0 x1 x2 x3 x4 hblk1 hblk2 hown1 hg1 hbk1 hown2 hg2 hbk2 y0 y1 z2
      refine wp_region_later_tail 12 (by kernel_rfl) (by kernel_rfl) ?_
      simp only [List.take_succ_cons, List.take_zero, List.drop_succ_cons, List.drop_zero]
      repeat (go_big_quiet_step ((go_at_call 90; exact later_of_same (Qa.out _))))
      refine wpQuiet_nil ?_
      rintro _ ⟨x9, rfl⟩
      have TB9 := TB2.up x9.le
      have u0 : ∃ v, x9.W.cell? ⟨Q, na.toNat, none⟩ = some v := by
        rw [TB9.hpl.cellAt na.toNat (by omega), List.getElem?_eq_getElem (by have := HOK.out.1; simp at this ⊢; omega)]
        exact ⟨_, rfl⟩
      obtain ⟨v0, u0⟩ := u0
      have u1 : x9.W.frozen? ⟨Q, na.toNat, none⟩ = false := TB9.hpl.frozenAt _
      have TB3 := TB9.setPl na.toNat (ps.length : Int)
      have HF := Lib.hid TB3
      clear TB3 q0 q1
      go_wp2
      refine bodyPost_end (results_none rfl _ _ _) rfl ?_
      exact ⟨rfl, push_done HF.out.1 HPS.out (by rw [HMS.out, HLV2.out]) HOK.out HN3.out (by rw [HPL.out]; push_cast; rfl) HLEN.out HLV.out, (HB9.out.trans (BelowS.of x9.le TB2.lt (fun x hx => (TB2.d4 x hx).1))).trans HF.out.2⟩

  · have hl0 : 0 < ls.length := by rw [HLEN.out]; omega
    obtain ⟨ad, hB, _, hc⟩ := (OwnI.rd TB.hls).at_int (k := ls.length - 1) (by omega)
    rw [lastI_at hl0] at hc
    subst hB
    have e1 : IntKind.i64.wrap ((ls.length : Int) - 1) = (ls.length : Int) - 1 := IntWalk.i64_in _ (by omega)
    have e2 : ((ls.length : Int) - 1).toNat = ls.length - 1 := by omega
    have e3 : (0 : Int) ≤ (ls.length : Int) - 1 := by omega
    have e4 : (ls.length : Int) - 1 < ls.length := by omega
    have y0 : w.cell? ⟨t, 0, none⟩ = some (.slice A put.length c) := (cell_of_block TB.blk 0).1
    have y1 : w.cell? ⟨t, 1, none⟩ = some (.slice (some ⟨Q, 0, none⟩) (M + 1) (M + 1)) := (cell_of_block TB.blk 1).1
    generalize hla : lastI ls = la at *
    have HLA := Lib.hid hla
    clear hla
    have e5 : IntKind.i64.wrap (la + 1) = la + 1 := IntWalk.i64_in _ (by omega)
    cases dec
    · have HLV2 : Hid (lvl ls false = la) := Lib.hid (by unfold lvl; rw [HLA.out]; simp)
      go_enter Try.func75, Try.ntmps75
      go_wp2
      go_quiet (fail)
      have TB' := TB.up (below_drewN (Below.refl _ w) nq)
      have HB' : Hid (BelowS lo S w (w.drewN nq)) := Lib.hid (BelowS.of (below_drewN (Below.refl _ _) nq) TB.lt (fun x hx => (TB.d4 x hx).1))
      clear TB HB y0 y1 z2 hc
      generalize w.drewN nq = W at *
      have TB := TB'
      have HB := HB'
      have y0 : W.cell? ⟨t, 0, none⟩ = some (.slice A put.length c) := (cell_of_block TB.blk 0).1
      have y1 : W.cell? ⟨t, 1, none⟩ = some (.slice (some ⟨Q, 0, none⟩) (M + 1) (M + 1)) := (cell_of_block TB.blk 1).1
      have z2 : W.cell? ⟨t, 2, none⟩ = some (.slice (some ad) ls.length d) := (cell_of_block TB.blk 2).1
      obtain ⟨ps, hps⟩ : ∃ ps, ps = put ++ [l] := ⟨_, rfl⟩
      obtain ⟨ms, hms⟩ : ∃ ms, ms = ls ++ [la] := ⟨_, rfl⟩
      have HPS := Lib.hid hps
      have HMS := Lib.hid hms
      have HPL := Lib.hid (show ps.length = put.length + 1 by rw [hps]; simp)
      have HML := Lib.hid (show ms.length = ls.length + 1 by rw [hms]; simp)
      clear hps hms
      have HTL := Lib.hid (lt_of_block TB.blk)
      go_wp2_with (at_builtin; first | (refine wpList_append_int (ys := ps) (by rfl) (.tmp 32) (.tmp 34) (by rfl) (by rfl) (by rfl) TB.hput (by omega) TB.lt HPS.out ?_; intro A1 c1 w1 hown1 hg1 hbk1; have hblk1 := (hg1.block t HTL.out (fun e => rowI_ne TB.hput t _ TB.blk (tne (by decide)) e.symm)).trans TB.blk; obtain ⟨TB1, hb1⟩ := TB.setPut hown1 hg1 hbk1; have x0 : w1.cell? ⟨t, 0, none⟩ = some (.slice A put.length c) := (cell_of_block hblk1 0).1; have x1 : w1.frozen? ⟨t, 0, none⟩ = false := (cell_of_block hblk1 0).2; have x2 : w1.cell? ⟨t, 2, none⟩ = some (.slice (some ad) ls.length d) := (cell_of_block hblk1 2).1) | (refine wpList_append_int (ys := ms) (by rfl) (.tmp 42) (.tmp 44) (by rfl) (by rfl) (by rw [size_setCell]; rfl) TB1.hls (by omega) TB1.lt HMS.out ?_; intro A2 c2 w2 hown2 hg2 hbk2; have hblk2 := (hg2.block t (lt_of_block TB1.blk) (fun e => rowI_ne TB1.hls t _ TB1.blk (tne (by decide)) e.symm)).trans TB1.blk; obtain ⟨TB2, hb2⟩ := TB1.setLs hown2 hg2 hbk2; have x3 : w2.cell? ⟨t, 2, none⟩ = some (.slice (some ad) ls.length d) := (cell_of_block hblk2 2).1; have x4 : w2.frozen? ⟨t, 2, none⟩ = false := (cell_of_block hblk2 2).2))
      generalize w2.setCell ⟨t, 2, none⟩ (.slice A2 ms.length c2) = W9 at *
      have hB9 := (HB.out.trans hb1).trans hb2
      have HB9 := Lib.hid hB9
      have q0 : W9.cell? ⟨t, 0, none⟩ = some (.slice A1 ps.length c1) := (cell_of_block TB2.blk 0).1
      have q1 : W9.cell? ⟨t, 1, none⟩ = some (.slice (some ⟨Q, 0, none⟩) (M + 1) (M + 1)) := (cell_of_block TB2.blk 1).1
      have q0 := Later.cell q0
      have q1 := Later.cell q1
      clear hB9 hb1 hb2 x0 x1 x2 x3 x4 hblk1 hblk2 hown1 hg1 hbk1 hown2 hg2 hbk2 y0 y1 z2
      refine wp_region_later_tail 12 (by kernel_rfl) (by kernel_rfl) ?_
      simp only [List.take_succ_cons, List.take_zero, List.drop_succ_cons, List.drop_zero]
      repeat (go_big_quiet_step ((go_at_call 90; exact later_of_same (Qa.out _))))
      refine wpQuiet_nil ?_
      rintro _ ⟨x9, rfl⟩
      have TB9 := TB2.up x9.le
      have u0 : ∃ v, x9.W.cell? ⟨Q, na.toNat, none⟩ = some v := by
        rw [TB9.hpl.cellAt na.toNat (by omega), List.getElem?_eq_getElem (by have := HOK.out.1; simp at this ⊢; omega)]
        exact ⟨_, rfl⟩
      obtain ⟨v0, u0⟩ := u0
      have u1 : x9.W.frozen? ⟨Q, na.toNat, none⟩ = false := TB9.hpl.frozenAt _
      have TB3 := TB9.setPl na.toNat (ps.length : Int)
      have HF := Lib.hid TB3
      clear TB3 q0 q1
      go_wp2
      refine bodyPost_end (results_none rfl _ _ _) rfl ?_
      exact ⟨rfl, push_done HF.out.1 HPS.out (by rw [HMS.out, HLV2.out]) HOK.out HN3.out (by rw [HPL.out]; push_cast; rfl) HLEN.out HLV.out, (HB9.out.trans (BelowS.of x9.le TB2.lt (fun x hx => (TB2.d4 x hx).1))).trans HF.out.2⟩

    · have HLV2 : Hid (lvl ls true = la + 1) := Lib.hid (by unfold lvl; rw [HLA.out]; simp)
      go_enter Try.func75, Try.ntmps75
      go_wp2
      go_quiet (fail)
      have TB' := TB.up (below_drewN (Below.refl _ w) nq)
      have HB' : Hid (BelowS lo S w (w.drewN nq)) := Lib.hid (BelowS.of (below_drewN (Below.refl _ _) nq) TB.lt (fun x hx => (TB.d4 x hx).1))
      clear TB HB y0 y1 z2 hc
      generalize w.drewN nq = W at *
      have TB := TB'
      have HB := HB'
      have y0 : W.cell? ⟨t, 0, none⟩ = some (.slice A put.length c) := (cell_of_block TB.blk 0).1
      have y1 : W.cell? ⟨t, 1, none⟩ = some (.slice (some ⟨Q, 0, none⟩) (M + 1) (M + 1)) := (cell_of_block TB.blk 1).1
      have z2 : W.cell? ⟨t, 2, none⟩ = some (.slice (some ad) ls.length d) := (cell_of_block TB.blk 2).1
      obtain ⟨ps, hps⟩ : ∃ ps, ps = put ++ [l] := ⟨_, rfl⟩
      obtain ⟨ms, hms⟩ : ∃ ms, ms = ls ++ [la + 1] := ⟨_, rfl⟩
      have HPS := Lib.hid hps
      have HMS := Lib.hid hms
      have HPL := Lib.hid (show ps.length = put.length + 1 by rw [hps]; simp)
      have HML := Lib.hid (show ms.length = ls.length + 1 by rw [hms]; simp)
      clear hps hms
      have HTL := Lib.hid (lt_of_block TB.blk)
      go_wp2_with (at_builtin; first | (refine wpList_append_int (ys := ps) (by rfl) (.tmp 32) (.tmp 34) (by rfl) (by rfl) (by rfl) TB.hput (by omega) TB.lt HPS.out ?_; intro A1 c1 w1 hown1 hg1 hbk1; have hblk1 := (hg1.block t HTL.out (fun e => rowI_ne TB.hput t _ TB.blk (tne (by decide)) e.symm)).trans TB.blk; obtain ⟨TB1, hb1⟩ := TB.setPut hown1 hg1 hbk1; have x0 : w1.cell? ⟨t, 0, none⟩ = some (.slice A put.length c) := (cell_of_block hblk1 0).1; have x1 : w1.frozen? ⟨t, 0, none⟩ = false := (cell_of_block hblk1 0).2; have x2 : w1.cell? ⟨t, 2, none⟩ = some (.slice (some ad) ls.length d) := (cell_of_block hblk1 2).1) | (refine wpList_append_int (ys := ms) (by rfl) (.tmp 42) (.tmp 44) (by rfl) (by rfl) (by rw [size_setCell]; rfl) TB1.hls (by omega) TB1.lt HMS.out ?_; intro A2 c2 w2 hown2 hg2 hbk2; have hblk2 := (hg2.block t (lt_of_block TB1.blk) (fun e => rowI_ne TB1.hls t _ TB1.blk (tne (by decide)) e.symm)).trans TB1.blk; obtain ⟨TB2, hb2⟩ := TB1.setLs hown2 hg2 hbk2; have x3 : w2.cell? ⟨t, 2, none⟩ = some (.slice (some ad) ls.length d) := (cell_of_block hblk2 2).1; have x4 : w2.frozen? ⟨t, 2, none⟩ = false := (cell_of_block hblk2 2).2))
      generalize w2.setCell ⟨t, 2, none⟩ (.slice A2 ms.length c2) = W9 at *
      have hB9 := (HB.out.trans hb1).trans hb2
      have HB9 := Lib.hid hB9
      have q0 : W9.cell? ⟨t, 0, none⟩ = some (.slice A1 ps.length c1) := (cell_of_block TB2.blk 0).1
      have q1 : W9.cell? ⟨t, 1, none⟩ = some (.slice (some ⟨Q, 0, none⟩) (M + 1) (M + 1)) := (cell_of_block TB2.blk 1).1
      have q0 := Later.cell q0
      have q1 := Later.cell q1
      clear hB9 hb1 hb2 x0 x1 x2 x3 x4 hblk1 hblk2 hown1 hg1 hbk1 hown2 hg2 hbk2 y0 y1 z2
      refine wp_region_later_tail 12 (by kernel_rfl) (by kernel_rfl) ?_
      simp only [List.take_succ_cons, List.take_zero, List.drop_succ_cons, List.drop_zero]
      repeat (go_big_quiet_step ((go_at_call 90; exact later_of_same (Qa.out _))))
      refine wpQuiet_nil ?_
      rintro _ ⟨x9, rfl⟩
      have TB9 := TB2.up x9.le
      have u0 : ∃ v, x9.W.cell? ⟨Q, na.toNat, none⟩ = some v := by
        rw [TB9.hpl.cellAt na.toNat (by omega), List.getElem?_eq_getElem (by have := HOK.out.1; simp at this ⊢; omega)]
        exact ⟨_, rfl⟩
      obtain ⟨v0, u0⟩ := u0
      have u1 : x9.W.frozen? ⟨Q, na.toNat, none⟩ = false := TB9.hpl.frozenAt _
      have TB3 := TB9.setPl na.toNat (ps.length : Int)
      have HF := Lib.hid TB3
      clear TB3 q0 q1
      go_wp2
      refine bodyPost_end (results_none rfl _ _ _) rfl ?_
      exact ⟨rfl, push_done HF.out.1 HPS.out (by rw [HMS.out, HLV2.out]) HOK.out HN3.out (by rw [HPL.out]; push_cast; rfl) HLEN.out HLV.out, (HB9.out.trans (BelowS.of x9.le TB2.lt (fun x hx => (TB2.d4 x hx).1))).trans HF.out.2⟩

end Go.Proofs.Ytndolbplkjhooaa
