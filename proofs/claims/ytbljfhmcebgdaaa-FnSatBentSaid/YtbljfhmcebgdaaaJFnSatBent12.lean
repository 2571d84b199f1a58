/- The reference's search: l5Do. -/
import Derived.Test.YtbljfhmcebgdaaaJFnSatBent8
import Derived.Test.YtbljfhmcebgdaaaJFnSatBent11
/-! The reference's search: l5Do. -/
namespace Go.Proofs.Ytbljfhmcebgdaaa
open Go Go.RowKit

/-- A search in memory: the marks' rows are the call's own, what was learned lies apart from them. -/
structure SOwn (w : World) (lo : Nat) (F FL : Nat → Prop) (x : C) (s : S) (A P Q D : Option Addr) (p q : Nat) : Prop where
  cl : Lay.int.slice.Sl w F A x.list
  put : OwnI w lo (.slice P s.put.length p) s.put
  why : OwnI w lo (.slice Q s.why.length q) s.why
  apart : ∀ g, (Value.slice P s.put.length p).ownBlock = some g → (Value.slice Q s.why.length q).ownBlock ≠ some g
  lrn : Lay.int.slice.Sl w FL D s.learned
  fb : ∀ b, F b → b < lo
  fl : ∀ b, FL b → b < w.heap.size ∧ (Value.slice P s.put.length p).ownBlock ≠ some b ∧ (Value.slice Q s.why.length q).ownBlock ≠ some b
  le : lo ≤ w.heap.size
  flo : ∀ b, FL b → lo ≤ b
theorem SOwn.gr {w w' : World} {lo : Nat} {F FL T : Nat → Prop} {x : C} {s : S} {A P Q D : Option Addr} {p q : Nat} (h : SOwn w lo F FL x s A P Q D p q) (hg : Gr T w w') (hT : ∀ b, T b → lo ≤ b ∧ ¬ FL b ∧ (Value.slice P s.put.length p).ownBlock ≠ some b ∧ (Value.slice Q s.why.length q).ownBlock ≠ some b) : SOwn w' lo F FL x s A P Q D p q := by
  have hk : ∀ v : Value, ∀ l, (∀ b, T b → v.ownBlock ≠ some b) → OwnI w lo v l → OwnI w' lo v l := fun v l hv ho => own_of_heap ho fun g hg' => hg.block g (ownI_lt ho g hg').2 (fun e => hv g e hg')
  exact ⟨h.cl.keep fun b hb => hg.block b (Nat.lt_of_lt_of_le (h.fb b hb) h.le) (fun e => by have := (hT b e).1; have := h.fb b hb; omega), hk _ _ (fun b hb => (hT b hb).2.2.1) h.put, hk _ _ (fun b hb => (hT b hb).2.2.2) h.why, h.apart, h.lrn.keep fun b hb => hg.block b (h.fl b hb).1 (fun e => (hT b e).2.1 hb), h.fb, fun b hb => ⟨Nat.lt_of_lt_of_le (h.fl b hb).1 hg.size, (h.fl b hb).2⟩, Nat.le_trans h.le hg.size, h.flo⟩
theorem SOwn.up {w w' : World} {lo : Nat} {F FL : Nat → Prop} {x : C} {s : S} {A P Q D : Option Addr} {p q : Nat} (h : SOwn w lo F FL x s A P Q D p q) (hb : Below w.heap.size w w') : SOwn w' lo F FL x s A P Q D p q := h.gr (T := fun _ => False) (.below hb) (fun _ h => h.elim)
theorem SOwn.rd {w : World} {lo : Nat} {F FL : Nat → Prop} {x : C} {s : S} {A P Q D : Option Addr} {p q : Nat} (h : SOwn w lo F FL x s A P Q D p q) : SRd w x s A P Q D := ⟨h.cl.mono fun b hb => Nat.lt_of_lt_of_le (h.fb b hb) h.le, h.put.rd, h.why.rd, h.lrn.mono fun b hb => (h.fl b hb).1⟩
theorem SOwn.code {w : World} {lo : Nat} {F FL : Nat → Prop} {x : C} {s : S} {A P Q D : Option Addr} {p q : Nat} (h : SOwn w lo F FL x s A P Q D p q) (z : Int) : SOwn w lo F FL x ⟨s.put, s.why, s.learned, z⟩ A P Q D p q := ⟨h.cl, h.put, h.why, h.apart, h.lrn, h.fb, h.fl, h.le, h.flo⟩
/-- A box below the search is written. -/
theorem SOwn.box {w w' : World} {lo : Nat} {F FL T : Nat → Prop} {x : C} {s : S} {A P Q D : Option Addr} {p q : Nat} (h : SOwn w lo F FL x s A P Q D p q) (hg : Gr T w w') (hT : ∀ b, T b → b < lo ∧ ¬ F b) : SOwn w' lo F FL x s A P Q D p q := by
  have hk : ∀ v : Value, ∀ l, OwnI w lo v l → OwnI w' lo v l := fun v l ho => own_of_heap ho fun g hg' => hg.block g (ownI_lt ho g hg').2 (fun e => by have := (hT g e).1; have := (ownI_lt ho g hg').1; omega)
  exact ⟨h.cl.keep fun b hb => hg.block b (Nat.lt_of_lt_of_le (h.fb b hb) h.le) (fun e => (hT b e).2 hb), hk _ _ h.put, hk _ _ h.why, h.apart, h.lrn.keep fun b hb => hg.block b (h.fl b hb).1 (fun e => by have := (hT b e).1; have := h.flo b hb; omega), h.fb, fun b hb => ⟨Nat.lt_of_lt_of_le (h.fl b hb).1 hg.size, (h.fl b hb).2⟩, Nat.le_trans h.le hg.size, h.flo⟩
/-- What l5Do gives. -/
def RetDo (lo : Nat) (F : Nat → Prop) (x : C) (A : Option Addr) (s' : S) (w : World) (e : Ending) (w' : World) : Prop :=
  ∃ (P' Q' D' : Option Addr) (p' q' d' : Nat) (FL' : Nat → Prop), e = .returned (.agg #[.slice P' s'.put.length p', .slice Q' s'.why.length q', .slice D' s'.learned.length d', .int .i64 s'.code]) ∧ SOwn w' lo F FL' x s' A P' Q' D' p' q' ∧ Below lo w w'
/-- Inside l5Do: its three boxes. -/
structure Do1 (w : World) (b lo : Nat) (F FL : Nat → Prop) (M : Nat) (x : C) (s : S) (A P Q D : Option Addr) (a p q d : Nat) (z : World) : Prop where
  so : SOwn z lo F FL x s A P Q D p q
  b0 : z.heap[b]? = some (.cells #[.int .i64 (M : Int), .slice A x.list.length a] 25 (0, 0))
  b1 : z.heap[b + 1]? = some (.cells #[.slice P s.put.length p, .slice Q s.why.length q, .slice D s.learned.length d, .int .i64 s.code] 35 (0, 0))
  b2 : z.heap[b + 2]? = some (.cells #[.slice none 0 0, .slice none 0 0, .slice none 0 0, .int .i64 0] 35 (0, 0))
  tou : ∀ y, FL y ∨ (Value.slice P s.put.length p).ownBlock = some y ∨ (Value.slice Q s.why.length q).ownBlock = some y → y < b ∨ b + 2 < y
  bel : Below lo w z
  lob : lo ≤ b
theorem Do1.up {w : World} {b lo : Nat} {F FL : Nat → Prop} {M : Nat} {x : C} {s : S} {A P Q D : Option Addr} {a p q d : Nat} {z z' : World} (h : Do1 w b lo F FL M x s A P Q D a p q d z) (hb : Below z.heap.size z z') : Do1 w b lo F FL M x s A P Q D a p q d z' :=
  ⟨h.so.up hb, (hb.block _ (lt_of_block h.b0)).trans h.b0, (hb.block _ (lt_of_block h.b1)).trans h.b1, (hb.block _ (lt_of_block h.b2)).trans h.b2, h.tou, h.bel.trans (hb.mono h.so.le), h.lob⟩
/-- One mark more. -/
theorem Do1.addPut {w : World} {b lo : Nat} {F FL : Nat → Prop} {M : Nat} {x : C} {s : S} {A P Q D : Option Addr} {a p q d : Nat} {z w7 : World} (h : Do1 w b lo F FL M x s A P Q D a p q d z) {A7 : Option Addr} {c7 : Nat} {ys : List Int} (ho : OwnI w7 lo (.slice A7 ys.length c7) ys) (hg : z.grownBy w7 (Value.slice P s.put.length p).ownBlock)
    (hk : (Value.slice A7 ys.length c7).ownBlock = (Value.slice P s.put.length p).ownBlock ∨ ∃ g, (Value.slice A7 ys.length c7).ownBlock = some g ∧ z.heap.size ≤ g) : Do1 w b lo F FL M x ⟨ys, s.why, s.learned, s.code⟩ A A7 Q D a c7 q d (w7.setCell ⟨b + 1, 0, none⟩ (.slice A7 ys.length c7)) := by
  have hb2 := lt_of_block h.b2
  have htP : ∀ y, (Value.slice P s.put.length p).ownBlock = some y → y < b ∨ b + 2 < y := fun y hy => h.tou y (.inr (.inl hy))
  have htQ : ∀ y, (Value.slice Q s.why.length q).ownBlock = some y → y < b ∨ b + 2 < y := fun y hy => h.tou y (.inr (.inr hy))
  have htF : ∀ y, FL y → y < b ∨ b + 2 < y := fun y hy => h.tou y (.inl hy)
  have hgr : Gr (fun y => (Value.slice P s.put.length p).ownBlock = some y) z w7 := ⟨hg.os, hg.tape, hg.output, hg.size, fun i hi hn => hg.block i hi (fun e => hn e.symm)⟩
  have htA : ∀ y, (Value.slice A7 ys.length c7).ownBlock = some y → (y < b ∨ b + 2 < y) ∧ (Value.slice Q s.why.length q).ownBlock ≠ some y ∧ ¬ FL y := fun y hy => by
    rcases hk with e | ⟨g, e, hge⟩
    · rw [e] at hy; exact ⟨htP y hy, h.so.apart y hy, fun hf => (h.so.fl y hf).2.1 hy⟩
    · rw [e] at hy
      injection hy with hy
      subst hy
      exact ⟨by omega, fun e9 => by have := (ownI_lt h.so.why _ e9).2; omega, fun hf => by have := (h.so.fl _ hf).1; omega⟩
  have hgs : Gr (fun y => (Value.slice P s.put.length p).ownBlock = some y ∨ y = b + 1) z (w7.setCell ⟨b + 1, 0, none⟩ (.slice A7 ys.length c7)) := Gr.set (hgr.mono fun _ h => .inl h) _ _ _ (.inl (.inr rfl))
  have hlob := h.lob
  have c1 : w7.heap[b + 1]? = _ := hgr.heap (fun e => by have := htP _ e; omega) h.b1
  have f1 := heap_set_same _ (b + 1) 0 (.slice A7 ys.length c7) _ _ c1
  have hset : ∀ y, y ≠ b + 1 → (w7.setCell ⟨b + 1, 0, none⟩ (.slice A7 ys.length c7)).heap[y]? = w7.heap[y]? := fun y hy => Below.heap_setCell w7 ⟨b + 1, 0, none⟩ _ y hy
  have hsz : (w7.setCell ⟨b + 1, 0, none⟩ (.slice A7 ys.length c7)).heap.size = w7.heap.size := by simp [World.setCell]
  have hzs := hg.size
  refine ⟨⟨h.so.cl.keep fun y hy => hgs.block y (Nat.lt_of_lt_of_le (h.so.fb y hy) h.so.le) ?_, own_of_heap ho fun g hg' => hset g (by have := (htA g hg').1; omega), own_of_heap h.so.why fun g hg' => hgs.block g (ownI_lt h.so.why g hg').2 ?_, fun g hg' => (htA g hg').2.1, h.so.lrn.keep fun y hy => hgs.block y (h.so.fl y hy).1 ?_, h.so.fb, fun y hy => ⟨by have := (h.so.fl y hy).1; omega, fun e => (htA y e).2.2 hy, (h.so.fl y hy).2.2⟩, by have := h.so.le; omega, h.so.flo⟩, ?_, ?_, ?_, ?_, ?_, hlob⟩
  · rintro (e | e)
    · have := (ownI_lt h.so.put _ e).1; have := h.so.fb y hy; omega
    · have := h.so.fb y hy; omega
  · rintro (e | e)
    · exact h.so.apart _ e hg'
    · have := htQ _ hg'; omega
  · rintro (e | e)
    · exact (h.so.fl y hy).2.1 e
    · have := htF y hy; omega
  · exact (hset _ (by omega)).trans (hgr.heap (fun e => by have := htP _ e; omega) h.b0)
  · simpa using f1
  · exact (hset _ (by omega)).trans (hgr.heap (fun e => by have := htP _ e; omega) h.b2)
  · rintro y (e | e | e)
    · exact htF y e
    · exact (htA y e).1
    · exact htQ y e
  · exact h.bel.trans (hgs.to_below' h.so.le (by
      rintro y (e | e)
      · exact (ownI_lt h.so.put _ e).1
      · omega))
/-- One reason more. -/
theorem Do1.addWhy {w : World} {b lo : Nat} {F FL : Nat → Prop} {M : Nat} {x : C} {s : S} {A P Q D : Option Addr} {a p q d : Nat} {z w7 : World} (h : Do1 w b lo F FL M x s A P Q D a p q d z) {A7 : Option Addr} {c7 : Nat} {ys : List Int} (ho : OwnI w7 lo (.slice A7 ys.length c7) ys) (hg : z.grownBy w7 (Value.slice Q s.why.length q).ownBlock)
    (hk : (Value.slice A7 ys.length c7).ownBlock = (Value.slice Q s.why.length q).ownBlock ∨ ∃ g, (Value.slice A7 ys.length c7).ownBlock = some g ∧ z.heap.size ≤ g) : Do1 w b lo F FL M x ⟨s.put, ys, s.learned, s.code⟩ A P A7 D a p c7 d (w7.setCell ⟨b + 1, 1, none⟩ (.slice A7 ys.length c7)) := by
  have hb2 := lt_of_block h.b2
  have htP : ∀ y, (Value.slice P s.put.length p).ownBlock = some y → y < b ∨ b + 2 < y := fun y hy => h.tou y (.inr (.inl hy))
  have htQ : ∀ y, (Value.slice Q s.why.length q).ownBlock = some y → y < b ∨ b + 2 < y := fun y hy => h.tou y (.inr (.inr hy))
  have htF : ∀ y, FL y → y < b ∨ b + 2 < y := fun y hy => h.tou y (.inl hy)
  have hgr : Gr (fun y => (Value.slice Q s.why.length q).ownBlock = some y) z w7 := ⟨hg.os, hg.tape, hg.output, hg.size, fun i hi hn => hg.block i hi (fun e => hn e.symm)⟩
  have htA : ∀ y, (Value.slice A7 ys.length c7).ownBlock = some y → (y < b ∨ b + 2 < y) ∧ (Value.slice P s.put.length p).ownBlock ≠ some y ∧ ¬ FL y := fun y hy => by
    rcases hk with e | ⟨g, e, hge⟩
    · rw [e] at hy; exact ⟨htQ y hy, fun e9 => h.so.apart y e9 hy, fun hf => (h.so.fl y hf).2.2 hy⟩
    · rw [e] at hy
      injection hy with hy
      subst hy
      exact ⟨by omega, fun e9 => by have := (ownI_lt h.so.put _ e9).2; omega, fun hf => by have := (h.so.fl _ hf).1; omega⟩
  have hgs : Gr (fun y => (Value.slice Q s.why.length q).ownBlock = some y ∨ y = b + 1) z (w7.setCell ⟨b + 1, 1, none⟩ (.slice A7 ys.length c7)) := Gr.set (hgr.mono fun _ h => .inl h) _ _ _ (.inl (.inr rfl))
  have hlob := h.lob
  have c1 : w7.heap[b + 1]? = _ := hgr.heap (fun e => by have := htQ _ e; omega) h.b1
  have f1 := heap_set_same _ (b + 1) 1 (.slice A7 ys.length c7) _ _ c1
  have hset : ∀ y, y ≠ b + 1 → (w7.setCell ⟨b + 1, 1, none⟩ (.slice A7 ys.length c7)).heap[y]? = w7.heap[y]? := fun y hy => Below.heap_setCell w7 ⟨b + 1, 1, none⟩ _ y hy
  have hsz : (w7.setCell ⟨b + 1, 1, none⟩ (.slice A7 ys.length c7)).heap.size = w7.heap.size := by simp [World.setCell]
  have hzs := hg.size
  refine ⟨⟨h.so.cl.keep fun y hy => hgs.block y (Nat.lt_of_lt_of_le (h.so.fb y hy) h.so.le) ?_, own_of_heap h.so.put fun g hg' => hgs.block g (ownI_lt h.so.put g hg').2 ?_, own_of_heap ho fun g hg' => hset g (by have := (htA g hg').1; omega), fun g hg' e => (htA g e).2.1 hg', h.so.lrn.keep fun y hy => hgs.block y (h.so.fl y hy).1 ?_, h.so.fb, fun y hy => ⟨by have := (h.so.fl y hy).1; omega, (h.so.fl y hy).2.1, fun e => (htA y e).2.2 hy⟩, by have := h.so.le; omega, h.so.flo⟩, ?_, ?_, ?_, ?_, ?_, hlob⟩
  · rintro (e | e)
    · have := (ownI_lt h.so.why _ e).1; have := h.so.fb y hy; omega
    · have := h.so.fb y hy; omega
  · rintro (e | e)
    · exact h.so.apart _ hg' e
    · have := htP _ hg'; omega
  · rintro (e | e)
    · exact (h.so.fl y hy).2.2 e
    · have := htF y hy; omega
  · exact (hset _ (by omega)).trans (hgr.heap (fun e => by have := htQ _ e; omega) h.b0)
  · simpa using f1
  · exact (hset _ (by omega)).trans (hgr.heap (fun e => by have := htQ _ e; omega) h.b2)
  · rintro y (e | e | e)
    · exact htF y e
    · exact htP y e
    · exact (htA y e).1
  · exact h.bel.trans (hgs.to_below' h.so.le (by
      rintro y (e | e)
      · exact (ownI_lt h.so.why _ e).1
      · omega))
theorem Do1.setCode {w : World} {b lo : Nat} {F FL : Nat → Prop} {M : Nat} {x : C} {s : S} {A P Q D : Option Addr} {a p q d : Nat} {z : World} (h : Do1 w b lo F FL M x s A P Q D a p q d z) (k : Int) : Do1 w b lo F FL M x ⟨s.put, s.why, s.learned, k⟩ A P Q D a p q d (z.setCell ⟨b + 1, 3, none⟩ (.int .i64 k)) := by
  have hlob := h.lob
  have hg : Gr (fun y => y = b + 1) z (z.setCell ⟨b + 1, 3, none⟩ (.int .i64 k)) := Gr.set (Gr.refl (fun y => y = b + 1) z) _ _ _ (.inl rfl)
  have f1 := heap_set_same _ (b + 1) 3 (.int .i64 k) _ _ h.b1
  refine ⟨(h.so.code k).gr hg (fun y hy => ?_), hg.heap (by omega) h.b0, by simpa using f1, hg.heap (by omega) h.b2, h.tou, h.bel.trans (hg.to_below' h.so.le fun y hy => by have : y = b + 1 := hy; omega), hlob⟩
  have hy : y = b + 1 := hy
  subst hy
  exact ⟨by omega, fun e => by have := h.tou _ (.inl e); omega, fun e => by have := h.tou _ (.inr (.inl e)); omega, fun e => by have := h.tou _ (.inr (.inr e)); omega⟩
theorem Do1.fin {w : World} {b lo : Nat} {F FL : Nat → Prop} {M : Nat} {x : C} {s : S} {A P Q D : Option Addr} {a p q d : Nat} {z : World} (h : Do1 w b lo F FL M x s A P Q D a p q d z) : ((((z.setCell ⟨b + 2, 0, none⟩ (.slice P s.put.length p)).setCell ⟨b + 2, 1, none⟩ (.slice Q s.why.length q)).setCell ⟨b + 2, 2, none⟩ (.slice D s.learned.length d)).setCell ⟨b + 2, 3, none⟩ (.int .i64 s.code)).heap[b + 2]? = some (.cells #[.slice P s.put.length p, .slice Q s.why.length q, .slice D s.learned.length d, .int .i64 s.code] 35 (0, 0)) ∧ RetDo lo F x A s w (.returned (.agg #[.slice P s.put.length p, .slice Q s.why.length q, .slice D s.learned.length d, .int .i64 s.code])) ((((z.setCell ⟨b + 2, 0, none⟩ (.slice P s.put.length p)).setCell ⟨b + 2, 1, none⟩ (.slice Q s.why.length q)).setCell ⟨b + 2, 2, none⟩ (.slice D s.learned.length d)).setCell ⟨b + 2, 3, none⟩ (.int .i64 s.code)) := by
  have hlob := h.lob
  have f0 := heap_set_same _ (b + 2) 0 (.slice P s.put.length p) _ _ h.b2
  have f1 := heap_set_same _ (b + 2) 1 (.slice Q s.why.length q) _ _ f0
  have f2 := heap_set_same _ (b + 2) 2 (.slice D s.learned.length d) _ _ f1
  have f3 := heap_set_same _ (b + 2) 3 (.int .i64 s.code) _ _ f2
  have hg : Gr (fun k => k = b + 2) z ((((z.setCell ⟨b + 2, 0, none⟩ (.slice P s.put.length p)).setCell ⟨b + 2, 1, none⟩ (.slice Q s.why.length q)).setCell ⟨b + 2, 2, none⟩ (.slice D s.learned.length d)).setCell ⟨b + 2, 3, none⟩ (.int .i64 s.code)) := Gr.set (Gr.set (Gr.set (Gr.set (Gr.refl (fun k => k = b + 2) z) (b + 2) 0 _ (.inl rfl)) (b + 2) 1 _ (.inl rfl)) (b + 2) 2 _ (.inl rfl)) (b + 2) 3 _ (.inl rfl)
  refine ⟨f3, P, Q, D, p, q, d, FL, rfl, h.so.gr hg (fun y hy => ?_), h.bel.trans (hg.to_below' h.so.le fun y hy => by have : y = b + 2 := hy; omega)⟩
  have hy : y = b + 2 := hy
  subst hy
  exact ⟨by omega, fun e => by have := h.tou _ (.inl e); omega, fun e => by have := h.tou _ (.inr (.inl e)); omega, fun e => by have := h.tou _ (.inr (.inr e)); omega⟩
theorem Do1.fin1 {w : World} {b lo : Nat} {F FL : Nat → Prop} {M : Nat} {x : C} {s : S} {A P Q D : Option Addr} {a p q d : Nat} {z : World} (h : Do1 w b lo F FL M x s A P Q D a p q d z) : ((((z.setCell ⟨b + 1 + 1, 0, none⟩ (.slice P s.put.length p)).setCell ⟨b + 1 + 1, 1, none⟩ (.slice Q s.why.length q)).setCell ⟨b + 1 + 1, 2, none⟩ (.slice D s.learned.length d)).setCell ⟨b + 1 + 1, 3, none⟩ (.int .i64 s.code)).heap[b + 1 + 1]? = some (.cells #[.slice P s.put.length p, .slice Q s.why.length q, .slice D s.learned.length d, .int .i64 s.code] 35 (0, 0)) ∧ RetDo lo F x A s w (.returned (.agg #[.slice P s.put.length p, .slice Q s.why.length q, .slice D s.learned.length d, .int .i64 s.code])) ((((z.setCell ⟨b + 1 + 1, 0, none⟩ (.slice P s.put.length p)).setCell ⟨b + 1 + 1, 1, none⟩ (.slice Q s.why.length q)).setCell ⟨b + 1 + 1, 2, none⟩ (.slice D s.learned.length d)).setCell ⟨b + 1 + 1, 3, none⟩ (.int .i64 s.code)) := h.fin
theorem wpList_append_intB {Q : Exit → Act → World → Prop} {ops : Array Oper} {rest : List Oper} {o : Oper} {a : Act} {W : World} {lo b : Nat} {A : Option Addr} {c : Nat} {xs ys : List Int} {x : Int} {e' : TypeId} (hgd : o.guard = none) (s y : Operand)
    (ho : o.op = .call { callee := .builtin .append, args := #[s, y], argTypes := #[26, 26] }) (hs : a.eval s = .slice A xs.length c) (hy : a.eval y = .slice (some ⟨b, 0, none⟩) 1 1) (hb : b = W.heap.size)
    (hown : OwnI W lo (.slice A xs.length c) xs) (hn : xs.length ≤ 2000000) (hlo : lo ≤ W.heap.size) (hys : ys = xs ++ [x])
    (h : ∀ A' c' w', OwnI w' lo (.slice A' ys.length c') ys → W.grownBy w' (Value.slice A xs.length c).ownBlock →
      ((Value.slice A' ys.length c').ownBlock = (Value.slice A xs.length c).ownBlock ∨ ∃ g, (Value.slice A' ys.length c').ownBlock = some g ∧ W.heap.size ≤ g) → wpList Try.prog ops Q rest (a.put o.dst (.slice A' ys.length c')) w') :
    wpList Try.prog ops Q (o :: rest) a (W.alloc (.cells #[.int .i64 x] e')) := by
  subst hb
  exact wpList_append_int8 hgd s y ho hs hy hown hn hlo hys h
theorem Do1.kept {w : World} {b lo : Nat} {F FL : Nat → Prop} {M : Nat} {x : C} {s : S} {A P Q D : Option Addr} {a p q d : Nat} {z w7 : World} {row : Option Nat} (h : Do1 w b lo F FL M x s A P Q D a p q d z) (hg : z.grownBy w7 row) (hr : row = (Value.slice P s.put.length p).ownBlock ∨ row = (Value.slice Q s.why.length q).ownBlock) :
    w7.heap[b + 1]? = some (.cells #[.slice P s.put.length p, .slice Q s.why.length q, .slice D s.learned.length d, .int .i64 s.code] 35 (0, 0)) ∧ w7.heap[b + 2]? = some (.cells #[.slice none 0 0, .slice none 0 0, .slice none 0 0, .int .i64 0] 35 (0, 0)) := by
  have ht : ∀ y, row = some y → y < b ∨ b + 2 < y := fun y e => by
    rcases hr with rfl | rfl
    · exact h.tou y (.inr (.inl e))
    · exact h.tou y (.inr (.inr e))
  exact ⟨(hg.block _ (lt_of_block h.b1) (fun e => by have := ht _ e.symm; omega)).trans h.b1, (hg.block _ (lt_of_block h.b2) (fun e => by have := ht _ e.symm; omega)).trans h.b2⟩
theorem clash_own {w y w9 : World} {b lo d : Nat} {F FL : Nat → Prop} {x : C} {s s' : S} {A P Q D : Option Addr} {p q : Nat} {e : Ending} (h : SOwn y lo F FL x s A P Q D p q) (ht : ∀ k, FL k ∨ (Value.slice P s.put.length p).ownBlock = some k ∨ (Value.slice Q s.why.length q).ownBlock = some k → k < b ∨ b + 2 < k) (hb : b + 2 < y.heap.size) (hr : RetCs FL s s' P Q D p q d y e w9) :
    Below y.heap.size y w9 ∧ ∃ (P' Q' D' : Option Addr) (p' q' d' : Nat) (FL' : Nat → Prop), e = .returned (.agg #[.slice P' s'.put.length p', .slice Q' s'.why.length q', .slice D' s'.learned.length d', .int .i64 s'.code]) ∧ SOwn w9 lo F FL' x s' A P' Q' D' p' q' ∧ (∀ k, FL' k ∨ (Value.slice P' s'.put.length p').ownBlock = some k ∨ (Value.slice Q' s'.why.length q').ownBlock = some k → k < b ∨ b + 2 < k) := by
  obtain ⟨P', Q', D', p', q', d', he, hbel, hc⟩ := hr
  refine ⟨hbel, P', Q', D', p', q', d', ?_⟩
  rcases hc with ⟨rfl, rfl, rfl, rfl, rfl, rfl, e1, e2, e3⟩ | ⟨h1, h2, h3, h4, h5⟩
  · obtain ⟨ps, qs, ls, z⟩ := s'
    dsimp only at e1 e2 e3
    subst e1 e2 e3
    exact ⟨FL, he, (h.up hbel).code z, ht⟩
  · refine ⟨_, he, ⟨h.cl.keep fun k hk => hbel.block k (Nat.lt_of_lt_of_le (h.fb k hk) h.le), own_low h1 h.le, own_low h2 h.le, h3, h5, h.fb, ?_, Nat.le_trans h.le hbel.size, fun k hk => by
      rcases hk with hk | hk
      · exact h.flo k hk
      · exact Nat.le_trans h.le hk.1⟩, ?_⟩
    · rintro k (hk | hk)
      · have := (h.fl k hk).1
        exact ⟨Nat.lt_of_lt_of_le this hbel.size, fun e => by have := (ownI_lt h1 k e).1; omega, fun e => by have := (ownI_lt h2 k e).1; omega⟩
      · exact ⟨hk.2.1, hk.2.2⟩
    · rintro k ((hk | hk) | hk | hk)
      · exact ht k (.inl hk)
      · have := hk.1; omega
      · have := (ownI_lt h1 k hk).1; omega
      · have := (ownI_lt h2 k hk).1; omega
theorem box_out {b lo : Nat} {F FL' : Nat → Prop} {x : C} {s' : S} {A P' Q' D' : Option Addr} {p' q' d' : Nat} {y y2 : World} (h : SOwn y lo F FL' x s' A P' Q' D' p' q') (ht : (∀ k, FL' k ∨ (Value.slice P' s'.put.length p').ownBlock = some k ∨ (Value.slice Q' s'.why.length q').ownBlock = some k → k < b ∨ b + 2 < k)) (hlob : lo ≤ b) (hg : Gr (fun k => k = b + 2) y y2) : SOwn y2 lo F FL' x s' A P' Q' D' p' q' := by
  refine h.gr hg fun k hk => ?_
  have hk : k = b + 2 := hk
  subst hk
  exact ⟨by omega, fun e => by have := ht _ (.inl e); omega, fun e => by have := ht _ (.inr (.inl e)); omega, fun e => by have := ht _ (.inr (.inr e)); omega⟩
theorem box_new {w y wd : World} {b lo : Nat} {F FL' : Nat → Prop} {x : C} {s' : S} {A P' Q' D' : Option Addr} {p' q' d' : Nat} (h : SOwn y lo F FL' x s' A P' Q' D' p' q') (ht : (∀ k, FL' k ∨ (Value.slice P' s'.put.length p').ownBlock = some k ∨ (Value.slice Q' s'.why.length q').ownBlock = some k → k < b ∨ b + 2 < k)) (hlob : lo ≤ b) (hw : Below lo w wd) (hi : Below wd.heap.size wd y) (hl : lo ≤ wd.heap.size) (hc : y.heap[b + 2]? = some (.cells #[.slice none 0 0, .slice none 0 0, .slice none 0 0, .int .i64 0] 35 (0, 0))) :
    (((((y.setCell ⟨b + 2, 0, none⟩ (.slice P' s'.put.length p')).setCell ⟨b + 2, 1, none⟩ (.slice Q' s'.why.length q')).setCell ⟨b + 2, 2, none⟩ (.slice D' s'.learned.length d')).setCell ⟨b + 2, 3, none⟩ (.int .i64 s'.code)).heap[b + 2]? = some (.cells #[.slice P' s'.put.length p', .slice Q' s'.why.length q', .slice D' s'.learned.length d', .int .i64 s'.code] 35 (0, 0)) ∧ SOwn ((((y.setCell ⟨b + 2, 0, none⟩ (.slice P' s'.put.length p')).setCell ⟨b + 2, 1, none⟩ (.slice Q' s'.why.length q')).setCell ⟨b + 2, 2, none⟩ (.slice D' s'.learned.length d')).setCell ⟨b + 2, 3, none⟩ (.int .i64 s'.code)) lo F FL' x s' A P' Q' D' p' q' ∧ Below lo w ((((y.setCell ⟨b + 2, 0, none⟩ (.slice P' s'.put.length p')).setCell ⟨b + 2, 1, none⟩ (.slice Q' s'.why.length q')).setCell ⟨b + 2, 2, none⟩ (.slice D' s'.learned.length d')).setCell ⟨b + 2, 3, none⟩ (.int .i64 s'.code))) ∧ Gr (fun k => k = b + 2) y ((((y.setCell ⟨b + 2, 0, none⟩ (.slice P' s'.put.length p')).setCell ⟨b + 2, 1, none⟩ (.slice Q' s'.why.length q')).setCell ⟨b + 2, 2, none⟩ (.slice D' s'.learned.length d')).setCell ⟨b + 2, 3, none⟩ (.int .i64 s'.code)) := by
  have f0 := heap_set_same _ (b + 2) 0 (.slice P' s'.put.length p') _ _ hc
  have f1 := heap_set_same _ (b + 2) 1 (.slice Q' s'.why.length q') _ _ f0
  have f2 := heap_set_same _ (b + 2) 2 (.slice D' s'.learned.length d') _ _ f1
  have f3 := heap_set_same _ (b + 2) 3 (.int .i64 s'.code) _ _ f2
  have hg : Gr (fun k => k = b + 2) y ((((y.setCell ⟨b + 2, 0, none⟩ (.slice P' s'.put.length p')).setCell ⟨b + 2, 1, none⟩ (.slice Q' s'.why.length q')).setCell ⟨b + 2, 2, none⟩ (.slice D' s'.learned.length d')).setCell ⟨b + 2, 3, none⟩ (.int .i64 s'.code)) := Gr.set (Gr.set (Gr.set (Gr.set (Gr.refl (fun k => k = b + 2) y) (b + 2) 0 _ (.inl rfl)) (b + 2) 1 _ (.inl rfl)) (b + 2) 2 _ (.inl rfl)) (b + 2) 3 _ (.inl rfl)
  exact ⟨⟨f3, box_out (d' := d') h ht hlob hg, (hw.trans (hi.mono hl)).trans (hg.to_below' h.le fun k hk => by have : k = b + 2 := hk; omega)⟩, hg⟩
set_option maxRecDepth 100000 in
set_option maxHeartbeats 16000000 in
theorem l5Do_any (x : C) (s : S) (A P Q D : Option Addr) (a p q d M lo : Nat) (F FL : Nat → Prop) (w : World) (hM : x.many = (M : Int)) (h : SOwn w lo F FL x s A P Q D p q) (hg : SatGood x s) :
    Calls Try.prog 98 #[.agg #[.int .i64 x.many, .slice A x.list.length a], .agg #[.slice P s.put.length p, .slice Q s.why.length q, .slice D s.learned.length d, .int .i64 s.code]] w (RetDo lo F x A (doP M x s) w) := by
  have hM7 : M ≤ 700 := by
    have := hg.cnf
    unfold cnfOk at this
    simp only [Bool.and_eq_true, decide_eq_true_eq] at this
    omega
  have hx25 : x.list.length ≤ 2500 := by
    have := hg.cnf
    unfold cnfOk at this
    simp only [Bool.and_eq_true, decide_eq_true_eq] at this
    omega
  have HMM := Lib.hid hM
  rw [hM]
  have hgd : Good M s.put := by rw [← hM]; exact hg.good
  have hpl : s.put.length ≤ 700 := by have := hgd.length; rw [Int.toNat_natCast] at this; omega
  have hql : s.why.length ≤ 700 := by rw [← hg.len]; exact hpl
  have hal1 : Below w.heap.size w (w.alloc (.cells #[.int .i64 (M : Int), .slice A x.list.length a] 25)) := (Below.refl _ _).alloc (Nat.le_refl _) _
  have hs1 : (w.alloc (.cells #[.int .i64 (M : Int), .slice A x.list.length a] 25)).heap.size = w.heap.size + 1 := by simp
  have hb1 := heap_alloc_new w (.cells #[.int .i64 (M : Int), .slice A x.list.length a] 25)
  obtain ⟨w1, hw1⟩ : ∃ w1, w1 = w.alloc (.cells #[.int .i64 (M : Int), .slice A x.list.length a] 25) := ⟨_, rfl⟩
  rw [← hw1] at hal1 hs1 hb1
  have hal2 : Below w1.heap.size w1 (w1.alloc (.cells #[.slice P s.put.length p, .slice Q s.why.length q, .slice D s.learned.length d, .int .i64 s.code] 35)) := (Below.refl _ _).alloc (Nat.le_refl _) _
  have hs2 : (w1.alloc (.cells #[.slice P s.put.length p, .slice Q s.why.length q, .slice D s.learned.length d, .int .i64 s.code] 35)).heap.size = w.heap.size + 1 + 1 := by simp [hs1]
  have hb2 := heap_alloc_new w1 (.cells #[.slice P s.put.length p, .slice Q s.why.length q, .slice D s.learned.length d, .int .i64 s.code] 35)
  rw [hs1] at hb2
  obtain ⟨w2, hw2⟩ : ∃ w2, w2 = w1.alloc (.cells #[.slice P s.put.length p, .slice Q s.why.length q, .slice D s.learned.length d, .int .i64 s.code] 35) := ⟨_, rfl⟩
  rw [← hw2] at hal2 hs2 hb2
  have hal3 : Below w2.heap.size w2 (w2.alloc (.cells #[.slice none 0 0, .slice none 0 0, .slice none 0 0, .int .i64 0] 35)) := (Below.refl _ _).alloc (Nat.le_refl _) _
  have hb3 := heap_alloc_new w2 (.cells #[.slice none 0 0, .slice none 0 0, .slice none 0 0, .int .i64 0] 35)
  rw [hs2] at hb3
  obtain ⟨w3, hw3⟩ : ∃ w3, w3 = w2.alloc (.cells #[.slice none 0 0, .slice none 0 0, .slice none 0 0, .int .i64 0] 35) := ⟨_, rfl⟩
  rw [← hw3] at hal3 hb3
  obtain ⟨b, hbe⟩ : ∃ b, b = w.heap.size := ⟨_, rfl⟩
  have hB1 := (hal3.block _ (Nat.lt_of_lt_of_le (lt_of_block hb1) hal2.size)).trans ((hal2.block _ (lt_of_block hb1)).trans hb1)
  have hB2 := (hal3.block _ (lt_of_block hb2)).trans hb2
  have hw03 := bthen (bthen hal1 hal2) hal3
  have HD3 : Hid (Do1 w b lo F FL M x s A P Q D a p q d w3) := Lib.hid ⟨h.up hw03, by rw [hbe]; exact hB1, by rw [hbe]; exact hB2, by rw [hbe]; exact hb3, fun y hy => by
    rcases hy with hy | hy | hy
    · have := (h.fl y hy).1; omega
    · have := (ownI_lt h.put y hy).2; omega
    · have := (ownI_lt h.why y hy).2; omega, hw03.mono h.le, by rw [hbe]; exact h.le⟩
  have HG := Lib.hid hg
  have HGD := Lib.hid hgd
  have HB3 := Lib.hid (And.intro hB1 hB2)
  have HBE := Lib.hid hbe
  have HW1 := Lib.hid hw1
  have HW2 := Lib.hid hw2
  have HW3 := Lib.hid hw3
  obtain ⟨k0, _⟩ := cell_of_block HB3.out.1 0
  obtain ⟨k1, _⟩ := cell_of_block HB3.out.1 1
  obtain ⟨u0, _⟩ := cell_of_block HB3.out.2 0
  obtain ⟨u1, _⟩ := cell_of_block HB3.out.2 1
  obtain ⟨u2, _⟩ := cell_of_block HB3.out.2 2
  obtain ⟨u3, _⟩ := cell_of_block HB3.out.2 3
  rw [HW3.out, HW2.out, HW1.out] at k0 k1 u0 u1 u2 u3
  have HVL := Lib.hid (l5Vals_any A P a p M x s.put (fun b => b < w3.heap.size) w3 hM (by omega) HD3.out.so.put.rd (fun _ h => h) hgd (by omega))
  rw [hM] at HVL
  clear h hg hgd hal1 hs1 hb1 hal2 hs2 hb2 hal3 hb3 hw03 hw1 hw2 hw3 hM hB1 hB2 hbe HB3
  go_enter Try.func98, Try.ntmps98
  go_wp2_with fail
  rw [← HW1.out, ← HW2.out, ← HW3.out]
  clear k0 k1 u0 u1 u2 u3 HW1 HW2 HW3
  refine HVL.out.mono ?_
  clear HVL
  rintro e w4 ⟨V, v, vs, rfl, hv, hvr, hb4⟩
  have HD4 := Lib.hid (HD3.out.up hb4)
  have HV := Lib.hid hv
  have HVR := Lib.hid hvr
  have HFD := Lib.hid (l5Find_any A D V a d v x s.learned M s.put vs (fun b => b < w4.heap.size) (fun b => b < w4.heap.size) (fun b => b < w4.heap.size) w4 HD4.out.so.rd.cl HD4.out.so.rd.lrn hvr (fun _ h => h) (fun _ h => h) (fun _ h => h) HGD.out hv (by omega) (fun cl hcl => by
    have hc := allC_clOk HG.out cl hcl
    have hr := clOk_rng hc
    rw [HMM.out] at hc hr
    exact ⟨hr, by have := clOk_len hc; omega⟩) (by omega) (by have := HG.out.learned; omega))
  rw [HMM.out] at HFD
  obtain ⟨f1, hf1⟩ : ∃ f1, f1 = (fdS s.put (x.list ++ s.learned)).1 := ⟨_, rfl⟩
  obtain ⟨f2, hf2⟩ : ∃ f2, f2 = (fdS s.put (x.list ++ s.learned)).2.1 := ⟨_, rfl⟩
  obtain ⟨f3, hf3⟩ : ∃ f3, f3 = (fdS s.put (x.list ++ s.learned)).2.2 := ⟨_, rfl⟩
  rw [← hf1, ← hf2, ← hf3] at HFD
  have HF1 := Lib.hid hf1
  have HF2 := Lib.hid hf2
  have HF3 := Lib.hid hf3
  have d0 := (cell_of_block HD4.out.b0 0).1
  have d1 := (cell_of_block HD4.out.b0 1).1
  have d2 := (cell_of_block HD4.out.b1 2).1
  rw [← HBE.out]
  clear hv hvr hb4 hf1 hf2 hf3 HD3
  go_wp2_with fail
  refine HFD.out.mono ?_
  clear HFD d0 d1 d2
  rintro e w5 ⟨rfl, hb5⟩
  have HD5 := Lib.hid (HD4.out.up hb5)
  have HVR5 := Lib.hid (HVR.out.up hb5)
  clear hb5 HD4 HVR
  by_cases h1 : 0 ≤ f1
  · have g1 : decide (0 ≤ f1) = true := decide_eq_true h1
    obtain ⟨i, cl, e1, e2, e3⟩ := fdS_clash (c := x) (s := s) (by rw [HF1.out] at h1; exact h1)
    have e1' : f1 = (i : Int) := by rw [HF1.out]; exact e1
    have hlt := (List.getElem?_eq_some_iff.1 e2).1
    have hlt : i < x.list.length + s.learned.length := by simpa [allC] using hlt
    have hcd : (x.list ++ s.learned).getD i [] = cl := by rw [List.getD_eq_getElem?_getD, show (x.list ++ s.learned)[i]? = some cl from e2]; rfl
    have hcok : clOk (M : Int) cl = true := by rw [← HMM.out]; exact allC_clOk HG.out cl (List.mem_of_getElem? e2)
    obtain ⟨B, c, hsl, hcc, hat⟩ := clause_at HD5.out.so.rd.cl HD5.out.so.rd.lrn hlt
    rw [hcd] at hsl hcc hat
    obtain ⟨s', hs'⟩ : ∃ s', s' = clashP M x s cl := ⟨_, rfl⟩
    have HRE : Hid (doP M x s = s') := Lib.hid (by
      unfold doP
      rw [if_pos (show 0 ≤ (fdS s.put (allC x s)).1 by rw [e1]; omega), e1, Int.toNat_natCast, show (allC x s).getD i [] = cl from hcd, hs'])
    have HAT : Hid (∀ y, Below w5.heap.size w5 y → Calls Try.prog 95 #[.agg #[.int .i64 (M : Int), .slice A x.list.length a], .agg #[.slice P s.put.length p, .slice Q s.why.length q, .slice D s.learned.length d, .int .i64 s.code], .int .i64 (i : Int)] y fun e w' => e = .returned (.slice B cl.length c) ∧ Below y.heap.size y w') := Lib.hid (fun y hy => by
      have := l5At_any x s A P Q D a p q d i (.slice B cl.length c) y (by omega) (hat.imp (fun ⟨h1, ad, e, hc⟩ => ⟨h1, ad, e, Later.cell hc ⟨y, hy⟩⟩) (fun ⟨h1, ad, e, hc⟩ => ⟨h1, ad, e, Later.cell hc ⟨y, hy⟩⟩)) hlt (by have := HG.out.learned; omega)
      rw [HMM.out] at this
      exact this)
    have HCL : Hid (∀ y, Below w5.heap.size w5 y → Calls Try.prog 115 #[.agg #[.int .i64 (M : Int), .slice A x.list.length a], .agg #[.slice P s.put.length p, .slice Q s.why.length q, .slice D s.learned.length d, .int .i64 s.code], .slice B cl.length c] y (RetCs FL s s' P Q D p q d y)) := Lib.hid (fun y hy => by
      have h9 := HD5.out.so.up hy
      have := l5Clash_any x s A P Q D B a p q d c M cl FL y HMM.out (by omega) h9.rd h9.lrn (fun k hk => (h9.fl k hk).1) HG.out ((show Lay.int.Rd w5 B cl from hsl).up hy) hcok e3 (OwnI.cap h9.put) (OwnI.cap h9.why)
      rw [HMM.out, ← hs'] at this
      exact this)
    have m0 := Later.cell (cell_of_block HD5.out.b1 0).1
    have m1 := Later.cell (cell_of_block HD5.out.b1 1).1
    have m2 := Later.cell (cell_of_block HD5.out.b1 2).1
    have m3 := Later.cell (cell_of_block HD5.out.b1 3).1
    have q0 := Later.cell (cell_of_block HD5.out.b0 0).1
    have q1 := Later.cell (cell_of_block HD5.out.b0 1).1
    simp at m0 m1 m2 m3 q0 q1
    clear h1 e1 e2 e3 hlt hcd hcok hsl hcc hat hs'
    subst e1'
    go_wp2
    refine wp_region_rel4 [[], [], [], [], [], [(2, 28), (3, 29), (4, 30)], [(0, 26), (1, 27), (5, 31)], [(6, 32)]]
      (fun y y' => Below y.heap.size y y')
      [(7, fun y y' => Gr (fun k => k = b + 2) y y')]
      (fun f9 x9 => f9 7 = false → Below w5.heap.size w5 x9)
      [fun vs9 _ => vs9 0 = (.agg #[.int .i64 (M : Int), .slice A x.list.length a]),
    fun vs9 _ => vs9 1 = (.agg #[.slice P s.put.length p, .slice Q s.why.length q, .slice D s.learned.length d, .int .i64 s.code]),
    fun vs9 _ => vs9 2 = (.agg #[.int .i64 (M : Int), .slice A x.list.length a]),
    fun vs9 _ => vs9 3 = (.agg #[.slice P s.put.length p, .slice Q s.why.length q, .slice D s.learned.length d, .int .i64 s.code]),
    fun vs9 _ => vs9 4 = (.int .i64 (i : Int)),
    fun vs9 _ => vs9 5 = (.slice B cl.length c),
    fun vs9 y9 => (fun v y9 => ∃ (P' Q' D' : Option Addr) (p' q' d' : Nat) (FL' : Nat → Prop), v = .agg #[.slice P' s'.put.length p', .slice Q' s'.why.length q', .slice D' s'.learned.length d', .int .i64 s'.code] ∧ SOwn y9 lo F FL' x s' A P' Q' D' p' q' ∧ (∀ k, FL' k ∨ (Value.slice P' s'.put.length p').ownBlock = some k ∨ (Value.slice Q' s'.why.length q').ownBlock = some k → k < b ∨ b + 2 < k)) (vs9 6) y9,
    fun _ y9 => (fun _ y9 => ∃ (P' Q' D' : Option Addr) (p' q' d' : Nat) (FL' : Nat → Prop), y9.heap[b + 2]? = some (.cells #[.slice P' s'.put.length p', .slice Q' s'.why.length q', .slice D' s'.learned.length d', .int .i64 s'.code] 35 (0, 0)) ∧ SOwn y9 lo F FL' x s' A P' Q' D' p' q' ∧ Below lo w y9) undef y9]
      [(0, 26), (1, 27), (2, 28), (3, 29), (4, 30), (5, 31), (6, 32)] (by kernel_rfl) (by kernel_rfl) (by kernel_rfl) (by kernel_rfl)
      (fun _ => Below.refl _ _) ⟨fun _ => Gr.refl _ _, trivial⟩
      ⟨⟨.inr (fun vs9 _ _ (h9 : vs9 0 = (.agg #[.int .i64 (M : Int), .slice A x.list.length a])) _ => h9), ⟨.inr (.inr (fun _ _ _ h _ => h)), trivial⟩⟩,
    ⟨.inr (fun vs9 _ _ (h9 : vs9 1 = (.agg #[.slice P s.put.length p, .slice Q s.why.length q, .slice D s.learned.length d, .int .i64 s.code])) _ => h9), ⟨.inr (.inr (fun _ _ _ h _ => h)), trivial⟩⟩,
    ⟨.inr (fun vs9 _ _ (h9 : vs9 2 = (.agg #[.int .i64 (M : Int), .slice A x.list.length a])) _ => h9), ⟨.inr (.inr (fun _ _ _ h _ => h)), trivial⟩⟩,
    ⟨.inr (fun vs9 _ _ (h9 : vs9 3 = (.agg #[.slice P s.put.length p, .slice Q s.why.length q, .slice D s.learned.length d, .int .i64 s.code])) _ => h9), ⟨.inr (.inr (fun _ _ _ h _ => h)), trivial⟩⟩,
    ⟨.inr (fun vs9 _ _ (h9 : vs9 4 = (.int .i64 (i : Int))) _ => h9), ⟨.inr (.inr (fun _ _ _ h _ => h)), trivial⟩⟩,
    ⟨.inr (fun vs9 _ _ (h9 : vs9 5 = (.slice B cl.length c)) _ => h9), ⟨.inr (.inr (fun _ _ _ h _ => h)), trivial⟩⟩,
    ⟨.inr (fun vs9 x9 y9 h9 hR9 => (show ∀ v9 y8 y7, (fun v y9 => ∃ (P' Q' D' : Option Addr) (p' q' d' : Nat) (FL' : Nat → Prop), v = .agg #[.slice P' s'.put.length p', .slice Q' s'.why.length q', .slice D' s'.learned.length d', .int .i64 s'.code] ∧ SOwn y9 lo F FL' x s' A P' Q' D' p' q' ∧ (∀ k, FL' k ∨ (Value.slice P' s'.put.length p').ownBlock = some k ∨ (Value.slice Q' s'.why.length q').ownBlock = some k → k < b ∨ b + 2 < k)) v9 y8 → (fun y y' => Below y.heap.size y y') y8 y7 → (fun v y9 => ∃ (P' Q' D' : Option Addr) (p' q' d' : Nat) (FL' : Nat → Prop), v = .agg #[.slice P' s'.put.length p', .slice Q' s'.why.length q', .slice D' s'.learned.length d', .int .i64 s'.code] ∧ SOwn y9 lo F FL' x s' A P' Q' D' p' q' ∧ (∀ k, FL' k ∨ (Value.slice P' s'.put.length p').ownBlock = some k ∨ (Value.slice Q' s'.why.length q').ownBlock = some k → k < b ∨ b + 2 < k)) v9 y7 from fun _ _ _ ⟨P', Q', D', p', q', d', FL', h1, h2, h3⟩ hR => ⟨P', Q', D', p', q', d', FL', h1, h2.up hR, h3⟩) (vs9 6) x9 y9 h9 hR9), ⟨.inr (.inr (fun vs9 x9 y9 h9 hR9 => (show ∀ v9 y8 y7, (fun v y9 => ∃ (P' Q' D' : Option Addr) (p' q' d' : Nat) (FL' : Nat → Prop), v = .agg #[.slice P' s'.put.length p', .slice Q' s'.why.length q', .slice D' s'.learned.length d', .int .i64 s'.code] ∧ SOwn y9 lo F FL' x s' A P' Q' D' p' q' ∧ (∀ k, FL' k ∨ (Value.slice P' s'.put.length p').ownBlock = some k ∨ (Value.slice Q' s'.why.length q').ownBlock = some k → k < b ∨ b + 2 < k)) v9 y8 → (fun y y' => Gr (fun k => k = b + 2) y y') y8 y7 → (fun v y9 => ∃ (P' Q' D' : Option Addr) (p' q' d' : Nat) (FL' : Nat → Prop), v = .agg #[.slice P' s'.put.length p', .slice Q' s'.why.length q', .slice D' s'.learned.length d', .int .i64 s'.code] ∧ SOwn y9 lo F FL' x s' A P' Q' D' p' q' ∧ (∀ k, FL' k ∨ (Value.slice P' s'.put.length p').ownBlock = some k ∨ (Value.slice Q' s'.why.length q').ownBlock = some k → k < b ∨ b + 2 < k)) v9 y7 from fun _ _ _ ⟨P', Q', D', p', q', d', FL', h1, h2, h3⟩ hR => ⟨P', Q', D', p', q', d', FL', h1, box_out (d' := d') h2 h3 HD5.out.lob hR, h3⟩) (vs9 6) x9 y9 h9 hR9)), trivial⟩⟩,
    ⟨.inl (by kernel_rfl), ⟨.inr (.inl rfl), trivial⟩⟩, trivial⟩ ⟨fun vs vs' x h _ hv => (by dsimp only at hv ⊢; first | (rw [← h]; exact hv) | exact hv),
    fun vs vs' x h _ hv => (by dsimp only at hv ⊢; first | (rw [← h]; exact hv) | exact hv),
    fun vs vs' x h _ hv => (by dsimp only at hv ⊢; first | (rw [← h]; exact hv) | exact hv),
    fun vs vs' x h _ hv => (by dsimp only at hv ⊢; first | (rw [← h]; exact hv) | exact hv),
    fun vs vs' x h _ hv => (by dsimp only at hv ⊢; first | (rw [← h]; exact hv) | exact hv),
    fun vs vs' x h _ hv => (by dsimp only at hv ⊢; first | (rw [← h]; exact hv) | exact hv),
    fun vs vs' x h _ hv => (by dsimp only at hv ⊢; first | (rw [← h]; exact hv) | exact hv),
    fun vs vs' x h _ hv => (by dsimp only at hv ⊢; first | (rw [← h]; exact hv) | exact hv), trivial⟩ (fun _ => below_drewN (Below.refl _ _) 1) ⟨?_, ?_, ?_, ?_, ?_, ?_, ?_, ?_, trivial⟩ ?_
    · intro vals xw9 f hf1 hf2 hf3 hI hF
      have k7 : f 7 = false := hf3 7 (by kernel_rfl)
      clear hf2 hf3
      dsimp only [owes4, bare]
      simp only [putsD, Act.put, List.setIfInBounds_toArray, List.set_cons_zero, List.set_cons_succ]
      have hbl9 := hI k7
      have c90 : xw9.cell? _ = _ := q0 ⟨xw9, hbl9⟩
      have c91 : xw9.cell? _ = _ := q1 ⟨xw9, hbl9⟩
      go_wp2
      exact ⟨rfl, rfl, ⟨fun h9 => absurd h9 (Nat.ne_of_beq_eq_false rfl), fun _ => Below.refl _ _⟩, hI⟩
    · intro vals xw9 f hf1 hf2 hf3 hI hF
      have k7 : f 7 = false := hf3 7 (by kernel_rfl)
      clear hf2 hf3
      dsimp only [owes4, bare]
      simp only [putsD, Act.put, List.setIfInBounds_toArray, List.set_cons_zero, List.set_cons_succ]
      have hbl9 := hI k7
      have c90 : xw9.cell? _ = _ := m0 ⟨xw9, hbl9⟩
      have c91 : xw9.cell? _ = _ := m1 ⟨xw9, hbl9⟩
      have c92 : xw9.cell? _ = _ := m2 ⟨xw9, hbl9⟩
      have c93 : xw9.cell? _ = _ := m3 ⟨xw9, hbl9⟩
      go_wp2
      exact ⟨rfl, rfl, ⟨fun h9 => absurd h9 (Nat.ne_of_beq_eq_false rfl), fun _ => Below.refl _ _⟩, hI⟩
    · intro vals xw9 f hf1 hf2 hf3 hI hF
      have k7 : f 7 = false := hf3 7 (by kernel_rfl)
      clear hf2 hf3
      dsimp only [owes4, bare]
      simp only [putsD, Act.put, List.setIfInBounds_toArray, List.set_cons_zero, List.set_cons_succ]
      have hbl9 := hI k7
      have c90 : xw9.cell? _ = _ := q0 ⟨xw9, hbl9⟩
      have c91 : xw9.cell? _ = _ := q1 ⟨xw9, hbl9⟩
      go_wp2
      exact ⟨rfl, rfl, ⟨fun h9 => absurd h9 (Nat.ne_of_beq_eq_false rfl), fun _ => Below.refl _ _⟩, hI⟩
    · intro vals xw9 f hf1 hf2 hf3 hI hF
      have k7 : f 7 = false := hf3 7 (by kernel_rfl)
      clear hf2 hf3
      dsimp only [owes4, bare]
      simp only [putsD, Act.put, List.setIfInBounds_toArray, List.set_cons_zero, List.set_cons_succ]
      have hbl9 := hI k7
      have c90 : xw9.cell? _ = _ := m0 ⟨xw9, hbl9⟩
      have c91 : xw9.cell? _ = _ := m1 ⟨xw9, hbl9⟩
      have c92 : xw9.cell? _ = _ := m2 ⟨xw9, hbl9⟩
      have c93 : xw9.cell? _ = _ := m3 ⟨xw9, hbl9⟩
      go_wp2
      exact ⟨rfl, rfl, ⟨fun h9 => absurd h9 (Nat.ne_of_beq_eq_false rfl), fun _ => Below.refl _ _⟩, hI⟩
    · intro vals xw9 f hf1 hf2 hf3 hI hF
      clear hf2 hf3
      dsimp only [owes4, bare]
      simp only [putsD, Act.put, List.setIfInBounds_toArray, List.set_cons_zero, List.set_cons_succ]
      go_wp2
      exact ⟨rfl, rfl, ⟨fun h9 => absurd h9 (Nat.ne_of_beq_eq_false rfl), fun _ => Below.refl _ _⟩, hI⟩
    · intro vals xw9 f hf1 hf2 hf3 hI hF
      have k7 : f 7 = false := hf3 7 (by kernel_rfl)
      clear hf2 hf3
      simp only [saysD, List.getD_cons_zero, List.getD_cons_succ, and_true] at hF
      obtain ⟨e28, e29, e30⟩ := hF
      dsimp only [owes4, bare]
      simp only [putsD, Act.put, List.setIfInBounds_toArray, List.set_cons_zero, List.set_cons_succ]
      simp only [e28, e29, e30]
      have HI9 := Lib.hid (hI k7)
      have HW9 := Lib.hid (HAT.out xw9 (hI k7))
      clear hI
      go_wp2_with fail
      refine HW9.out.mono ?_
      rintro e w9 ⟨rfl, h4⟩
      have HB9 := Lib.hid h4
      clear h4
      go_wp2
      exact ⟨rfl, rfl, ⟨fun h9 => absurd h9 (Nat.ne_of_beq_eq_false rfl), fun _ => HB9.out⟩, fun _ => HI9.out.trans (HB9.out.mono HI9.out.size)⟩
    · intro vals xw9 f hf1 hf2 hf3 hI hF
      have k7 : f 7 = false := hf3 7 (by kernel_rfl)
      clear hf2 hf3
      simp only [saysD, List.getD_cons_zero, List.getD_cons_succ, and_true] at hF
      obtain ⟨e26, e27, e31⟩ := hF
      dsimp only [owes4, bare]
      simp only [putsD, Act.put, List.setIfInBounds_toArray, List.set_cons_zero, List.set_cons_succ]
      simp only [e26, e27, e31]
      have HI9 := Lib.hid (hI k7)
      have HW9 := Lib.hid (HCL.out xw9 (hI k7))
      clear hI
      go_wp2_with fail
      refine HW9.out.mono ?_
      intro e w9 hr9
      obtain ⟨h4, P', Q', D', p', q', d', FL', rfl, h5, h6⟩ := clash_own (w := w) (HD5.out.so.up HI9.out) HD5.out.tou (Nat.lt_of_lt_of_le (lt_of_block HD5.out.b2) HI9.out.size) hr9
      have HO9 := Lib.hid (And.intro h5 h6)
      have HB9 := Lib.hid h4
      clear h4 h5 h6 hr9
      go_wp2
      exact ⟨rfl, ⟨P', Q', D', p', q', d', FL', rfl, HO9.out⟩, ⟨fun h9 => absurd h9 (Nat.ne_of_beq_eq_false rfl), fun _ => HB9.out⟩, fun _ => HI9.out.trans (HB9.out.mono HI9.out.size)⟩
    · intro vals xw9 f hf1 hf2 hf3 hI hF
      clear hf2 hf3
      simp only [saysD, List.getD_cons_zero, List.getD_cons_succ, and_true] at hF
      obtain ⟨P', Q', D', p', q', d', FL', e32, h1, h2⟩ := hF
      dsimp only [owes4, bare]
      simp only [putsD, Act.put, List.setIfInBounds_toArray, List.set_cons_zero, List.set_cons_succ]
      simp only [e32]
      have HI9 := Lib.hid (hI hf1)
      have HO9 := Lib.hid (And.intro h1 h2)
      clear h1 h2 hI
      have hbn := (HI9.out.block _ (lt_of_block HD5.out.b2)).trans HD5.out.b2
      obtain ⟨o0, o0'⟩ := cell_of_block hbn 0
      obtain ⟨o1, o1'⟩ := cell_of_block hbn 1
      obtain ⟨o2, o2'⟩ := cell_of_block hbn 2
      obtain ⟨o3, o3'⟩ := cell_of_block hbn 3
      have HBN := Lib.hid hbn
      clear hbn
      go_wp2
      have hfin := box_new (d' := d') HO9.out.1 HO9.out.2 HD5.out.lob HD5.out.bel HI9.out HD5.out.so.le HBN.out
      exact ⟨rfl, ⟨P', Q', D', p', q', d', FL', hfin.1⟩, ⟨fun _ => hfin.2, fun h9 => absurd rfl h9⟩, fun e => absurd e (by simp [did])⟩
    · intro vals xw9 f hall hI hF
      rw [show List.range _ = [0, 1, 2, 3, 4, 5, 6, 7] from rfl] at hF
      simp only [says, List.getD_cons_zero, List.getD_cons_succ, and_true] at hF
      obtain ⟨P', Q', D', p', q', d', FL', hbx, hso, hbl⟩ := hF.2.2.2.2.2.2.2
      have HRES := Lib.hid (And.intro hso hbl)
      clear hso hbl hI hall hF m0 m1 m2 m3 q0 q1
      obtain ⟨e0, _⟩ := cell_of_block hbx 0
      obtain ⟨e1, _⟩ := cell_of_block hbx 1
      obtain ⟨e2, _⟩ := cell_of_block hbx 2
      obtain ⟨e3, _⟩ := cell_of_block hbx 3
      simp only [putsD, Act.put, List.setIfInBounds_toArray, List.set_cons_zero, List.set_cons_succ]
      go_wp2
      refine bodyPost_ret (v := .agg #[.slice P' s'.put.length p', .slice Q' s'.why.length q', .slice D' s'.learned.length d', .int .i64 s'.code]) (by simp [results, Try.results98, go_sem, e0, e1, e2, e3]) rfl ?_
      rw [HRE.out]
      exact ⟨P', Q', D', p', q', d', FL', rfl, HRES.out⟩
  have g1 : decide (0 ≤ f1) = false := decide_eq_false h1
  have HN1 : Hid (¬ 0 ≤ (fdS s.put (allC x s)).1) := Lib.hid (by rw [HF1.out] at h1; exact h1)
  clear h1
  by_cases h2 : 0 ≤ f2
  · have g2 : decide (0 ≤ f2) = true := decide_eq_true h2
    have HRE : Hid (doP M x s = ⟨s.put ++ [f3], s.why ++ [f2], s.learned, s.code⟩) := Lib.hid (by
      unfold doP
      rw [if_neg HN1.out, if_pos (by rw [HF2.out] at h2; exact h2), HF2.out, HF3.out]
      rfl)
    clear h2
    obtain ⟨ps, hps⟩ : ∃ ps, ps = s.put ++ [f3] := ⟨_, rfl⟩
    obtain ⟨qs, hqs⟩ : ∃ qs, qs = s.why ++ [f2] := ⟨_, rfl⟩
    have HPS := Lib.hid hps
    have HQS := Lib.hid hqs
    clear hps hqs
    have n0 := (cell_of_block HD5.out.b1 0).1
    go_wp2_with (at_builtin; first
      | (refine wpList_append_int8 (ys := ps) (by rfl) (.tmp 37) (.tmp 39) (by rfl) (by rfl) (by rfl) HD5.out.so.put (by omega) HD5.out.so.le HPS.out ?_; intro A7 c7 w7 hown7 hg7 hbk7
         have HD7 := Lib.hid (HD5.out.addPut hown7 hg7 hbk7)
         have HK7 := Lib.hid (HD5.out.kept hg7 (.inl rfl))
         obtain ⟨x0, x0'⟩ := cell_of_block HK7.out.1 0
         obtain ⟨x1, x1'⟩ := cell_of_block HK7.out.1 1
         clear hown7 hg7 hbk7 n0)
      | (refine wpList_append_intB (b := w7.heap.size) (ys := qs) (by rfl) (.tmp 43) (.tmp 45) (by rfl) (by rfl) (by rfl) (by simp [World.setCell]) HD7.out.so.why (by show s.why.length ≤ 2000000; omega) HD7.out.so.le HQS.out ?_; intro A8 c8 w8 hown8 hg8 hbk8
         have HD8 := Lib.hid (HD7.out.addWhy hown8 hg8 hbk8)
         have HK8 := Lib.hid (HD7.out.kept hg8 (.inr rfl))
         obtain ⟨n0, n0'⟩ := cell_of_block HK8.out.1 0
         obtain ⟨n1, n1'⟩ := cell_of_block HK8.out.1 1
         obtain ⟨n2, n2'⟩ := cell_of_block HK8.out.1 2
         obtain ⟨n3, n3'⟩ := cell_of_block HK8.out.1 3
         obtain ⟨o0, o0'⟩ := cell_of_block HK8.out.2 0
         obtain ⟨o1, o1'⟩ := cell_of_block HK8.out.2 1
         obtain ⟨o2, o2'⟩ := cell_of_block HK8.out.2 2
         obtain ⟨o3, o3'⟩ := cell_of_block HK8.out.2 3
         clear hown8 hg8 hbk8 x0 x0' x1 x1'))
    rw [HPS.out.symm, HQS.out.symm] at HRE
    have hfin := HD8.out.fin1
    dsimp only at hfin
    generalize (((((w8.setCell ⟨b + 1, 1, none⟩ (.slice A8 qs.length c8)).setCell ⟨b + 1 + 1, 0, none⟩ (.slice A7 ps.length c7)).setCell ⟨b + 1 + 1, 1, none⟩ (.slice A8 qs.length c8)).setCell ⟨b + 1 + 1, 2, none⟩ (.slice D s.learned.length d)).setCell ⟨b + 1 + 1, 3, none⟩ (.int .i64 s.code)) = w9 at *
    obtain ⟨hbx, hres⟩ := hfin
    have HRES := Lib.hid hres
    clear hres
    have e0 := (cell_of_block hbx 0).1
    have e1 := (cell_of_block hbx 1).1
    have e2 := (cell_of_block hbx 2).1
    have e3 := (cell_of_block hbx 3).1
    simp at e0 e1 e2 e3
    refine bodyPost_ret (v := .agg #[.slice A7 ps.length c7, .slice A8 qs.length c8, .slice D s.learned.length d, .int .i64 s.code]) (by simp [results, Try.results98, go_sem, e0, e1, e2, e3]) rfl ?_
    rw [HRE.out]
    exact HRES.out
  have g2 : decide (0 ≤ f2) = false := decide_eq_false h2
  have HN2 : Hid (¬ 0 ≤ (fdS s.put (allC x s)).2.1) := Lib.hid (by rw [HF2.out] at h2; exact h2)
  clear h2
  obtain ⟨pn, hpn⟩ : ∃ pn : Int, pn = s.put.length := ⟨_, rfl⟩
  by_cases h3 : s.put.length = M
  · have g3 : ((s.put.length : Int) == (M : Int)) = true := beq_iff_eq.2 (by omega)
    have HRE : Hid (doP M x s = ⟨s.put, s.why, s.learned, 1⟩) := Lib.hid (by
      unfold doP
      rw [if_neg HN1.out, if_neg HN2.out, if_pos (by rw [HMM.out]; omega)])
    clear h3 hpn
    obtain ⟨o0, o0'⟩ := cell_of_block HD5.out.b2 0
    obtain ⟨o1, o1'⟩ := cell_of_block HD5.out.b2 1
    obtain ⟨o2, o2'⟩ := cell_of_block HD5.out.b2 2
    obtain ⟨o3, o3'⟩ := cell_of_block HD5.out.b2 3
    obtain ⟨n0, n0'⟩ := cell_of_block HD5.out.b1 0
    obtain ⟨n1, n1'⟩ := cell_of_block HD5.out.b1 1
    obtain ⟨n2, n2'⟩ := cell_of_block HD5.out.b1 2
    obtain ⟨n3, n3'⟩ := cell_of_block HD5.out.b1 3
    obtain ⟨c0, c0'⟩ := cell_of_block HD5.out.b0 0
    go_wp2
    have HD9 := Lib.hid (HD5.out.setCode 1)
    have hfin := HD9.out.fin1
    dsimp only at hfin
    generalize (((((w5.setCell ⟨b + 1, 3, none⟩ (.int .i64 1)).setCell ⟨b + 1 + 1, 0, none⟩ (.slice P s.put.length p)).setCell ⟨b + 1 + 1, 1, none⟩ (.slice Q s.why.length q)).setCell ⟨b + 1 + 1, 2, none⟩ (.slice D s.learned.length d)).setCell ⟨b + 1 + 1, 3, none⟩ (.int .i64 1)) = w9 at *
    obtain ⟨hbx, hres⟩ := hfin
    have HRES := Lib.hid hres
    clear hres
    have e0 := (cell_of_block hbx 0).1
    have e1 := (cell_of_block hbx 1).1
    have e2 := (cell_of_block hbx 2).1
    have e3 := (cell_of_block hbx 3).1
    simp at e0 e1 e2 e3
    refine bodyPost_ret (v := .agg #[.slice P s.put.length p, .slice Q s.why.length q, .slice D s.learned.length d, .int .i64 1]) (by simp [results, Try.results98, go_sem, e0, e1, e2, e3]) rfl ?_
    rw [HRE.out]
    exact HRES.out
  have g3 : ((s.put.length : Int) == (M : Int)) = false := beq_eq_false_iff_ne.2 (by omega)
  have hlt : s.put.length < M := by have := HGD.out.length; rw [Int.toNat_natCast] at this; omega
  have HFR := Lib.hid (free_is HGD.out hlt)
  clear h3 hpn hlt
  obtain ⟨c0, c0'⟩ := cell_of_block HD5.out.b0 0
  have n0 := (cell_of_block HD5.out.b1 0).1
  go_wp2
  go_loop [9] (fun i => ∃ (m n : Nat), 1 ≤ m ∧ m + n = M + 1 ∧ i = .int .i64 m ∧ Hid (freeP s.put M 1 = freeP s.put n m) ∧ Hid (∃ v, m ≤ v ∧ v < m + n ∧ sg s.put v = 0)) (fun i => M + 1 - (intOf i).toNat)
  case atStart => exact ⟨1, M, Nat.le_refl _, by omega, rfl, Lib.hid rfl, Lib.hid HFR.out⟩
  case round =>
    obtain ⟨m, n, hm1, hmn, rfl, HT, HX⟩ := hrel
    have hn1 : 1 ≤ n := by obtain ⟨v9, h7, h8, _⟩ := HX.out; omega
    have hmv : m < vs.length := by rw [HV.out.1]; omega
    have hml : (m : Int) < (vs.length : Int) := by omega
    obtain ⟨ad, hVe, _, hc⟩ := HVR5.out.at_int hmv
    have HY : Hid (vs[m] = sg s.put m) := Lib.hid (by
      have := HV.out.2 m hm1 (by omega)
      rw [List.getElem?_eq_getElem hmv] at this
      injection this)
    generalize vs[m] = y at *
    subst hVe
    by_cases hy : y = 0
    · have HE : Hid (freeP s.put M 1 = m) := Lib.hid (by
        obtain ⟨n', rfl⟩ : ∃ n', n = n' + 1 := ⟨n - 1, by omega⟩
        rw [HT.out, freeP, if_neg (by rw [← HY.out, hy]; simp)])
      have hy0 : (y == 0) = true := by simpa using hy
      obtain ⟨f3, hf3⟩ : ∃ f3 : Int, f3 = -(m : Int) := ⟨_, rfl⟩
      obtain ⟨f2, hf2⟩ : ∃ f2 : Int, f2 = -1 := ⟨_, rfl⟩
      have HRE : Hid (doP M x s = ⟨s.put ++ [f3], s.why ++ [f2], s.learned, s.code⟩) := Lib.hid (by
        unfold doP
        rw [if_neg (by have := HN1.out; omega), if_neg (by have := HN2.out; omega), if_neg (by rw [HMM.out]; simpa using g3), HE.out, hf3, hf2])
      have hx9 : IntKind.i64.wrap (-(m : Int)) = f3 := by rw [hf3]; exact IntWalk.i64_in _ (by omega)
      subst hf2
      clear hf3 HT HX HE hn1 hmn hy
      obtain ⟨ps, hps⟩ : ∃ ps, ps = s.put ++ [f3] := ⟨_, rfl⟩
      obtain ⟨qs, hqs⟩ : ∃ qs, qs = s.why ++ [-1] := ⟨_, rfl⟩
      have HPS := Lib.hid hps
      have HQS := Lib.hid hqs
      clear hps hqs
      have n0 := (cell_of_block HD5.out.b1 0).1
      go_wp2_with (at_builtin; first
        | (refine wpList_append_int8 (ys := ps) (by rfl) (.tmp 66) (.tmp 69) (by rfl) (by rfl) (by rfl) HD5.out.so.put (by omega) HD5.out.so.le HPS.out ?_; intro A7 c7 w7 hown7 hg7 hbk7
           have HD7 := Lib.hid (HD5.out.addPut hown7 hg7 hbk7)
           have HK7 := Lib.hid (HD5.out.kept hg7 (.inl rfl))
           obtain ⟨x0, x0'⟩ := cell_of_block HK7.out.1 0
           obtain ⟨x1, x1'⟩ := cell_of_block HK7.out.1 1
           clear hown7 hg7 hbk7 n0)
        | (refine wpList_append_intB (b := w7.heap.size) (ys := qs) (by rfl) (.tmp 73) (.tmp 74) (by rfl) (by rfl) (by rfl) (by simp [World.setCell]) HD7.out.so.why (by show s.why.length ≤ 2000000; omega) HD7.out.so.le HQS.out ?_; intro A8 c8 w8 hown8 hg8 hbk8
           have HD8 := Lib.hid (HD7.out.addWhy hown8 hg8 hbk8)
           have HK8 := Lib.hid (HD7.out.kept hg8 (.inr rfl))
           obtain ⟨n0, n0'⟩ := cell_of_block HK8.out.1 0
           obtain ⟨n1, n1'⟩ := cell_of_block HK8.out.1 1
           obtain ⟨n2, n2'⟩ := cell_of_block HK8.out.1 2
           obtain ⟨n3, n3'⟩ := cell_of_block HK8.out.1 3
           obtain ⟨o0, o0'⟩ := cell_of_block HK8.out.2 0
           obtain ⟨o1, o1'⟩ := cell_of_block HK8.out.2 1
           obtain ⟨o2, o2'⟩ := cell_of_block HK8.out.2 2
           obtain ⟨o3, o3'⟩ := cell_of_block HK8.out.2 3
           clear hown8 hg8 hbk8 x0 x0' x1 x1'))
      rw [HPS.out.symm, HQS.out.symm] at HRE
      have hfin := HD8.out.fin1
      dsimp only at hfin
      generalize (((((w8.setCell ⟨b + 1, 1, none⟩ (.slice A8 qs.length c8)).setCell ⟨b + 1 + 1, 0, none⟩ (.slice A7 ps.length c7)).setCell ⟨b + 1 + 1, 1, none⟩ (.slice A8 qs.length c8)).setCell ⟨b + 1 + 1, 2, none⟩ (.slice D s.learned.length d)).setCell ⟨b + 1 + 1, 3, none⟩ (.int .i64 s.code)) = w9 at *
      obtain ⟨hbx, hres⟩ := hfin
      have HRES := Lib.hid hres
      clear hres
      have e0 := (cell_of_block hbx 0).1
      have e1 := (cell_of_block hbx 1).1
      have e2 := (cell_of_block hbx 2).1
      have e3 := (cell_of_block hbx 3).1
      simp at e0 e1 e2 e3
      refine bodyPost_ret (v := .agg #[.slice A7 ps.length c7, .slice A8 qs.length c8, .slice D s.learned.length d, .int .i64 s.code]) (by simp [results, Try.results98, go_sem, e0, e1, e2, e3]) rfl ?_
      rw [HRE.out]
      exact HRES.out
    · have hy0 : (y == 0) = false := by simpa using hy
      have HT' : Hid (freeP s.put M 1 = freeP s.put (n - 1) (m + 1)) := Lib.hid (by
        obtain ⟨n', rfl⟩ : ∃ n', n = n' + 1 := ⟨n - 1, by omega⟩
        rw [HT.out, freeP, if_pos (by rw [← HY.out]; exact hy)]
        rfl)
      have HX' : Hid (∃ v, m + 1 ≤ v ∧ v < m + 1 + (n - 1) ∧ sg s.put v = 0) := Lib.hid (by
        obtain ⟨v9, h7, h8, h9⟩ := HX.out
        refine ⟨v9, ?_, by omega, h9⟩
        rcases Nat.lt_or_ge m v9 with h6 | h6
        · omega
        · exfalso
          have : v9 = m := by omega
          rw [this] at h9
          exact hy (HY.out.trans h9))
      clear HT HX
      go_wp2
      go_round
      case rel => exact ⟨m + 1, n - 1, by omega, by omega, by go_num, HT', HX'⟩
      case measure => simp [intOf]; omega
end Go.Proofs.Ytbljfhmcebgdaaa
