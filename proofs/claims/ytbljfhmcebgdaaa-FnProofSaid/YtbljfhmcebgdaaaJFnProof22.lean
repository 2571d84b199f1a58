/- The reference's draws of searches: l5Some. Draws of clauses and of what may follow: DrawRupOk, DrawProofOk. -/
import Derived.Test.YtbljfhmcebgdaaaJFnProof21
/-! The reference's draws of searches: l5Some. -/
namespace Go.Proofs.Ytbljfhmcebgdaaa
open Go Go.RowKit

/-- A search can be read, in the blocks F. -/
structure SlS (F : Nat → Prop) (w : World) (s : S) (P Q D : Option Addr) (p' q' d' : Nat) : Prop where
  put : Lay.int.Sl w F P s.put
  why : Lay.int.Sl w F Q s.why
  lrn : Lay.int.slice.Sl w F D s.learned
  capP : s.put.length ≤ p'
  capQ : s.why.length ≤ q'
  capD : s.learned.length ≤ d'
abbrev RdS (w : World) := SlS (fun k => k < w.heap.size) w
theorem SlS.mono {F G : Nat → Prop} {w : World} {s : S} {P Q D : Option Addr} {p' q' d' : Nat} (h : SlS F w s P Q D p' q' d') (hF : ∀ k, F k → G k) : SlS G w s P Q D p' q' d' := ⟨h.put.mono hF, h.why.mono hF, h.lrn.mono hF, h.capP, h.capQ, h.capD⟩
theorem SlS.keep {F : Nat → Prop} {w w' : World} {s : S} {P Q D : Option Addr} {p' q' d' : Nat} (h : SlS F w s P Q D p' q' d') (hF : ∀ k, F k → w'.heap[k]? = w.heap[k]?) : SlS F w' s P Q D p' q' d' := ⟨h.put.keep hF, h.why.keep hF, h.lrn.keep hF, h.capP, h.capQ, h.capD⟩
theorem SlS.up {w w' : World} {s : S} {P Q D : Option Addr} {p' q' d' : Nat} (h : RdS w s P Q D p' q' d') (hb : Below w.heap.size w w') : RdS w' s P Q D p' q' d' := ⟨h.put.up hb, h.why.up hb, h.lrn.up hb, h.capP, h.capQ, h.capD⟩
theorem SlS.gr {S0 : Nat → Prop} {w w' : World} {s : S} {P Q D : Option Addr} {p' q' d' : Nat} (h : SlS (Ab S0 w) w s P Q D p' q' d') (hg : Gr S0 w w') : SlS (Ab S0 w') w' s P Q D p' q' d' := ⟨h.put.gr hg, h.why.gr hg, h.lrn.gr hg, h.capP, h.capQ, h.capD⟩
theorem StR.slS {lo g : Nat} {FL : Nat → Prop} {s : S} {P Q D : Option Addr} {p q d : Nat} {x : World} (h : StR lo g FL s P Q D p q d x) : SlS (fun k => lo ≤ k ∧ k < x.heap.size) x s P Q D p q d := by
  obtain ⟨_, _, e1, _, h1⟩ := h.put.form
  obtain ⟨_, _, e2, _, h2⟩ := h.why.form
  injection e1 with e1
  injection e2 with e2
  subst e1 e2
  exact ⟨h1, h2, h.lrn.sl.mono fun k hk => ⟨hk.2.elim (fun h9 => h9.1) (fun h9 => (h.fl k h9).1), hk.1⟩, h.put.cap, h.why.cap, h.lrn.cap.2⟩
/-- call 3, the boxes' stores 4 and 5. -/
def SmI (b2 b3 r : Nat) (q : Int) (T : Nat → Prop) (c0 : Array Value) (w : World) (v3 : Value) (f3 f4 f5 : Bool) (x : World) : Prop :=
  Gr T w x ∧ (f3 = false → Rdr x r q) ∧ (f3 = true → ∃ q', q ≤ q' ∧ q' ≤ q + 10 ∧ Rdr x r q') ∧
  (f4 = false → x.heap[b2]? = some (.cells #[.int .i64 0, .slice none 0 0] 25 (0, 0))) ∧ (f4 = true → x.heap[b2]? = some (.cells c0 25 (0, 0))) ∧
  (f3 = true → ∃ (s : S) (P Q D : Option Addr) (p' q' d' g lo : Nat) (FL : Nat → Prop), v3 = .agg #[.slice P s.put.length p', .slice Q s.why.length q', .slice D s.learned.length d', .int .i64 s.code] ∧ okS 3 s ∧ StR lo g FL s P Q D p' q' d' x ∧ w.heap.size ≤ lo) ∧
  (f5 = false → x.heap[b3]? = some (.cells #[.slice none 0 0, .slice none 0 0, .slice none 0 0, .int .i64 0] 35 (0, 0))) ∧ (f5 = true → ∃ cs, v3 = .agg cs ∧ x.heap[b3]? = some (.cells cs 35 (0, 0)))
section
variable {b2 b3 r : Nat} {q : Int} {T : Nat → Prop} {c0 : Array Value} {w x z : World} {v3 : Value} {f3 f4 f5 : Bool}
theorem SmI.start (hR : Rdr w r q) (h2 : w.heap[b2]? = some (.cells #[.int .i64 0, .slice none 0 0] 25 (0, 0))) (h3 : w.heap[b3]? = some (.cells #[.slice none 0 0, .slice none 0 0, .slice none 0 0, .int .i64 0] 35 (0, 0))) : SmI b2 b3 r q T c0 w v3 false false false (w.drewN 1) :=
  ⟨Gr.below (below_drewN (Below.refl _ _) 1), fun _ => hR.up (below_drewN (Below.refl _ _) 1), fun e => absurd e (by simp), fun _ => h2, fun e => absurd e (by simp), fun e => absurd e (by simp), fun _ => h3, fun e => absurd e (by simp)⟩
theorem SmI.call {s : S} {P Q D : Option Addr} {p' q' d' g : Nat} {FL : Nat → Prop} (h : SmI b2 b3 r q T c0 w v3 f3 f4 f5 x) (h3 : f3 = false) (h5 : f5 = false) (hrb : r ≠ b2 ∧ r ≠ b3) (hT : T r) (hs : okS 3 s) (hso : StR x.heap.size g FL s P Q D p' q' d' z) (hd : Drawn r q 10 x z) :
    SmI b2 b3 r q T c0 w (.agg #[.slice P s.put.length p', .slice Q s.why.length q', .slice D s.learned.length d', .int .i64 s.code]) true f4 f5 z := by
  subst h3 h5
  obtain ⟨h1, h2, h3, h4, h5, h6, h7, h8⟩ := h
  obtain ⟨q2, k1, k2, k3, hg⟩ := hd
  exact ⟨h1.trans (hg.mono fun k hk => by rw [show k = r from hk]; exact hT), fun e => absurd e (by simp), fun _ => ⟨q2, k1, k2, k3⟩, fun e => hg.heap (fun e => hrb.1 e.symm) (h4 e), fun e => hg.heap (fun e => hrb.1 e.symm) (h5 e), fun _ => ⟨s, P, Q, D, p', q', d', g, _, FL, rfl, hs, hso, h1.size⟩, fun _ => hg.heap (fun e => hrb.2 e.symm) (h7 rfl), fun e => absurd e (by simp)⟩
end
end Go.Proofs.Ytbljfhmcebgdaaa

/-! Draws of clauses and of what may follow: DrawRupOk, DrawProofOk. -/
namespace Go.Proofs.Ytbljfhmcebgdaaa
open Go Go.RowKit

theorem Lay.Sl.dropT {α : Type} {L : Lay α} {w : World} {F : Nat → Prop} {ad : Addr} {xs : List α} (h : L.Sl w F (some ad) xs) (n : Nat) : L.Sl w F (some (ad.add (n * L.size))) (xs.drop n) := fun hn => by
  obtain ⟨ad', e, hf, hc⟩ := h (by simp at hn; omega)
  injection e with e
  subst e
  refine ⟨_, rfl, by rw [block_of_add]; exact hf, fun k x hx => ?_⟩
  rw [List.getElem?_drop] at hx
  obtain ⟨vs, hr, hcell⟩ := hc (n + k) x hx
  refine ⟨vs, hr, fun j u hu => ?_⟩
  have := hcell j u hu
  rw [add_of_add]
  rw [show n * L.size + (k * L.size + j) = (n + k) * L.size + j by rw [Nat.add_mul]; omega]
  exact this
/-- What a draw of clauses and clauses gives. -/
def DrawF (w : World) (e : Ending) (w' : World) : Prop :=
  ∃ (y : C) (A : Option Addr) (a : Nat) (B : Option Addr) (d : Nat) (cs : List (List Int)), e = .returned (.tuple #[.agg #[.int .i64 y.many, .slice A y.list.length a], .slice B cs.length d]) ∧ y.list.length ≤ a ∧ cs.length ≤ d ∧ Lay.int.slice.Rd w' A y.list ∧ Lay.int.slice.Rd w' B cs ∧ okInt y.many ∧ smallL 31 y.list ∧ cs.length ≤ 304 ∧ (∀ cl ∈ cs, cl.length ≤ 700 ∧ ∀ l ∈ cl, okInt l) ∧ Below w.heap.size w w'
/-- Only the answer's box is written. -/
def BxI (b : Nat) (c0 : Array Value) (w : World) (f5 : Bool) (x : World) : Prop :=
  Gr (fun k => k = b) w x ∧ (f5 = false → x.heap[b]? = some (.cells #[.int .i64 0, .slice none 0 0] 25 (0, 0))) ∧ (f5 = true → x.heap[b]? = some (.cells c0 25 (0, 0)))
theorem BxI.start {b : Nat} {c0 : Array Value} {w : World} (h : w.heap[b]? = some (.cells #[.int .i64 0, .slice none 0 0] 25 (0, 0))) : BxI b c0 w false (w.drewN 1) := ⟨Gr.below (below_drewN (Below.refl _ _) 1), fun _ => h, fun e => absurd e (by simp)⟩
theorem BxI.store {b : Nat} {u0 u1 : Value} {w x : World} {f5 : Bool} (h : BxI b #[u0, u1] w f5 x) (h5 : f5 = false) : BxI b #[u0, u1] w true ((x.setCell ⟨b, 0, none⟩ u0).setCell ⟨b, 1, none⟩ u1) := by
  subst h5
  obtain ⟨h1, h2, h3⟩ := h
  have hg : Gr (fun k => k = b) x ((x.setCell ⟨b, 0, none⟩ u0).setCell ⟨b, 1, none⟩ u1) := Gr.set (Gr.set (Gr.refl (fun k => k = b) x) b 0 _ (.inl rfl)) b 1 _ (.inl rfl)
  exact ⟨h1.trans hg, fun e => absurd e (by simp), fun _ => heap_set_same _ b 1 u1 _ _ (heap_set_same _ b 0 u0 _ _ (h2 rfl))⟩
/-- A clause is drawn: call 4; the answer's box. -/
def RpI (b r : Nat) (q : Int) (T : Nat → Prop) (c0 : Array Value) (w : World) (v4 : Value) (f4 f5 : Bool) (x : World) : Prop :=
  Gr T w x ∧ (f4 = false → Rdr x r q) ∧ (f4 = true → ∃ (B : Option Addr) (d lo : Nat) (cl : List Int), v4 = .slice B cl.length d ∧ OwnI x lo (.slice B cl.length d) cl ∧ w.heap.size ≤ lo ∧ cl.length ≤ 60 ∧ ∀ l ∈ cl, okInt l) ∧
  (f5 = false → x.heap[b]? = some (.cells #[.int .i64 0, .slice none 0 0] 25 (0, 0))) ∧ (f5 = true → x.heap[b]? = some (.cells c0 25 (0, 0)))
section
variable {b r : Nat} {q : Int} {T : Nat → Prop} {c0 : Array Value} {w x z : World} {v4 : Value} {f4 f5 : Bool}
theorem RpI.start (hR : Rdr w r q) (h : w.heap[b]? = some (.cells #[.int .i64 0, .slice none 0 0] 25 (0, 0))) : RpI b r q T c0 w v4 false false (w.drewN 1) :=
  ⟨Gr.below (below_drewN (Below.refl _ _) 1), fun _ => hR.up (below_drewN (Below.refl _ _) 1), fun e => absurd e (by simp), fun _ => h, fun e => absurd e (by simp)⟩
theorem RpI.call {B : Option Addr} {d : Nat} {cl : List Int} (h : RpI b r q T c0 w v4 f4 f5 x) (h4 : f4 = false) (hT : T r) (hrb : r ≠ b) (ho : OwnI z x.heap.size (.slice B cl.length d) cl) (hl : cl.length ≤ 60) (hok : ∀ l ∈ cl, okInt l) (hd : Drawn r q 200 x z) : RpI b r q T c0 w (.slice B cl.length d) true f5 z := by
  subst h4
  obtain ⟨h1, h2, h3, h4, h5⟩ := h
  obtain ⟨q2, _, _, _, hg⟩ := hd
  exact ⟨h1.trans (hg.mono fun k hk => by rw [show k = r from hk]; exact hT), fun e => absurd e (by simp), fun _ => ⟨B, d, _, cl, rfl, ho, h1.size, hl, hok⟩, fun e => hg.heap (fun e => hrb e.symm) (h4 e), fun e => hg.heap (fun e => hrb e.symm) (h5 e)⟩
theorem RpI.store {u0 u1 : Value} (h : RpI b r q T #[u0, u1] w v4 f4 f5 x) (h5 : f5 = false) (hT : T b) (hr : b < r) (hw : b < w.heap.size) : RpI b r q T #[u0, u1] w v4 f4 true ((x.setCell ⟨b, 0, none⟩ u0).setCell ⟨b, 1, none⟩ u1) := by
  subst h5
  obtain ⟨h1, h2, h3, h4, h5⟩ := h
  have hg : Gr (fun k => k = b) x ((x.setCell ⟨b, 0, none⟩ u0).setCell ⟨b, 1, none⟩ u1) := Gr.set (Gr.set (Gr.refl (fun k => k = b) x) b 0 _ (.inl rfl)) b 1 _ (.inl rfl)
  exact ⟨h1.trans (hg.mono fun k hk => by rw [show k = b from hk]; exact hT), fun e => (h2 e).far hg (by omega) ⟨_, _, _, h4 rfl, by simp⟩, fun e => by
    obtain ⟨B, d, lo, cl, k1, k2, k3, k4⟩ := h3 e
    exact ⟨B, d, lo, cl, k1, k2.gr hg (fun k hk => by have hk : k = b := hk; omega), k3, k4⟩, fun e => absurd e (by simp), fun _ => heap_set_same _ b 1 u1 _ _ (heap_set_same _ b 0 u0 _ _ (h4 rfl))⟩
end
/-- A clause is drawn and appended: call 6, its list 7, append 8; the answer's box 9. -/
def PfI (b r : Nat) (q : Int) (T : Nat → Prop) (lo : Nat) (c0 : Array Value) (D : Option Addr) (d' : Nat) (cs : List (List Int)) (w : World) (v6 v7 v8 : Value) (f6 f7 f8 f9 : Bool) (x : World) : Prop :=
  (f8 = false → Gr T w x) ∧ Gr (fun k => T k ∨ (Value.slice D cs.length d').ownBlock = some k) w x ∧ (f6 = false → Rdr x r q) ∧
  (f6 = true → f8 = false → ∃ (B : Option Addr) (d lo6 : Nat) (cl : List Int), v6 = .slice B cl.length d ∧ OwnI x lo6 (.slice B cl.length d) cl ∧ w.heap.size ≤ lo6 ∧ cl.length ≤ 60 ∧ ∀ l ∈ cl, okInt l) ∧
  (f7 = true → f8 = false → ∃ b7, v7 = .slice (some ⟨b7, 0, none⟩) 1 1 ∧ x.heap[b7]? = some (.cells #[v6] 26 (0, 0)) ∧ w.heap.size ≤ b7) ∧
  (f8 = false → OwnL Lay.int.slice (fun _ k => lo ≤ k) 26 x lo (.slice D cs.length d') cs) ∧
  (f8 = true → ∃ (D9 : Option Addr) (d9 : Nat) (ys : List (List Int)) (cl : List Int), ys = cs ++ [cl] ∧ v8 = .slice D9 ys.length d9 ∧ OwnL Lay.int.slice (fun _ k => lo ≤ k) 26 x lo (.slice D9 ys.length d9) ys ∧ cl.length ≤ 60 ∧ ∀ l ∈ cl, okInt l) ∧
  (f9 = false → x.heap[b]? = some (.cells #[.int .i64 0, .slice none 0 0] 25 (0, 0))) ∧ (f9 = true → x.heap[b]? = some (.cells c0 25 (0, 0)))
section
variable {b r lo d' : Nat} {q : Int} {T : Nat → Prop} {c0 : Array Value} {D : Option Addr} {cs : List (List Int)} {w x z : World} {v6 v7 v8 : Value} {f6 f7 f8 f9 : Bool}
theorem PfI.start (hR : Rdr w r q) (h : w.heap[b]? = some (.cells #[.int .i64 0, .slice none 0 0] 25 (0, 0))) (ho : OwnL Lay.int.slice (fun _ k => lo ≤ k) 26 w lo (.slice D cs.length d') cs) : PfI b r q T lo c0 D d' cs w v6 v7 v8 false false false false (w.drewN 1) :=
  ⟨fun _ => Gr.below (below_drewN (Below.refl _ _) 1), Gr.below (below_drewN (Below.refl _ _) 1), fun _ => hR.up (below_drewN (Below.refl _ _) 1), fun e => absurd e (by simp), fun e => absurd e (by simp), fun _ => ho.up (fun _ _ _ _ h => h) (below_drewN (Below.refl _ _) 1), fun e => absurd e (by simp), fun _ => h, fun e => absurd e (by simp)⟩
theorem PfI.call {B : Option Addr} {d : Nat} {cl : List Int} (h : PfI b r q T lo c0 D d' cs w v6 v7 v8 f6 f7 f8 f9 x) (h6 : f6 = false) (h7 : f7 = false) (h8 : f8 = false) (hT : T r) (hrb : r ≠ b) (hr : r < lo) (ho : OwnI z x.heap.size (.slice B cl.length d) cl) (hl : cl.length ≤ 60) (hok : ∀ l ∈ cl, okInt l) (hd : Drawn r q 200 x z) :
    PfI b r q T lo c0 D d' cs w (.slice B cl.length d) v7 v8 true f7 f8 f9 z := by
  subst h6 h7 h8
  obtain ⟨h1, h2, h3, h4, h5, h6, h7, h8, h9⟩ := h
  obtain ⟨q2, _, _, _, hg⟩ := hd
  have hgT : Gr T x z := hg.mono fun k hk => by rw [show k = r from hk]; exact hT
  exact ⟨fun _ => (h1 rfl).trans hgT, h2.trans (hgT.mono fun _ h => .inl h), fun e => absurd e (by simp), fun _ _ => ⟨B, d, _, cl, rfl, ho, h2.size, hl, hok⟩, fun e => absurd e (by simp), fun _ => (h6 rfl).gr9 hg (fun k hk => by have hk : k = r := hk; omega), fun e => absurd e (by simp), fun e => hg.heap (fun e => hrb e.symm) (h8 e), fun e => hg.heap (fun e => hrb e.symm) (h9 e)⟩
theorem PfI.list {B : Option Addr} {n d : Nat} (h : PfI b r q T lo c0 D d' cs w v6 v7 v8 f6 f7 f8 f9 x) (h6 : f6 = true) (h8 : f8 = false) (e6 : v6 = .slice B n d) : PfI b r q T lo c0 D d' cs w v6 (.slice (some ⟨x.heap.size, 0, none⟩) 1 1) v8 f6 true f8 f9 (x.alloc (.cells #[.slice B n d] 26)) := by
  subst h6 h8
  obtain ⟨h1, h2, h3, h4, h5, h6, h7, h8, h9⟩ := h
  have hb : Below x.heap.size x (x.alloc (.cells #[.slice B n d] 26)) := (Below.refl _ _).alloc (Nat.le_refl _) _
  have bk : ∀ {k : Nat} {o : Obj}, x.heap[k]? = some o → (x.alloc (.cells #[.slice B n d] 26)).heap[k]? = some o := fun h => (hb.block _ (lt_of_block h)).trans h
  exact ⟨fun _ => (h1 rfl).up hb, h2.up hb, fun e => absurd e (by simp), fun e e' => by obtain ⟨B, d, lo6, cl, k1, k2, k3⟩ := h4 e e'; exact ⟨B, d, lo6, cl, k1, k2.up hb, k3⟩, fun _ _ => ⟨_, rfl, by rw [e6]; exact heap_alloc_new _ _, h2.size⟩, fun _ => (h6 rfl).up (fun _ _ _ _ h => h) hb, fun e => absurd e (by simp), fun e => bk (h8 e), fun e => bk (h9 e)⟩
theorem PfI.app {D9 : Option Addr} {d9 : Nat} {ys : List (List Int)} {cl : List Int} (h : PfI b r q T lo c0 D d' cs w v6 v7 v8 f6 f7 f8 f9 x) (h6 : f6 = true) (h8 : f8 = false) (hb : b < lo) (hys : ys = cs ++ [cl]) (ho : OwnL Lay.int.slice (fun _ k => lo ≤ k) 26 z lo (.slice D9 ys.length d9) ys) (hg : x.grownBy z (Value.slice D cs.length d').ownBlock) (hl : cl.length ≤ 60) (hok : ∀ l ∈ cl, okInt l) :
    PfI b r q T lo c0 D d' cs w v6 v7 (.slice D9 ys.length d9) f6 f7 true f9 z := by
  subst h6 h8
  obtain ⟨h1, h2, h3, h4, h5, h6, h7, h8, h9⟩ := h
  have hlt := (h6 rfl).lt
  have ne : ∀ {o : Obj}, x.heap[b]? = some o → z.heap[b]? = some o := fun h => (hg.block _ (lt_of_block h) fun e => by have := (hlt b e.symm).1; omega).trans h
  exact ⟨fun e => absurd e (by simp), h2.trans ((gr_own hg).mono fun _ h => .inr h), fun e => absurd e (by simp), fun _ e => absurd e (by simp), fun _ e => absurd e (by simp), fun e => absurd e (by simp), fun _ => ⟨D9, d9, ys, cl, hys, rfl, ho, hl, hok⟩, fun e => ne (h8 e), fun e => ne (h9 e)⟩
theorem PfI.store {u0 u1 : Value} (h : PfI b r q T lo #[u0, u1] D d' cs w v6 v7 v8 f6 f7 f8 f9 x) (h9 : f9 = false) (hT : T b) (hr : b < r) (hb : b < lo) (hw : b < w.heap.size) : PfI b r q T lo #[u0, u1] D d' cs w v6 v7 v8 f6 f7 f8 true ((x.setCell ⟨b, 0, none⟩ u0).setCell ⟨b, 1, none⟩ u1) := by
  subst h9
  obtain ⟨h1, h2, h3, h4, h5, h6, h7, h8, h9⟩ := h
  have hg : Gr (fun k => k = b) x ((x.setCell ⟨b, 0, none⟩ u0).setCell ⟨b, 1, none⟩ u1) := Gr.set (Gr.set (Gr.refl (fun k => k = b) x) b 0 _ (.inl rfl)) b 1 _ (.inl rfl)
  have hgT : Gr T x ((x.setCell ⟨b, 0, none⟩ u0).setCell ⟨b, 1, none⟩ u1) := hg.mono fun k hk => by rw [show k = b from hk]; exact hT
  have lt9 : ∀ k, k = b → k < lo := fun k hk => by omega
  exact ⟨fun e => (h1 e).trans hgT, h2.trans (hgT.mono fun _ h => .inl h), fun e => (h3 e).far hg (by omega) ⟨_, _, _, h8 rfl, by simp⟩, fun e e' => by obtain ⟨B, d, lo6, cl, k1, k2, k3⟩ := h4 e e'; exact ⟨B, d, lo6, cl, k1, k2.gr hg (fun k hk => by have hk : k = b := hk; omega), k3⟩, fun e e' => by obtain ⟨b7, k1, k2, k3⟩ := h5 e e'; exact ⟨b7, k1, hg.heap (by show ¬ b7 = b; omega) k2, k3⟩, fun e => (h6 e).gr9 hg lt9, fun e => by obtain ⟨D9, d9, ys, cl, k1, k2, k3, k4⟩ := h7 e; exact ⟨D9, d9, ys, cl, k1, k2, k3.gr9 hg lt9, k4⟩, fun e => absurd e (by simp), fun _ => heap_set_same _ b 1 u1 _ _ (heap_set_same _ b 0 u0 _ _ (h8 rfl))⟩
end
set_option maxRecDepth 100000 in
set_option maxHeartbeats 16000000 in
theorem drawProofOk_any (A0 : Option Addr) (c : Nat) (bs : List UInt8) (w : World) (h : Lay.byte.Rd w A0 bs) (hc : bs.length ≤ c) (hn : bs.length ≤ 9223372036854775807) :
    Calls Try.prog 13 #[.slice A0 bs.length c] w (DrawF w) := by
  have hw : Below w.heap.size w (w.alloc (.cells #[.int .i64 0, .slice none 0 0] 25)) := (Below.refl _ _).alloc (Nat.le_refl _) _
  have hB0 := heap_alloc_new w (.cells #[.int .i64 0, .slice none 0 0] 25)
  have hWS : (w.alloc (.cells #[.int .i64 0, .slice none 0 0] 25)).heap.size = w.heap.size + 1 := by simp
  obtain ⟨W, hW⟩ : ∃ W, W = w.alloc (.cells #[.int .i64 0, .slice none 0 0] 25) := ⟨_, rfl⟩
  rw [← hW] at hw hB0 hWS
  have HO := Lib.hid (open_any A0 c bs W (h.up hw) hc hn)
  have HB0 := Lib.hid hB0
  have HBW := Lib.hid hw
  have HW := Lib.hid hW
  clear h hw hB0 hW
  go_enter Try.func13, Try.ntmps13
  go_wp2_with fail
  rw [← HW.out]
  obtain ⟨b, hbe⟩ : ∃ b, b = w.heap.size := ⟨_, rfl⟩
  rw [← hbe] at HB0 hWS ⊢
  have HBE := Lib.hid hbe
  clear hbe HW
  refine HO.out.mono ?_
  clear HO
  rintro e w1 ⟨r, rfl, hr, hR1, hb1⟩
  have HB0 := Lib.hid ((hb1.block _ (by omega)).trans HB0.out)
  have HBW := Lib.hid (bthen HBW.out hb1)
  have hrb : b < r := by omega
  clear hb1
  obtain ⟨T, hT⟩ : ∃ T : Nat → Prop, ∀ k, T k ↔ k = r ∨ k = b := ⟨fun k => k = r ∨ k = b, fun _ => Iff.rfl⟩
  have HT := Lib.hid hT
  have HTL : Hid (∀ k, T k → k < w1.heap.size) := Lib.hid fun k hk => by have := (hT k).1 hk; have := hR1.lt; omega
  clear hT
  go_wp2_with fail
  refine (l4Cnf_any T r 0 w1 hR1 HTL.out ((HT.out r).2 (.inl rfl)) (by omega) (by omega)).mono ?_
  rintro e w2 ⟨x, A2, c2, rfl, hc2, hs2, ⟨hm0, hm1, hsm2⟩, q2, q20, q21, hR2, hg2⟩
  have HB0 := Lib.hid (hg2.heap (by show ¬ _ = r; omega) HB0.out)
  have hgw := (Gr.below (S := IsR r) HBW.out).trans hg2
  have hsz2 := hg2.size
  clear hg2 hR1
  go_wp2_with fail
  refine (l4Bent_any T r 30 q2 x A2 c2 w2 hR2 hs2 (fun k hk => Nat.lt_of_lt_of_le (HTL.out k hk) hsz2) ((HT.out r).2 (.inl rfl)) hc2 hsm2 (by omega) (by omega) (by omega) (by omega) (by omega)).mono ?_
  rintro e w3 ⟨y, A, a, rfl, hc3, hs3, ⟨hmy, hsm3⟩, q3, q30, q31, hR3, hg3⟩
  have HB0 := Lib.hid (hg3.heap (by show ¬ _ = r; omega) HB0.out)
  have HGW := Lib.hid (hgw.trans hg3)
  have hsz3 := hg3.size
  have hrw3 := hR3.lt
  clear hg3 hgw hR2 hs2 hsm2
  have hal : Below w3.heap.size w3 (w3.alloc (.cells #[.int .i64 y.many, .slice A y.list.length a] 25)) := (Below.refl _ _).alloc (Nat.le_refl _) _
  have hb5 : (w3.alloc (.cells #[.int .i64 y.many, .slice A y.list.length a] 25)).heap[w3.heap.size]? = some (.cells #[.int .i64 y.many, .slice A y.list.length a] 25 (0, 0)) := heap_alloc_new _ _
  have HB5 := Lib.hid hb5
  have HB0 := Lib.hid ((hal.block _ (lt_of_block HB0.out)).trans HB0.out)
  have HR4 := Lib.hid (hR3.up hal)
  have HGW := Lib.hid (HGW.out.up hal)
  have HX := Lib.hid (hs3.gr (.below hal))
  have HX4 := HX
  have HMY := Lib.hid hmy
  have HSM := Lib.hid hsm3
  have hal9 := hal.size
  have hb5l := lt_of_block hb5
  have hl3 := hsm3.1
  have hmb := hmy
  unfold okInt at hmb
  clear hal hb5 hR3 hs3 hmy hsm3 HBW
  go_wp2_with fail
  generalize w3.alloc (.cells #[.int .i64 y.many, .slice A y.list.length a] 25) = w4 at *
  generalize hb5e : w3.heap.size = b5 at *
  clear hb5e
  refine (l5State_any T r q3 y A a w4 HR4.out HX.out ((HT.out r).2 (.inl rfl)) (smCnf.short ⟨HMY.out, HSM.out.sm (by omega)⟩) (by omega) (by omega)).mono ?_
  rintro e w5 ⟨s, P, Q, D, p', q', d', g, FL, rfl, hos, hso, q5, q50, q51, hR5, hg5⟩
  have HB0 := Lib.hid (hg5.heap (by show ¬ _ = r; omega) HB0.out)
  have HB5 := Lib.hid (hg5.heap (by show ¬ _ = r; omega) HB5.out)
  have HX := Lib.hid (HX.out.gr (hg5.mono fun k hk => (HT.out k).2 (.inl hk)))
  have HGW := Lib.hid (HGW.out.trans hg5)
  have hsz5 := hg5.size
  have HOS := Lib.hid hos
  have hal : Below w5.heap.size w5 (w5.alloc (.cells #[.slice P s.put.length p', .slice Q s.why.length q', .slice D s.learned.length d', .int .i64 s.code] 35)) := (Below.refl _ _).alloc (Nat.le_refl _) _
  have hb6 : (w5.alloc (.cells #[.slice P s.put.length p', .slice Q s.why.length q', .slice D s.learned.length d', .int .i64 s.code] 35)).heap[w5.heap.size]? = some (.cells #[.slice P s.put.length p', .slice Q s.why.length q', .slice D s.learned.length d', .int .i64 s.code] 35 (0, 0)) := heap_alloc_new _ _
  have HB6 := Lib.hid hb6
  have HB0 := Lib.hid ((hal.block _ (lt_of_block HB0.out)).trans HB0.out)
  have HB5 := Lib.hid ((hal.block _ (lt_of_block HB5.out)).trans HB5.out)
  have HR6 := Lib.hid (hR5.up hal)
  have HGW := Lib.hid (HGW.out.up hal)
  have HX := Lib.hid (HX.out.gr (.below hal))
  have HSO := Lib.hid (hso.up hal)
  have HX4 : Hid (Lay.int.slice.Sl (w5.alloc (.cells #[.slice P s.put.length p', .slice Q s.why.length q', .slice D s.learned.length d', .int .i64 s.code] 35)) (fun k => k < w4.heap.size ∧ ¬ T k) A y.list) := Lib.hid ((HX4.out.keep fun k hk => hg5.block k hk.1 (fun e => hk.2 ((HT.out k).2 (.inl e)))).keep fun k hk => hal.block k (Nat.lt_of_lt_of_le hk.1 hsz5))
  have hal8 := hal.size
  have hb6l := lt_of_block hb6
  clear hal hb6 hR5 hso hos hg5 HR4
  have hcap := HSO.out.lrn.cap.2
  have hsl := HOS.out.lrn
  go_wp2_with fail
  generalize w5.alloc (.cells #[.slice P s.put.length p', .slice Q s.why.length q', .slice D s.learned.length d', .int .i64 s.code] 35) = w6 at *
  generalize hb6e : w5.heap.size = b6 at *
  clear hb6e
  refine (pick_any r q5 3 w6 HR6.out (by omega) (by omega) (by omega) (by omega)).mono ?_
  rintro e w7 ⟨k, rfl, k0, k1, _, hR7, hg7⟩
  have k1 := k1 (by omega)
  have hg7 := Gr.one (S := IsR r) hg7 rfl
  have HB0 := Lib.hid (hg7.heap (by show ¬ _ = r; omega) HB0.out)
  have HB5 := Lib.hid (hg7.heap (by show ¬ _ = r; omega) HB5.out)
  have HB6 := Lib.hid (hg7.heap (by show ¬ _ = r; omega) HB6.out)
  have HX := Lib.hid (HX.out.gr (hg7.mono fun k hk => (HT.out k).2 (.inl hk)))
  have HX4 := Lib.hid (HX4.out.keep fun k hk => hg7.block k (by have := hk.1; omega) (fun e => hk.2 ((HT.out k).2 (.inl e))))
  have HGW := Lib.hid (HGW.out.trans hg7)
  have HSO := Lib.hid (HSO.out.gr hg7 (fun k hk => by have hk : k = r := hk; omega))
  have hsz7 := hg7.size
  have HR7 := Lib.hid hR7
  clear hR7 hg7 HR6
  by_cases hk0 : k = 0
  · subst hk0
    have HOL : Hid (OwnL Lay.int.slice (fun _ k => w4.heap.size ≤ k) 26 w7 w4.heap.size (.slice D s.learned.length d') s.learned) := Lib.hid (HSO.out.lrn.monoQ8 fun k hk => (HSO.out.fl k hk).1)
    have HRB : Hid (r < w4.heap.size ∧ b < w4.heap.size) := Lib.hid ⟨by omega, by omega⟩
    go_wp2
    refine wp_region_rel6 [[], [], [(1, 20)], [], [], [(4, 23)], [(3, 22), (5, 24)], [(6, 25)], [(2, 21), (7, 26)], [(0, 19)], [(8, 27)]]
      (fun _ _ => True)
      []
      (fun v9 f9 x9 => PfI b r (q5 + 1) T w4.heap.size #[.int .i64 y.many, .slice A y.list.length a] D d' s.learned w7 (v9 6) (v9 7) (v9 8) (f9 6) (f9 7) (f9 8) (f9 9) x9)
      [fun vs9 _ => vs9 0 = (.agg #[.int .i64 y.many, .slice A y.list.length a]),
    fun vs9 _ => vs9 1 = (.pointer (some ⟨b6, 2, none⟩)),
    fun vs9 _ => vs9 2 = (.slice D s.learned.length d'),
    fun vs9 _ => vs9 3 = (.pointer (some ⟨r, 0, none⟩)),
    fun vs9 _ => vs9 4 = (.pointer (some ⟨b5, 0, none⟩)),
    fun vs9 _ => vs9 5 = (.int .i64 y.many),
    fun _ _ => True,
    fun _ _ => True,
    fun _ _ => True,
    fun _ _ => True,
    fun vs9 _ => vs9 10 = vs9 8]
      [(0, 19), (1, 20), (2, 21), (3, 22), (4, 23), (5, 24), (6, 25), (7, 26), (8, 27), (10, 3)] (by kernel_rfl) (by kernel_rfl) (by kernel_rfl) (by kernel_rfl)
      (fun _ => trivial) trivial
      ⟨⟨.inr (fun _ _ _ h _ => h), trivial⟩,
    ⟨.inr (fun _ _ _ h _ => h), trivial⟩,
    ⟨.inr (fun _ _ _ h _ => h), trivial⟩,
    ⟨.inr (fun _ _ _ h _ => h), trivial⟩,
    ⟨.inr (fun _ _ _ h _ => h), trivial⟩,
    ⟨.inr (fun _ _ _ h _ => h), trivial⟩,
    ⟨.inr (fun _ _ _ h _ => h), trivial⟩,
    ⟨.inr (fun _ _ _ h _ => h), trivial⟩,
    ⟨.inr (fun _ _ _ h _ => h), trivial⟩,
    ⟨.inr (fun _ _ _ h _ => h), trivial⟩,
    ⟨.inr (fun _ _ _ h _ => h), trivial⟩, trivial⟩ ⟨fun vs vs' x h _ hv => (by dsimp only at hv ⊢; first | (rw [← h]; exact hv) | exact hv),
    fun vs vs' x h _ hv => (by dsimp only at hv ⊢; first | (rw [← h]; exact hv) | exact hv),
    fun vs vs' x h _ hv => (by dsimp only at hv ⊢; first | (rw [← h]; exact hv) | exact hv),
    fun vs vs' x h _ hv => (by dsimp only at hv ⊢; first | (rw [← h]; exact hv) | exact hv),
    fun vs vs' x h _ hv => (by dsimp only at hv ⊢; first | (rw [← h]; exact hv) | exact hv),
    fun vs vs' x h _ hv => (by dsimp only at hv ⊢; first | (rw [← h]; exact hv) | exact hv),
    fun _ _ _ _ _ _ => trivial,
    fun _ _ _ _ _ _ => trivial,
    fun _ _ _ _ _ _ => trivial,
    fun _ _ _ _ _ _ => trivial,
    fun vs vs' x h h8 hv => (by dsimp only at hv ⊢; rw [← h, ← h8 8 (by decide)]; exact hv), trivial⟩ (PfI.start HR7.out HB0.out HOL.out) ⟨?_, ?_, ?_, ?_, ?_, ?_, ?_, ?_, ?_, ?_, ?_, trivial⟩ ?_
    · intro vals xw f hf1 hf2 hf3 hI hF
      clear hf2 hf3
      dsimp only [owes6, bare]
      simp only [putsD, Act.put, List.setIfInBounds_toArray, List.set_cons_zero, List.set_cons_succ]
      have bx9 := hI.2.1.heap (fun e => by
                rcases e with e | e
                · have := (HT.out _).1 e; omega
                · have := (HOL.out.lt _ e).1; omega) HB5.out
      obtain ⟨c0, _⟩ := cell_of_block bx9 0
      obtain ⟨c1, _⟩ := cell_of_block bx9 1
      clear bx9
      go_wp2
      exact ⟨rfl, rfl, trivial, hI⟩
    · intro vals xw f hf1 hf2 hf3 hI hF
      clear hf2 hf3
      dsimp only [owes6, bare]
      simp only [putsD, Act.put, List.setIfInBounds_toArray, List.set_cons_zero, List.set_cons_succ]
      go_wp2
      exact ⟨rfl, rfl, trivial, hI⟩
    · intro vals xw f hf1 hf2 hf3 hI hF
      have k8 : f 8 = false := hf3 8 (by kernel_rfl)
      clear hf2 hf3
      simp only [saysD, List.getD_cons_zero, List.getD_cons_succ, and_true] at hF
      have e20 := hF
      dsimp only [owes6, bare]
      simp only [putsD, Act.put, List.setIfInBounds_toArray, List.set_cons_zero, List.set_cons_succ]
      simp only [e20]
      have bx9 := (hI.1 k8).heap (fun e => by have := (HT.out _).1 e; omega) HB6.out
      obtain ⟨c2, _⟩ := cell_of_block bx9 2
      clear bx9
      go_wp2
      exact ⟨rfl, rfl, trivial, hI⟩
    · intro vals xw f hf1 hf2 hf3 hI hF
      clear hf2 hf3
      dsimp only [owes6, bare]
      simp only [putsD, Act.put, List.setIfInBounds_toArray, List.set_cons_zero, List.set_cons_succ]
      go_wp2
      exact ⟨rfl, rfl, trivial, hI⟩
    · intro vals xw f hf1 hf2 hf3 hI hF
      clear hf2 hf3
      dsimp only [owes6, bare]
      simp only [putsD, Act.put, List.setIfInBounds_toArray, List.set_cons_zero, List.set_cons_succ]
      go_wp2
      exact ⟨rfl, rfl, trivial, hI⟩
    · intro vals xw f hf1 hf2 hf3 hI hF
      clear hf2 hf3
      simp only [saysD, List.getD_cons_zero, List.getD_cons_succ, and_true] at hF
      have e23 := hF
      dsimp only [owes6, bare]
      simp only [putsD, Act.put, List.setIfInBounds_toArray, List.set_cons_zero, List.set_cons_succ]
      simp only [e23]
      have bx9 := hI.2.1.heap (fun e => by
                rcases e with e | e
                · have := (HT.out _).1 e; omega
                · have := (HOL.out.lt _ e).1; omega) HB5.out
      obtain ⟨c0, _⟩ := cell_of_block bx9 0
      clear bx9
      go_wp2
      exact ⟨rfl, rfl, trivial, hI⟩
    · intro vals xw f hf1 hf2 hf3 hI hF
      have k7 : f 7 = false := hf3 7 (by kernel_rfl)
      have k8 : f 8 = false := hf3 8 (by kernel_rfl)
      clear hf2 hf3
      simp only [saysD, List.getD_cons_zero, List.getD_cons_succ, and_true] at hF
      obtain ⟨e22, e24⟩ := hF
      dsimp only [owes6, bare]
      simp only [putsD, Act.put, List.setIfInBounds_toArray, List.set_cons_zero, List.set_cons_succ]
      simp only [e22, e24]
      have HCA := Lib.hid (l5Clause_any r (q5 + 1) y.many xw (hI.2.2.1 hf1) (by omega) (by omega) HMY.out)
      have HI9 := Lib.hid hI
      clear hI
      go_wp2_with fail
      refine HCA.out.mono ?_
      clear HCA
      rintro e wx ⟨B, d, cl, rfl, ho9, ⟨hl9, hok9⟩, hd9⟩
      have HN9 := Lib.hid (HI9.out.call hf1 k7 k8 ((HT.out r).2 (.inl rfl)) (by omega) HRB.out.1 ho9 hl9 hok9 hd9)
      clear ho9 hl9 hok9 hd9
      go_wp2
      exact ⟨rfl, trivial, trivial, HN9.out⟩
    · intro vals xw f hf1 hf2 hf3 hI hF
      have k6 : f 6 = true := hf2 6 (by kernel_rfl)
      have k8 : f 8 = false := hf3 8 (by kernel_rfl)
      clear hf2 hf3
      simp only [saysD, List.getD_cons_zero, List.getD_cons_succ, and_true] at hF
      obtain ⟨B, d, lo6, cl, e25, _⟩ := hI.2.2.2.1 k6 k8
      dsimp only [owes6, bare]
      simp only [putsD, Act.put, List.setIfInBounds_toArray, List.set_cons_zero, List.set_cons_succ]
      simp only [e25]
      have HE9 := Lib.hid e25
      have HI9 := Lib.hid hI
      clear hI
      clear e25
      go_wp2
      exact ⟨rfl, trivial, trivial, HI9.out.list k6 k8 HE9.out⟩
    · intro vals xw f hf1 hf2 hf3 hI hF
      have k6 : f 6 = true := hf2 6 (by kernel_rfl)
      have k7 : f 7 = true := hf2 7 (by kernel_rfl)
      clear hf2 hf3
      simp only [saysD, List.getD_cons_zero, List.getD_cons_succ, and_true] at hF
      have e21 := hF
      obtain ⟨B, d, lo6, cl, e25, ho9, hlo9, hl9, hok9⟩ := hI.2.2.2.1 k6 hf1
      obtain ⟨b7, e26, hb7, _⟩ := hI.2.2.2.2.1 k7 hf1
      have e25 : vals 6 = .slice B cl.length d := e25
      rw [e25] at hb7
      dsimp only [owes6, bare]
      simp only [putsD, Act.put, List.setIfInBounds_toArray, List.set_cons_zero, List.set_cons_succ]
      simp only [e21, e26]
      have HOX := hI.2.2.2.2.2.1 hf1
      have hsz9 := hI.2.1.size
      have HI9 := Lib.hid hI
      clear hI
      obtain ⟨ys, hys⟩ : ∃ ys, ys = s.learned ++ [cl] := ⟨_, rfl⟩
      refine wpList_append_row1 (ys := ys) (by rfl) (.tmp 21) (.tmp 26) (by rfl) (by rfl) (by rfl) HOX hb7 ho9 (by omega) (fun k hk => by have := (HOL.out.lt k hk).2; omega) (by omega) (by omega) hys ?_
      intro D9 d9 z9 hown9 hg9
      exact ⟨rfl, trivial, trivial, HI9.out.app k6 hf1 HRB.out.2 hys hown9 hg9 hl9 hok9⟩
    · intro vals xw f hf1 hf2 hf3 hI hF
      clear hf2 hf3
      simp only [saysD, List.getD_cons_zero, List.getD_cons_succ, and_true] at hF
      have e19 := hF
      have hbx := hI.2.2.2.2.2.2.2.1 hf1
      dsimp only [owes6, bare]
      simp only [putsD, Act.put, List.setIfInBounds_toArray, List.set_cons_zero, List.set_cons_succ]
      simp only [e19]
      obtain ⟨o0, o0'⟩ := cell_of_block hbx 0
      obtain ⟨o1, o1'⟩ := cell_of_block hbx 1
      have HI9 := Lib.hid hI
      clear hI
      clear hbx
      go_wp2
      exact ⟨rfl, trivial, trivial, HI9.out.store hf1 ((HT.out b).2 (.inr rfl)) hrb HRB.out.2 (by omega)⟩
    · intro vals xw f hf1 hf2 hf3 hI hF
      have k8 : f 8 = true := hf2 8 (by kernel_rfl)
      clear hf2 hf3
      simp only [saysD, List.getD_cons_zero, List.getD_cons_succ, and_true] at hF
      obtain ⟨D9, d9, ys, cl, _, e27, _⟩ := hI.2.2.2.2.2.2.1 k8
      dsimp only [owes6, bare]
      simp only [putsD, Act.put, List.setIfInBounds_toArray, List.set_cons_zero, List.set_cons_succ]
      simp only [e27]
      have HE9 := Lib.hid e27
      have HI9 := Lib.hid hI
      clear hI
      clear e27
      go_wp2
      exact ⟨rfl, HE9.out.symm, trivial, HI9.out⟩
    · intro vals xw f hall hI hF
      rw [show List.range _ = [0, 1, 2, 3, 4, 5, 6, 7, 8, 9, 10] from rfl] at hF
      simp only [says, List.getD_cons_zero, List.getD_cons_succ, and_true] at hF
      obtain ⟨_, i2, _, _, _, _, i7, _, i9⟩ := hI
      have hb2 := i9 (hall 9 (by decide))
      obtain ⟨D9, d9, ys, cl, hys, e8, ho9, hl9, hok9⟩ := i7 (hall 8 (by decide))
      have e10 : vals 10 = vals 8 := hF.2.2.2.2.2.2.2.2.2.2
      rw [e8] at e10
      have HX9 : Hid (Lay.int.slice.Rd xw A y.list) := Lib.hid ((HX4.out.keep fun k hk => i2.block k (by have := hk.1; omega) (fun e => by
              rcases e with e | e
              · exact hk.2 e
              · have := (HOL.out.lt _ e).1; have := hk.1; omega)).mono fun k hk => by have := hk.1; have := i2.size; omega)
      have HO9 := Lib.hid ho9
      have HM9 : Hid (ys.length ≤ 304 ∧ ∀ cl ∈ ys, cl.length ≤ 700 ∧ ∀ l ∈ cl, okInt l) := Lib.hid ⟨by rw [hys, List.length_append, List.length_singleton]; omega, fun c9 hc9 => by
              rw [hys] at hc9
              rcases List.mem_append.1 hc9 with h9 | h9
              · exact HOS.out.cls c9 h9
              · rw [List.mem_singleton.1 h9]; exact ⟨by omega, hok9⟩⟩
      have HG9 := Lib.hid ((HGW.out.then i2 (fun k hk => by
              rcases hk with hk | hk
              · rcases (HT.out k).1 hk with e | e
                · exact .inl e
                · right; have := HBE.out; omega
              · right; have := (HOL.out.lt _ hk).1; have := HBE.out; omega)).to_below fun k hk => by have hk : k = r := hk; have := HBE.out; omega)
      clear i2 i7 i9 hall hF ho9 hok9 e8 hys
      have e0 := (cell_of_block hb2 0).1
      have e1 := (cell_of_block hb2 1).1
      simp at e0 e1
      clear hb2
      simp only [putsD, Act.put, List.setIfInBounds_toArray, List.set_cons_zero, List.set_cons_succ]
      simp only [e10]
      go_wp2
      refine bodyPost_ret (v := .tuple #[.agg #[.int .i64 y.many, .slice A y.list.length a], .slice D9 ys.length d9]) (by simp [results, Try.results13, go_sem, e0, e1]) rfl ?_
      exact ⟨y, A, a, D9, d9, ys, rfl, hc3, HO9.out.cap.2, HX9.out, HO9.out.rd, HMY.out, HSM.out, HM9.out.1, HM9.out.2, HG9.out⟩
  have hkb : (k == 0) = false := by simpa using hk0
  clear hk0
  by_cases hl0 : 1 < s.learned.length
  · have hl1 : (s.learned.length : Int) > 1 := by omega
    have n2 := (cell_of_block HB6.out 2).1
    go_wp2_with fail
    clear n2
    refine (pick_any r (q5 + 1) 3 w7 HR7.out (by omega) (by omega) (by omega) (by omega)).mono ?_
    rintro e w8 ⟨k2, rfl, k20, k21, _, hR8, hg8⟩
    have k21 := k21 (by omega)
    have hg8 := Gr.one (S := IsR r) hg8 rfl
    have HB0 := Lib.hid (hg8.heap (by show ¬ _ = r; omega) HB0.out)
    have HB5 := Lib.hid (hg8.heap (by show ¬ _ = r; omega) HB5.out)
    have HB6 := Lib.hid (hg8.heap (by show ¬ _ = r; omega) HB6.out)
    have HX := Lib.hid (HX.out.gr (hg8.mono fun k hk => (HT.out k).2 (.inl hk)))
    have HGW := Lib.hid (HGW.out.trans hg8)
    have HSO := Lib.hid (HSO.out.gr hg8 (fun k hk => by have hk : k = r := hk; omega))
    have hsz8 := hg8.size
    clear hR8 hg8 HR7
    by_cases hk2 : k2 = 0
    · subst hk2
      obtain ⟨ad, e1, _, _⟩ := HSO.out.slS.lrn (by omega)
      subst e1
      have HDR := Lib.hid (Lay.Sl.dropT HSO.out.slS.lrn 1)
      obtain ⟨ys, hys⟩ : ∃ ys, ys = s.learned.drop 1 := ⟨_, rfl⟩
      have HYS := Lib.hid hys
      have HYL : Hid (ys.length = s.learned.length - 1) := Lib.hid (by rw [hys, List.length_drop])
      clear hys
      have HSL : Hid (∀ W : World, (Instr.slice 23 (.slice (some ad) s.learned.length d') (some (.int .i64 1)) none none).run Try.prog W = .ok (.slice (some (ad.add 1)) (s.learned.length - 1) (d' - 1)) W) := Lib.hid fun W => by
        have he : Try.prog.elem 23 = 26 := by kernel_rfl
        have hz : (sizeOf (Try.prog.elem 23)).run Try.prog W = .ok 1 W := by
          obtain ⟨i0, hi0, hz0, hz1, hz2⟩ := info_parts rowi_info
          rw [he]; unfold sizeOf; simp [hi0, hz1]; rfl
        have ht : Try.prog.underlying 23 = some (.slice (Try.prog.elem 23)) := by rw [he]; exact Try.underlying23
        rw [run_slice_l (P := Try.prog) (w := W) 23 (some ad) s.learned.length d' ht .i64 1 (by omega) (by omega), hz]
        show Result.ok (sliced (some ad) 1 s.learned.length d' 1) W = _
        unfold sliced
        rw [if_neg (by omega)]
        rfl
      go_wp2
      refine wp_region_rel6 [[], [], [(1, 38)], [(2, 39)], [(0, 37)], [(3, 40)]]
        (fun _ _ => True)
        []
        (fun v9 f9 x9 => BxI b #[.int .i64 y.many, .slice A y.list.length a] w8 (f9 4) x9)
        [fun vs9 _ => vs9 0 = (.agg #[.int .i64 y.many, .slice A y.list.length a]),
    fun vs9 _ => vs9 1 = (.pointer (some ⟨b6, 2, none⟩)),
    fun vs9 _ => vs9 2 = (.slice (some ad) s.learned.length d'),
    fun vs9 _ => vs9 3 = (.slice (some (ad.add 1)) (s.learned.length - 1) (d' - 1)),
    fun _ _ => True,
    fun vs9 _ => vs9 5 = (.slice (some (ad.add 1)) (s.learned.length - 1) (d' - 1))]
        [(0, 37), (1, 38), (2, 39), (3, 40), (5, 3)] (by kernel_rfl) (by kernel_rfl) (by kernel_rfl) (by kernel_rfl)
        (fun _ => trivial) trivial
        ⟨⟨.inr (fun _ _ _ h _ => h), trivial⟩,
    ⟨.inr (fun _ _ _ h _ => h), trivial⟩,
    ⟨.inr (fun _ _ _ h _ => h), trivial⟩,
    ⟨.inr (fun _ _ _ h _ => h), trivial⟩,
    ⟨.inr (fun _ _ _ h _ => h), trivial⟩,
    ⟨.inr (fun _ _ _ h _ => h), trivial⟩, trivial⟩ ⟨fun vs vs' x h _ hv => (by dsimp only at hv ⊢; first | (rw [← h]; exact hv) | exact hv),
    fun vs vs' x h _ hv => (by dsimp only at hv ⊢; first | (rw [← h]; exact hv) | exact hv),
    fun vs vs' x h _ hv => (by dsimp only at hv ⊢; first | (rw [← h]; exact hv) | exact hv),
    fun vs vs' x h _ hv => (by dsimp only at hv ⊢; first | (rw [← h]; exact hv) | exact hv),
    fun _ _ _ _ _ _ => trivial,
    fun vs vs' x h _ hv => (by dsimp only at hv ⊢; first | (rw [← h]; exact hv) | exact hv), trivial⟩ (BxI.start HB0.out) ⟨?_, ?_, ?_, ?_, ?_, ?_, trivial⟩ ?_
      · intro vals xw f hf1 hf2 hf3 hI hF
        clear hf2 hf3
        dsimp only [owes6, bare]
        simp only [putsD, Act.put, List.setIfInBounds_toArray, List.set_cons_zero, List.set_cons_succ]
        have bx9 := hI.1.heap (by show ¬ _ = b; omega) HB5.out
        obtain ⟨c0, _⟩ := cell_of_block bx9 0
        obtain ⟨c1, _⟩ := cell_of_block bx9 1
        clear bx9
        go_wp2
        exact ⟨rfl, rfl, trivial, hI⟩
      · intro vals xw f hf1 hf2 hf3 hI hF
        clear hf2 hf3
        dsimp only [owes6, bare]
        simp only [putsD, Act.put, List.setIfInBounds_toArray, List.set_cons_zero, List.set_cons_succ]
        go_wp2
        exact ⟨rfl, rfl, trivial, hI⟩
      · intro vals xw f hf1 hf2 hf3 hI hF
        clear hf2 hf3
        simp only [saysD, List.getD_cons_zero, List.getD_cons_succ, and_true] at hF
        have e38 := hF
        dsimp only [owes6, bare]
        simp only [putsD, Act.put, List.setIfInBounds_toArray, List.set_cons_zero, List.set_cons_succ]
        simp only [e38]
        have bx9 := hI.1.heap (by show ¬ _ = b; omega) HB6.out
        obtain ⟨c0, _⟩ := cell_of_block bx9 2
        clear bx9
        go_wp2
        exact ⟨rfl, rfl, trivial, hI⟩
      · intro vals xw f hf1 hf2 hf3 hI hF
        clear hf2 hf3
        simp only [saysD, List.getD_cons_zero, List.getD_cons_succ, and_true] at hF
        have e39 := hF
        dsimp only [owes6, bare]
        simp only [putsD, Act.put, List.setIfInBounds_toArray, List.set_cons_zero, List.set_cons_succ]
        simp only [e39]
        have hs9 := HSL.out
        go_wp2
        exact ⟨rfl, rfl, trivial, hI⟩
      · intro vals xw f hf1 hf2 hf3 hI hF
        clear hf2 hf3
        simp only [saysD, List.getD_cons_zero, List.getD_cons_succ, and_true] at hF
        have e37 := hF
        have hbx := hI.2.1 hf1
        dsimp only [owes6, bare]
        simp only [putsD, Act.put, List.setIfInBounds_toArray, List.set_cons_zero, List.set_cons_succ]
        simp only [e37]
        obtain ⟨o0, o0'⟩ := cell_of_block hbx 0
        obtain ⟨o1, o1'⟩ := cell_of_block hbx 1
        have HI9 := Lib.hid hI
        clear hI
        clear hbx
        go_wp2
        exact ⟨rfl, trivial, trivial, HI9.out.store hf1⟩
      · intro vals xw f hf1 hf2 hf3 hI hF
        clear hf2 hf3
        simp only [saysD, List.getD_cons_zero, List.getD_cons_succ, and_true] at hF
        have e40 := hF
        dsimp only [owes6, bare]
        simp only [putsD, Act.put, List.setIfInBounds_toArray, List.set_cons_zero, List.set_cons_succ]
        simp only [e40]
        go_wp2
        exact ⟨rfl, rfl, trivial, hI⟩
      · intro vals xw f hall hI hF
        rw [show List.range _ = [0, 1, 2, 3, 4, 5] from rfl] at hF
        simp only [says, List.getD_cons_zero, List.getD_cons_succ, and_true] at hF
        obtain ⟨i1, _, i3⟩ := hI
        have hb2 := i3 (hall 4 (by decide))
        have e3 := hF.2.2.2.2.2
        have HX9 : Hid (Lay.int.slice.Rd xw A y.list) := Lib.hid ((HX.out.gr (i1.mono fun k hk => (HT.out k).2 (.inr hk))).ab_rd)
        have HC9 : Hid (Lay.int.slice.Rd xw (some (ad.add 1)) ys) := Lib.hid (by rw [HYS.out]; exact (HDR.out.keep fun k hk => i1.block k hk.2 (fun e => by have e : k = b := e; have := hk.1; omega)).mono fun k hk => Nat.lt_of_lt_of_le hk.2 i1.size)
        have HG9 := Lib.hid ((HGW.out.then i1 (fun k hk => .inr (by have hk : k = b := hk; have := HBE.out; omega))).to_below fun k hk => by have hk : k = r := hk; have := HBE.out; omega)
        clear i1 i3 hall hF
        rw [← HYL.out] at e3
        have e0 := (cell_of_block hb2 0).1
        have e1 := (cell_of_block hb2 1).1
        simp at e0 e1
        clear hb2
        simp only [putsD, Act.put, List.setIfInBounds_toArray, List.set_cons_zero, List.set_cons_succ]
        simp only [e3]
        go_wp2
        refine bodyPost_ret (v := .tuple #[.agg #[.int .i64 y.many, .slice A y.list.length a], .slice (some (ad.add 1)) ys.length (d' - 1)]) (by simp [results, Try.results13, go_sem, e0, e1]) rfl ?_
        exact ⟨y, A, a, some (ad.add 1), d' - 1, ys, rfl, hc3, by rw [HYL.out]; omega, HX9.out, HC9.out, HMY.out, HSM.out, by rw [HYL.out]; omega, fun cl hcl => HOS.out.cls cl (by rw [HYS.out] at hcl; exact List.mem_of_mem_drop hcl), HG9.out⟩
    · have hkb2 : (k2 == 0) = false := by simpa using hk2
      clear hk2
      go_wp2
      refine wp_region_rel6 [[], [], [(1, 42)], [(0, 41)], [(2, 43)]]
        (fun _ _ => True)
        []
        (fun v9 f9 x9 => BxI b #[.int .i64 y.many, .slice A y.list.length a] w8 (f9 3) x9)
        [fun vs9 _ => vs9 0 = (.agg #[.int .i64 y.many, .slice A y.list.length a]),
    fun vs9 _ => vs9 1 = (.pointer (some ⟨b6, 2, none⟩)),
    fun vs9 _ => vs9 2 = (.slice D s.learned.length d'),
    fun _ _ => True,
    fun vs9 _ => vs9 4 = (.slice D s.learned.length d')]
        [(0, 41), (1, 42), (2, 43), (4, 3)] (by kernel_rfl) (by kernel_rfl) (by kernel_rfl) (by kernel_rfl)
        (fun _ => trivial) trivial
        ⟨⟨.inr (fun _ _ _ h _ => h), trivial⟩,
    ⟨.inr (fun _ _ _ h _ => h), trivial⟩,
    ⟨.inr (fun _ _ _ h _ => h), trivial⟩,
    ⟨.inr (fun _ _ _ h _ => h), trivial⟩,
    ⟨.inr (fun _ _ _ h _ => h), trivial⟩, trivial⟩ ⟨fun vs vs' x h _ hv => (by dsimp only at hv ⊢; first | (rw [← h]; exact hv) | exact hv),
    fun vs vs' x h _ hv => (by dsimp only at hv ⊢; first | (rw [← h]; exact hv) | exact hv),
    fun vs vs' x h _ hv => (by dsimp only at hv ⊢; first | (rw [← h]; exact hv) | exact hv),
    fun _ _ _ _ _ _ => trivial,
    fun vs vs' x h _ hv => (by dsimp only at hv ⊢; first | (rw [← h]; exact hv) | exact hv), trivial⟩ (BxI.start HB0.out) ⟨?_, ?_, ?_, ?_, ?_, trivial⟩ ?_
      · intro vals xw f hf1 hf2 hf3 hI hF
        clear hf2 hf3
        dsimp only [owes6, bare]
        simp only [putsD, Act.put, List.setIfInBounds_toArray, List.set_cons_zero, List.set_cons_succ]
        have bx9 := hI.1.heap (by show ¬ _ = b; omega) HB5.out
        obtain ⟨c0, _⟩ := cell_of_block bx9 0
        obtain ⟨c1, _⟩ := cell_of_block bx9 1
        clear bx9
        go_wp2
        exact ⟨rfl, rfl, trivial, hI⟩
      · intro vals xw f hf1 hf2 hf3 hI hF
        clear hf2 hf3
        dsimp only [owes6, bare]
        simp only [putsD, Act.put, List.setIfInBounds_toArray, List.set_cons_zero, List.set_cons_succ]
        go_wp2
        exact ⟨rfl, rfl, trivial, hI⟩
      · intro vals xw f hf1 hf2 hf3 hI hF
        clear hf2 hf3
        simp only [saysD, List.getD_cons_zero, List.getD_cons_succ, and_true] at hF
        have e42 := hF
        dsimp only [owes6, bare]
        simp only [putsD, Act.put, List.setIfInBounds_toArray, List.set_cons_zero, List.set_cons_succ]
        simp only [e42]
        have bx9 := hI.1.heap (by show ¬ _ = b; omega) HB6.out
        obtain ⟨c0, _⟩ := cell_of_block bx9 2
        clear bx9
        go_wp2
        exact ⟨rfl, rfl, trivial, hI⟩
      · intro vals xw f hf1 hf2 hf3 hI hF
        clear hf2 hf3
        simp only [saysD, List.getD_cons_zero, List.getD_cons_succ, and_true] at hF
        have e41 := hF
        have hbx := hI.2.1 hf1
        dsimp only [owes6, bare]
        simp only [putsD, Act.put, List.setIfInBounds_toArray, List.set_cons_zero, List.set_cons_succ]
        simp only [e41]
        obtain ⟨o0, o0'⟩ := cell_of_block hbx 0
        obtain ⟨o1, o1'⟩ := cell_of_block hbx 1
        have HI9 := Lib.hid hI
        clear hI
        clear hbx
        go_wp2
        exact ⟨rfl, trivial, trivial, HI9.out.store hf1⟩
      · intro vals xw f hf1 hf2 hf3 hI hF
        clear hf2 hf3
        simp only [saysD, List.getD_cons_zero, List.getD_cons_succ, and_true] at hF
        have e43 := hF
        dsimp only [owes6, bare]
        simp only [putsD, Act.put, List.setIfInBounds_toArray, List.set_cons_zero, List.set_cons_succ]
        simp only [e43]
        go_wp2
        exact ⟨rfl, rfl, trivial, hI⟩
      · intro vals xw f hall hI hF
        rw [show List.range _ = [0, 1, 2, 3, 4] from rfl] at hF
        simp only [says, List.getD_cons_zero, List.getD_cons_succ, and_true] at hF
        obtain ⟨i1, _, i3⟩ := hI
        have hb2 := i3 (hall 3 (by decide))
        have e3 := hF.2.2.2.2
        have HX9 : Hid (Lay.int.slice.Rd xw A y.list) := Lib.hid ((HX.out.gr (i1.mono fun k hk => (HT.out k).2 (.inr hk))).ab_rd)
        have HC9 : Hid (Lay.int.slice.Rd xw D s.learned) := Lib.hid ((HSO.out.slS.lrn.keep fun k hk => i1.block k hk.2 (fun e => by have e : k = b := e; have := hk.1; omega)).mono fun k hk => Nat.lt_of_lt_of_le hk.2 i1.size)
        have HG9 := Lib.hid ((HGW.out.then i1 (fun k hk => .inr (by have hk : k = b := hk; have := HBE.out; omega))).to_below fun k hk => by have hk : k = r := hk; have := HBE.out; omega)
        clear i1 i3 hall hF
        have e0 := (cell_of_block hb2 0).1
        have e1 := (cell_of_block hb2 1).1
        simp at e0 e1
        clear hb2
        simp only [putsD, Act.put, List.setIfInBounds_toArray, List.set_cons_zero, List.set_cons_succ]
        simp only [e3]
        go_wp2
        refine bodyPost_ret (v := .tuple #[.agg #[.int .i64 y.many, .slice A y.list.length a], .slice D s.learned.length d']) (by simp [results, Try.results13, go_sem, e0, e1]) rfl ?_
        exact ⟨y, A, a, D, d', s.learned, rfl, hc3, hcap, HX9.out, HC9.out, HMY.out, HSM.out, by omega, HOS.out.cls, HG9.out⟩
  · have hl1 : ¬ (s.learned.length : Int) > 1 := by omega
    have hl2 : decide ((s.learned.length : Int) > 1) = false := decide_eq_false hl1
    have n2 := (cell_of_block HB6.out 2).1
    go_wp2
    clear n2
    refine wp_region_rel6 [[], [], [(1, 42)], [(0, 41)], [(2, 43)]]
      (fun _ _ => True)
      []
      (fun v9 f9 x9 => BxI b #[.int .i64 y.many, .slice A y.list.length a] w7 (f9 3) x9)
      [fun vs9 _ => vs9 0 = (.agg #[.int .i64 y.many, .slice A y.list.length a]),
    fun vs9 _ => vs9 1 = (.pointer (some ⟨b6, 2, none⟩)),
    fun vs9 _ => vs9 2 = (.slice D s.learned.length d'),
    fun _ _ => True,
    fun vs9 _ => vs9 4 = (.slice D s.learned.length d')]
      [(0, 41), (1, 42), (2, 43), (4, 3)] (by kernel_rfl) (by kernel_rfl) (by kernel_rfl) (by kernel_rfl)
      (fun _ => trivial) trivial
      ⟨⟨.inr (fun _ _ _ h _ => h), trivial⟩,
    ⟨.inr (fun _ _ _ h _ => h), trivial⟩,
    ⟨.inr (fun _ _ _ h _ => h), trivial⟩,
    ⟨.inr (fun _ _ _ h _ => h), trivial⟩,
    ⟨.inr (fun _ _ _ h _ => h), trivial⟩, trivial⟩ ⟨fun vs vs' x h _ hv => (by dsimp only at hv ⊢; first | (rw [← h]; exact hv) | exact hv),
    fun vs vs' x h _ hv => (by dsimp only at hv ⊢; first | (rw [← h]; exact hv) | exact hv),
    fun vs vs' x h _ hv => (by dsimp only at hv ⊢; first | (rw [← h]; exact hv) | exact hv),
    fun _ _ _ _ _ _ => trivial,
    fun vs vs' x h _ hv => (by dsimp only at hv ⊢; first | (rw [← h]; exact hv) | exact hv), trivial⟩ (BxI.start HB0.out) ⟨?_, ?_, ?_, ?_, ?_, trivial⟩ ?_
    · intro vals xw f hf1 hf2 hf3 hI hF
      clear hf2 hf3
      dsimp only [owes6, bare]
      simp only [putsD, Act.put, List.setIfInBounds_toArray, List.set_cons_zero, List.set_cons_succ]
      have bx9 := hI.1.heap (by show ¬ _ = b; omega) HB5.out
      obtain ⟨c0, _⟩ := cell_of_block bx9 0
      obtain ⟨c1, _⟩ := cell_of_block bx9 1
      clear bx9
      go_wp2
      exact ⟨rfl, rfl, trivial, hI⟩
    · intro vals xw f hf1 hf2 hf3 hI hF
      clear hf2 hf3
      dsimp only [owes6, bare]
      simp only [putsD, Act.put, List.setIfInBounds_toArray, List.set_cons_zero, List.set_cons_succ]
      go_wp2
      exact ⟨rfl, rfl, trivial, hI⟩
    · intro vals xw f hf1 hf2 hf3 hI hF
      clear hf2 hf3
      simp only [saysD, List.getD_cons_zero, List.getD_cons_succ, and_true] at hF
      have e42 := hF
      dsimp only [owes6, bare]
      simp only [putsD, Act.put, List.setIfInBounds_toArray, List.set_cons_zero, List.set_cons_succ]
      simp only [e42]
      have bx9 := hI.1.heap (by show ¬ _ = b; omega) HB6.out
      obtain ⟨c0, _⟩ := cell_of_block bx9 2
      clear bx9
      go_wp2
      exact ⟨rfl, rfl, trivial, hI⟩
    · intro vals xw f hf1 hf2 hf3 hI hF
      clear hf2 hf3
      simp only [saysD, List.getD_cons_zero, List.getD_cons_succ, and_true] at hF
      have e41 := hF
      have hbx := hI.2.1 hf1
      dsimp only [owes6, bare]
      simp only [putsD, Act.put, List.setIfInBounds_toArray, List.set_cons_zero, List.set_cons_succ]
      simp only [e41]
      obtain ⟨o0, o0'⟩ := cell_of_block hbx 0
      obtain ⟨o1, o1'⟩ := cell_of_block hbx 1
      have HI9 := Lib.hid hI
      clear hI
      clear hbx
      go_wp2
      exact ⟨rfl, trivial, trivial, HI9.out.store hf1⟩
    · intro vals xw f hf1 hf2 hf3 hI hF
      clear hf2 hf3
      simp only [saysD, List.getD_cons_zero, List.getD_cons_succ, and_true] at hF
      have e43 := hF
      dsimp only [owes6, bare]
      simp only [putsD, Act.put, List.setIfInBounds_toArray, List.set_cons_zero, List.set_cons_succ]
      simp only [e43]
      go_wp2
      exact ⟨rfl, rfl, trivial, hI⟩
    · intro vals xw f hall hI hF
      rw [show List.range _ = [0, 1, 2, 3, 4] from rfl] at hF
      simp only [says, List.getD_cons_zero, List.getD_cons_succ, and_true] at hF
      obtain ⟨i1, _, i3⟩ := hI
      have hb2 := i3 (hall 3 (by decide))
      have e3 := hF.2.2.2.2
      have HX9 : Hid (Lay.int.slice.Rd xw A y.list) := Lib.hid ((HX.out.gr (i1.mono fun k hk => (HT.out k).2 (.inr hk))).ab_rd)
      have HC9 : Hid (Lay.int.slice.Rd xw D s.learned) := Lib.hid ((HSO.out.slS.lrn.keep fun k hk => i1.block k hk.2 (fun e => by have e : k = b := e; have := hk.1; omega)).mono fun k hk => Nat.lt_of_lt_of_le hk.2 i1.size)
      have HG9 := Lib.hid ((HGW.out.then i1 (fun k hk => .inr (by have hk : k = b := hk; have := HBE.out; omega))).to_below fun k hk => by have hk : k = r := hk; have := HBE.out; omega)
      clear i1 i3 hall hF
      have e0 := (cell_of_block hb2 0).1
      have e1 := (cell_of_block hb2 1).1
      simp at e0 e1
      clear hb2
      simp only [putsD, Act.put, List.setIfInBounds_toArray, List.set_cons_zero, List.set_cons_succ]
      simp only [e3]
      go_wp2
      refine bodyPost_ret (v := .tuple #[.agg #[.int .i64 y.many, .slice A y.list.length a], .slice D s.learned.length d']) (by simp [results, Try.results13, go_sem, e0, e1]) rfl ?_
      exact ⟨y, A, a, D, d', s.learned, rfl, hc3, hcap, HX9.out, HC9.out, HMY.out, HSM.out, by omega, HOS.out.cls, HG9.out⟩
end Go.Proofs.Ytbljfhmcebgdaaa
