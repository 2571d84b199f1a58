/- The reference's draws of searches: l5Some. -/
import Derived.Test.YtbljfhmcebgdaaaJFnSatBent18
/-! The reference's draws of searches: l5Some. -/
namespace Go.Proofs.Ytbljfhmcebgdaaa
open Go Go.RowKit

/-- A search can be read, in the blocks F. -/
structure SlS (F : Nat → Prop) (w : World) (s : S) (P Q D : Option Addr) (p' q' d' : Nat) : Prop where
  put : Lay.int.Sl w F P s.put
  why : Lay.int.Sl w F Q s.why
  lrn : Lay.int.slice.Sl w F D s.learned
  capP : s.put.length ≤ p'
  capQ : s.why.length ≤ q'
  capD : s.learned.length ≤ d'
abbrev RdS (w : World) := SlS (fun k => k < w.heap.size) w
theorem SlS.mono {F G : Nat → Prop} {w : World} {s : S} {P Q D : Option Addr} {p' q' d' : Nat} (h : SlS F w s P Q D p' q' d') (hF : ∀ k, F k → G k) : SlS G w s P Q D p' q' d' := ⟨h.put.mono hF, h.why.mono hF, h.lrn.mono hF, h.capP, h.capQ, h.capD⟩
theorem SlS.keep {F : Nat → Prop} {w w' : World} {s : S} {P Q D : Option Addr} {p' q' d' : Nat} (h : SlS F w s P Q D p' q' d') (hF : ∀ k, F k → w'.heap[k]? = w.heap[k]?) : SlS F w' s P Q D p' q' d' := ⟨h.put.keep hF, h.why.keep hF, h.lrn.keep hF, h.capP, h.capQ, h.capD⟩
theorem SlS.up {w w' : World} {s : S} {P Q D : Option Addr} {p' q' d' : Nat} (h : RdS w s P Q D p' q' d') (hb : Below w.heap.size w w') : RdS w' s P Q D p' q' d' := ⟨h.put.up hb, h.why.up hb, h.lrn.up hb, h.capP, h.capQ, h.capD⟩
theorem SlS.gr {S0 : Nat → Prop} {w w' : World} {s : S} {P Q D : Option Addr} {p' q' d' : Nat} (h : SlS (Ab S0 w) w s P Q D p' q' d') (hg : Gr S0 w w') : SlS (Ab S0 w') w' s P Q D p' q' d' := ⟨h.put.gr hg, h.why.gr hg, h.lrn.gr hg, h.capP, h.capQ, h.capD⟩
theorem StR.slS {lo g : Nat} {FL : Nat → Prop} {s : S} {P Q D : Option Addr} {p q d : Nat} {x : World} (h : StR lo g FL s P Q D p q d x) : SlS (fun k => lo ≤ k ∧ k < x.heap.size) x s P Q D p q d := by
  obtain ⟨_, _, e1, _, h1⟩ := h.put.form
  obtain ⟨_, _, e2, _, h2⟩ := h.why.form
  injection e1 with e1
  injection e2 with e2
  subst e1 e2
  exact ⟨h1, h2, h.lrn.sl.mono fun k hk => ⟨hk.2.elim (fun h9 => h9.1) (fun h9 => (h.fl k h9).1), hk.1⟩, h.put.cap, h.why.cap, h.lrn.cap.2⟩
/-- What a draw of clauses and a search gives. -/
def RetSm (S0 : Nat → Prop) (r : Nat) (p N : Int) (w : World) (e : Ending) (w' : World) : Prop :=
  ∃ (y : C) (A : Option Addr) (a : Nat) (s : S) (P Q D : Option Addr) (p' q' d' : Nat), e = .returned (.tuple #[.agg #[.int .i64 y.many, .slice A y.list.length a], .agg #[.slice P s.put.length p', .slice Q s.why.length q', .slice D s.learned.length d', .int .i64 s.code]]) ∧ y.list.length ≤ a ∧ Lay.int.slice.Sl w' (Ab S0 w') A y.list ∧ okInt y.many ∧ smallL 31 y.list ∧ okS 3 s ∧ SlS (Ab S0 w') w' s P Q D p' q' d' ∧ Drawn r p N w w'
/-- call 3, the boxes' stores 4 and 5. -/
def SmI (b2 b3 r : Nat) (q : Int) (T : Nat → Prop) (c0 : Array Value) (w : World) (v3 : Value) (f3 f4 f5 : Bool) (x : World) : Prop :=
  Gr T w x ∧ (f3 = false → Rdr x r q) ∧ (f3 = true → ∃ q', q ≤ q' ∧ q' ≤ q + 10 ∧ Rdr x r q') ∧
  (f4 = false → x.heap[b2]? = some (.cells #[.int .i64 0, .slice none 0 0] 25 (0, 0))) ∧ (f4 = true → x.heap[b2]? = some (.cells c0 25 (0, 0))) ∧
  (f3 = true → ∃ (s : S) (P Q D : Option Addr) (p' q' d' g lo : Nat) (FL : Nat → Prop), v3 = .agg #[.slice P s.put.length p', .slice Q s.why.length q', .slice D s.learned.length d', .int .i64 s.code] ∧ okS 3 s ∧ StR lo g FL s P Q D p' q' d' x ∧ w.heap.size ≤ lo) ∧
  (f5 = false → x.heap[b3]? = some (.cells #[.slice none 0 0, .slice none 0 0, .slice none 0 0, .int .i64 0] 35 (0, 0))) ∧ (f5 = true → ∃ cs, v3 = .agg cs ∧ x.heap[b3]? = some (.cells cs 35 (0, 0)))
section
variable {b2 b3 r : Nat} {q : Int} {T : Nat → Prop} {c0 : Array Value} {w x z : World} {v3 : Value} {f3 f4 f5 : Bool}
theorem SmI.start (hR : Rdr w r q) (h2 : w.heap[b2]? = some (.cells #[.int .i64 0, .slice none 0 0] 25 (0, 0))) (h3 : w.heap[b3]? = some (.cells #[.slice none 0 0, .slice none 0 0, .slice none 0 0, .int .i64 0] 35 (0, 0))) : SmI b2 b3 r q T c0 w v3 false false false (w.drewN 1) :=
  ⟨Gr.below (below_drewN (Below.refl _ _) 1), fun _ => hR.up (below_drewN (Below.refl _ _) 1), fun e => absurd e (by simp), fun _ => h2, fun e => absurd e (by simp), fun e => absurd e (by simp), fun _ => h3, fun e => absurd e (by simp)⟩
theorem SmI.call {s : S} {P Q D : Option Addr} {p' q' d' g : Nat} {FL : Nat → Prop} (h : SmI b2 b3 r q T c0 w v3 f3 f4 f5 x) (h3 : f3 = false) (h5 : f5 = false) (hrb : r ≠ b2 ∧ r ≠ b3) (hT : T r) (hs : okS 3 s) (hso : StR x.heap.size g FL s P Q D p' q' d' z) (hd : Drawn r q 10 x z) :
    SmI b2 b3 r q T c0 w (.agg #[.slice P s.put.length p', .slice Q s.why.length q', .slice D s.learned.length d', .int .i64 s.code]) true f4 f5 z := by
  subst h3 h5
  obtain ⟨h1, h2, h3, h4, h5, h6, h7, h8⟩ := h
  obtain ⟨q2, k1, k2, k3, hg⟩ := hd
  exact ⟨h1.trans (hg.mono fun k hk => by rw [show k = r from hk]; exact hT), fun e => absurd e (by simp), fun _ => ⟨q2, k1, k2, k3⟩, fun e => hg.heap (fun e => hrb.1 e.symm) (h4 e), fun e => hg.heap (fun e => hrb.1 e.symm) (h5 e), fun _ => ⟨s, P, Q, D, p', q', d', g, _, FL, rfl, hs, hso, h1.size⟩, fun _ => hg.heap (fun e => hrb.2 e.symm) (h7 rfl), fun e => absurd e (by simp)⟩
theorem SmI.st2 {u0 u1 : Value} (h : SmI b2 b3 r q T #[u0, u1] w v3 f3 f4 f5 x) (h4 : f4 = false) (hne : b2 ≠ b3) (hr : r < b2) (hT : T b2) (hw : b2 < w.heap.size) : SmI b2 b3 r q T #[u0, u1] w v3 f3 true f5 ((x.setCell ⟨b2, 0, none⟩ u0).setCell ⟨b2, 1, none⟩ u1) := by
  subst h4
  obtain ⟨h1, h2, h3, h4, h5, h6, h7, h8⟩ := h
  have hg : Gr (fun k => k = b2) x ((x.setCell ⟨b2, 0, none⟩ u0).setCell ⟨b2, 1, none⟩ u1) := Gr.set (Gr.set (Gr.refl (fun k => k = b2) x) b2 0 _ (.inl rfl)) b2 1 _ (.inl rfl)
  have hb := heap_set_same _ b2 1 u1 _ _ (heap_set_same _ b2 0 u0 _ _ (h4 rfl))
  exact ⟨h1.trans (hg.mono fun k hk => by rw [show k = b2 from hk]; exact hT), fun e => (h2 e).gr hg (fun k hk => by have hk : k = b2 := hk; omega), fun e => (h3 e).imp fun _ ⟨k1, k2, k3⟩ => ⟨k1, k2, k3.gr hg (fun k hk => by have hk : k = b2 := hk; omega)⟩, fun e => absurd e (by simp), fun _ => hb, fun e => by
    obtain ⟨s, P, Q, D, p', q', d', g, lo, FL, m1, m2, m3, m4⟩ := h6 e
    exact ⟨s, P, Q, D, p', q', d', g, lo, FL, m1, m2, m3.gr hg (fun k hk => by have hk : k = b2 := hk; omega), m4⟩, fun e => hg.heap (fun e => hne e.symm) (h7 e), fun e => (h8 e).imp fun _ ⟨m1, m2⟩ => ⟨m1, hg.heap (fun e => hne e.symm) m2⟩⟩
theorem SmI.st3 {u0 u1 u2 u3 : Value} (h : SmI b2 b3 r q T c0 w v3 f3 f4 f5 x) (h5 : f5 = false) (e3 : v3 = .agg #[u0, u1, u2, u3]) (hne : b2 ≠ b3) (hr : r < b3) (hT : T b3) (hw : b3 < w.heap.size) : SmI b2 b3 r q T c0 w v3 f3 f4 true ((((x.setCell ⟨b3, 0, none⟩ u0).setCell ⟨b3, 1, none⟩ u1).setCell ⟨b3, 2, none⟩ u2).setCell ⟨b3, 3, none⟩ u3) := by
  subst h5
  obtain ⟨h1, h2, h3, h4, h5, h6, h7, h8⟩ := h
  obtain ⟨hb, hg⟩ := cp_store (u0 := u0) (u1 := u1) (u2 := u2) (u3 := u3) (h7 rfl)
  exact ⟨h1.trans (hg.mono fun k hk => by rw [show k = b3 from hk]; exact hT), fun e => (h2 e).gr hg (fun k hk => by have hk : k = b3 := hk; omega), fun e => (h3 e).imp fun _ ⟨k1, k2, k3⟩ => ⟨k1, k2, k3.gr hg (fun k hk => by have hk : k = b3 := hk; omega)⟩, fun e => hg.heap (fun e => hne e) (h4 e), fun e => hg.heap (fun e => hne e) (h5 e), fun e => by
    obtain ⟨s, P, Q, D, p', q', d', g, lo, FL, m1, m2, m3, m4⟩ := h6 e
    exact ⟨s, P, Q, D, p', q', d', g, lo, FL, m1, m2, m3.gr hg (fun k hk => by have hk : k = b3 := hk; omega), m4⟩, fun e => absurd e (by simp), fun _ => ⟨_, e3, hb⟩⟩
end
set_option maxRecDepth 100000 in
set_option maxHeartbeats 16000000 in
theorem l5Some_any (S0 : Nat → Prop) (r : Nat) (p : Int) (w : World) (h : Rdr w r p) (hS0 : ∀ k, S0 k → k < w.heap.size) (hSr : S0 r) (p0 : 0 ≤ p) (p1 : p ≤ 600000000) :
    Calls Try.prog 50 #[.pointer (some ⟨r, 0, none⟩)] w (RetSm S0 r p 1100 w) := by
  have hrl := h.lt
  obtain ⟨hw, hB0, hB1, hWS⟩ := two_boxes w (.cells #[.int .i64 0, .slice none 0 0] 25) (.cells #[.slice none 0 0, .slice none 0 0, .slice none 0 0, .int .i64 0] 35)
  obtain ⟨W, hW⟩ : ∃ W, W = (w.alloc (.cells #[.int .i64 0, .slice none 0 0] 25)).alloc (.cells #[.slice none 0 0, .slice none 0 0, .slice none 0 0, .int .i64 0] 35) := ⟨_, rfl⟩
  rw [← hW] at hw hB0 hB1 hWS
  have HR := Lib.hid (h.up hw)
  have HB0 := Lib.hid hB0
  have HB1 := Lib.hid hB1
  have HBW := Lib.hid hw
  have HW := Lib.hid hW
  clear h hw hB0 hB1 hW
  go_enter Try.func50, Try.ntmps50
  go_wp2_with fail
  rw [← HW.out]
  obtain ⟨b, hbe⟩ : ∃ b, b = w.heap.size := ⟨_, rfl⟩
  rw [← hbe] at HB0 HB1 hrl hWS ⊢
  have HBE := Lib.hid hbe
  clear hbe HW
  obtain ⟨T, hT⟩ : ∃ T : Nat → Prop, ∀ k, T k ↔ k = r ∨ k = b ∨ k = b + 1 := ⟨fun k => k = r ∨ k = b ∨ k = b + 1, fun _ => Iff.rfl⟩
  have HT := Lib.hid hT
  obtain ⟨T0, hT0⟩ : ∃ T0 : Nat → Prop, ∀ k, T0 k ↔ S0 k ∨ k = b ∨ k = b + 1 := ⟨fun k => S0 k ∨ k = b ∨ k = b + 1, fun _ => Iff.rfl⟩
  have HTL : Hid (∀ k, T0 k → k < W.heap.size) := Lib.hid fun k hk => by
    rcases (hT0 k).1 hk with e | e
    · have := hS0 k e; have := HBE.out; omega
    · omega
  have HT0 : Hid (T0 r ∧ (∀ k, T k → T0 k) ∧ (∀ k, S0 k → T0 k)) := Lib.hid ⟨(hT0 r).2 (.inl hSr), fun k hk => (hT0 k).2 (by
    rcases (hT k).1 hk with e | e
    · rw [e]; exact .inl hSr
    · exact .inr e), fun k hk => (hT0 k).2 (.inl hk)⟩
  have HS0 := Lib.hid hS0
  clear hT hT0 hS0
  refine (l4Cnf_any T0 r p W HR.out HTL.out HT0.out.1 (by omega) (by omega)).mono ?_
  rintro e w2 ⟨x, A2, c2, rfl, hc2, hs2, ⟨hm0, hm1, hsm2⟩, q2, q20, q21, hR2, hg2⟩
  have HB0 := Lib.hid (hg2.heap (by show ¬ _ = r; omega) HB0.out)
  have HB1 := Lib.hid (hg2.heap (by show ¬ _ = r; omega) HB1.out)
  have HG2 := Lib.hid ((Gr.below (S := IsR r) HBW.out).trans hg2)
  have hsz2 := hg2.size
  have hal : Below w2.heap.size w2 (w2.alloc (.cells #[.int .i64 x.many, .slice A2 x.list.length c2] 25)) := (Below.refl _ _).alloc (Nat.le_refl _) _
  have hb4 : (w2.alloc (.cells #[.int .i64 x.many, .slice A2 x.list.length c2] 25)).heap[w2.heap.size]? = some (.cells #[.int .i64 x.many, .slice A2 x.list.length c2] 25 (0, 0)) := heap_alloc_new _ _
  have HB4 := Lib.hid hb4
  have HB0 := Lib.hid ((hal.block _ (lt_of_block HB0.out)).trans HB0.out)
  have HB1 := Lib.hid ((hal.block _ (lt_of_block HB1.out)).trans HB1.out)
  have HG3 := Lib.hid (HG2.out.up hal)
  have HR3 := Lib.hid (hR2.up hal)
  have HX0 := Lib.hid (hs2.gr (.below hal))
  obtain ⟨T4, hT4⟩ : ∃ T4 : Nat → Prop, ∀ k, T4 k ↔ T0 k ∨ k = w2.heap.size := ⟨fun k => T0 k ∨ k = w2.heap.size, fun _ => Iff.rfl⟩
  have HT4 := Lib.hid hT4
  have HX : Hid (Lay.int.slice.Sl (w2.alloc (.cells #[.int .i64 x.many, .slice A2 x.list.length c2] 25)) (Ab T4 (w2.alloc (.cells #[.int .i64 x.many, .slice A2 x.list.length c2] 25))) A2 x.list) := Lib.hid ((hs2.keep fun k hk => hal.block k hk.1).mono fun k hk => ⟨Nat.lt_of_lt_of_le hk.1 hal.size, fun e => by
    rcases (hT4 k).1 e with e | e
    · exact hk.2 e
    · have := hk.1; omega⟩)
  clear hT4 HX0
  have hsz3 := hal.size
  have HSM := Lib.hid hsm2
  have hb4l := lt_of_block hb4
  clear hg2 hR2 hs2 hal hb4 HR HBW hsm2 HG2
  go_wp2_with fail
  generalize w2.alloc (.cells #[.int .i64 x.many, .slice A2 x.list.length c2] 25) = w3 at *
  generalize hb4e : w2.heap.size = b4 at *
  have hb4b : b + 1 < b4 := by omega
  clear hb4e
  refine (pick_any r q2 12 w3 HR3.out (by omega) (by omega) (by omega) (by omega)).mono ?_
  rintro e w4 ⟨k, rfl, k0, k1, _, hR4, hg4⟩
  have hg4 := Gr.one (S := IsR r) hg4 rfl
  have HB0 := Lib.hid (hg4.heap (by show ¬ _ = r; omega) HB0.out)
  have HB1 := Lib.hid (hg4.heap (by show ¬ _ = r; omega) HB1.out)
  have HB4 := Lib.hid (hg4.heap (by show ¬ _ = r; omega) HB4.out)
  have HG4 := Lib.hid (HG3.out.trans hg4)
  have HR4 := Lib.hid hR4
  have HX := Lib.hid (HX.out.gr (hg4.mono fun k hk => (HT4.out k).2 (.inl (HT0.out.2.1 k ((HT.out k).2 (.inl hk))))))
  have hsz4 := hg4.size
  clear hR4 hg4 k1 HG3 HR3
  by_cases hk0 : k = 0
  · subst hk0
    obtain ⟨m0, m0'⟩ := cell_of_block HB4.out 0
    obtain ⟨m1, m1'⟩ := cell_of_block HB4.out 1
    go_wp2_with fail
    clear m0 m0' m1 m1'
    refine (l4Bent_any T4 r 30 (q2 + 1) x A2 c2 w4 HR4.out HX.out (fun k hk => by
      rcases (HT4.out k).1 hk with e | e
      · have := HTL.out k e; omega
      · omega) ((HT4.out r).2 (.inl HT0.out.1)) hc2 HSM.out (by omega) (by omega) (by omega) (by omega) (by omega)).mono ?_
    rintro e w5 ⟨y, A, a, rfl, hc5, hs5, ⟨hmy, hsm5⟩, q5, q50, q51, hR5, hg5⟩
    have HB0 := Lib.hid (hg5.heap (by show ¬ _ = r; omega) HB0.out)
    have HB1 := Lib.hid (hg5.heap (by show ¬ _ = r; omega) HB1.out)
    have hb4 := hg5.heap (by show ¬ _ = r; omega) HB4.out
    obtain ⟨m0, m0'⟩ := cell_of_block hb4 0
    obtain ⟨m1, m1'⟩ := cell_of_block hb4 1
    have hg6 : Gr (fun k => k = b4) w5 ((w5.setCell ⟨b4, 0, none⟩ (.int .i64 y.many)).setCell ⟨b4, 1, none⟩ (.slice A y.list.length a)) := Gr.set (Gr.set (Gr.refl (fun k => k = b4) w5) b4 0 _ (.inl rfl)) b4 1 _ (.inl rfl)
    have hb6 := heap_set_same _ b4 1 (.slice A y.list.length a) _ _ (heap_set_same _ b4 0 (.int .i64 y.many) _ _ hb4)
    have HB4 : Hid (((w5.setCell ⟨b4, 0, none⟩ (.int .i64 y.many)).setCell ⟨b4, 1, none⟩ (.slice A y.list.length a)).heap[b4]? = some (.cells #[.int .i64 y.many, .slice A y.list.length a] 25 (0, 0))) := Lib.hid (by simpa using hb6)
    have HB0 := Lib.hid (hg6.heap (by show ¬ _ = b4; omega) HB0.out)
    have HB1 := Lib.hid (hg6.heap (by show ¬ _ = b4; omega) HB1.out)
    have HR5 := Lib.hid (hR5.gr hg6 (fun k hk => by have hk : k = b4 := hk; omega))
    have HX : Hid (Lay.int.slice.Sl ((w5.setCell ⟨b4, 0, none⟩ (.int .i64 y.many)).setCell ⟨b4, 1, none⟩ (.slice A y.list.length a)) (Ab T0 ((w5.setCell ⟨b4, 0, none⟩ (.int .i64 y.many)).setCell ⟨b4, 1, none⟩ (.slice A y.list.length a))) A y.list) := Lib.hid ((hs5.keep fun k hk => hg6.block k hk.1 (fun e => hk.2 ((HT4.out k).2 (.inr (by have e : k = b4 := e; rw [e]))))).mono fun k hk => ⟨Nat.lt_of_lt_of_le hk.1 hg6.size, fun e => hk.2 ((HT4.out k).2 (.inl e))⟩)
    have HG5 := Lib.hid ((HG4.out.trans hg5).then hg6 (fun k hk => .inr (by have hk : k = b4 := hk; have := HBE.out; omega)))
    have HMY := Lib.hid hmy
    have HSM := Lib.hid hsm5
    have hq5 : q2 + 1 ≤ q5 ∧ q5 ≤ q2 + 1 + 10 := ⟨q50, q51⟩
    have hsz6 := hg6.size
    have hsz5 := hg5.size
    clear hg5 hb4 hb6 hR5 hs5 hmy hsm5 HR4 HG4 q50 q51
    go_wp2
    generalize (w5.setCell ⟨b4, 0, none⟩ (.int .i64 y.many)).setCell ⟨b4, 1, none⟩ (.slice A y.list.length a) = w6 at *
    refine wp_region_rel6 [[], [], [], [(1, 14), (2, 15)], [(0, 13)], [(3, 16)]]
      (fun _ _ => True)
      []
      (fun v9 f9 x9 => SmI b (b + 1) r (q5) T #[.int .i64 y.many, .slice A y.list.length a] w6 (v9 3) (f9 3) (f9 4) (f9 5) x9)
      [fun vs9 _ => vs9 0 = (.agg #[.int .i64 y.many, .slice A y.list.length a]),
    fun vs9 _ => vs9 1 = (.pointer (some ⟨r, 0, none⟩)),
    fun vs9 _ => vs9 2 = (.agg #[.int .i64 y.many, .slice A y.list.length a]),
    fun _ _ => True,
    fun _ _ => True,
    fun _ _ => True]
      [(0, 13), (1, 14), (2, 15), (3, 16)] (by kernel_rfl) (by kernel_rfl) (by kernel_rfl) (by kernel_rfl)
      (fun _ => trivial) trivial
      ⟨⟨.inr (fun _ _ _ h _ => h), trivial⟩,
    ⟨.inr (fun _ _ _ h _ => h), trivial⟩,
    ⟨.inr (fun _ _ _ h _ => h), trivial⟩,
    ⟨.inr (fun _ _ _ h _ => h), trivial⟩,
    ⟨.inr (fun _ _ _ h _ => h), trivial⟩,
    ⟨.inr (fun _ _ _ h _ => h), trivial⟩, trivial⟩ ⟨fun vs vs' x h _ hv => (by dsimp only at hv ⊢; first | (rw [← h]; exact hv) | exact hv),
    fun vs vs' x h _ hv => (by dsimp only at hv ⊢; first | (rw [← h]; exact hv) | exact hv),
    fun vs vs' x h _ hv => (by dsimp only at hv ⊢; first | (rw [← h]; exact hv) | exact hv),
    fun _ _ _ _ _ _ => trivial,
    fun _ _ _ _ _ _ => trivial,
    fun _ _ _ _ _ _ => trivial, trivial⟩ (SmI.start HR5.out HB0.out HB1.out) ⟨?_, ?_, ?_, ?_, ?_, ?_, trivial⟩ ?_
    · intro vals xw f hf1 hf2 hf3 hI hF
      clear hf2 hf3
      dsimp only [owes6, bare]
      simp only [putsD, Act.put, List.setIfInBounds_toArray, List.set_cons_zero, List.set_cons_succ]
      have bx9 := hI.1.heap (fun e => by have := (HT.out _).1 e; omega) HB4.out
      obtain ⟨c0, _⟩ := cell_of_block bx9 0
      obtain ⟨c1, _⟩ := cell_of_block bx9 1
      clear bx9
      go_wp2
      exact ⟨rfl, rfl, trivial, hI⟩
    · intro vals xw f hf1 hf2 hf3 hI hF
      clear hf2 hf3
      dsimp only [owes6, bare]
      simp only [putsD, Act.put, List.setIfInBounds_toArray, List.set_cons_zero, List.set_cons_succ]
      go_wp2
      exact ⟨rfl, rfl, trivial, hI⟩
    · intro vals xw f hf1 hf2 hf3 hI hF
      clear hf2 hf3
      dsimp only [owes6, bare]
      simp only [putsD, Act.put, List.setIfInBounds_toArray, List.set_cons_zero, List.set_cons_succ]
      have bx9 := hI.1.heap (fun e => by have := (HT.out _).1 e; omega) HB4.out
      obtain ⟨c0, _⟩ := cell_of_block bx9 0
      obtain ⟨c1, _⟩ := cell_of_block bx9 1
      clear bx9
      go_wp2
      exact ⟨rfl, rfl, trivial, hI⟩
    · intro vals xw f hf1 hf2 hf3 hI hF
      have k5 : f 5 = false := hf3 5 (by kernel_rfl)
      clear hf2 hf3
      simp only [saysD, List.getD_cons_zero, List.getD_cons_succ, and_true] at hF
      obtain ⟨e14, e15⟩ := hF
      dsimp only [owes6, bare]
      simp only [putsD, Act.put, List.setIfInBounds_toArray, List.set_cons_zero, List.set_cons_succ]
      simp only [e14, e15]
      have HCA := Lib.hid (l5State_any T0 r (q5) y A a xw (hI.2.1 hf1) (HX.out.gr (hI.1.mono HT0.out.2.1)) HT0.out.1 (smCnf.short ⟨by first | exact HMY.out | (unfold okInt; omega), (HSM.out).sm (by omega)⟩) (by omega) (by omega))
      have HI9 := Lib.hid hI
      clear hI
      go_wp2_with fail
      refine HCA.out.mono ?_
      clear HCA
      rintro e wx ⟨s, P, Q, D, p', q', d', g, FL, rfl, hs9, hso9, hd9⟩
      have HN9 := Lib.hid (HI9.out.call hf1 k5 ⟨by omega, by omega⟩ ((HT.out r).2 (.inl rfl)) hs9 hso9 hd9)
      clear hs9 hso9 hd9
      go_wp2
      exact ⟨rfl, trivial, trivial, HN9.out⟩
    · intro vals xw f hf1 hf2 hf3 hI hF
      clear hf2 hf3
      simp only [saysD, List.getD_cons_zero, List.getD_cons_succ, and_true] at hF
      have e13 := hF
      have hbx := hI.2.2.2.1 hf1
      dsimp only [owes6, bare]
      simp only [putsD, Act.put, List.setIfInBounds_toArray, List.set_cons_zero, List.set_cons_succ]
      simp only [e13]
      obtain ⟨o0, o0'⟩ := cell_of_block hbx 0
      obtain ⟨o1, o1'⟩ := cell_of_block hbx 1
      have HI9 := Lib.hid hI
      clear hI
      clear hbx
      go_wp2
      exact ⟨rfl, trivial, trivial, HI9.out.st2 hf1 (by omega) (by omega) ((HT.out _).2 (.inr (.inl rfl))) (by omega)⟩
    · intro vals xw f hf1 hf2 hf3 hI hF
      have k3 : f 3 = true := hf2 3 (by kernel_rfl)
      clear hf2 hf3
      simp only [saysD, List.getD_cons_zero, List.getD_cons_succ, and_true] at hF
      obtain ⟨s, P, Q, D, p', q', d', g, lo, FL, e16, _⟩ := hI.2.2.2.2.2.1 k3
      have hbx := hI.2.2.2.2.2.2.1 hf1
      dsimp only [owes6, bare]
      simp only [putsD, Act.put, List.setIfInBounds_toArray, List.set_cons_zero, List.set_cons_succ]
      simp only [e16]
      obtain ⟨o0, o0'⟩ := cell_of_block hbx 0
      obtain ⟨o1, o1'⟩ := cell_of_block hbx 1
      obtain ⟨o2, o2'⟩ := cell_of_block hbx 2
      obtain ⟨o3, o3'⟩ := cell_of_block hbx 3
      have HE9 := Lib.hid e16
      have HI9 := Lib.hid hI
      clear hI
      clear hbx e16
      go_wp2
      exact ⟨rfl, trivial, trivial, HI9.out.st3 hf1 HE9.out (by omega) (by omega) ((HT.out _).2 (.inr (.inr rfl))) (by omega)⟩
    · intro vals xw f hall hI hF
      rw [show List.range _ = [0, 1, 2, 3, 4, 5] from rfl] at hF
      simp only [says, List.getD_cons_zero, List.getD_cons_succ, and_true] at hF
      obtain ⟨i1, _, i3, _, i5, i6, _, i8⟩ := hI
      obtain ⟨s, P, Q, D, p', q', d', g, lo, FL, e16, hs9, hso9, hlo9⟩ := i6 (hall 3 (by decide))
      obtain ⟨cs, e17, hb3⟩ := i8 (hall 5 (by decide))
      have hb2 := i5 (hall 4 (by decide))
      obtain ⟨q9, q90, q91, hR9⟩ := i3 (hall 3 (by decide))
      have e18 := e16.symm.trans e17
      injection e18 with e18
      subst e18
      have HX9 := Lib.hid ((HX.out.gr (i1.mono HT0.out.2.1)).ab_mono fun k _ e => HT0.out.2.2 k e)
      have HS9 := Lib.hid hs9
      have HO9 := Lib.hid (hso9.slS.mono (G := Ab S0 xw) fun k hk => ⟨hk.2, fun e => by have := HS0.out k e; have := HBE.out; have := hk.1; omega⟩)
      have HR9 := Lib.hid hR9
      have HG9 := Lib.hid (HG5.out.then i1 (fun k hk => by
              rcases (HT.out k).1 hk with e | e | e
              · exact .inl e
              · right; have := HBE.out; omega
              · right; have := HBE.out; omega))
      have e0 := (cell_of_block hb2 0).1
      have e1 := (cell_of_block hb2 1).1
      have f0 := (cell_of_block hb3 0).1
      have f1 := (cell_of_block hb3 1).1
      have f2 := (cell_of_block hb3 2).1
      have f3 := (cell_of_block hb3 3).1
      simp at e0 e1 f0 f1 f2 f3
      clear i1 i3 i5 i6 i8 hs9 hso9 hR9 hb2 hb3 e17 e16 hall hF
      simp only [putsD, Act.put, List.setIfInBounds_toArray, List.set_cons_zero, List.set_cons_succ]
      go_wp2
      refine bodyPost_ret (v := .tuple #[.agg #[.int .i64 y.many, .slice A y.list.length a], .agg #[.slice P s.put.length p', .slice Q s.why.length q', .slice D s.learned.length d', .int .i64 s.code]]) (by simp [results, Try.results50, go_sem, e0, e1, f0, f1, f2, f3]) rfl ?_
      exact ⟨y, A, a, s, P, Q, D, p', q', d', rfl, hc5, HX9.out, HMY.out, HSM.out, HS9.out, HO9.out, q9, by omega, by omega, HR9.out, HG9.out⟩
  have hkb0 : (k == 0) = false := by simpa using hk0
  clear hk0
  go_wp2
  have HX := Lib.hid (HX.out.ab_mono fun k _ e => (HT4.out k).2 (.inl e))
  refine wp_region_rel6 [[], [], [], [(1, 14), (2, 15)], [(0, 13)], [(3, 16)]]
    (fun _ _ => True)
    []
    (fun v9 f9 x9 => SmI b (b + 1) r (q2 + 1) T #[.int .i64 x.many, .slice A2 x.list.length c2] w4 (v9 3) (f9 3) (f9 4) (f9 5) x9)
    [fun vs9 _ => vs9 0 = (.agg #[.int .i64 x.many, .slice A2 x.list.length c2]),
    fun vs9 _ => vs9 1 = (.pointer (some ⟨r, 0, none⟩)),
    fun vs9 _ => vs9 2 = (.agg #[.int .i64 x.many, .slice A2 x.list.length c2]),
    fun _ _ => True,
    fun _ _ => True,
    fun _ _ => True]
    [(0, 13), (1, 14), (2, 15), (3, 16)] (by kernel_rfl) (by kernel_rfl) (by kernel_rfl) (by kernel_rfl)
    (fun _ => trivial) trivial
    ⟨⟨.inr (fun _ _ _ h _ => h), trivial⟩,
    ⟨.inr (fun _ _ _ h _ => h), trivial⟩,
    ⟨.inr (fun _ _ _ h _ => h), trivial⟩,
    ⟨.inr (fun _ _ _ h _ => h), trivial⟩,
    ⟨.inr (fun _ _ _ h _ => h), trivial⟩,
    ⟨.inr (fun _ _ _ h _ => h), trivial⟩, trivial⟩ ⟨fun vs vs' x h _ hv => (by dsimp only at hv ⊢; first | (rw [← h]; exact hv) | exact hv),
    fun vs vs' x h _ hv => (by dsimp only at hv ⊢; first | (rw [← h]; exact hv) | exact hv),
    fun vs vs' x h _ hv => (by dsimp only at hv ⊢; first | (rw [← h]; exact hv) | exact hv),
    fun _ _ _ _ _ _ => trivial,
    fun _ _ _ _ _ _ => trivial,
    fun _ _ _ _ _ _ => trivial, trivial⟩ (SmI.start HR4.out HB0.out HB1.out) ⟨?_, ?_, ?_, ?_, ?_, ?_, trivial⟩ ?_
  · intro vals xw f hf1 hf2 hf3 hI hF
    clear hf2 hf3
    dsimp only [owes6, bare]
    simp only [putsD, Act.put, List.setIfInBounds_toArray, List.set_cons_zero, List.set_cons_succ]
    have bx9 := hI.1.heap (fun e => by have := (HT.out _).1 e; omega) HB4.out
    obtain ⟨c0, _⟩ := cell_of_block bx9 0
    obtain ⟨c1, _⟩ := cell_of_block bx9 1
    clear bx9
    go_wp2
    exact ⟨rfl, rfl, trivial, hI⟩
  · intro vals xw f hf1 hf2 hf3 hI hF
    clear hf2 hf3
    dsimp only [owes6, bare]
    simp only [putsD, Act.put, List.setIfInBounds_toArray, List.set_cons_zero, List.set_cons_succ]
    go_wp2
    exact ⟨rfl, rfl, trivial, hI⟩
  · intro vals xw f hf1 hf2 hf3 hI hF
    clear hf2 hf3
    dsimp only [owes6, bare]
    simp only [putsD, Act.put, List.setIfInBounds_toArray, List.set_cons_zero, List.set_cons_succ]
    have bx9 := hI.1.heap (fun e => by have := (HT.out _).1 e; omega) HB4.out
    obtain ⟨c0, _⟩ := cell_of_block bx9 0
    obtain ⟨c1, _⟩ := cell_of_block bx9 1
    clear bx9
    go_wp2
    exact ⟨rfl, rfl, trivial, hI⟩
  · intro vals xw f hf1 hf2 hf3 hI hF
    have k5 : f 5 = false := hf3 5 (by kernel_rfl)
    clear hf2 hf3
    simp only [saysD, List.getD_cons_zero, List.getD_cons_succ, and_true] at hF
    obtain ⟨e14, e15⟩ := hF
    dsimp only [owes6, bare]
    simp only [putsD, Act.put, List.setIfInBounds_toArray, List.set_cons_zero, List.set_cons_succ]
    simp only [e14, e15]
    have HCA := Lib.hid (l5State_any T0 r (q2 + 1) x A2 c2 xw (hI.2.1 hf1) (HX.out.gr (hI.1.mono HT0.out.2.1)) HT0.out.1 (smCnf.short ⟨by first | exact HMY.out | (unfold okInt; omega), (HSM.out).sm (by omega)⟩) (by omega) (by omega))
    have HI9 := Lib.hid hI
    clear hI
    go_wp2_with fail
    refine HCA.out.mono ?_
    clear HCA
    rintro e wx ⟨s, P, Q, D, p', q', d', g, FL, rfl, hs9, hso9, hd9⟩
    have HN9 := Lib.hid (HI9.out.call hf1 k5 ⟨by omega, by omega⟩ ((HT.out r).2 (.inl rfl)) hs9 hso9 hd9)
    clear hs9 hso9 hd9
    go_wp2
    exact ⟨rfl, trivial, trivial, HN9.out⟩
  · intro vals xw f hf1 hf2 hf3 hI hF
    clear hf2 hf3
    simp only [saysD, List.getD_cons_zero, List.getD_cons_succ, and_true] at hF
    have e13 := hF
    have hbx := hI.2.2.2.1 hf1
    dsimp only [owes6, bare]
    simp only [putsD, Act.put, List.setIfInBounds_toArray, List.set_cons_zero, List.set_cons_succ]
    simp only [e13]
    obtain ⟨o0, o0'⟩ := cell_of_block hbx 0
    obtain ⟨o1, o1'⟩ := cell_of_block hbx 1
    have HI9 := Lib.hid hI
    clear hI
    clear hbx
    go_wp2
    exact ⟨rfl, trivial, trivial, HI9.out.st2 hf1 (by omega) (by omega) ((HT.out _).2 (.inr (.inl rfl))) (by omega)⟩
  · intro vals xw f hf1 hf2 hf3 hI hF
    have k3 : f 3 = true := hf2 3 (by kernel_rfl)
    clear hf2 hf3
    simp only [saysD, List.getD_cons_zero, List.getD_cons_succ, and_true] at hF
    obtain ⟨s, P, Q, D, p', q', d', g, lo, FL, e16, _⟩ := hI.2.2.2.2.2.1 k3
    have hbx := hI.2.2.2.2.2.2.1 hf1
    dsimp only [owes6, bare]
    simp only [putsD, Act.put, List.setIfInBounds_toArray, List.set_cons_zero, List.set_cons_succ]
    simp only [e16]
    obtain ⟨o0, o0'⟩ := cell_of_block hbx 0
    obtain ⟨o1, o1'⟩ := cell_of_block hbx 1
    obtain ⟨o2, o2'⟩ := cell_of_block hbx 2
    obtain ⟨o3, o3'⟩ := cell_of_block hbx 3
    have HE9 := Lib.hid e16
    have HI9 := Lib.hid hI
    clear hI
    clear hbx e16
    go_wp2
    exact ⟨rfl, trivial, trivial, HI9.out.st3 hf1 HE9.out (by omega) (by omega) ((HT.out _).2 (.inr (.inr rfl))) (by omega)⟩
  · intro vals xw f hall hI hF
    rw [show List.range _ = [0, 1, 2, 3, 4, 5] from rfl] at hF
    simp only [says, List.getD_cons_zero, List.getD_cons_succ, and_true] at hF
    obtain ⟨i1, _, i3, _, i5, i6, _, i8⟩ := hI
    obtain ⟨s, P, Q, D, p', q', d', g, lo, FL, e16, hs9, hso9, hlo9⟩ := i6 (hall 3 (by decide))
    obtain ⟨cs, e17, hb3⟩ := i8 (hall 5 (by decide))
    have hb2 := i5 (hall 4 (by decide))
    obtain ⟨q9, q90, q91, hR9⟩ := i3 (hall 3 (by decide))
    have e18 := e16.symm.trans e17
    injection e18 with e18
    subst e18
    have HX9 := Lib.hid ((HX.out.gr (i1.mono HT0.out.2.1)).ab_mono fun k _ e => HT0.out.2.2 k e)
    have HS9 := Lib.hid hs9
    have HO9 := Lib.hid (hso9.slS.mono (G := Ab S0 xw) fun k hk => ⟨hk.2, fun e => by have := HS0.out k e; have := HBE.out; have := hk.1; omega⟩)
    have HR9 := Lib.hid hR9
    have HG9 := Lib.hid (HG4.out.then i1 (fun k hk => by
          rcases (HT.out k).1 hk with e | e | e
          · exact .inl e
          · right; have := HBE.out; omega
          · right; have := HBE.out; omega))
    have e0 := (cell_of_block hb2 0).1
    have e1 := (cell_of_block hb2 1).1
    have f0 := (cell_of_block hb3 0).1
    have f1 := (cell_of_block hb3 1).1
    have f2 := (cell_of_block hb3 2).1
    have f3 := (cell_of_block hb3 3).1
    simp at e0 e1 f0 f1 f2 f3
    clear i1 i3 i5 i6 i8 hs9 hso9 hR9 hb2 hb3 e17 e16 hall hF
    simp only [putsD, Act.put, List.setIfInBounds_toArray, List.set_cons_zero, List.set_cons_succ]
    go_wp2
    refine bodyPost_ret (v := .tuple #[.agg #[.int .i64 x.many, .slice A2 x.list.length c2], .agg #[.slice P s.put.length p', .slice Q s.why.length q', .slice D s.learned.length d', .int .i64 s.code]]) (by simp [results, Try.results50, go_sem, e0, e1, f0, f1, f2, f3]) rfl ?_
    exact ⟨x, A2, c2, s, P, Q, D, p', q', d', rfl, hc2, HX9.out, (by unfold okInt; omega), (HSM.out.mono (by omega)), HS9.out, HO9.out, q9, by omega, by omega, HR9.out, HG9.out⟩
/-- What a draw of clauses and a search gives, from bytes. -/
def DrawS (w : World) (e : Ending) (w' : World) : Prop :=
  ∃ (y : C) (A : Option Addr) (a : Nat) (s : S) (P Q D : Option Addr) (p' q' d' : Nat), e = .returned (.tuple #[.agg #[.int .i64 y.many, .slice A y.list.length a], .agg #[.slice P s.put.length p', .slice Q s.why.length q', .slice D s.learned.length d', .int .i64 s.code]]) ∧ y.list.length ≤ a ∧ Lay.int.slice.Rd w' A y.list ∧ okInt y.many ∧ smallL 31 y.list ∧ okS 3 s ∧ RdS w' s P Q D p' q' d' ∧ Below w.heap.size w w'
set_option maxRecDepth 100000 in
set_option maxHeartbeats 4000000 in
theorem drawSatOk_any (A : Option Addr) (c : Nat) (bs : List UInt8) (w : World) (h : Lay.byte.Rd w A bs) (hc : bs.length ≤ c) (hn : bs.length ≤ 9223372036854775807) :
    Calls Try.prog 22 #[.slice A bs.length c] w (DrawS w) := by
  obtain ⟨hw, hB0, hB1, hWS⟩ := two_boxes w (.cells #[.int .i64 0, .slice none 0 0] 25) (.cells #[.slice none 0 0, .slice none 0 0, .slice none 0 0, .int .i64 0] 35)
  obtain ⟨W, hW⟩ : ∃ W, W = (w.alloc (.cells #[.int .i64 0, .slice none 0 0] 25)).alloc (.cells #[.slice none 0 0, .slice none 0 0, .slice none 0 0, .int .i64 0] 35) := ⟨_, rfl⟩
  rw [← hW] at hw hB0 hB1 hWS
  have HO := Lib.hid (open_any A c bs W (h.up hw) hc hn)
  have HB0 := Lib.hid hB0
  have HB1 := Lib.hid hB1
  have HBW := Lib.hid hw
  have HW := Lib.hid hW
  clear h hw hB0 hB1 hW
  go_enter Try.func22, Try.ntmps22
  go_wp2_with fail
  rw [← HW.out]
  obtain ⟨b, hbe⟩ : ∃ b, b = w.heap.size := ⟨_, rfl⟩
  rw [← hbe] at HB0 HB1 hWS ⊢
  have HBE := Lib.hid hbe
  clear hbe HW
  refine HO.out.mono ?_
  clear HO
  rintro e w1 ⟨r, rfl, hr, hR1, hb1⟩
  have HB0 := Lib.hid ((hb1.block _ (by omega)).trans HB0.out)
  have HB1 := Lib.hid ((hb1.block _ (by omega)).trans HB1.out)
  have HBW := Lib.hid (bthen HBW.out hb1)
  clear hb1
  go_wp2_with fail
  refine (l5Some_any (fun k => k = r ∨ k = b ∨ k = b + 1) r 0 w1 hR1 (fun k hk => by have := hR1.lt; omega) (.inl rfl) (by omega) (by omega)).mono ?_
  rintro e w2 ⟨y, A2, a2, s, P, Q, D, p', q', d', rfl, hc2, hx2, hm2, hs2, ho2, hr2, q2, q20, q21, hR2, hg2⟩
  have HB0 := Lib.hid (hg2.heap (by show ¬ _ = r; omega) HB0.out)
  have HB1 := Lib.hid (hg2.heap (by show ¬ _ = r; omega) HB1.out)
  obtain ⟨m0, m0'⟩ := cell_of_block HB0.out 0
  obtain ⟨m1, m1'⟩ := cell_of_block HB0.out 1
  obtain ⟨o0, o0'⟩ := cell_of_block HB1.out 0
  obtain ⟨o1, o1'⟩ := cell_of_block HB1.out 1
  obtain ⟨o2, o2'⟩ := cell_of_block HB1.out 2
  obtain ⟨o3, o3'⟩ := cell_of_block HB1.out 3
  have hx9 : Gr (fun k => k = b) w2 ((w2.setCell ⟨b, 0, none⟩ (.int .i64 y.many)).setCell ⟨b, 1, none⟩ (.slice A2 y.list.length a2)) := Gr.set (Gr.set (Gr.refl (fun k => k = b) w2) b 0 _ (.inl rfl)) b 1 _ (.inl rfl)
  have hb0 := heap_set_same _ b 1 (.slice A2 y.list.length a2) _ _ (heap_set_same _ b 0 (.int .i64 y.many) _ _ HB0.out)
  have hb1 := hx9.heap (by show ¬ _ = b; omega) HB1.out
  obtain ⟨hb3, hg3⟩ := cp_store (u0 := (.slice P s.put.length p')) (u1 := (.slice Q s.why.length q')) (u2 := (.slice D s.learned.length d')) (u3 := (.int .i64 s.code)) hb1
  have hb2 := hg3.heap (by show ¬ _ = b + 1; omega) hb0
  have HB2 := Lib.hid hb2
  have HB3 := Lib.hid hb3
  have hgx : Gr (fun k => k = b ∨ k = b + 1) w2 ((((((w2.setCell ⟨b, 0, none⟩ (.int .i64 y.many)).setCell ⟨b, 1, none⟩ (.slice A2 y.list.length a2)).setCell ⟨b + 1, 0, none⟩ (.slice P s.put.length p')).setCell ⟨b + 1, 1, none⟩ (.slice Q s.why.length q')).setCell ⟨b + 1, 2, none⟩ (.slice D s.learned.length d')).setCell ⟨b + 1, 3, none⟩ (.int .i64 s.code)) := (hx9.mono fun _ h => .inl h).trans (hg3.mono fun _ h => .inr h)
  have HX9 : Hid (Lay.int.slice.Rd ((((((w2.setCell ⟨b, 0, none⟩ (.int .i64 y.many)).setCell ⟨b, 1, none⟩ (.slice A2 y.list.length a2)).setCell ⟨b + 1, 0, none⟩ (.slice P s.put.length p')).setCell ⟨b + 1, 1, none⟩ (.slice Q s.why.length q')).setCell ⟨b + 1, 2, none⟩ (.slice D s.learned.length d')).setCell ⟨b + 1, 3, none⟩ (.int .i64 s.code)) A2 y.list) := Lib.hid ((hx2.keep fun k hk => hgx.block k hk.1 (fun e => hk.2 (.inr e))).mono fun k hk => Nat.lt_of_lt_of_le hk.1 hgx.size)
  have HS9 : Hid (RdS ((((((w2.setCell ⟨b, 0, none⟩ (.int .i64 y.many)).setCell ⟨b, 1, none⟩ (.slice A2 y.list.length a2)).setCell ⟨b + 1, 0, none⟩ (.slice P s.put.length p')).setCell ⟨b + 1, 1, none⟩ (.slice Q s.why.length q')).setCell ⟨b + 1, 2, none⟩ (.slice D s.learned.length d')).setCell ⟨b + 1, 3, none⟩ (.int .i64 s.code)) s P Q D p' q' d') := Lib.hid ((hr2.keep fun k hk => hgx.block k hk.1 (fun e => hk.2 (.inr e))).mono fun k hk => Nat.lt_of_lt_of_le hk.1 hgx.size)
  have HG := Lib.hid ((((Gr.below (S := IsR r) HBW.out).trans hg2).then hgx (fun k hk => .inr (by have hk : k = b ∨ k = b + 1 := hk; have := HBE.out; omega))).to_below fun k hk => by have hk : k = r := hk; have := HBE.out; omega)
  clear hgx hx2 hr2 hx9 hb0 hb1 hb2 hb3 hg3 hg2
  go_wp2
  have e9 := HB2.out
  have e10 := HB3.out
  generalize ((((((w2.setCell ⟨b, 0, none⟩ (.int .i64 y.many)).setCell ⟨b, 1, none⟩ (.slice A2 y.list.length a2)).setCell ⟨b + 1, 0, none⟩ (.slice P s.put.length p')).setCell ⟨b + 1, 1, none⟩ (.slice Q s.why.length q')).setCell ⟨b + 1, 2, none⟩ (.slice D s.learned.length d')).setCell ⟨b + 1, 3, none⟩ (.int .i64 s.code)) = w9 at *
  have e0 := (cell_of_block e9 0).1
  have e1 := (cell_of_block e9 1).1
  have f0 := (cell_of_block e10 0).1
  have f1 := (cell_of_block e10 1).1
  have f2 := (cell_of_block e10 2).1
  have f3 := (cell_of_block e10 3).1
  simp at e0 e1 f0 f1 f2 f3
  clear HB2 HB3 HB0 HB1 e9 e10
  refine bodyPost_ret (v := .tuple #[.agg #[.int .i64 y.many, .slice A2 y.list.length a2], .agg #[.slice P s.put.length p', .slice Q s.why.length q', .slice D s.learned.length d', .int .i64 s.code]]) (by simp [results, Try.results22, go_sem, e0, e1, f0, f1, f2, f3]) rfl ?_
  exact ⟨y, A2, a2, s, P, Q, D, p', q', d', rfl, hc2, HX9.out, hm2, hs2, ho2, HS9.out, HG.out⟩
end Go.Proofs.Ytbljfhmcebgdaaa
