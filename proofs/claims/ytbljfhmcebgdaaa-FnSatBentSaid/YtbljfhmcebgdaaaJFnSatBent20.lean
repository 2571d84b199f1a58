/- Draws of two searches: DrawSatSame. The laws' own comparison of integer rows. Searches are compared: impl.SatSame, spec.SatSame. Searches and formulas are compared: spec.CnfSame, spec.SatSame. -/
import Derived.Test.YtbljfhmcebgdaaaJFnSatBent0
import Derived.Test.YtbljfhmcebgdaaaJFnSatBent2
import Derived.Test.YtbljfhmcebgdaaaJFnSatBent4
import Derived.Test.YtbljfhmcebgdaaaJFnSatBent5
import Derived.Test.YtbljfhmcebgdaaaJFnSatBent19
/-! Draws of two searches: DrawSatSame. -/
namespace Go.Proofs.Ytbljfhmcebgdaaa
open Go Go.RowKit

/-- What a draw of two searches gives. -/
def DrawT (w : World) (e : Ending) (w' : World) : Prop :=
  ∃ (s : S) (P Q D : Option Addr) (p' q' d' : Nat) (s2 : S) (P2 Q2 D2 : Option Addr) (p2 q2 d2 : Nat), e = .returned (.tuple #[.agg #[.slice P s.put.length p', .slice Q s.why.length q', .slice D s.learned.length d', .int .i64 s.code], .agg #[.slice P2 s2.put.length p2, .slice Q2 s2.why.length q2, .slice D2 s2.learned.length d2, .int .i64 s2.code]]) ∧ okS 3 s ∧ okS 3 s2 ∧ RdS w' s P Q D p' q' d' ∧ RdS w' s2 P2 Q2 D2 p2 q2 d2 ∧ Below w.heap.size w w'
theorem RetCp.slS {s : S} {P Q D : Option Addr} {p q d lim : Nat} {w w' : World} (h1 : OwnI w' w.heap.size (.slice P s.put.length p) s.put) (h2 : OwnI w' w.heap.size (.slice Q s.why.length q) s.why) (h3 : OwnL Lay.int.slice (fun _ b => lim ≤ b) 26 w' lim (.slice D s.learned.length d) s.learned) (hl : w.heap.size ≤ lim) : SlS (fun k => w.heap.size ≤ k ∧ k < w'.heap.size) w' s P Q D p q d := by
  obtain ⟨_, _, e1, _, k1⟩ := h1.form
  obtain ⟨_, _, e2, _, k2⟩ := h2.form
  injection e1 with e1
  injection e2 with e2
  subst e1 e2
  exact ⟨k1, k2, h3.sl.mono fun k hk => ⟨hk.2.elim (fun h9 => Nat.le_trans hl h9.1) (fun h9 => Nat.le_trans hl h9), hk.1⟩, h1.cap, h2.cap, h3.cap.2⟩
/-- call 3 gives a search; the boxes' stores. -/
def SnI (b2 b3 r : Nat) (q : Int) (T : Nat → Prop) (c0 : Array Value) (w : World) (v3 : Value) (f3 f4 f5 : Bool) (x : World) : Prop :=
  Gr T w x ∧ (f3 = false → Rdr x r q) ∧
  (f4 = false → x.heap[b2]? = some (.cells #[.slice none 0 0, .slice none 0 0, .slice none 0 0, .int .i64 0] 35 (0, 0))) ∧ (f4 = true → x.heap[b2]? = some (.cells c0 35 (0, 0))) ∧
  (f3 = true → ∃ (s : S) (P Q D : Option Addr) (p' q' d' lo : Nat), v3 = .agg #[.slice P s.put.length p', .slice Q s.why.length q', .slice D s.learned.length d', .int .i64 s.code] ∧ okS 3 s ∧ SlS (fun k => lo ≤ k ∧ k < x.heap.size) x s P Q D p' q' d' ∧ w.heap.size ≤ lo) ∧
  (f5 = false → x.heap[b3]? = some (.cells #[.slice none 0 0, .slice none 0 0, .slice none 0 0, .int .i64 0] 35 (0, 0))) ∧ (f5 = true → ∃ cs, v3 = .agg cs ∧ x.heap[b3]? = some (.cells cs 35 (0, 0)))
section
variable {b2 b3 r : Nat} {q : Int} {T : Nat → Prop} {c0 : Array Value} {w x z : World} {v3 : Value} {f3 f4 f5 : Bool}
theorem SnI.start (hR : Rdr w r q) (h2 : w.heap[b2]? = some (.cells #[.slice none 0 0, .slice none 0 0, .slice none 0 0, .int .i64 0] 35 (0, 0))) (h3 : w.heap[b3]? = some (.cells #[.slice none 0 0, .slice none 0 0, .slice none 0 0, .int .i64 0] 35 (0, 0))) : SnI b2 b3 r q T c0 w v3 false false false (w.drewN 1) :=
  ⟨Gr.below (below_drewN (Below.refl _ _) 1), fun _ => hR.up (below_drewN (Below.refl _ _) 1), fun _ => h2, fun e => absurd e (by simp), fun e => absurd e (by simp), fun _ => h3, fun e => absurd e (by simp)⟩
theorem SnI.call {s : S} {P Q D : Option Addr} {p' q' d' : Nat} (h : SnI b2 b3 r q T c0 w v3 f3 f4 f5 x) (h3 : f3 = false) (h5 : f5 = false) (hrb : r ≠ b2 ∧ r ≠ b3) (hT : T r) (hs : okS 3 s) (hso : SlS (fun k => x.heap.size ≤ k ∧ k < z.heap.size) z s P Q D p' q' d') (hg : Gr (IsR r) x z) :
    SnI b2 b3 r q T c0 w (.agg #[.slice P s.put.length p', .slice Q s.why.length q', .slice D s.learned.length d', .int .i64 s.code]) true f4 f5 z := by
  subst h3 h5
  obtain ⟨h1, h2, h4, h5, h6, h7, h8⟩ := h
  exact ⟨h1.trans (hg.mono fun k hk => by rw [show k = r from hk]; exact hT), fun e => absurd e (by simp), fun e => hg.heap (fun e => hrb.1 e.symm) (h4 e), fun e => hg.heap (fun e => hrb.1 e.symm) (h5 e), fun _ => ⟨s, P, Q, D, p', q', d', _, rfl, hs, hso, h1.size⟩, fun _ => hg.heap (fun e => hrb.2 e.symm) (h7 rfl), fun e => absurd e (by simp)⟩
theorem SlS.gr9 {lo : Nat} {s : S} {P Q D : Option Addr} {p' q' d' : Nat} (h : SlS (fun k => lo ≤ k ∧ k < x.heap.size) x s P Q D p' q' d') (hg : Gr T x z) (hT : ∀ k, T k → k < lo) : SlS (fun k => lo ≤ k ∧ k < z.heap.size) z s P Q D p' q' d' :=
  (h.keep fun k hk => hg.block k hk.2 (fun e => by have := hT k e; have := hk.1; omega)).mono fun k hk => ⟨hk.1, Nat.lt_of_lt_of_le hk.2 hg.size⟩
theorem SnI.st2 {u0 u1 u2 u3 : Value} (h : SnI b2 b3 r q T #[u0, u1, u2, u3] w v3 f3 f4 f5 x) (h4 : f4 = false) (hne : b2 ≠ b3) (hr : b2 ≠ r) (hT : T b2) (hw : b2 < w.heap.size) : SnI b2 b3 r q T #[u0, u1, u2, u3] w v3 f3 true f5 ((((x.setCell ⟨b2, 0, none⟩ u0).setCell ⟨b2, 1, none⟩ u1).setCell ⟨b2, 2, none⟩ u2).setCell ⟨b2, 3, none⟩ u3) := by
  subst h4
  obtain ⟨h1, h2, h4, h5, h6, h7, h8⟩ := h
  obtain ⟨hb, hg⟩ := cp_store (u0 := u0) (u1 := u1) (u2 := u2) (u3 := u3) (h4 rfl)
  exact ⟨h1.trans (hg.mono fun k hk => by rw [show k = b2 from hk]; exact hT), fun e => (h2 e).far hg hr ⟨_, _, _, h4 rfl, by simp⟩, fun e => absurd e (by simp), fun _ => hb, fun e => by
    obtain ⟨s, P, Q, D, p', q', d', lo, m1, m2, m3, m4⟩ := h6 e
    exact ⟨s, P, Q, D, p', q', d', lo, m1, m2, m3.gr9 hg (fun k hk => by have hk : k = b2 := hk; omega), m4⟩, fun e => hg.heap (fun e => hne e.symm) (h7 e), fun e => (h8 e).imp fun _ ⟨m1, m2⟩ => ⟨m1, hg.heap (fun e => hne e.symm) m2⟩⟩
theorem SnI.st3 {u0 u1 u2 u3 : Value} (h : SnI b2 b3 r q T c0 w v3 f3 f4 f5 x) (h5 : f5 = false) (e3 : v3 = .agg #[u0, u1, u2, u3]) (hne : b2 ≠ b3) (hr : b3 ≠ r) (hT : T b3) (hw : b3 < w.heap.size) : SnI b2 b3 r q T c0 w v3 f3 f4 true ((((x.setCell ⟨b3, 0, none⟩ u0).setCell ⟨b3, 1, none⟩ u1).setCell ⟨b3, 2, none⟩ u2).setCell ⟨b3, 3, none⟩ u3) := by
  subst h5
  obtain ⟨h1, h2, h4, h5, h6, h7, h8⟩ := h
  obtain ⟨hb, hg⟩ := cp_store (u0 := u0) (u1 := u1) (u2 := u2) (u3 := u3) (h7 rfl)
  exact ⟨h1.trans (hg.mono fun k hk => by rw [show k = b3 from hk]; exact hT), fun e => (h2 e).far hg hr ⟨_, _, _, h7 rfl, by simp⟩, fun e => hg.heap (fun e => hne e) (h4 e), fun e => hg.heap (fun e => hne e) (h5 e), fun e => by
    obtain ⟨s, P, Q, D, p', q', d', lo, m1, m2, m3, m4⟩ := h6 e
    exact ⟨s, P, Q, D, p', q', d', lo, m1, m2, m3.gr9 hg (fun k hk => by have hk : k = b3 := hk; omega), m4⟩, fun e => absurd e (by simp), fun _ => ⟨_, e3, hb⟩⟩
end
set_option maxRecDepth 100000 in
set_option maxHeartbeats 16000000 in
theorem drawSatSame_any (A0 : Option Addr) (c : Nat) (bs : List UInt8) (w : World) (h : Lay.byte.Rd w A0 bs) (hc : bs.length ≤ c) (hn : bs.length ≤ 9223372036854775807) :
    Calls Try.prog 23 #[.slice A0 bs.length c] w (DrawT w) := by
  obtain ⟨hw, hB0, hB1, hWS⟩ := two_boxes w (.cells #[.slice none 0 0, .slice none 0 0, .slice none 0 0, .int .i64 0] 35) (.cells #[.slice none 0 0, .slice none 0 0, .slice none 0 0, .int .i64 0] 35)
  obtain ⟨W, hW⟩ : ∃ W, W = (w.alloc (.cells #[.slice none 0 0, .slice none 0 0, .slice none 0 0, .int .i64 0] 35)).alloc (.cells #[.slice none 0 0, .slice none 0 0, .slice none 0 0, .int .i64 0] 35) := ⟨_, rfl⟩
  rw [← hW] at hw hB0 hB1 hWS
  have HO := Lib.hid (open_any A0 c bs W (h.up hw) hc hn)
  have HB0 := Lib.hid hB0
  have HB1 := Lib.hid hB1
  have HBW := Lib.hid hw
  have HW := Lib.hid hW
  clear h hw hB0 hB1 hW
  go_enter Try.func23, Try.ntmps23
  go_wp2_with fail
  rw [← HW.out]
  obtain ⟨b, hbe⟩ : ∃ b, b = w.heap.size := ⟨_, rfl⟩
  rw [← hbe] at HB0 HB1 hWS ⊢
  have HBE := Lib.hid hbe
  clear hbe HW
  refine HO.out.mono ?_
  clear HO
  rintro e w1 ⟨r, rfl, hr, hR1, hb1⟩
  have HB0 := Lib.hid ((hb1.block _ (by omega)).trans HB0.out)
  have HB1 := Lib.hid ((hb1.block _ (by omega)).trans HB1.out)
  have HBW := Lib.hid (bthen HBW.out hb1)
  have hrb : b + 1 < r := by omega
  clear hb1
  obtain ⟨T, hT⟩ : ∃ T : Nat → Prop, ∀ k, T k ↔ k = r ∨ k = b ∨ k = b + 1 := ⟨fun k => k = r ∨ k = b ∨ k = b + 1, fun _ => Iff.rfl⟩
  have HT := Lib.hid hT
  have HTL : Hid (∀ k, T k → k < w1.heap.size) := Lib.hid fun k hk => by have := (hT k).1 hk; have := hR1.lt; omega
  clear hT
  go_wp2_with fail
  refine (l4Cnf_any T r 0 w1 hR1 HTL.out ((HT.out r).2 (.inl rfl)) (by omega) (by omega)).mono ?_
  rintro e w3 ⟨y, A, a, rfl, hc3, hs3, ⟨hm0, hm1, hsm3⟩, q3, q30, q31, hR3, hg3⟩
  have HB0 := Lib.hid (hg3.heap (by show ¬ _ = r; omega) HB0.out)
  have HB1 := Lib.hid (hg3.heap (by show ¬ _ = r; omega) HB1.out)
  have HGW := Lib.hid ((Gr.below (S := IsR r) HBW.out).trans hg3)
  have hsz3 := hg3.size
  have hrw3 := hR3.lt
  clear hg3 hR1
  have hal : Below w3.heap.size w3 (w3.alloc (.cells #[.int .i64 y.many, .slice A y.list.length a] 25)) := (Below.refl _ _).alloc (Nat.le_refl _) _
  have hb5 : (w3.alloc (.cells #[.int .i64 y.many, .slice A y.list.length a] 25)).heap[w3.heap.size]? = some (.cells #[.int .i64 y.many, .slice A y.list.length a] 25 (0, 0)) := heap_alloc_new _ _
  have HB5 := Lib.hid hb5
  have HB0 := Lib.hid ((hal.block _ (lt_of_block HB0.out)).trans HB0.out)
  have HB1 := Lib.hid ((hal.block _ (lt_of_block HB1.out)).trans HB1.out)
  have HR4 := Lib.hid (hR3.up hal)
  have HGW := Lib.hid (HGW.out.up hal)
  have HX := Lib.hid (hs3.gr (.below hal))
  have HSM := Lib.hid hsm3
  have hal9 := hal.size
  have hb5l := lt_of_block hb5
  have hl3 := hsm3.1
  have HMY : Hid (okInt y.many) := Lib.hid (by unfold okInt; omega)
  clear hal hb5 hR3 hs3 hsm3 HBW
  go_wp2_with fail
  generalize w3.alloc (.cells #[.int .i64 y.many, .slice A y.list.length a] 25) = w4 at *
  generalize hb5e : w3.heap.size = b5 at *
  clear hb5e
  refine (l5State_any T r q3 y A a w4 HR4.out HX.out ((HT.out r).2 (.inl rfl)) (smCnf.short ⟨HMY.out, HSM.out.sm (by omega)⟩) (by omega) (by omega)).mono ?_
  rintro e w5 ⟨s, P, Q, D, p', q', d', g, FL, rfl, hos, hso, q5, q50, q51, hR5, hg5⟩
  have HB0 := Lib.hid (hg5.heap (by show ¬ _ = r; omega) HB0.out)
  have HB1 := Lib.hid (hg5.heap (by show ¬ _ = r; omega) HB1.out)
  have HB5 := Lib.hid (hg5.heap (by show ¬ _ = r; omega) HB5.out)
  have HX := Lib.hid (HX.out.gr (hg5.mono fun k hk => (HT.out k).2 (.inl hk)))
  have HGW := Lib.hid (HGW.out.trans hg5)
  have hsz5 := hg5.size
  have HOS := Lib.hid hos
  have hal : Below w5.heap.size w5 (w5.alloc (.cells #[.slice P s.put.length p', .slice Q s.why.length q', .slice D s.learned.length d', .int .i64 s.code] 35)) := (Below.refl _ _).alloc (Nat.le_refl _) _
  have hb6 : (w5.alloc (.cells #[.slice P s.put.length p', .slice Q s.why.length q', .slice D s.learned.length d', .int .i64 s.code] 35)).heap[w5.heap.size]? = some (.cells #[.slice P s.put.length p', .slice Q s.why.length q', .slice D s.learned.length d', .int .i64 s.code] 35 (0, 0)) := heap_alloc_new _ _
  have HB6 := Lib.hid hb6
  have HB0 := Lib.hid ((hal.block _ (lt_of_block HB0.out)).trans HB0.out)
  have HB1 := Lib.hid ((hal.block _ (lt_of_block HB1.out)).trans HB1.out)
  have HB5 := Lib.hid ((hal.block _ (lt_of_block HB5.out)).trans HB5.out)
  have HR6 := Lib.hid (hR5.up hal)
  have HGW := Lib.hid (HGW.out.up hal)
  have HX := Lib.hid (HX.out.gr (.below hal))
  have HSO := Lib.hid ((hso.up hal).slS)
  have hal8 := hal.size
  have hb6l := lt_of_block hb6
  clear hal hb6 hR5 hso hos hg5 HR4
  go_wp2_with fail
  generalize w5.alloc (.cells #[.slice P s.put.length p', .slice Q s.why.length q', .slice D s.learned.length d', .int .i64 s.code] 35) = w6 at *
  generalize hb6e : w5.heap.size = b6 at *
  clear hb6e
  refine (pick_any r q5 3 w6 HR6.out (by omega) (by omega) (by omega) (by omega)).mono ?_
  rintro e w7 ⟨k, rfl, k0, k1, _, hR7, hg7⟩
  have k1 := k1 (by omega)
  have hg7 := Gr.one (S := IsR r) hg7 rfl
  have HB0 := Lib.hid (hg7.heap (by show ¬ _ = r; omega) HB0.out)
  have HB1 := Lib.hid (hg7.heap (by show ¬ _ = r; omega) HB1.out)
  have HB5 := Lib.hid (hg7.heap (by show ¬ _ = r; omega) HB5.out)
  have HB6 := Lib.hid (hg7.heap (by show ¬ _ = r; omega) HB6.out)
  have HX := Lib.hid (HX.out.gr (hg7.mono fun k hk => (HT.out k).2 (.inl hk)))
  have HGW := Lib.hid (HGW.out.trans hg7)
  have HSO := Lib.hid (HSO.out.gr9 hg7 (fun k hk => by have hk : k = r := hk; omega))
  have hsz7 := hg7.size
  have HR7 := Lib.hid hR7
  have hlp := HOS.out.put
  have hlq := HOS.out.why
  have hll := HOS.out.lrn
  clear hR7 hg7 HR6
  by_cases hk0 : k = 0
  · subst hk0
    go_wp2
    refine wp_region_rel6 [[], [], [(1, 18)], [(0, 17)], [(2, 19)]]
      (fun _ _ => True)
      []
      (fun v9 f9 x9 => SnI b (b + 1) r (q5 + 1) T #[.slice P s.put.length p', .slice Q s.why.length q', .slice D s.learned.length d', .int .i64 s.code] w7 (v9 2) (f9 2) (f9 3) (f9 4) x9)
      [fun vs9 _ => vs9 0 = (.agg #[.slice P s.put.length p', .slice Q s.why.length q', .slice D s.learned.length d', .int .i64 s.code]),
    fun vs9 _ => vs9 1 = (.agg #[.slice P s.put.length p', .slice Q s.why.length q', .slice D s.learned.length d', .int .i64 s.code]),
    fun _ _ => True,
    fun _ _ => True,
    fun _ _ => True]
      [(0, 17), (1, 18), (2, 19)] (by kernel_rfl) (by kernel_rfl) (by kernel_rfl) (by kernel_rfl)
      (fun _ => trivial) trivial
      ⟨⟨.inr (fun _ _ _ h _ => h), trivial⟩,
    ⟨.inr (fun _ _ _ h _ => h), trivial⟩,
    ⟨.inr (fun _ _ _ h _ => h), trivial⟩,
    ⟨.inr (fun _ _ _ h _ => h), trivial⟩,
    ⟨.inr (fun _ _ _ h _ => h), trivial⟩, trivial⟩ ⟨fun vs vs' x h _ hv => (by dsimp only at hv ⊢; first | (rw [← h]; exact hv) | exact hv),
    fun vs vs' x h _ hv => (by dsimp only at hv ⊢; first | (rw [← h]; exact hv) | exact hv),
    fun _ _ _ _ _ _ => trivial,
    fun _ _ _ _ _ _ => trivial,
    fun _ _ _ _ _ _ => trivial, trivial⟩ (SnI.start HR7.out HB0.out HB1.out) ⟨?_, ?_, ?_, ?_, ?_, trivial⟩ ?_
    · intro vals xw f hf1 hf2 hf3 hI hF
      clear hf2 hf3
      dsimp only [owes6, bare]
      simp only [putsD, Act.put, List.setIfInBounds_toArray, List.set_cons_zero, List.set_cons_succ]
      have bx9 := hI.1.heap (fun e => by have := (HT.out _).1 e; omega) HB6.out
      obtain ⟨c0, _⟩ := cell_of_block bx9 0
      obtain ⟨c1, _⟩ := cell_of_block bx9 1
      obtain ⟨c2, _⟩ := cell_of_block bx9 2
      obtain ⟨c3, _⟩ := cell_of_block bx9 3
      clear bx9
      go_wp2
      exact ⟨rfl, rfl, trivial, hI⟩
    · intro vals xw f hf1 hf2 hf3 hI hF
      clear hf2 hf3
      dsimp only [owes6, bare]
      simp only [putsD, Act.put, List.setIfInBounds_toArray, List.set_cons_zero, List.set_cons_succ]
      have bx9 := hI.1.heap (fun e => by have := (HT.out _).1 e; omega) HB6.out
      obtain ⟨c0, _⟩ := cell_of_block bx9 0
      obtain ⟨c1, _⟩ := cell_of_block bx9 1
      obtain ⟨c2, _⟩ := cell_of_block bx9 2
      obtain ⟨c3, _⟩ := cell_of_block bx9 3
      clear bx9
      go_wp2
      exact ⟨rfl, rfl, trivial, hI⟩
    · intro vals xw f hf1 hf2 hf3 hI hF
      have k4 : f 4 = false := hf3 4 (by kernel_rfl)
      clear hf2 hf3
      simp only [saysD, List.getD_cons_zero, List.getD_cons_succ, and_true] at hF
      have e18 := hF
      dsimp only [owes6, bare]
      simp only [putsD, Act.put, List.setIfInBounds_toArray, List.set_cons_zero, List.set_cons_succ]
      simp only [e18]
      have HSX := HSO.out.gr9 hI.1 (fun k hk => by have := (HT.out k).1 hk; omega)
      have HCP := Lib.hid (l5Copy_any s P Q D p' q' d' xw (HSX.put.mono fun k hk => hk.2) (HSX.why.mono fun k hk => hk.2) (HSX.lrn.mono fun k hk => hk.2) (by omega) (by omega) (by omega) (fun cl hcl => by have := (HOS.out.cls cl hcl).1; omega))
      have HI9 := Lib.hid hI
      clear hI
      clear HSX
      go_wp2_with fail
      refine HCP.out.mono ?_
      clear HCP
      rintro e wx ⟨P2, Q2, D2, p2, q2, d2, lim, rfl, o1, o2, o3, o4, o5, o6, hbl⟩
      have HN9 := Lib.hid (HI9.out.call (s := s) hf1 k4 ⟨by omega, by omega⟩ ((HT.out r).2 (.inl rfl)) HOS.out (RetCp.slS o1 o2 o5 o6) (.below hbl))
      clear o1 o2 o3 o4 o5 o6 hbl
      go_wp2
      exact ⟨rfl, trivial, trivial, HN9.out⟩
    · intro vals xw f hf1 hf2 hf3 hI hF
      clear hf2 hf3
      simp only [saysD, List.getD_cons_zero, List.getD_cons_succ, and_true] at hF
      have e17 := hF
      have hbx := hI.2.2.1 hf1
      dsimp only [owes6, bare]
      simp only [putsD, Act.put, List.setIfInBounds_toArray, List.set_cons_zero, List.set_cons_succ]
      simp only [e17]
      obtain ⟨o0, o0'⟩ := cell_of_block hbx 0
      obtain ⟨o1, o1'⟩ := cell_of_block hbx 1
      obtain ⟨o2, o2'⟩ := cell_of_block hbx 2
      obtain ⟨o3, o3'⟩ := cell_of_block hbx 3
      have HI9 := Lib.hid hI
      clear hI
      clear hbx
      go_wp2
      exact ⟨rfl, trivial, trivial, HI9.out.st2 hf1 (by omega) (by omega) ((HT.out _).2 (.inr (.inl rfl))) (by omega)⟩
    · intro vals xw f hf1 hf2 hf3 hI hF
      have k2 : f 2 = true := hf2 2 (by kernel_rfl)
      clear hf2 hf3
      simp only [saysD, List.getD_cons_zero, List.getD_cons_succ, and_true] at hF
      obtain ⟨s2, P2, Q2, D2, p2, q2, d2, lo, e19, _⟩ := hI.2.2.2.2.1 k2
      have hbx := hI.2.2.2.2.2.1 hf1
      dsimp only [owes6, bare]
      simp only [putsD, Act.put, List.setIfInBounds_toArray, List.set_cons_zero, List.set_cons_succ]
      simp only [e19]
      obtain ⟨o0, o0'⟩ := cell_of_block hbx 0
      obtain ⟨o1, o1'⟩ := cell_of_block hbx 1
      obtain ⟨o2, o2'⟩ := cell_of_block hbx 2
      obtain ⟨o3, o3'⟩ := cell_of_block hbx 3
      have HE9 := Lib.hid e19
      have HI9 := Lib.hid hI
      clear hI
      clear hbx e19
      go_wp2
      exact ⟨rfl, trivial, trivial, HI9.out.st3 hf1 HE9.out (by omega) (by omega) ((HT.out _).2 (.inr (.inr rfl))) (by omega)⟩
    · intro vals xw f hall hI hF
      rw [show List.range _ = [0, 1, 2, 3, 4] from rfl] at hF
      simp only [says, List.getD_cons_zero, List.getD_cons_succ, and_true] at hF
      obtain ⟨i1, _, _, j5, j6, _, j8⟩ := hI
      obtain ⟨s2, P2, Q2, D2, p2, q2, d2, lo, e16, hs9, hso9, hlo9⟩ := j6 (hall 2 (by decide))
      obtain ⟨cs, e17, hb3⟩ := j8 (hall 4 (by decide))
      have hb2 := j5 (hall 3 (by decide))
      have e18 := e16.symm.trans e17
      injection e18 with e18
      subst e18
      have HS9 := Lib.hid hs9
      have HO9 : Hid (RdS xw s2 P2 Q2 D2 p2 q2 d2) := Lib.hid (hso9.mono fun k hk => hk.2)
      have HO8 : Hid (RdS xw s P Q D p' q' d') := Lib.hid ((HSO.out.gr9 i1 (fun k hk => by have := (HT.out k).1 hk; omega)).mono fun k hk => hk.2)
      have HG9 := Lib.hid ((HGW.out.then i1 (fun k hk => by
              rcases (HT.out k).1 hk with e | e | e
              · exact .inl e
              · right; have := HBE.out; omega
              · right; have := HBE.out; omega)).to_below fun k hk => by have hk : k = r := hk; have := HBE.out; omega)
      have e0 := (cell_of_block hb2 0).1
      have e1 := (cell_of_block hb2 1).1
      have e2 := (cell_of_block hb2 2).1
      have e3 := (cell_of_block hb2 3).1
      have f0 := (cell_of_block hb3 0).1
      have f1 := (cell_of_block hb3 1).1
      have f2 := (cell_of_block hb3 2).1
      have f3 := (cell_of_block hb3 3).1
      simp at e0 e1 e2 e3 f0 f1 f2 f3
      clear i1 j5 j6 j8 hs9 hso9 hb2 hb3 e17 e16 hall hF
      simp only [putsD, Act.put, List.setIfInBounds_toArray, List.set_cons_zero, List.set_cons_succ]
      go_wp2
      refine bodyPost_ret (v := .tuple #[.agg #[.slice P s.put.length p', .slice Q s.why.length q', .slice D s.learned.length d', .int .i64 s.code], .agg #[.slice P2 s2.put.length p2, .slice Q2 s2.why.length q2, .slice D2 s2.learned.length d2, .int .i64 s2.code]]) (by simp [results, Try.results23, go_sem, e0, e1, e2, e3, f0, f1, f2, f3]) rfl ?_
      exact ⟨s, P, Q, D, p', q', d', s2, P2, Q2, D2, p2, q2, d2, rfl, HOS.out, HS9.out, HO8.out, HO9.out, HG9.out⟩
  · have hkb : (k == 0) = false := by simpa using hk0
    clear hk0
    go_wp2
    refine wp_region_rel6 [[], [], [], [(1, 21), (2, 22)], [(0, 20)], [(3, 23)]]
      (fun _ _ => True)
      []
      (fun v9 f9 x9 => SnI b (b + 1) r (q5 + 1) T #[.slice P s.put.length p', .slice Q s.why.length q', .slice D s.learned.length d', .int .i64 s.code] w7 (v9 3) (f9 3) (f9 4) (f9 5) x9)
      [fun vs9 _ => vs9 0 = (.agg #[.slice P s.put.length p', .slice Q s.why.length q', .slice D s.learned.length d', .int .i64 s.code]),
    fun vs9 _ => vs9 1 = (.pointer (some ⟨r, 0, none⟩)),
    fun vs9 _ => vs9 2 = (.agg #[.int .i64 y.many, .slice A y.list.length a]),
    fun _ _ => True,
    fun _ _ => True,
    fun _ _ => True]
      [(0, 20), (1, 21), (2, 22), (3, 23)] (by kernel_rfl) (by kernel_rfl) (by kernel_rfl) (by kernel_rfl)
      (fun _ => trivial) trivial
      ⟨⟨.inr (fun _ _ _ h _ => h), trivial⟩,
    ⟨.inr (fun _ _ _ h _ => h), trivial⟩,
    ⟨.inr (fun _ _ _ h _ => h), trivial⟩,
    ⟨.inr (fun _ _ _ h _ => h), trivial⟩,
    ⟨.inr (fun _ _ _ h _ => h), trivial⟩,
    ⟨.inr (fun _ _ _ h _ => h), trivial⟩, trivial⟩ ⟨fun vs vs' x h _ hv => (by dsimp only at hv ⊢; first | (rw [← h]; exact hv) | exact hv),
    fun vs vs' x h _ hv => (by dsimp only at hv ⊢; first | (rw [← h]; exact hv) | exact hv),
    fun vs vs' x h _ hv => (by dsimp only at hv ⊢; first | (rw [← h]; exact hv) | exact hv),
    fun _ _ _ _ _ _ => trivial,
    fun _ _ _ _ _ _ => trivial,
    fun _ _ _ _ _ _ => trivial, trivial⟩ (SnI.start HR7.out HB0.out HB1.out) ⟨?_, ?_, ?_, ?_, ?_, ?_, trivial⟩ ?_
    · intro vals xw f hf1 hf2 hf3 hI hF
      clear hf2 hf3
      dsimp only [owes6, bare]
      simp only [putsD, Act.put, List.setIfInBounds_toArray, List.set_cons_zero, List.set_cons_succ]
      have bx9 := hI.1.heap (fun e => by have := (HT.out _).1 e; omega) HB6.out
      obtain ⟨c0, _⟩ := cell_of_block bx9 0
      obtain ⟨c1, _⟩ := cell_of_block bx9 1
      obtain ⟨c2, _⟩ := cell_of_block bx9 2
      obtain ⟨c3, _⟩ := cell_of_block bx9 3
      clear bx9
      go_wp2
      exact ⟨rfl, rfl, trivial, hI⟩
    · intro vals xw f hf1 hf2 hf3 hI hF
      clear hf2 hf3
      dsimp only [owes6, bare]
      simp only [putsD, Act.put, List.setIfInBounds_toArray, List.set_cons_zero, List.set_cons_succ]
      go_wp2
      exact ⟨rfl, rfl, trivial, hI⟩
    · intro vals xw f hf1 hf2 hf3 hI hF
      clear hf2 hf3
      dsimp only [owes6, bare]
      simp only [putsD, Act.put, List.setIfInBounds_toArray, List.set_cons_zero, List.set_cons_succ]
      have bx9 := hI.1.heap (fun e => by have := (HT.out _).1 e; omega) HB5.out
      obtain ⟨c0, _⟩ := cell_of_block bx9 0
      obtain ⟨c1, _⟩ := cell_of_block bx9 1
      clear bx9
      go_wp2
      exact ⟨rfl, rfl, trivial, hI⟩
    · intro vals xw f hf1 hf2 hf3 hI hF
      have k5 : f 5 = false := hf3 5 (by kernel_rfl)
      clear hf2 hf3
      simp only [saysD, List.getD_cons_zero, List.getD_cons_succ, and_true] at hF
      obtain ⟨e21, e22⟩ := hF
      dsimp only [owes6, bare]
      simp only [putsD, Act.put, List.setIfInBounds_toArray, List.set_cons_zero, List.set_cons_succ]
      simp only [e21, e22]
      have HCA := Lib.hid (l5State_any T r (q5 + 1) y A a xw (hI.2.1 hf1) (HX.out.gr hI.1) ((HT.out r).2 (.inl rfl)) (smCnf.short ⟨HMY.out, HSM.out.sm (by omega)⟩) (by omega) (by omega))
      have HI9 := Lib.hid hI
      clear hI
      go_wp2_with fail
      refine HCA.out.mono ?_
      clear HCA
      rintro e wx ⟨s2, P2, Q2, D2, p2, q2, d2, g2, FL2, rfl, hs9, hso9, q9, _, _, _, hg9⟩
      have HN9 := Lib.hid (HI9.out.call hf1 k5 ⟨by omega, by omega⟩ ((HT.out r).2 (.inl rfl)) hs9 hso9.slS hg9)
      clear hs9 hso9 hg9
      go_wp2
      exact ⟨rfl, trivial, trivial, HN9.out⟩
    · intro vals xw f hf1 hf2 hf3 hI hF
      clear hf2 hf3
      simp only [saysD, List.getD_cons_zero, List.getD_cons_succ, and_true] at hF
      have e20 := hF
      have hbx := hI.2.2.1 hf1
      dsimp only [owes6, bare]
      simp only [putsD, Act.put, List.setIfInBounds_toArray, List.set_cons_zero, List.set_cons_succ]
      simp only [e20]
      obtain ⟨o0, o0'⟩ := cell_of_block hbx 0
      obtain ⟨o1, o1'⟩ := cell_of_block hbx 1
      obtain ⟨o2, o2'⟩ := cell_of_block hbx 2
      obtain ⟨o3, o3'⟩ := cell_of_block hbx 3
      have HI9 := Lib.hid hI
      clear hI
      clear hbx
      go_wp2
      exact ⟨rfl, trivial, trivial, HI9.out.st2 hf1 (by omega) (by omega) ((HT.out _).2 (.inr (.inl rfl))) (by omega)⟩
    · intro vals xw f hf1 hf2 hf3 hI hF
      have k3 : f 3 = true := hf2 3 (by kernel_rfl)
      clear hf2 hf3
      simp only [saysD, List.getD_cons_zero, List.getD_cons_succ, and_true] at hF
      obtain ⟨s2, P2, Q2, D2, p2, q2, d2, lo, e23, _⟩ := hI.2.2.2.2.1 k3
      have hbx := hI.2.2.2.2.2.1 hf1
      dsimp only [owes6, bare]
      simp only [putsD, Act.put, List.setIfInBounds_toArray, List.set_cons_zero, List.set_cons_succ]
      simp only [e23]
      obtain ⟨o0, o0'⟩ := cell_of_block hbx 0
      obtain ⟨o1, o1'⟩ := cell_of_block hbx 1
      obtain ⟨o2, o2'⟩ := cell_of_block hbx 2
      obtain ⟨o3, o3'⟩ := cell_of_block hbx 3
      have HE9 := Lib.hid e23
      have HI9 := Lib.hid hI
      clear hI
      clear hbx e23
      go_wp2
      exact ⟨rfl, trivial, trivial, HI9.out.st3 hf1 HE9.out (by omega) (by omega) ((HT.out _).2 (.inr (.inr rfl))) (by omega)⟩
    · intro vals xw f hall hI hF
      rw [show List.range _ = [0, 1, 2, 3, 4, 5] from rfl] at hF
      simp only [says, List.getD_cons_zero, List.getD_cons_succ, and_true] at hF
      obtain ⟨i1, _, _, j5, j6, _, j8⟩ := hI
      obtain ⟨s2, P2, Q2, D2, p2, q2, d2, lo, e16, hs9, hso9, hlo9⟩ := j6 (hall 3 (by decide))
      obtain ⟨cs, e17, hb3⟩ := j8 (hall 5 (by decide))
      have hb2 := j5 (hall 4 (by decide))
      have e18 := e16.symm.trans e17
      injection e18 with e18
      subst e18
      have HS9 := Lib.hid hs9
      have HO9 : Hid (RdS xw s2 P2 Q2 D2 p2 q2 d2) := Lib.hid (hso9.mono fun k hk => hk.2)
      have HO8 : Hid (RdS xw s P Q D p' q' d') := Lib.hid ((HSO.out.gr9 i1 (fun k hk => by have := (HT.out k).1 hk; omega)).mono fun k hk => hk.2)
      have HG9 := Lib.hid ((HGW.out.then i1 (fun k hk => by
              rcases (HT.out k).1 hk with e | e | e
              · exact .inl e
              · right; have := HBE.out; omega
              · right; have := HBE.out; omega)).to_below fun k hk => by have hk : k = r := hk; have := HBE.out; omega)
      have e0 := (cell_of_block hb2 0).1
      have e1 := (cell_of_block hb2 1).1
      have e2 := (cell_of_block hb2 2).1
      have e3 := (cell_of_block hb2 3).1
      have f0 := (cell_of_block hb3 0).1
      have f1 := (cell_of_block hb3 1).1
      have f2 := (cell_of_block hb3 2).1
      have f3 := (cell_of_block hb3 3).1
      simp at e0 e1 e2 e3 f0 f1 f2 f3
      clear i1 j5 j6 j8 hs9 hso9 hb2 hb3 e17 e16 hall hF
      simp only [putsD, Act.put, List.setIfInBounds_toArray, List.set_cons_zero, List.set_cons_succ]
      go_wp2
      refine bodyPost_ret (v := .tuple #[.agg #[.slice P s.put.length p', .slice Q s.why.length q', .slice D s.learned.length d', .int .i64 s.code], .agg #[.slice P2 s2.put.length p2, .slice Q2 s2.why.length q2, .slice D2 s2.learned.length d2, .int .i64 s2.code]]) (by simp [results, Try.results23, go_sem, e0, e1, e2, e3, f0, f1, f2, f3]) rfl ?_
      exact ⟨s, P, Q, D, p', q', d', s2, P2, Q2, D2, p2, q2, d2, rfl, HOS.out, HS9.out, HO8.out, HO9.out, HG9.out⟩
end Go.Proofs.Ytbljfhmcebgdaaa

/-! The laws' own comparison of integer rows. -/
namespace Go.Proofs.Ytbljfhmcebgdaaa
open Go Go.RowKit

end Go.Proofs.Ytbljfhmcebgdaaa

/-! Searches are compared: impl.SatSame, spec.SatSame. -/
namespace Go.Proofs.Ytbljfhmcebgdaaa
open Go Go.RowKit

set_option maxHeartbeats 400000 in
theorem equalI_any (A B : Option Addr) (c d : Nat) (xs ys : List Int) (F G : Nat → Prop) (w : World) (h : Lay.int.Sl w F A xs) (h' : Lay.int.Sl w G B ys) (hn : xs.length ≤ 1048576) (hn' : ys.length ≤ 1048576) :
    Calls Try.prog 57 #[.slice A xs.length c, .slice B ys.length d] w fun e w' => e = .returned (.bool (decide (xs = ys))) ∧ ∃ n, w' = w.drewN n := by
  by_cases hl : xs.length = ys.length
  · have hne : (((xs.length : Int) != (ys.length : Int))) = false := by simp [hl]
    have HL := Lib.hid hl
    clear hl
    go_enter Try.func57, Try.ntmps57
    go_wp2
    clear hne
    go_loopw [13] (fun i wr => ∃ k m : Nat, k ≤ xs.length ∧ i = .int .i64 k ∧ wr = w.drewN m ∧ xs.take k = ys.take k) (fun i _ => xs.length - (intOf i).toNat)
    case atStart => exact ⟨0, 0, Nat.zero_le _, rfl, rfl, rfl⟩
    case round =>
      obtain ⟨k, m, hk, rfl, rfl, ht⟩ := hrel
      have HT := Lib.hid ht
      clear ht
      by_cases hlt : k < xs.length
      · have hlt' : k < ys.length := by have := HL.out; omega
        obtain ⟨ad, rfl, hf, hc⟩ := h.at_int hlt
        obtain ⟨ad', rfl, hf', hc'⟩ := h'.at_int hlt'
        have hk0 : (0 : Int) ≤ k := by omega
        have hk1 : (k : Int) < xs.length := by omega
        have hk2 : (k : Int) < ys.length := by omega
        clear h h' hf hf'
        by_cases hxy : xs[k] = ys[k]
        · have hb : (xs[k] != ys[k]) = false := by simp [hxy]
          have HX := Lib.hid hxy
          clear hxy
          go_wp2
          go_quiet (fail)
          go_wp2
          go_roundw
          case rel => exact ⟨k + 1, _, by omega, by go_num, rfl, take_eq_step hlt hlt' HT.out HX.out⟩
          case measure => simp [intOf]; omega
        · have hb : (xs[k] != ys[k]) = true := by simp [hxy]
          go_wp2
          go_quiet (fail)
          go_wp2
          go_ret
          exact ⟨ret_bool (by simp; rintro rfl; exact hxy rfl), m + nq, by rw [World.drewN_drewN]⟩
      · have : k = xs.length := by omega
        subst this
        go_wp2
        go_ret
        exact ⟨ret_bool (by have := HL.out; have := HT.out; simp [eq_of_take HL.out HT.out]), _, rfl⟩
  · have hne : (((xs.length : Int) != (ys.length : Int))) = true := by simp; omega
    go_enter Try.func57, Try.ntmps57
    go_wp2
    go_ret
    exact ⟨ret_bool (by simp; rintro rfl; exact hl rfl), 0, rfl⟩
theorem take_stepL {α : Type} {xs ys : List α} {k : Nat} (h : k < xs.length) (h' : k < ys.length) (ht : xs.take k = ys.take k) (he : xs[k] = ys[k]) : xs.take (k + 1) = ys.take (k + 1) := by
  rw [List.take_succ_eq_append_getElem h, List.take_succ_eq_append_getElem h', ht, he]
theorem eq_takeL {α : Type} {xs ys : List α} (hl : xs.length = ys.length) (ht : xs.take xs.length = ys.take xs.length) : xs = ys := by
  rw [List.take_length, hl, List.take_length] at ht; exact ht
set_option maxRecDepth 100000 in
set_option maxHeartbeats 1000000 in
theorem equalFuncI_any (A B : Option Addr) (c d : Nat) (xs ys : List (List Int)) (F G : Nat → Prop) (w : World) (h : Lay.int.slice.Sl w F A xs) (h' : Lay.int.slice.Sl w G B ys) (hn : xs.length ≤ 1048576) (hn' : ys.length ≤ 1048576) (hx : ∀ l ∈ xs, l.length ≤ 1048576) (hy : ∀ l ∈ ys, l.length ≤ 1048576) :
    Calls Try.prog 96 #[.slice A xs.length c, .slice B ys.length d, .func (.func 57) #[] #[]] w fun e w' => e = .returned (.bool (decide (xs = ys))) ∧ ∃ n, w' = w.drewN n := by
  by_cases hl : xs.length = ys.length
  · have hne : (((xs.length : Int) != (ys.length : Int))) = false := by simp [hl]
    have HL := Lib.hid hl
    clear hl
    go_enter Try.func96, Try.ntmps96
    go_wp2
    clear hne
    go_loopw [17] (fun i wr => ∃ k m : Nat, k ≤ xs.length ∧ i = .int .i64 k ∧ wr = w.drewN m ∧ xs.take k = ys.take k) (fun i _ => xs.length - (intOf i).toNat)
    case atStart => exact ⟨0, 0, Nat.zero_le _, rfl, rfl, rfl⟩
    case round =>
      obtain ⟨k, m, hk, rfl, rfl, ht⟩ := hrel
      have HT := Lib.hid ht
      clear ht
      by_cases hlt : k < xs.length
      · have hlt' : k < ys.length := by have := HL.out; omega
        obtain ⟨ad, A1, c1, rfl, _, hc, _, hs⟩ := h.at_slice hlt
        obtain ⟨ad', A2, c2, rfl, _, hc', _, hs'⟩ := h'.at_slice hlt'
        have hk0 : (0 : Int) ≤ k := by omega
        have hk1 : (k : Int) < xs.length := by omega
        have hk2 : (k : Int) < ys.length := by omega
        have HC := Lib.hid (equalI_any A1 A2 c1 c2 xs[k] ys[k] F G (w.drewN m) (hs.drewN m) (hs'.drewN m) (hx _ (List.getElem_mem hlt)) (hy _ (List.getElem_mem hlt')))
        have HSX : Hid (xs[k] = ys[k] → xs.take (k + 1) = ys.take (k + 1)) := Lib.hid (take_stepL hlt hlt' HT.out)
        have HSN : Hid (xs[k] ≠ ys[k] → xs ≠ ys) := Lib.hid (fun hn e => hn (by subst e; rfl))
        generalize xs[k] = u at *
        generalize ys[k] = v at *
        clear h h' hs hs'
        go_wp2_with fail
        refine HC.out.mono ?_
        clear HC
        rintro e wx ⟨rfl, n9, rfl⟩
        by_cases huv : u = v
        · rw [decide_eq_true huv]
          have HE := Lib.hid (HSX.out huv)
          clear huv HSX HSN
          go_wp2
          go_roundw
          case rel => exact ⟨k + 1, m + n9, by omega, by go_num, rfl, HE.out⟩
          case measure => simp [intOf]; omega
        · rw [decide_eq_false huv]
          have HE := Lib.hid (HSN.out huv)
          clear huv HSX HSN
          go_wp2
          go_ret
          exact ⟨ret_bool (by simp [HE.out]), m + n9, rfl⟩
      · have : k = xs.length := by omega
        subst this
        go_wp2
        go_ret
        exact ⟨ret_bool (by simp [eq_takeL HL.out HT.out]), _, rfl⟩
  · have hne : (((xs.length : Int) != (ys.length : Int))) = true := by simp; omega
    go_enter Try.func96, Try.ntmps96
    go_wp2
    go_ret
    exact ⟨ret_bool (by simp; rintro rfl; exact hl rfl), 0, rfl⟩
theorem sameLists_any (A B : Option Addr) (c d : Nat) (xs ys : List (List Int)) (F G : Nat → Prop) (w : World) (h : Lay.int.slice.Sl w F A xs) (h' : Lay.int.slice.Sl w G B ys) (hn : xs.length ≤ 1048576) (hn' : ys.length ≤ 1048576) (hx : ∀ l ∈ xs, l.length ≤ 1048576) (hy : ∀ l ∈ ys, l.length ≤ 1048576) :
    Calls Try.prog 58 #[.slice A xs.length c, .slice B ys.length d] w fun e w' => e = .returned (.bool (decide (xs = ys))) ∧ ∃ n, w' = w.drewN n := by
  have HC := Lib.hid (equalFuncI_any A B c d xs ys F G w h h' hn hn' hx hy)
  clear h h'
  go_enter Try.func58, Try.ntmps58
  go_wp2_with fail
  refine HC.out.mono ?_
  rintro e wx ⟨rfl, n9, rfl⟩
  go_wp2
  go_ret
  exact ⟨rfl, _, rfl⟩
def sameS (a b : S) : Bool := decide (a.put = b.put) && (decide (a.why = b.why) && (decide (a.learned = b.learned) && (a.code == b.code)))
theorem sameS_iff {a b : S} : sameS a b = true ↔ a = b := by
  unfold sameS
  rw [Bool.and_eq_true, Bool.and_eq_true, Bool.and_eq_true, decide_eq_true_eq, decide_eq_true_eq, decide_eq_true_eq, beq_iff_eq]
  constructor
  · rintro ⟨h1, h2, h3, h4⟩
    cases a; cases b
    simp at h1 h2 h3 h4
    subst h1 h2 h3 h4
    rfl
  · rintro rfl; exact ⟨rfl, rfl, rfl, rfl⟩
set_option maxRecDepth 100000 in
set_option maxHeartbeats 4000000 in
theorem implSatSame_any (x y : S) (P Q D P2 Q2 D2 : Option Addr) (p q d p2 q2 d2 : Nat) (w : World) (h1 : Lay.int.Rd w P x.put) (h2 : Lay.int.Rd w Q x.why) (h3 : Lay.int.slice.Rd w D x.learned) (g1 : Lay.int.Rd w P2 y.put) (g2 : Lay.int.Rd w Q2 y.why) (g3 : Lay.int.slice.Rd w D2 y.learned) (sx : smS x) (sy : smS y) :
    Calls Try.prog 24 #[.agg #[.slice P x.put.length p, .slice Q x.why.length q, .slice D x.learned.length d, .int .i64 x.code], .agg #[.slice P2 y.put.length p2, .slice Q2 y.why.length q2, .slice D2 y.learned.length d2, .int .i64 y.code]] w (RetB w (sameS x y)) := by
  obtain ⟨hw, hB0, hB1, hWS⟩ := two_boxes w (.cells #[.slice P x.put.length p, .slice Q x.why.length q, .slice D x.learned.length d, .int .i64 x.code] 35) (.cells #[.slice P2 y.put.length p2, .slice Q2 y.why.length q2, .slice D2 y.learned.length d2, .int .i64 y.code] 35)
  obtain ⟨W, hW⟩ : ∃ W, W = (w.alloc (.cells #[.slice P x.put.length p, .slice Q x.why.length q, .slice D x.learned.length d, .int .i64 x.code] 35)).alloc (.cells #[.slice P2 y.put.length p2, .slice Q2 y.why.length q2, .slice D2 y.learned.length d2, .int .i64 y.code] 35) := ⟨_, rfl⟩
  rw [← hW] at hw hB0 hB1 hWS
  obtain ⟨⟨a1, _⟩, ⟨a2, _⟩, ⟨a3, a3', _⟩, _⟩ := sx
  obtain ⟨⟨b1, _⟩, ⟨b2, _⟩, ⟨b3, b3', _⟩, _⟩ := sy
  have C1 := Lib.hid fun n => equalI_any P P2 p p2 x.put y.put _ _ (W.drewN n) ((h1.up hw).drewN n) ((g1.up hw).drewN n) a1 b1
  have C2 := Lib.hid fun n => equalI_any Q Q2 q q2 x.why y.why _ _ (W.drewN n) ((h2.up hw).drewN n) ((g2.up hw).drewN n) a2 b2
  have C3 := Lib.hid fun n => sameLists_any D D2 d d2 x.learned y.learned _ _ (W.drewN n) ((h3.up hw).drewN n) ((g3.up hw).drewN n) a3 b3 (fun l hl => (a3' l hl).1) (fun l hl => (b3' l hl).1)
  have HS := Lib.hid (show sameS x y = (decide (x.put = y.put) && (decide (x.why = y.why) && (decide (x.learned = y.learned) && (x.code == y.code)))) from rfl)
  have HBW := Lib.hid fun n => (below_drewN hw n : Below w.heap.size w (W.drewN n))
  have HW := Lib.hid hW
  have HB0 := Lib.hid hB0
  have HB1 := Lib.hid hB1
  generalize decide (x.put = y.put) = e1 at *
  generalize decide (x.why = y.why) = e2 at *
  generalize decide (x.learned = y.learned) = e3 at *
  clear h1 h2 h3 g1 g2 g3 hw hB0 hB1 hW hWS a1 a2 a3 a3' b1 b2 b3 b3'
  go_enter Try.func24, Try.ntmps24
  go_wp2_with fail
  rw [← HW.out]
  obtain ⟨b, hbe⟩ : ∃ b, b = w.heap.size := ⟨_, rfl⟩
  rw [← hbe] at HB0 HB1 ⊢
  clear hbe HW
  refine (C1.out 0).mono ?_
  rintro e wx ⟨rfl, n1, rfl⟩
  rw [World.drewN_drewN]
  generalize 0 + n1 = m1 at *
  cases e1
  · go_wp2
    go_ret
    exact ⟨ret_bool (by rw [HS.out]; rfl), HBW.out m1⟩
  have k1 : (W.drewN m1).cell? ⟨b, 1, none⟩ = some (.slice Q x.why.length q) := (cell_of_block HB0.out 1).1
  have l1 : (W.drewN m1).cell? ⟨b + 1, 1, none⟩ = some (.slice Q2 y.why.length q2) := (cell_of_block HB1.out 1).1
  go_wp2_with fail
  clear k1 l1
  refine (C2.out m1).mono ?_
  rintro e wx ⟨rfl, n2, rfl⟩
  rw [World.drewN_drewN]
  generalize m1 + n2 = m2 at *
  cases e2
  · go_wp2
    go_ret
    exact ⟨ret_bool (by rw [HS.out]; rfl), HBW.out m2⟩
  have k1 : (W.drewN m2).cell? ⟨b, 2, none⟩ = some (.slice D x.learned.length d) := (cell_of_block HB0.out 2).1
  have l1 : (W.drewN m2).cell? ⟨b + 1, 2, none⟩ = some (.slice D2 y.learned.length d2) := (cell_of_block HB1.out 2).1
  go_wp2_with fail
  clear k1 l1
  refine (C3.out m2).mono ?_
  rintro e wx ⟨rfl, n3, rfl⟩
  rw [World.drewN_drewN]
  generalize m2 + n3 = m3 at *
  cases e3
  · go_wp2
    go_ret
    exact ⟨ret_bool (by rw [HS.out]; rfl), HBW.out m3⟩
  have k1 : (W.drewN m3).cell? ⟨b, 3, none⟩ = some (.int .i64 x.code) := (cell_of_block HB0.out 3).1
  have l1 : (W.drewN m3).cell? ⟨b + 1, 3, none⟩ = some (.int .i64 y.code) := (cell_of_block HB1.out 3).1
  go_wp2
  go_ret
  exact ⟨ret_bool (by rw [HS.out]; rfl), HBW.out m3⟩
end Go.Proofs.Ytbljfhmcebgdaaa

/-! Searches and formulas are compared: spec.CnfSame, spec.SatSame. -/
namespace Go.Proofs.Ytbljfhmcebgdaaa
open Go Go.RowKit

set_option maxHeartbeats 400000 in
theorem l4Ints_any (A B : Option Addr) (c d : Nat) (xs ys : List Int) (F G : Nat → Prop) (w : World) (h : Lay.int.Sl w F A xs) (h' : Lay.int.Sl w G B ys) (hn : xs.length ≤ 1048576) (hn' : ys.length ≤ 1048576) :
    Calls Try.prog 59 #[.slice A xs.length c, .slice B ys.length d] w fun e w' => e = .returned (.bool (decide (xs = ys))) ∧ ∃ n, w' = w.drewN n := by
  by_cases hl : xs.length = ys.length
  · have hne : (((xs.length : Int) != (ys.length : Int))) = false := by simp [hl]
    have HL := Lib.hid hl
    clear hl
    go_enter Try.func59, Try.ntmps59
    go_wp2
    clear hne
    go_loopw [5] (fun i wr => ∃ k m : Nat, k ≤ xs.length ∧ i = .int .i64 k ∧ wr = w.drewN m ∧ xs.take k = ys.take k) (fun i _ => xs.length - (intOf i).toNat)
    case atStart => exact ⟨0, 0, Nat.zero_le _, rfl, rfl, rfl⟩
    case round =>
      obtain ⟨k, m, hk, rfl, rfl, ht⟩ := hrel
      have HT := Lib.hid ht
      clear ht
      by_cases hlt : k < xs.length
      · have hlt' : k < ys.length := by have := HL.out; omega
        obtain ⟨ad, rfl, hf, hc⟩ := h.at_int hlt
        obtain ⟨ad', rfl, hf', hc'⟩ := h'.at_int hlt'
        have hk0 : (0 : Int) ≤ k := by omega
        have hk1 : (k : Int) < xs.length := by omega
        have hk2 : (k : Int) < ys.length := by omega
        clear h h' hf hf'
        by_cases hxy : xs[k] = ys[k]
        · have hb : (xs[k] != ys[k]) = false := by simp [hxy]
          have HX := Lib.hid hxy
          clear hxy
          go_wp2
          go_quiet (fail)
          go_wp2
          go_roundw
          case rel => exact ⟨k + 1, _, by omega, by go_num, rfl, take_eq_step hlt hlt' HT.out HX.out⟩
          case measure => simp [intOf]; omega
        · have hb : (xs[k] != ys[k]) = true := by simp [hxy]
          go_wp2
          go_quiet (fail)
          go_wp2
          go_ret
          exact ⟨ret_bool (by simp; rintro rfl; exact hxy rfl), m + nq, by rw [World.drewN_drewN]⟩
      · have : k = xs.length := by omega
        subst this
        go_wp2
        go_ret
        exact ⟨ret_bool (by have := HL.out; have := HT.out; simp [eq_of_take HL.out HT.out]), _, rfl⟩
  · have hne : (((xs.length : Int) != (ys.length : Int))) = true := by simp; omega
    go_enter Try.func59, Try.ntmps59
    go_wp2
    go_ret
    exact ⟨ret_bool (by simp; rintro rfl; exact hl rfl), 0, rfl⟩

set_option maxRecDepth 100000 in
set_option maxHeartbeats 2000000 in
theorem cnfSame_any (A B : Option Addr) (c d : Nat) (m m' : Int) (xs ys : List (List Int)) (w : World) (h : Lay.int.slice.Rd w A xs) (h' : Lay.int.slice.Rd w B ys) (hn : xs.length ≤ 1048576) (hn' : ys.length ≤ 1048576) (hx : ∀ l ∈ xs, l.length ≤ 1048576) (hy : ∀ l ∈ ys, l.length ≤ 1048576) :
    Calls Try.prog 60 #[.agg #[.int .i64 m, .slice A xs.length c], .agg #[.int .i64 m', .slice B ys.length d]] w (RetB w (decide (m = m') && decide (xs = ys))) := by
  obtain ⟨hw, hB0, hB1, hWS⟩ := two_boxes w (.cells #[.int .i64 m, .slice A xs.length c] 25) (.cells #[.int .i64 m', .slice B ys.length d] 25)
  obtain ⟨W, hW⟩ : ∃ W, W = (w.alloc (.cells #[.int .i64 m, .slice A xs.length c] 25)).alloc (.cells #[.int .i64 m', .slice B ys.length d] 25) := ⟨_, rfl⟩
  have k0 := (cell_of_block hB0 0).1
  have k1 := (cell_of_block hB0 1).1
  have l0 := (cell_of_block hB1 0).1
  have l1 := (cell_of_block hB1 1).1
  simp at k0 k1 l0 l1
  have HW := Lib.hid hW
  have h := h.up hw
  have h' := h'.up hw
  rw [← hW] at hw hB0 hB1 hWS h h'
  have HB0 := Lib.hid hB0
  have HB1 := Lib.hid hB1
  have HBW := Lib.hid hw
  clear hw hB0 hB1 hW hWS
  by_cases hm : m = m'
  · subst hm
    have hmm : (m != m) = false := by simp
    by_cases hl : xs.length = ys.length
    · have hne : (((xs.length : Int) != (ys.length : Int))) = false := by simp [hl]
      have HL := Lib.hid hl
      clear hl
      go_enter Try.func60, Try.ntmps60
      go_wp2
      clear hne k0 k1 l0 l1
      rw [← HW.out]
      obtain ⟨b, hbe⟩ : ∃ b, b = w.heap.size := ⟨_, rfl⟩
      rw [← hbe] at HB0 HB1 ⊢
      clear hbe HW
      go_loopw [5] (fun i wr => ∃ k : Nat, k ≤ xs.length ∧ i = .int .i64 k ∧ Below W.heap.size W wr ∧ Hid (xs.take k = ys.take k)) (fun i _ => xs.length - (intOf i).toNat)
      case atStart => exact ⟨0, Nat.zero_le _, rfl, Below.refl _ _, Lib.hid rfl⟩
      case round =>
        obtain ⟨k, hk, rfl, hbr, HT⟩ := hrel
        have k1 : wr.cell? ⟨b, 1, none⟩ = some (.slice A xs.length c) := (cell_of_block ((hbr.block _ (lt_of_block HB0.out)).trans HB0.out) 1).1
        have l1 : wr.cell? ⟨b + 1, 1, none⟩ = some (.slice B ys.length d) := (cell_of_block ((hbr.block _ (lt_of_block HB1.out)).trans HB1.out) 1).1
        by_cases hlt : k < xs.length
        · have hlt' : k < ys.length := by have := HL.out; omega
          obtain ⟨ad, A1, c1, rfl, _, hc, _, hs⟩ := (h.up hbr).at_slice hlt
          obtain ⟨ad', A2, c2, rfl, _, hc', _, hs'⟩ := (h'.up hbr).at_slice hlt'
          have hk0 : (0 : Int) ≤ k := by omega
          have hk1 : (k : Int) < xs.length := by omega
          have hk2 : (k : Int) < ys.length := by omega
          have HU := Lib.hid (hx _ (List.getElem_mem hlt))
          have HV := Lib.hid (hy _ (List.getElem_mem hlt'))
          have HSX : Hid (xs[k] = ys[k] → xs.take (k + 1) = ys.take (k + 1)) := Lib.hid (take_stepL hlt hlt' HT.out)
          have HSN : Hid (xs[k] ≠ ys[k] → xs ≠ ys) := Lib.hid (fun hn e => hn (by subst e; rfl))
          generalize xs[k] = u at *
          generalize ys[k] = v at *
          have HS1 := Lib.hid hs
          have HS2 := Lib.hid hs'
          have kk0 := Later.cell k1
          have kk1 := Later.cell l1
          have kk2 := Later.cell hc
          have kk3 := Later.cell hc'
          go_wp2
          clear k1 l1 hc hc' hs hs'
          refine wp_region_rel [[], [(0, 27)], [], [(1, 28), (2, 29)], [(3, 30)], [], [(5, 32)], [], [(6, 33), (7, 34)], [(8, 35)], [(4, 31), (9, 36)], [(10, 37)]]
            (fun y y' => Below y.heap.size y y')
            (fun _ yy => Below wr.heap.size wr yy)
            [fun vs9 _ => vs9 0 = (.pointer (some ⟨b, 1, none⟩)),
    fun vs9 _ => vs9 1 = (.slice (some ad) xs.length c),
    fun vs9 _ => vs9 2 = (.int .i64 (k : Int)),
    fun vs9 _ => vs9 3 = (.pointer (some (ad.add k))),
    fun vs9 _ => vs9 4 = (.slice A1 u.length c1),
    fun vs9 _ => vs9 5 = (.pointer (some ⟨b + 1, 1, none⟩)),
    fun vs9 _ => vs9 6 = (.slice (some ad') ys.length d),
    fun vs9 _ => vs9 7 = (.int .i64 (k : Int)),
    fun vs9 _ => vs9 8 = (.pointer (some (ad'.add k))),
    fun vs9 _ => vs9 9 = (.slice A2 v.length c2),
    fun vs9 _ => vs9 10 = (.bool (decide (u = v))),
    fun vs9 _ => vs9 11 = (.bool (!decide (u = v)))]
            [(0, 27), (1, 28), (2, 29), (3, 30), (4, 31), (5, 32), (6, 33), (7, 34), (8, 35), (9, 36), (10, 37), (11, 38)] (by kernel_rfl) (by kernel_rfl) (by kernel_rfl) (by kernel_rfl)
            (fun _ => Below.refl _ _)
            ⟨.inr (fun _ _ _ h _ => h),
    .inr (fun _ _ _ h _ => h),
    .inr (fun _ _ _ h _ => h),
    .inr (fun _ _ _ h _ => h),
    .inr (fun _ _ _ h _ => h),
    .inr (fun _ _ _ h _ => h),
    .inr (fun _ _ _ h _ => h),
    .inr (fun _ _ _ h _ => h),
    .inr (fun _ _ _ h _ => h),
    .inr (fun _ _ _ h _ => h),
    .inr (fun _ _ _ h _ => h),
    .inr (fun _ _ _ h _ => h), trivial⟩ ⟨fun vs vs' x h _ hv => (by dsimp only at hv ⊢; first | (rw [← h]; exact hv) | exact hv),
    fun vs vs' x h _ hv => (by dsimp only at hv ⊢; first | (rw [← h]; exact hv) | exact hv),
    fun vs vs' x h _ hv => (by dsimp only at hv ⊢; first | (rw [← h]; exact hv) | exact hv),
    fun vs vs' x h _ hv => (by dsimp only at hv ⊢; first | (rw [← h]; exact hv) | exact hv),
    fun vs vs' x h _ hv => (by dsimp only at hv ⊢; first | (rw [← h]; exact hv) | exact hv),
    fun vs vs' x h _ hv => (by dsimp only at hv ⊢; first | (rw [← h]; exact hv) | exact hv),
    fun vs vs' x h _ hv => (by dsimp only at hv ⊢; first | (rw [← h]; exact hv) | exact hv),
    fun vs vs' x h _ hv => (by dsimp only at hv ⊢; first | (rw [← h]; exact hv) | exact hv),
    fun vs vs' x h _ hv => (by dsimp only at hv ⊢; first | (rw [← h]; exact hv) | exact hv),
    fun vs vs' x h _ hv => (by dsimp only at hv ⊢; first | (rw [← h]; exact hv) | exact hv),
    fun vs vs' x h _ hv => (by dsimp only at hv ⊢; first | (rw [← h]; exact hv) | exact hv),
    fun vs vs' x h _ hv => (by dsimp only at hv ⊢; first | (rw [← h]; exact hv) | exact hv), trivial⟩ (below_drewN (Below.refl _ _) 1) ⟨?_, ?_, ?_, ?_, ?_, ?_, ?_, ?_, ?_, ?_, ?_, ?_, trivial⟩ ?_
          · intro vals xw n hn hI hF
            dsimp only [owes, bare]
            simp only [putsD, Act.put, List.setIfInBounds_toArray, List.set_cons_zero, List.set_cons_succ]
            go_wp2
            exact ⟨rfl, rfl, Below.refl _ _, hI⟩
          · intro vals xw n hn hI hF
            simp only [saysD, List.getD_cons_zero, List.getD_cons_succ, and_true] at hF
            have e27 := hF
            dsimp only [owes, bare]
            simp only [putsD, Act.put, List.setIfInBounds_toArray, List.set_cons_zero, List.set_cons_succ]
            simp only [e27]
            have c90 : xw.cell? _ = _ := kk0 ⟨xw, hI⟩
            go_wp2
            exact ⟨rfl, rfl, Below.refl _ _, hI⟩
          · intro vals xw n hn hI hF
            dsimp only [owes, bare]
            simp only [putsD, Act.put, List.setIfInBounds_toArray, List.set_cons_zero, List.set_cons_succ]
            go_wp2
            exact ⟨rfl, rfl, Below.refl _ _, hI⟩
          · intro vals xw n hn hI hF
            simp only [saysD, List.getD_cons_zero, List.getD_cons_succ, and_true] at hF
            obtain ⟨e28, e29⟩ := hF
            dsimp only [owes, bare]
            simp only [putsD, Act.put, List.setIfInBounds_toArray, List.set_cons_zero, List.set_cons_succ]
            simp only [e28, e29]
            go_wp2
            exact ⟨rfl, rfl, Below.refl _ _, hI⟩
          · intro vals xw n hn hI hF
            simp only [saysD, List.getD_cons_zero, List.getD_cons_succ, and_true] at hF
            have e30 := hF
            dsimp only [owes, bare]
            simp only [putsD, Act.put, List.setIfInBounds_toArray, List.set_cons_zero, List.set_cons_succ]
            simp only [e30]
            have c90 : xw.cell? _ = _ := kk2 ⟨xw, hI⟩
            go_wp2
            exact ⟨rfl, rfl, Below.refl _ _, hI⟩
          · intro vals xw n hn hI hF
            dsimp only [owes, bare]
            simp only [putsD, Act.put, List.setIfInBounds_toArray, List.set_cons_zero, List.set_cons_succ]
            go_wp2
            exact ⟨rfl, rfl, Below.refl _ _, hI⟩
          · intro vals xw n hn hI hF
            simp only [saysD, List.getD_cons_zero, List.getD_cons_succ, and_true] at hF
            have e32 := hF
            dsimp only [owes, bare]
            simp only [putsD, Act.put, List.setIfInBounds_toArray, List.set_cons_zero, List.set_cons_succ]
            simp only [e32]
            have c90 : xw.cell? _ = _ := kk1 ⟨xw, hI⟩
            go_wp2
            exact ⟨rfl, rfl, Below.refl _ _, hI⟩
          · intro vals xw n hn hI hF
            dsimp only [owes, bare]
            simp only [putsD, Act.put, List.setIfInBounds_toArray, List.set_cons_zero, List.set_cons_succ]
            go_wp2
            exact ⟨rfl, rfl, Below.refl _ _, hI⟩
          · intro vals xw n hn hI hF
            simp only [saysD, List.getD_cons_zero, List.getD_cons_succ, and_true] at hF
            obtain ⟨e33, e34⟩ := hF
            dsimp only [owes, bare]
            simp only [putsD, Act.put, List.setIfInBounds_toArray, List.set_cons_zero, List.set_cons_succ]
            simp only [e33, e34]
            go_wp2
            exact ⟨rfl, rfl, Below.refl _ _, hI⟩
          · intro vals xw n hn hI hF
            simp only [saysD, List.getD_cons_zero, List.getD_cons_succ, and_true] at hF
            have e35 := hF
            dsimp only [owes, bare]
            simp only [putsD, Act.put, List.setIfInBounds_toArray, List.set_cons_zero, List.set_cons_succ]
            simp only [e35]
            have c90 : xw.cell? _ = _ := kk3 ⟨xw, hI⟩
            go_wp2
            exact ⟨rfl, rfl, Below.refl _ _, hI⟩
          · intro vals xw n hn hI hF
            simp only [saysD, List.getD_cons_zero, List.getD_cons_succ, and_true] at hF
            obtain ⟨e31, e36⟩ := hF
            dsimp only [owes, bare]
            simp only [putsD, Act.put, List.setIfInBounds_toArray, List.set_cons_zero, List.set_cons_succ]
            simp only [e31, e36]
            have HCA := Lib.hid (l4Ints_any A1 A2 c1 c2 u v _ _ xw (Lay.Sl.up HS1.out hI) (Lay.Sl.up HS2.out hI) HU.out HV.out)
            go_wp2_with fail
            refine HCA.out.mono ?_
            rintro e wx ⟨rfl, n9, rfl⟩
            have hb9 : Below xw.heap.size xw (xw.drewN n9) := below_drewN (Below.refl _ _) _
            go_wp2
            exact ⟨rfl, rfl, hb9, bthen hI hb9⟩
          · intro vals xw n hn hI hF
            simp only [saysD, List.getD_cons_zero, List.getD_cons_succ, and_true] at hF
            have e37 := hF
            dsimp only [owes, bare]
            simp only [putsD, Act.put, List.setIfInBounds_toArray, List.set_cons_zero, List.set_cons_succ]
            simp only [e37]
            go_wp2
            exact ⟨rfl, rfl, Below.refl _ _, hI⟩
          · intro vals xw n hn hI hF
            rw [show List.range _ = [0, 1, 2, 3, 4, 5, 6, 7, 8, 9, 10, 11] from rfl] at hF
            simp only [says, List.getD_cons_zero, List.getD_cons_succ, and_true] at hF
            have e38 := hF.2.2.2.2.2.2.2.2.2.2.2
            simp only [putsD, Act.put, List.setIfInBounds_toArray, List.set_cons_zero, List.set_cons_succ]
            simp only [e38]
            clear hF e38 kk0 kk1 kk2 kk3
            have hb9 := bthen hbr hI
            by_cases huv : u = v
            · rw [decide_eq_true huv]
              have HE := Lib.hid (HSX.out huv)
              clear huv HSX HSN
              go_wp2
              go_roundw
              case rel => exact ⟨k + 1, by omega, by go_num, hb9, HE⟩
              case measure => simp [intOf]; omega
            · rw [decide_eq_false huv]
              have HE := Lib.hid (HSN.out huv)
              clear huv HSX HSN
              go_wp2
              go_ret
              exact ⟨ret_bool (by simp [HE.out]), bthen HBW.out hb9⟩
        · have : k = xs.length := by omega
          subst this
          go_wp2
          go_ret
          exact ⟨ret_bool (by simp [eq_takeL HL.out HT.out]), bthen HBW.out hbr⟩
    · have hne : (((xs.length : Int) != (ys.length : Int))) = true := by simp; omega
      go_enter Try.func60, Try.ntmps60
      go_wp2
      clear k0 k1 l0 l1
      rw [← HW.out]
      go_ret
      exact ⟨ret_bool (by have : xs ≠ ys := fun e => hl (by rw [e]); simp [this]), HBW.out⟩
  · have hmm : (m != m') = true := by simpa using hm
    go_enter Try.func60, Try.ntmps60
    go_wp2
    clear k0 k1 l0 l1
    rw [← HW.out]
    go_ret
    exact ⟨ret_bool (by simp [hm]), HBW.out⟩
theorem sameS_turn (x y : S) : sameS x y = ((x.code == y.code) && (decide (x.put = y.put) && (decide (x.why = y.why) && decide (x.learned = y.learned)))) := by
  unfold sameS
  cases (x.code == y.code) <;> cases decide (x.put = y.put) <;> cases decide (x.why = y.why) <;> cases decide (x.learned = y.learned) <;> rfl
theorem four_boxes (w : World) (o1 o2 o3 o4 : Obj) : Below w.heap.size w ((((w.alloc o1).alloc o2).alloc o3).alloc o4) ∧ ((((w.alloc o1).alloc o2).alloc o3).alloc o4).heap[w.heap.size]? = some o1 ∧ ((((w.alloc o1).alloc o2).alloc o3).alloc o4).heap[w.heap.size + 1]? = some o2 ∧ ((((w.alloc o1).alloc o2).alloc o3).alloc o4).heap[w.heap.size + 1 + 1]? = some o3 ∧ ((((w.alloc o1).alloc o2).alloc o3).alloc o4).heap[w.heap.size + 1 + 1 + 1]? = some o4 := by
  obtain ⟨a1, a2, a3, a4⟩ := two_boxes w o1 o2
  obtain ⟨b1, b2, b3, b4⟩ := two_boxes ((w.alloc o1).alloc o2) o3 o4
  rw [a4] at b2 b3
  exact ⟨bthen a1 b1, (b1.block _ (lt_of_block a2)).trans a2, (b1.block _ (lt_of_block a3)).trans a3, b2, b3⟩
set_option maxRecDepth 100000 in
set_option maxHeartbeats 4000000 in
theorem specSatSame_any (x y : S) (P Q D P2 Q2 D2 : Option Addr) (p q d p2 q2 d2 : Nat) (w : World) (h1 : Lay.int.Rd w P x.put) (h2 : Lay.int.Rd w Q x.why) (h3 : Lay.int.slice.Rd w D x.learned) (g1 : Lay.int.Rd w P2 y.put) (g2 : Lay.int.Rd w Q2 y.why) (g3 : Lay.int.slice.Rd w D2 y.learned) (sx : smS x) (sy : smS y) :
    Calls Try.prog 25 #[.agg #[.slice P x.put.length p, .slice Q x.why.length q, .slice D x.learned.length d, .int .i64 x.code], .agg #[.slice P2 y.put.length p2, .slice Q2 y.why.length q2, .slice D2 y.learned.length d2, .int .i64 y.code]] w (RetB w (sameS x y)) := by
  obtain ⟨hw, hB0, hB1, hB2, hB3⟩ := four_boxes w (.cells #[.slice P x.put.length p, .slice Q x.why.length q, .slice D x.learned.length d, .int .i64 x.code] 35) (.cells #[.slice P2 y.put.length p2, .slice Q2 y.why.length q2, .slice D2 y.learned.length d2, .int .i64 y.code] 35) (.cells #[.int .i64 0, .slice D x.learned.length d] 25) (.cells #[.int .i64 0, .slice D2 y.learned.length d2] 25)
  obtain ⟨W, hW⟩ : ∃ W, W = (((w.alloc (.cells #[.slice P x.put.length p, .slice Q x.why.length q, .slice D x.learned.length d, .int .i64 x.code] 35)).alloc (.cells #[.slice P2 y.put.length p2, .slice Q2 y.why.length q2, .slice D2 y.learned.length d2, .int .i64 y.code] 35)).alloc (.cells #[.int .i64 0, .slice D x.learned.length d] 25)).alloc (.cells #[.int .i64 0, .slice D2 y.learned.length d2] 25) := ⟨_, rfl⟩
  have HW := Lib.hid hW
  rw [← hW] at hw hB0 hB1 hB2 hB3
  obtain ⟨⟨a1, _⟩, ⟨a2, _⟩, ⟨a3, a3', _⟩, _⟩ := sx
  obtain ⟨⟨b1, _⟩, ⟨b2, _⟩, ⟨b3, b3', _⟩, _⟩ := sy
  have C1 := Lib.hid fun n => l4Ints_any P P2 p p2 x.put y.put _ _ (W.drewN n) ((h1.up hw).drewN n) ((g1.up hw).drewN n) a1 b1
  have C2 := Lib.hid fun n => l4Ints_any Q Q2 q q2 x.why y.why _ _ (W.drewN n) ((h2.up hw).drewN n) ((g2.up hw).drewN n) a2 b2
  have C3 := Lib.hid fun n => cnfSame_any D D2 d d2 0 0 x.learned y.learned (W.drewN n) ((h3.up hw).drewN n) ((g3.up hw).drewN n) a3 b3 (fun l hl => (a3' l hl).1) (fun l hl => (b3' l hl).1)
  have HS := Lib.hid (sameS_turn x y)
  have HBW := Lib.hid fun n => (below_drewN hw n : Below w.heap.size w (W.drewN n))
  have HB0 := Lib.hid hB0
  have HB1 := Lib.hid hB1
  have HB2 := Lib.hid hB2
  have HB3 := Lib.hid hB3
  have ht : decide ((0 : Int) = 0) = true := by decide
  rw [ht] at C3
  generalize decide (x.put = y.put) = e1 at *
  generalize decide (x.why = y.why) = e2 at *
  generalize decide (x.learned = y.learned) = e3 at *
  generalize hcc : (x.code == y.code) = e4 at *
  clear h1 h2 h3 g1 g2 g3 hw hB0 hB1 hB2 hB3 hW a1 a2 a3 a3' b1 b2 b3 b3' ht
  go_enter Try.func25, Try.ntmps25
  cases e4
  · go_wp2
    rw [← HW.out]
    go_ret
    exact ⟨ret_bool (by rw [HS.out]; rfl), HBW.out 0⟩
  go_wp2_with fail
  rw [← HW.out]
  obtain ⟨b, hbe⟩ : ∃ b, b = w.heap.size := ⟨_, rfl⟩
  rw [← hbe] at HB0 HB1 HB2 HB3 ⊢
  clear hbe HW
  refine (C1.out 0).mono ?_
  rintro e wx ⟨rfl, n1, rfl⟩
  rw [World.drewN_drewN]
  generalize 0 + n1 = m1 at *
  cases e1
  · go_wp2
    go_ret
    exact ⟨ret_bool (by rw [HS.out]; rfl), HBW.out m1⟩
  have k1 : (W.drewN m1).cell? ⟨b, 1, none⟩ = some (.slice Q x.why.length q) := (cell_of_block HB0.out 1).1
  have l1 : (W.drewN m1).cell? ⟨b + 1, 1, none⟩ = some (.slice Q2 y.why.length q2) := (cell_of_block HB1.out 1).1
  go_wp2_with fail
  clear k1 l1
  refine (C2.out m1).mono ?_
  rintro e wx ⟨rfl, n2, rfl⟩
  rw [World.drewN_drewN]
  generalize m1 + n2 = m2 at *
  cases e2
  · go_wp2
    go_ret
    exact ⟨ret_bool (by rw [HS.out]; rfl), HBW.out m2⟩
  have k0 : (W.drewN m2).cell? ⟨b + 1 + 1, 0, none⟩ = some (.int .i64 0) := (cell_of_block HB2.out 0).1
  have k1 : (W.drewN m2).cell? ⟨b + 1 + 1, 1, none⟩ = some (.slice D x.learned.length d) := (cell_of_block HB2.out 1).1
  have l0 : (W.drewN m2).cell? ⟨b + 1 + 1 + 1, 0, none⟩ = some (.int .i64 0) := (cell_of_block HB3.out 0).1
  have l1 : (W.drewN m2).cell? ⟨b + 1 + 1 + 1, 1, none⟩ = some (.slice D2 y.learned.length d2) := (cell_of_block HB3.out 1).1
  go_wp2_with fail
  clear k1 l1 k0 l0
  refine (C3.out m2).mono ?_
  rintro e wx ⟨rfl, hb9⟩
  go_wp2
  go_ret
  exact ⟨ret_bool (by rw [HS.out]; simp), bthen (HBW.out m2) hb9⟩
end Go.Proofs.Ytbljfhmcebgdaaa
