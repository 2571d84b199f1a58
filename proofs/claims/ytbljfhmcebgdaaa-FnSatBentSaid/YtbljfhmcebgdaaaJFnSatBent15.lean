/- Draws of clauses: l4Draw, l5Clause. Draws of formulas: l4Cnf, l4Bent, DrawUnitAll. Draws of formulas: l4Bent. DrawUnitAll. -/
import Derived.Test.YtbljfhmcebgdaaaJFnSatBent3
import Derived.Test.YtbljfhmcebgdaaaJFnSatBent4
import Derived.Test.YtbljfhmcebgdaaaJFnSatBent5
import Derived.Test.YtbljfhmcebgdaaaJFnSatBent6
/-! Draws of clauses: l4Draw, l5Clause. -/
namespace Go.Proofs.Ytbljfhmcebgdaaa
open Go Go.RowKit

theorem OwnI.gr {S : Nat → Prop} {w w' : World} {base : Nat} {v : Value} {xs : List Int} (h : OwnI w base v xs) (hg : Gr S w w') (hr : ∀ b, S b → b < base) : OwnI w' base v xs :=
  own_of_heap h fun g hg' => hg.block g (h.lt g hg').2 (fun e => by have := hr g e; have := (h.lt g hg').1; omega)
theorem OwnI.ab {S : Nat → Prop} {w : World} {base c : Nat} {A : Option Addr} {xs : List Int} (h : OwnI w base (.slice A xs.length c) xs) (hr : ∀ b, S b → b < base) : Lay.int.Sl w (Ab S w) A xs := by
  obtain ⟨A', c', e, h1, h2⟩ := h.form
  injection e with e1 e2 e3
  subst e1
  exact h2.mono fun b hb => ⟨hb.2, fun e => by have := hr b e; have := hb.1; omega⟩
/-- A drawn row of integers, of the call's own. -/
def RetDI (r : Nat) (p N : Int) (ok : List Int → Prop) (w : World) (e : Ending) (w' : World) : Prop := ∃ A c xs, e = .returned (.slice A xs.length c) ∧ OwnI w' w.heap.size (.slice A xs.length c) xs ∧ ok xs ∧ Drawn r p N w w'
theorem own_lit0I (w : World) : OwnI (w.alloc (.cells #[] 3)) w.heap.size (.slice (some ⟨w.heap.size, 0, none⟩) 0 0) [] := own_lit0 rfl

set_option maxRecDepth 100000 in
set_option maxHeartbeats 1000000 in
theorem l4Draw_any (r : Nat) (p : Int) (many : Nat) (long : Int) (w : World) (h : Rdr w r p) (hm : many ≤ 1000) (p0 : 0 ≤ p) (p1 : p ≤ 900000000) (l0 : -1000 ≤ long) (l1 : long ≤ 1000) :
    Calls Try.prog 73 #[.pointer (some ⟨r, 0, none⟩), .int .i64 many, .int .i64 long] w (RetDI r p (2 * many) (fun xs => xs.length ≤ many ∧ ∀ x ∈ xs, x ≠ 0 ∧ -(many : Int) ≤ x ∧ x ≤ many) w) := by
  have hrl := h.lt
  go_enter Try.func73, Try.ntmps73
  go_wp2
  go_loopw [7, 8] (fun s i wr => ∃ (j : Nat) (ns : List Int) (A : Option Addr) (c : Nat) (q : Int), 1 ≤ j ∧ j ≤ many + 1 ∧ i = .int .i64 j ∧ s = .slice A ns.length c ∧ ns.length + 1 ≤ j ∧ (∀ x ∈ ns, x ≠ 0 ∧ -(many : Int) ≤ x ∧ x ≤ many) ∧
    OwnI wr w.heap.size (.slice A ns.length c) ns ∧ p ≤ q ∧ q ≤ p + 2 * (j - 1) ∧ Rdr wr r q ∧ Gr (IsR r) w wr) (fun _ i _ => many + 1 - (intOf i).toNat)
  case atStart => exact ⟨1, [], _, 0, p, by omega, by omega, rfl, rfl, by simp, by simp, own_lit0I w, by omega, by omega, h.up ((Below.refl _ _).alloc (Nat.le_refl _) _), (Gr.refl _ _).up ((Below.refl _ _).alloc (Nat.le_refl _) _)⟩
  case round =>
    obtain ⟨j, ns, A, c, q, j0, j1, rfl, rfl, hnl, hrng, hown, q0, q1, hR, hg⟩ := hrel
    have HRNG := Lib.hid hrng
    clear hrng
    by_cases hlt : j ≤ many
    · have hlti : (j : Int) ≤ many := by omega
      go_wp2_with fail
      refine (pick_any r q many wr hR (by omega) (by omega) (by omega) (by omega)).mono ?_
      rintro e w1 ⟨k, rfl, k0, _, _, hR1, hg1⟩
      have hg1 := Gr.one (S := IsR r) hg1 rfl
      have hown1 := hown.gr hg1 (fun b e => by rw [e]; exact hrl)
      have hgg1 := hg.trans hg1
      clear hR hg hown hg1
      by_cases hk : k < long
      · go_wp2_with fail
        refine (pick_any r (q + 1) 2 w1 hR1 (by omega) (by omega) (by omega) (by omega)).mono ?_
        rintro e w2 ⟨k2, rfl, k20, k21, _, hR2, hg2⟩
        have hg2 := Gr.one (S := IsR r) hg2 rfl
        have hown2 := hown1.gr hg2 (fun b e => by rw [e]; exact hrl)
        have hgg2 := hgg1.trans hg2
        have hlo := hgg2.size
        clear hR1 hgg1 hown1 hg2 k21
        by_cases hz : k2 = 0
        · subst hz
          obtain ⟨ps, hps⟩ : ∃ ps, ps = ns ++ [(j : Int)] := ⟨_, rfl⟩
          have HPS := Lib.hid hps
          clear hps
          go_wp2_with (at_builtin; refine wpList_append_int (ys := ps) (by rfl) (.tmp 23) (.tmp 25) (by rfl) (by rfl) (by rfl) hown2 (by omega) hlo HPS.out ?_; intro A1 c1 w3 hown3 hg3 hbk3)
          have hR3 := hR2.own hg3 (fun g e => by have := (hown2.lt g e).1; omega)
          have hgg3 := hgg2.own hg3 (fun g e => (hown2.lt g e).1)
          clear hbk3 hg3 hown2
          go_wp2
          go_roundw
          case rel => exact ⟨j + 1, ps, A1, c1, q + 1 + 1, by omega, by omega, by go_num, rfl, by rw [HPS.out]; simp; omega, by
              rw [HPS.out]; intro x hx
              rcases List.mem_append.1 hx with hx | hx
              · exact HRNG.out x hx
              · rw [List.mem_singleton.1 hx]; omega, hown3, by omega, by omega, hR3, hgg3⟩
          case measure => simp [intOf]; omega
        · have hz2 : (k2 == 0) = false := by simpa using hz
          obtain ⟨ps, hps⟩ : ∃ ps, ps = ns ++ [-(j : Int)] := ⟨_, rfl⟩
          have HPS := Lib.hid hps
          have e1 : IntKind.i64.wrap (-(j : Int)) = -(j : Int) := IntWalk.i64_in _ (by omega)
          clear hps hz
          go_wp2_with (at_builtin; refine wpList_append_int (ys := ps) (by rfl) (.tmp 27) (.tmp 30) (by rfl) (by rfl) (by rfl) hown2 (by omega) hlo HPS.out ?_; intro A1 c1 w3 hown3 hg3 hbk3)
          have hR3 := hR2.own hg3 (fun g e => by have := (hown2.lt g e).1; omega)
          have hgg3 := hgg2.own hg3 (fun g e => (hown2.lt g e).1)
          clear hbk3 hg3 hown2
          go_wp2
          go_roundw
          case rel => exact ⟨j + 1, ps, A1, c1, q + 1 + 1, by omega, by omega, by go_num, rfl, by rw [HPS.out]; simp; omega, by
              rw [HPS.out]; intro x hx
              rcases List.mem_append.1 hx with hx | hx
              · exact HRNG.out x hx
              · rw [List.mem_singleton.1 hx]; omega, hown3, by omega, by omega, hR3, hgg3⟩
          case measure => simp [intOf]; omega
      · go_wp2
        go_roundw
        case rel => exact ⟨j + 1, ns, A, c, q + 1, by omega, by omega, by go_num, rfl, by omega, HRNG.out, hown1, by omega, by omega, hR1, hgg1⟩
        case measure => simp [intOf]; omega
    · have hje : j = many + 1 := by omega
      subst hje
      go_wp2
      go_ret
      exact ⟨A, c, ns, rfl, hown, ⟨by omega, HRNG.out⟩, q, q0, by omega, hR, hg⟩

end Go.Proofs.Ytbljfhmcebgdaaa

/-! Draws of formulas: l4Cnf, l4Bent, DrawUnitAll. -/
namespace Go.Proofs.Ytbljfhmcebgdaaa
open Go Go.RowKit

/-- Small clauses. -/
def smallL (m : Nat) (xs : List (List Int)) : Prop := xs.length ≤ m ∧ ∀ cl ∈ xs, cl.length ≤ 100 ∧ ∀ x ∈ cl, okInt x
theorem smallL.snoc {m : Nat} {xs : List (List Int)} {cl : List Int} (h : smallL m xs) (hl : cl.length ≤ 100) (hx : ∀ x ∈ cl, okInt x) : smallL (m + 1) (xs ++ [cl]) :=
  ⟨by simp; exact h.1, fun c hc => by
    rcases List.mem_append.1 hc with hc | hc
    · exact h.2 c hc
    · rw [List.mem_singleton.1 hc]; exact ⟨hl, hx⟩⟩
theorem smallL.mono {m n : Nat} {xs : List (List Int)} (h : smallL m xs) (hn : m ≤ n) : smallL n xs := ⟨Nat.le_trans h.1 hn, h.2⟩
theorem smallL.sm {m : Nat} {xs : List (List Int)} (h : smallL m xs) (hm : m ≤ 1000) : smRows xs := by
  refine ⟨by have := h.1; omega, fun l hl => ⟨by have := (h.2 l hl).1; omega, fun x hx => (h.2 l hl).2 x hx⟩, ?_⟩
  have key : ∀ ys : List (List Int), (∀ l ∈ ys, l.length ≤ 100) → nsum (ys.map List.length) ≤ ys.length * 100 := by
    intro ys
    induction ys with
    | nil => intro _; simp [nsum]
    | cons y ys ih =>
      intro hy
      have h1 := ih fun l hl => hy l (by simp [hl])
      have h2 := hy y (by simp)
      simp only [List.map_cons, nsum, List.length_cons]
      omega
  have := key xs fun l hl => (h.2 l hl).1
  have := h.1
  omega
/-- A drawn formula. -/
def RetDC (S0 : Nat → Prop) (r : Nat) (p N : Int) (ok : C → Prop) (w : World) (e : Ending) (w' : World) : Prop :=
  ∃ x A c, e = .returned (.agg #[.int .i64 (C.many x), .slice A (C.list x).length c]) ∧ x.list.length ≤ c ∧ Lay.int.slice.Sl w' (Ab S0 w') A x.list ∧ ok x ∧ Drawn r p N w w'
/-- An own row of integers as an element. -/
theorem own_elemS {S : Nat → Prop} {w w2 : World} {v : Value} {A : Option Addr} {c : Nat} {x : List Int} (ho : OwnI w2 w.heap.size (.slice A x.length c) x) (hS : ∀ b, S b → b < w.heap.size) (hv : ∀ g, v.ownBlock = some g → g < w.heap.size) :
    Lay.int.slice.R w2 (fun b => b < w2.heap.size ∧ v.ownBlock ≠ some b ∧ NotIn S w2 b) x [.slice A x.length c] :=
  ⟨A, c, rfl, ho.cap, ho.own.mono fun b hb => ⟨hb.2.1, fun e => by have := hv b e; have := hb.1; omega, fun e => by have := hS b e; have := hb.1; omega⟩⟩

set_option maxRecDepth 100000 in
set_option maxHeartbeats 4000000 in
theorem l4Cnf_any (S0 : Nat → Prop) (r : Nat) (p : Int) (w : World) (h : Rdr w r p) (hS0 : ∀ b, S0 b → b < w.heap.size) (hSr : S0 r) (p0 : 0 ≤ p) (p1 : p ≤ 700000000) :
    Calls Try.prog 38 #[.pointer (some ⟨r, 0, none⟩)] w (RetDC S0 r p 1000 (fun x => 1 ≤ x.many ∧ x.many ≤ 7 ∧ smallL 30 x.list) w) := by
  obtain ⟨i0, hi0, hz0, hz1, hz2⟩ := info_parts toIntSS_info
  have hrl := h.lt
  have hal0 : Below w.heap.size w (w.alloc (.cells #[.int .i64 0, .slice none 0 0] 25)) := (Below.refl _ _).alloc (Nat.le_refl _) _
  have hb2 : (w.alloc (.cells #[.int .i64 0, .slice none 0 0] 25)).heap[w.heap.size]? = some (.cells #[.int .i64 0, .slice none 0 0] 25 (0, 0)) := heap_alloc_new _ _
  have hsz0 : (w.alloc (.cells #[.int .i64 0, .slice none 0 0] 25)).heap.size = w.heap.size + 1 := by simp
  generalize hW0 : w.alloc (.cells #[.int .i64 0, .slice none 0 0] 25) = w0 at *
  have hR0 := h.up hal0
  have hg0 : Gr (IsR r) w w0 := .below hal0
  clear hal0 h
  go_enter Try.func38, Try.ntmps38
  go_wp2_with fail
  clear hW0
  refine (pick_any r p 7 w0 hR0 (by omega) (by omega) (by omega) (by omega)).mono ?_
  rintro e w1 ⟨k, rfl, k0, k1, _, hR1, hg1⟩
  have k1 := k1 (by omega)
  have hg1 := Gr.one (S := IsR r) hg1 rfl
  have hb2 := hg1.heap (by show ¬ _ = r; omega) hb2
  have hgg1 := hg0.trans hg1
  have hsz1 := hg1.size
  obtain ⟨m, hm⟩ : ∃ m : Nat, 1 + k = m := ⟨(1 + k).toNat, by omega⟩
  have HM := Lib.hid hm
  have hm1 : 1 ≤ m ∧ m ≤ 7 := by omega
  clear hR0 hg0 hg1
  go_wp2_with fail
  generalize hW2 : w1.alloc (.cells #[.int .i64 (m : Int), .slice none 0 0] 25) = w2 at *
  have hal : Below w1.heap.size w1 w2 := by rw [← hW2]; exact (Below.refl _ _).alloc (Nat.le_refl _) _
  have hb3 : w2.heap[w1.heap.size]? = some (.cells #[.int .i64 m, .slice none 0 0] 25 (0, 0)) := by rw [← hW2]; exact heap_alloc_new _ _
  have hb2 := (hal.block _ (lt_of_block hb2)).trans hb2
  have hR2 := hR1.up hal
  have hgg2 := hgg1.up hal
  have hsz2 : w2.heap.size = w1.heap.size + 1 := by rw [← hW2]; simp
  clear hal hR1 hgg1 hW2
  obtain ⟨b3, hb3e⟩ : ∃ b, b = w1.heap.size := ⟨_, rfl⟩
  obtain ⟨b2, hb2e⟩ : ∃ b, b = w.heap.size := ⟨_, rfl⟩
  have hal3 : Below w2.heap.size w2 (w2.alloc (.cells #[.int .i64 3, .int .i64 6, .int .i64 10, .int .i64 16, .int .i64 24, .int .i64 30, .int .i64 20] 3)) := (Below.refl _ _).alloc (Nat.le_refl _) _
  have hsl := lit_sl (S := IsR r) w2 [3, 6, 10, 16, 24, 30, 20] _ 3 rfl (by show ¬ _ = r; omega)
  have HN := Lib.hid (num_any r (p + 1) _ 7 _ _ (hR2.up hal3) hsl (by simp) (by simp) (by omega) (by omega))
  have hb2 := (hal3.block _ (lt_of_block hb2)).trans hb2
  have hb3 := (hal3.block _ (lt_of_block hb3)).trans hb3
  have hgg3 := hgg2.up hal3
  have hsz3 := hal3.size
  rw [← hb3e] at hb3 hsz2
  rw [← hb2e] at hb2 hsz0
  clear hsl hR2 hgg2 hal3 hm
  rw [← hb3e, ← hb2e]
  rw [hsz2] at HN
  have i2 : w.heap.size ≤ b2 := by omega
  have i3 : b2 < b3 := by omega
  have i4 : r < b2 := by omega
  clear hb2e hb3e hsz0 hsz1 hsz2 hsz3 hrl
  refine HN.out.mono ?_
  clear HN
  rintro e w4 ⟨n, hn, rfl, hR4, hg4⟩
  have hnb : 3 ≤ n ∧ n ≤ 30 := by simp at hn; omega
  have hb2 := hg4.heap (by show ¬ _ = r; omega) hb2
  have hb3 := hg4.heap (by show ¬ _ = r; omega) hb3
  have hgg4 := hgg3.trans hg4
  have hsz4 := hg4.size
  obtain ⟨n, rfl⟩ := Int.eq_ofNat_of_zero_le (show 0 ≤ n by omega)
  clear hn hgg3 hg4
  go_wp2_with fail
  refine (pick_any r (p + 1 + 1) 2 w4 hR4 (by omega) (by omega) (by omega) (by omega)).mono ?_
  rintro e w5 ⟨l, rfl, l0, l1, _, hR5, hg5⟩
  have l1 := l1 (by omega)
  have hg5 := Gr.one (S := IsR r) hg5 rfl
  have hb2 := hg5.heap (by show ¬ _ = r; omega) hb2
  have hb3 := hg5.heap (by show ¬ _ = r; omega) hb3
  have hgg5 := hgg4.trans hg5
  have hsz5 := hg5.size
  clear hgg4 hg5 hR4
  have HS : Hid (∃ S : Nat → Prop, (∀ b, S b ↔ S0 b ∨ b = b2 ∨ b = b3)) := Lib.hid ⟨fun b => S0 b ∨ b = b2 ∨ b = b3, fun _ => Iff.rfl⟩
  obtain ⟨S, hS⟩ := HS.out
  have HS := Lib.hid hS
  clear hS
  have hSlt : ∀ b, S b → b < b3 + 1 := fun b hb => by
    rcases (HS.out b).1 hb with h9 | h9 | h9
    · have := hS0 b h9; omega
    · omega
    · omega
  have hSr : ∀ b, IsR r b → S b := fun b hb => (HS.out b).2 (.inl (by rw [show b = r from hb]; exact hSr))
  have HS0 : Hid (∀ b, S0 b → S b) := Lib.hid fun b hb => (HS.out b).2 (.inl hb)
  have HSL := Lib.hid (And.intro hSlt hSr)
  have hb3lt := lt_of_block hb3
  clear hSlt hSr
  go_wp2
  go_loopw [6] (fun i wr => ∃ (j : Nat) (ns : List (List Int)) (A : Option Addr) (c : Nat) (q : Int), j ≤ n ∧ i = .int .i64 j ∧ smallL j ns ∧ wr.heap[b3]? = some (.cells #[.int .i64 m, .slice A ns.length c] 25 (0, 0)) ∧ wr.heap[b2]? = some (.cells #[.int .i64 0, .slice none 0 0] 25 (0, 0)) ∧
    OwnL Lay.int.slice (NotIn S) 26 wr (b3 + 1) (.slice A ns.length c) ns ∧ Rdr wr r q ∧ p ≤ q ∧ q ≤ p + 3 + 20 * j ∧ Gr (IsR r) w wr) (fun i _ => n - (intOf i).toNat)
  case atStart => exact ⟨0, [], none, 0, p + 1 + 1 + 1, Nat.zero_le _, rfl, ⟨Nat.zero_le _, by simp⟩, hb3, hb2, OwnL.nil _ _ _ _ _, hR5, by omega, by omega, hgg5⟩
  case round =>
    obtain ⟨j, ns, A, c, q, hj, rfl, hsm, hb3, hb2, hown, hR, q0, q1, hg⟩ := hrel
    have HB3 := Lib.hid hb3
    have HB2 := Lib.hid hb2
    have HSM := Lib.hid hsm
    have hnl : ns.length ≤ 100 := by have := hsm.1; omega
    have hlt3 := lt_of_block hb3
    clear hb3 hb2 hsm
    have c0 : wr.cell? ⟨b3, 0, none⟩ = some (.int .i64 m) := (cell_of_block HB3.out 0).1
    have c1 : wr.cell? ⟨b3, 1, none⟩ = some (.slice A ns.length c) := (cell_of_block HB3.out 1).1
    by_cases hlt : j < n
    · have hj1 : (j : Int) < n := by omega
      clear c1
      go_wp2_with fail
      clear c0
      refine (l4Draw_any r q m (2 + l) wr hR (by omega) (by omega) (by omega) (by omega) (by omega)).mono ?_
      rintro e w6 ⟨A6, c6, xs, rfl, ho6, ⟨hl6, hx6⟩, q6, q60, q61, hR6, hg6⟩
      have HX6 : Hid (∀ x ∈ xs, okInt x) := Lib.hid fun x hx => by have := hx6 x hx; unfold okInt; omega
      have HB3 := Lib.hid (hg6.heap (by show ¬ _ = r; omega) HB3.out)
      have HB2 := Lib.hid (hg6.heap (by show ¬ _ = r; omega) HB2.out)
      have hown6 := hown.gr (hg6.mono HSL.out.2) HSL.out.1
      have hel6 := own_elemS (S := S) (v := .slice A ns.length c) ho6 (fun b hb => by have := HSL.out.1 b hb; omega) (fun g hg => (hown.lt g hg).2)
      have HEL6 := Lib.hid hel6
      have hgg6 := hg.trans hg6
      have hs6 := hg6.size
      clear hx6 hown hR hg hg6 hel6 ho6
      by_cases hpos : 0 < xs.length
      · have hposi : (0 : Int) < xs.length := by omega
        obtain ⟨ps, hps⟩ : ∃ ps, ps = ns ++ [xs] := ⟨_, rfl⟩
        have HPS := Lib.hid hps
        clear hps
        have cc1 : w6.cell? ⟨b3, 1, none⟩ = some (.slice A ns.length c) := (cell_of_block HB3.out 1).1
        have hlo : b3 + 1 ≤ w6.heap.size := by have := lt_of_block HB3.out; omega
        go_wp2_with (at_builtin; refine wpList_append_row (L := Lay.int.slice) (Q := NotIn S) (ys := ps) (by rfl) (.tmp 37) (.tmp 39) (by rfl) Try.underlying23 hi0 hz0 hz1 hz2 (by rfl) (by decide) (by rfl) (by rfl) hown6 (Stay.notIn S) HEL6.out (fun _ h => h) (by simp [Value.oneCell']) (by omega) (by omega) hlo HPS.out ?_; intro A1 c1 w8 hown8 hg8 hbk8; have HB38 := Lib.hid ((hg8.block b3 (by omega) (fun e => by have := (hown6.lt _ e.symm).1; omega)).trans HB3.out); have v1 := (cell_of_block HB38.out 1).1; have f1 := (cell_of_block HB38.out 1).2; have v1 : w8.cell? ⟨b3, 1, none⟩ = some (.slice A ns.length c) := v1)
        have HB28 := Lib.hid ((hg8.block b2 (by omega) (fun e => by have := (hown6.lt _ e.symm).1; omega)).trans HB2.out)
        have hR8 := hR6.own hg8 (fun g e => by have := (hown6.lt g e).1; omega)
        have hgg8 := hgg6.own hg8 (fun g e => by have := (hown6.lt g e).1; omega)
        have hset : Gr S w8 (w8.setCell ⟨b3, 1, none⟩ (.slice A1 ps.length c1)) := (Gr.refl _ _).set _ _ _ (.inl ((HS.out b3).2 (.inr (.inr rfl))))
        have HB39 := Lib.hid (show (w8.setCell ⟨b3, 1, none⟩ (.slice A1 ps.length c1)).heap[b3]? = some (.cells #[.int .i64 m, .slice A1 ps.length c1] 25 (0, 0)) from heap_set_same w8 b3 1 (.slice A1 ps.length c1) _ _ HB38.out)
        have HB29 := Lib.hid ((Below.heap_setCell w8 ⟨b3, 1, none⟩ (.slice A1 ps.length c1) b2 (by show b2 ≠ b3; omega)).trans HB28.out)
        have hown9 := hown8.gr hset HSL.out.1
        have hR9 := hR8.set (g := b3) (o := 1) (u := .slice A1 ps.length c1) (by omega)
        have hgg9 := hgg8.set b3 1 (.slice A1 ps.length c1) (.inr (by omega))
        clear hg8 hbk8 hown8 hR8 hgg8 hset v1 f1 cc1
        go_wp2
        go_roundw
        case rel => exact ⟨j + 1, ps, A1, c1, q6, by omega, by go_num, by rw [HPS.out]; exact HSM.out.snoc (by omega) HX6.out, HB39.out, HB29.out, hown9, hR9, by omega, by omega, hgg9⟩
        case measure => simp [intOf]; omega
      · have hposi : ¬ (0 : Int) < xs.length := by omega
        go_wp2_with fail
        refine (pick_any r q6 40 w6 hR6 (by omega) (by omega) (by omega) (by omega)).mono ?_
        rintro e w7 ⟨z, rfl, z0, _, _, hR7, hg7⟩
        have hg7 := Gr.one (S := IsR r) hg7 rfl
        have HB3 := Lib.hid (hg7.heap (by show ¬ _ = r; omega) HB3.out)
        have HB2 := Lib.hid (hg7.heap (by show ¬ _ = r; omega) HB2.out)
        have hown7 := hown6.gr (hg7.mono HSL.out.2) HSL.out.1
        have hx0 : xs = [] := List.eq_nil_of_length_eq_zero (by omega)
        have hgg7 := hgg6.trans hg7
        have hs7 := hg7.size
        have HEL7 : Hid (Lay.int.slice.R w7 (fun b => b < w7.heap.size ∧ (Value.slice A ns.length c).ownBlock ≠ some b ∧ NotIn S w7 b) xs [.slice A6 xs.length c6]) := Lib.hid (by
          subst hx0
          exact ⟨A6, c6, rfl, by simp, Lay.Sl.nil _ _ _ _⟩)
        clear hx0 hown6 hR6 hg7 hgg6
        by_cases hz : z = 0
        · subst hz
          obtain ⟨ps, hps⟩ : ∃ ps, ps = ns ++ [xs] := ⟨_, rfl⟩
          have HPS := Lib.hid hps
          clear hps
          have cc1 : w7.cell? ⟨b3, 1, none⟩ = some (.slice A ns.length c) := (cell_of_block HB3.out 1).1
          have hlo : b3 + 1 ≤ w7.heap.size := by have := lt_of_block HB3.out; omega
          go_wp2_with (at_builtin; refine wpList_append_row (L := Lay.int.slice) (Q := NotIn S) (ys := ps) (by rfl) (.tmp 37) (.tmp 39) (by rfl) Try.underlying23 hi0 hz0 hz1 hz2 (by rfl) (by decide) (by rfl) (by rfl) hown7 (Stay.notIn S) HEL7.out (fun _ h => h) (by simp [Value.oneCell']) (by omega) (by omega) hlo HPS.out ?_; intro A1 c1 w8 hown8 hg8 hbk8; have HB38 := Lib.hid ((hg8.block b3 (by omega) (fun e => by have := (hown7.lt _ e.symm).1; omega)).trans HB3.out); have v1 := (cell_of_block HB38.out 1).1; have f1 := (cell_of_block HB38.out 1).2; have v1 : w8.cell? ⟨b3, 1, none⟩ = some (.slice A ns.length c) := v1)
          have HB28 := Lib.hid ((hg8.block b2 (by omega) (fun e => by have := (hown7.lt _ e.symm).1; omega)).trans HB2.out)
          have hR8 := hR7.own hg8 (fun g e => by have := (hown7.lt g e).1; omega)
          have hgg8 := hgg7.own hg8 (fun g e => by have := (hown7.lt g e).1; omega)
          have hset : Gr S w8 (w8.setCell ⟨b3, 1, none⟩ (.slice A1 ps.length c1)) := (Gr.refl _ _).set _ _ _ (.inl ((HS.out b3).2 (.inr (.inr rfl))))
          have HB39 := Lib.hid (show (w8.setCell ⟨b3, 1, none⟩ (.slice A1 ps.length c1)).heap[b3]? = some (.cells #[.int .i64 m, .slice A1 ps.length c1] 25 (0, 0)) from heap_set_same w8 b3 1 (.slice A1 ps.length c1) _ _ HB38.out)
          have HB29 := Lib.hid ((Below.heap_setCell w8 ⟨b3, 1, none⟩ (.slice A1 ps.length c1) b2 (by show b2 ≠ b3; omega)).trans HB28.out)
          have hown9 := hown8.gr hset HSL.out.1
          have hR9 := hR8.set (g := b3) (o := 1) (u := .slice A1 ps.length c1) (by omega)
          have hgg9 := hgg8.set b3 1 (.slice A1 ps.length c1) (.inr (by omega))
          clear hg8 hbk8 hown8 hR8 hgg8 hset v1 f1 cc1
          go_wp2
          go_roundw
          case rel => exact ⟨j + 1, ps, A1, c1, q6 + 1, by omega, by go_num, by rw [HPS.out]; exact HSM.out.snoc (by omega) HX6.out, HB39.out, HB29.out, hown9, hR9, by omega, by omega, hgg9⟩
          case measure => simp [intOf]; omega
        · have hzb : (z == 0) = false := by simpa using hz
          go_wp2
          go_roundw
          case rel => exact ⟨j + 1, ns, A, c, q6 + 1, by omega, by go_num, HSM.out.mono (by omega), HB3.out, HB2.out, hown7, hR7, by omega, by omega, hgg7⟩
          case measure => simp [intOf]; omega
    · have hje : j = n := by omega
      subst hje
      have hsl := hown.ab HSL.out.1
      have v0 : wr.cell? ⟨b2, 0, none⟩ = some (.int .i64 0) := (cell_of_block HB2.out 0).1
      have v1 : wr.cell? ⟨b2, 1, none⟩ = some (.slice none 0 0) := (cell_of_block HB2.out 1).1
      have f0 : wr.frozen? ⟨b2, 0, none⟩ = false := (cell_of_block HB2.out 0).2
      have f1 : wr.frozen? ⟨b2, 1, none⟩ = false := (cell_of_block HB2.out 1).2
      have hcap := hown.cap.2
      go_wp2
      refine bodyPost_ret (v := .agg #[.int .i64 m, .slice A ns.length c]) (by simp [results, Try.results38, go_sem, v0, v1, f0, f1]) rfl ⟨⟨m, ns⟩, A, c, rfl, hcap, ?_, ⟨by show (1 : Int) ≤ m; omega, by show (m : Int) ≤ 7; omega, HSM.out.mono (by omega)⟩, q, q0, by omega, ?_, ?_⟩
      · have hset : Gr S wr ((wr.setCell ⟨b2, 0, none⟩ (.int .i64 m)).setCell ⟨b2, 1, none⟩ (.slice A ns.length c)) := ((Gr.refl _ _).set _ _ _ (.inl ((HS.out b2).2 (.inr (.inl rfl))))).set _ _ _ (.inl ((HS.out b2).2 (.inr (.inl rfl))))
        exact (hsl.gr hset).ab_mono fun b _ hb => HS0.out b hb
      · exact (hR.set (by omega)).set (by omega)
      · exact (hg.set _ _ _ (.inr (by omega))).set _ _ _ (.inr (by omega))

end Go.Proofs.Ytbljfhmcebgdaaa

/-! Draws of formulas: l4Bent. -/
namespace Go.Proofs.Ytbljfhmcebgdaaa
open Go Go.RowKit

/-- The cells of a row of rows. -/
theorem src_rows {w : World} {F : Nat → Prop} {A : Option Addr} {xs : List (List Int)} (h : Lay.int.slice.Sl w F A xs) : ∃ cs : List Value, Src w 1 A xs.length cs ∧ (∀ u ∈ cs, u.oneCell' = true) ∧ cs.length = xs.length ∧
    ∀ (i : Nat) (x : List Int), xs[i]? = some x → ∃ A' c', cs[i]? = some (Value.slice A' x.length c') ∧ x.length ≤ c' ∧ Lay.int.Sl w F A' x := by
  rcases Nat.eq_zero_or_pos xs.length with h0 | h0
  · have : xs = [] := List.eq_nil_of_length_eq_zero h0
    subst this
    exact ⟨[], ⟨by simp, fun h => absurd h (by simp)⟩, by simp, rfl, fun i x hx => by simp at hx⟩
  · obtain ⟨ad, rfl, _, hc⟩ := h h0
    have key : ∀ i (hi : i < xs.length), ∃ A' c', w.cell? (ad.add i) = some (.slice A' xs[i].length c') ∧ xs[i].length ≤ c' ∧ Lay.int.Sl w F A' xs[i] := fun i hi => by
      obtain ⟨vs, ⟨A', c', rfl, hl, hs⟩, hcell⟩ := hc i xs[i] (List.getElem?_eq_getElem hi)
      exact ⟨A', c', by simpa [Lay.slice] using hcell 0 _ rfl, hl, hs⟩
    refine ⟨(List.range xs.length).map fun i => (w.cell? (ad.add i)).getD undef, ⟨by simp, fun _ => ⟨ad, rfl, fun j u hu => ?_⟩⟩, fun u hu => ?_, by simp, fun i x hx => ?_⟩
    · rw [List.getElem?_map] at hu
      have hj : j < xs.length := by
        rcases Nat.lt_or_ge j xs.length with h | h
        · exact h
        · rw [List.getElem?_eq_none (by simpa using h)] at hu; cases hu
      rw [List.getElem?_range hj] at hu
      obtain ⟨A', c', hk, _⟩ := key j hj
      simp only [Option.map_some, Option.some.injEq] at hu
      rw [hk] at hu ⊢
      rw [← hu]; rfl
    · obtain ⟨i, hi, rfl⟩ := List.mem_map.1 hu
      obtain ⟨A', c', hk, _⟩ := key i (by simpa using hi)
      rw [hk]; rfl
    · have hi : i < xs.length := (List.getElem?_eq_some_iff.1 hx).1
      obtain ⟨A', c', hk, hl, hs⟩ := key i hi
      have hx' : xs[i] = x := by rw [List.getElem?_eq_getElem hi] at hx; exact Option.some.inj hx
      rw [hx'] at hk hl hs
      exact ⟨A', c', by rw [List.getElem?_map, List.getElem?_range hi, Option.map_some, hk]; rfl, hl, hs⟩
/-- A copy of the outer row: an own row of what was there. -/
theorem ownL_of_src {w w1 : World} {F S : Nat → Prop} {lo n c : Nat} {A : Option Addr} {xs : List (List Int)} {cs : List Value} (hown : w1.ownsRow lo 26 1 (.slice A n c) n cs) (hn : n = xs.length) (hb : Below w.heap.size w w1)
    (hrows : ∀ (i : Nat) (x : List Int), xs[i]? = some x → ∃ A' c', cs[i]? = some (Value.slice A' x.length c') ∧ x.length ≤ c' ∧ Lay.int.Sl w F A' x) (hF : ∀ b, F b → b < w.heap.size ∧ ¬ S b) (hlo : w.heap.size ≤ lo) : OwnL Lay.int.slice (NotIn S) 26 w1 lo (.slice A xs.length c) xs := by
  subst hn
  refine ⟨cs, hown, fun i x hx => ?_⟩
  obtain ⟨A', c', h1, h2, h3⟩ := hrows i x hx
  refine ⟨[.slice A' x.length c'], ⟨A', c', rfl, h2, (h3.below hb (fun b h => (hF b h).1)).mono fun b h => ⟨Nat.lt_of_lt_of_le (hF b h).1 hb.size, fun e => by have := (hown.lt b e).1; have := (hF b h).1; omega, (hF b h).2⟩⟩, fun j u hu => ?_⟩
  rcases j with _ | j
  · injection hu with hu
    subst hu
    show cs[i * 1 + 0]? = _
    rw [Nat.mul_one, Nat.add_zero]; exact h1
  · simp at hu

set_option maxRecDepth 100000 in
set_option maxHeartbeats 4000000 in
theorem l4Bent_any (S0 : Nat → Prop) (r n0 : Nat) (p : Int) (x : C) (A : Option Addr) (c : Nat) (w : World) (h : Rdr w r p) (hx : Lay.int.slice.Sl w (Ab S0 w) A x.list) (hS0 : ∀ b, S0 b → b < w.heap.size) (hSr : S0 r) (hc : x.list.length ≤ c) (hsm : smallL n0 x.list) (hn0 : n0 ≤ 900) (hm0 : 0 ≤ x.many) (hm1 : x.many ≤ 1000) (p0 : 0 ≤ p) (p1 : p ≤ 700000000) :
    Calls Try.prog 37 #[.pointer (some ⟨r, 0, none⟩), .agg #[.int .i64 x.many, .slice A x.list.length c]] w (RetDC S0 r p 10 (fun y => okInt y.many ∧ smallL (n0 + 1) y.list) w) := by
  obtain ⟨i0, hi0, hz0, hz1, hz2⟩ := info_parts toIntSS_info
  have hrl := h.lt
  obtain ⟨hw, hB0, hB1, hWS⟩ := two_boxes w (.cells #[.int .i64 x.many, .slice A x.list.length c] 25) (.cells #[.int .i64 0, .slice none 0 0] 25)
  have hln : x.list.length ≤ 1000 := by have := hsm.1; omega
  have hA := sl_none hx
  obtain ⟨cs, hsrc, h1c, hcl, hrows⟩ := src_rows hx
  have hsrc2 : Src (((w.alloc (.cells #[.int .i64 x.many, .slice A x.list.length c] 25)).alloc (.cells #[.int .i64 0, .slice none 0 0] 25)).alloc (.cells #[] 26)) 1 A x.list.length cs := by
    refine ⟨hsrc.1, fun h9 => ?_⟩
    obtain ⟨ad, e, hcell⟩ := hsrc.2 h9
    exact ⟨ad, e, fun j u hu => ((hw.alloc (by omega) _).cell (World.block_lt_of_cell? w _ (hcell j u hu))).trans (hcell j u hu)⟩
  have HR := Lib.hid h
  have HROWS := Lib.hid hrows
  have HXX := Lib.hid hx
  have HSM := Lib.hid hsm
  have HB0 := Lib.hid hB0
  have HB1 := Lib.hid hB1
  have HW := Lib.hid hw
  have HWS := Lib.hid hWS
  clear h hx hsm hsrc hrows hB0 hB1 hw hWS
  go_enter Try.func37, Try.ntmps37
  go_wp2_with (at_builtin; refine wpList_append_src _ (by rfl) (.tmp 6) (.tmp 8) _ (by rfl) (w.heap.size + 1 + 1) 26 i0 _ 1 24 Try.underlying23 hi0 hz0 hz1 hz2 (by rfl) (by omega) (.slice (some ⟨w.heap.size + 1 + 1, 0, none⟩) 0 0) 0 [] (by rfl) (own_lit0 HWS.out) A x.list.length c cs (by rfl) hsrc2 h1c x.list.length (by omega) (by unfold maxLen; omega) (by omega) (by simp) hA ?_; intro A1 c1 w1 hown1 hb1 _)
  clear hsrc2 h1c
  generalize hW : (w.alloc (.cells #[.int .i64 x.many, .slice A x.list.length c] 25)).alloc (.cells #[.int .i64 0, .slice none 0 0] 25) = W at *
  have hb1 : Below (w.heap.size + 1 + 1) W w1 := by
    have h9 : Below (w.heap.size + 1 + 1) W (W.alloc (.cells #[] 26)) := (Below.refl _ _).alloc (by rw [HWS.out]; exact Nat.le_refl _) _
    exact h9.trans hb1
  have hbw := HW.out.trans (hb1.mono (by omega))
  have hsw1 : w.heap.size + 1 + 1 ≤ w1.heap.size := by have := hb1.size; have := HWS.out; omega
  have HB0 := Lib.hid ((hb1.block _ (by omega)).trans HB0.out)
  have HB1 := Lib.hid ((hb1.block _ (by omega)).trans HB1.out)
  obtain ⟨S, hS⟩ : ∃ S : Nat → Prop, ∀ b, S b ↔ S0 b ∨ b = w.heap.size ∨ b = w.heap.size + 1 := ⟨fun b => S0 b ∨ b = w.heap.size ∨ b = w.heap.size + 1, fun _ => Iff.rfl⟩
  have HS := Lib.hid hS
  have HS0 : Hid (∀ b, S0 b → S b) := Lib.hid fun b hb => (hS b).2 (.inl hb)
  have HSL : Hid ((∀ b, S b → b < w.heap.size + 1 + 1) ∧ (∀ b, IsR r b → S b)) := Lib.hid ⟨fun b hb => by
    rcases (hS b).1 hb with h9 | h9 | h9
    · have := hS0 b h9; omega
    · omega
    · omega, fun b hb => (hS b).2 (.inl (by rw [show b = r from hb]; exact hSr))⟩
  have hown := ownL_of_src (w := w) (S := S) (by simpa using hown1) rfl hbw HROWS.out (fun b hb => ⟨hb.1, fun e => by
    rcases (hS b).1 e with h9 | h9 | h9
    · exact hb.2 h9
    · have := hb.1; omega
    · have := hb.1; omega⟩) (by omega)
  have hR1 := HR.out.up hbw
  have hg1 : Gr (IsR r) w w1 := .below hbw
  clear hown1 hb1 hbw hW hS HROWS HW HWS HR
  go_wp2_with fail
  refine (pick_any r p 60 w1 hR1 (by omega) (by omega) (by omega) (by omega)).mono ?_
  rintro e w2 ⟨k, rfl, k0, _, _, hR2, hg2⟩
  have hg2 := Gr.one (S := IsR r) hg2 rfl
  have HB0 := Lib.hid (hg2.heap (by show ¬ _ = r; omega) HB0.out)
  have HB1 := Lib.hid (hg2.heap (by show ¬ _ = r; omega) HB1.out)
  have hown2 := hown.gr (hg2.mono HSL.out.2) HSL.out.1
  have hgg2 := hg1.trans hg2
  have hs2 := hg2.size
  clear hown hR1 hg1 hg2
  by_cases hk0 : k = 0
  · subst hk0
    obtain ⟨ps, hps⟩ : ∃ ps, ps = x.list ++ [[x.many + 1]] := ⟨_, rfl⟩
    have HPS := Lib.hid hps
    have e1 : IntKind.i64.wrap (x.many + 1) = x.many + 1 := IntWalk.i64_in _ (by omega)
    have hal : Below w2.heap.size w2 (w2.alloc (.cells #[.int .i64 (x.many + 1)] 3)) := (Below.refl _ _).alloc (Nat.le_refl _) _
    have hown3 := hown2.up (Stay.notIn S) hal
    have hR3 := hR2.up hal
    have hgg3 := hgg2.up hal
    have HB03 := Lib.hid ((hal.block _ (by omega)).trans HB0.out)
    have HB13 := Lib.hid ((hal.block _ (by omega)).trans HB1.out)
    have hel : Lay.int.slice.R (w2.alloc (.cells #[.int .i64 (x.many + 1)] 3)) (fun b => b < (w2.alloc (.cells #[.int .i64 (x.many + 1)] 3)).heap.size ∧ (Value.slice A1 x.list.length c1).ownBlock ≠ some b ∧ ¬ S b) [x.many + 1] [.slice (some ⟨w2.heap.size, 0, none⟩) 1 1] := by
      refine ⟨some ⟨w2.heap.size, 0, none⟩, 1, rfl, by simp, (lit_sl (S := fun b => b < w2.heap.size) w2 [x.many + 1] _ 3 rfl (by simp)).mono fun b hb => ⟨hb.1, fun e => hb.2 (hown2.lt b e).2, fun e => hb.2 ?_⟩⟩
      show b < w2.heap.size
      have := HSL.out.1 b e; omega
    have hw3 : w.heap.size + 1 + 1 ≤ (w2.alloc (.cells #[.int .i64 (x.many + 1)] 3)).heap.size := by have := hal.size; omega
    have hw3e : (w2.alloc (.cells #[.int .i64 (x.many + 1)] 3)).heap.size = w2.heap.size + 1 := by simp
    have v0 : w2.cell? ⟨w.heap.size, 0, none⟩ = some (.int .i64 x.many) := (cell_of_block HB0.out 0).1
    clear hps hal hown2 hR2 hgg2
    go_wp2_with (at_builtin; refine wpList_append_row (L := Lay.int.slice) (Q := NotIn S) (ys := ps) (xs := x.list) (c := c1) (A := A1) (by rfl) (.tmp 14) (.tmp 19) (by rfl) Try.underlying23 hi0 hz0 hz1 hz2 (by rfl) (by decide) (by rfl) (by simp [Act.eval]) hown3 (Stay.notIn S) hel (fun _ h => h) (by simp [Value.oneCell']) (by omega) (by omega) hw3 HPS.out ?_; intro A4 c4 w4 hown4 hg4 hbk4; have HB04 := Lib.hid ((hg4.block w.heap.size (by omega) (fun e => by have := (hown3.lt _ e.symm).1; omega)).trans HB03.out); have HB14 := Lib.hid ((hg4.block (w.heap.size + 1) (by omega) (fun e => by have := (hown3.lt _ e.symm).1; omega)).trans HB13.out); clear v0; have v0 : w4.cell? ⟨w.heap.size, 0, none⟩ = some (.int .i64 x.many) := (cell_of_block HB04.out 0).1; have v1 : w4.cell? ⟨w.heap.size, 1, none⟩ = some (.slice A x.list.length c) := (cell_of_block HB04.out 1).1; have f0 : w4.frozen? ⟨w.heap.size, 0, none⟩ = false := (cell_of_block HB04.out 0).2; have f1 : w4.frozen? ⟨w.heap.size, 1, none⟩ = false := (cell_of_block HB04.out 1).2; have u0 : w4.cell? ⟨w.heap.size + 1, 0, none⟩ = some (.int .i64 0) := (cell_of_block HB14.out 0).1; have u1 : w4.cell? ⟨w.heap.size + 1, 1, none⟩ = some (.slice none 0 0) := (cell_of_block HB14.out 1).1; have g0 : w4.frozen? ⟨w.heap.size + 1, 0, none⟩ = false := (cell_of_block HB14.out 0).2; have g1 : w4.frozen? ⟨w.heap.size + 1, 1, none⟩ = false := (cell_of_block HB14.out 1).2)
    have hR4 := hR3.own hg4 (fun g e => by have := (hown3.lt g e).1; omega)
    have hgg4 := hgg3.own hg4 (fun g e => by have := (hown3.lt g e).1; omega)
    have hset : Gr S w4 (((w4.setCell ⟨w.heap.size, 1, none⟩ (.slice A4 ps.length c4)).setCell ⟨w.heap.size + 1, 0, none⟩ (.int .i64 x.many)).setCell ⟨w.heap.size + 1, 1, none⟩ (.slice A4 ps.length c4)) := (((Gr.refl _ _).set _ _ _ (.inl ((HS.out _).2 (.inr (.inl rfl))))).set _ _ _ (.inl ((HS.out _).2 (.inr (.inr rfl))))).set _ _ _ (.inl ((HS.out _).2 (.inr (.inr rfl))))
    refine bodyPost_ret (v := .agg #[.int .i64 (x.many), .slice A4 ps.length c4]) (by simp [results, Try.results37, go_sem, v0, v1, f0, f1, u0, u1, g0, g1]) rfl ⟨⟨x.many, ps⟩, A4, c4, rfl, hown4.cap.2, ?_, ⟨by show okInt x.many; unfold okInt; omega, by show smallL _ ps; rw [HPS.out]; exact HSM.out.snoc (by simp) (by intro y hy; simp at hy; unfold okInt; omega)⟩, p + 1, by omega, by omega, ((hR4.set (by omega)).set (by omega)).set (by omega), ((hgg4.set _ _ _ (.inr (by omega))).set _ _ _ (.inr (by omega))).set _ _ _ (.inr (by omega))⟩
    exact ((hown4.ab HSL.out.1).gr hset).ab_mono fun b _ hb => HS0.out b hb
  have hkb0 : (k == 0) = false := by simpa using hk0
  by_cases hk1 : k = 1
  · subst hk1
    obtain ⟨ps, hps⟩ : ∃ ps, ps = x.list ++ [[1, -1]] := ⟨_, rfl⟩
    have HPS := Lib.hid hps
    have hal : Below w2.heap.size w2 (w2.alloc (.cells #[.int .i64 (1), .int .i64 (-1)] 3)) := (Below.refl _ _).alloc (Nat.le_refl _) _
    have hown3 := hown2.up (Stay.notIn S) hal
    have hR3 := hR2.up hal
    have hgg3 := hgg2.up hal
    have HB03 := Lib.hid ((hal.block _ (by omega)).trans HB0.out)
    have HB13 := Lib.hid ((hal.block _ (by omega)).trans HB1.out)
    have hel : Lay.int.slice.R (w2.alloc (.cells #[.int .i64 (1), .int .i64 (-1)] 3)) (fun b => b < (w2.alloc (.cells #[.int .i64 (1), .int .i64 (-1)] 3)).heap.size ∧ (Value.slice A1 x.list.length c1).ownBlock ≠ some b ∧ ¬ S b) [1, -1] [.slice (some ⟨w2.heap.size, 0, none⟩) 2 2] := by
      refine ⟨some ⟨w2.heap.size, 0, none⟩, 2, rfl, by simp, (lit_sl (S := fun b => b < w2.heap.size) w2 [1, -1] _ 3 rfl (by simp)).mono fun b hb => ⟨hb.1, fun e => hb.2 (hown2.lt b e).2, fun e => hb.2 ?_⟩⟩
      show b < w2.heap.size
      have := HSL.out.1 b e; omega
    have hw3 : w.heap.size + 1 + 1 ≤ (w2.alloc (.cells #[.int .i64 (1), .int .i64 (-1)] 3)).heap.size := by have := hal.size; omega
    have hw3e : (w2.alloc (.cells #[.int .i64 (1), .int .i64 (-1)] 3)).heap.size = w2.heap.size + 1 := by simp
    have v0 : w2.cell? ⟨w.heap.size, 0, none⟩ = some (.int .i64 x.many) := (cell_of_block HB0.out 0).1
    clear hps hal hown2 hR2 hgg2
    go_wp2_with (at_builtin; refine wpList_append_row (L := Lay.int.slice) (Q := NotIn S) (ys := ps) (xs := x.list) (c := c1) (A := A1) (by rfl) (.tmp 24) (.tmp 26) (by rfl) Try.underlying23 hi0 hz0 hz1 hz2 (by rfl) (by decide) (by rfl) (by simp [Act.eval]) hown3 (Stay.notIn S) hel (fun _ h => h) (by simp [Value.oneCell']) (by omega) (by omega) hw3 HPS.out ?_; intro A4 c4 w4 hown4 hg4 hbk4; have HB04 := Lib.hid ((hg4.block w.heap.size (by omega) (fun e => by have := (hown3.lt _ e.symm).1; omega)).trans HB03.out); have HB14 := Lib.hid ((hg4.block (w.heap.size + 1) (by omega) (fun e => by have := (hown3.lt _ e.symm).1; omega)).trans HB13.out); clear v0; have v0 : w4.cell? ⟨w.heap.size, 0, none⟩ = some (.int .i64 x.many) := (cell_of_block HB04.out 0).1; have v1 : w4.cell? ⟨w.heap.size, 1, none⟩ = some (.slice A x.list.length c) := (cell_of_block HB04.out 1).1; have f0 : w4.frozen? ⟨w.heap.size, 0, none⟩ = false := (cell_of_block HB04.out 0).2; have f1 : w4.frozen? ⟨w.heap.size, 1, none⟩ = false := (cell_of_block HB04.out 1).2; have u0 : w4.cell? ⟨w.heap.size + 1, 0, none⟩ = some (.int .i64 0) := (cell_of_block HB14.out 0).1; have u1 : w4.cell? ⟨w.heap.size + 1, 1, none⟩ = some (.slice none 0 0) := (cell_of_block HB14.out 1).1; have g0 : w4.frozen? ⟨w.heap.size + 1, 0, none⟩ = false := (cell_of_block HB14.out 0).2; have g1 : w4.frozen? ⟨w.heap.size + 1, 1, none⟩ = false := (cell_of_block HB14.out 1).2)
    have hR4 := hR3.own hg4 (fun g e => by have := (hown3.lt g e).1; omega)
    have hgg4 := hgg3.own hg4 (fun g e => by have := (hown3.lt g e).1; omega)
    have hset : Gr S w4 (((w4.setCell ⟨w.heap.size, 1, none⟩ (.slice A4 ps.length c4)).setCell ⟨w.heap.size + 1, 0, none⟩ (.int .i64 x.many)).setCell ⟨w.heap.size + 1, 1, none⟩ (.slice A4 ps.length c4)) := (((Gr.refl _ _).set _ _ _ (.inl ((HS.out _).2 (.inr (.inl rfl))))).set _ _ _ (.inl ((HS.out _).2 (.inr (.inr rfl))))).set _ _ _ (.inl ((HS.out _).2 (.inr (.inr rfl))))
    refine bodyPost_ret (v := .agg #[.int .i64 (x.many), .slice A4 ps.length c4]) (by simp [results, Try.results37, go_sem, v0, v1, f0, f1, u0, u1, g0, g1]) rfl ⟨⟨x.many, ps⟩, A4, c4, rfl, hown4.cap.2, ?_, ⟨by show okInt x.many; unfold okInt; omega, by show smallL _ ps; rw [HPS.out]; exact HSM.out.snoc (by simp) (by intro y hy; simp at hy; unfold okInt; omega)⟩, p + 1, by omega, by omega, ((hR4.set (by omega)).set (by omega)).set (by omega), ((hgg4.set _ _ _ (.inr (by omega))).set _ _ _ (.inr (by omega))).set _ _ _ (.inr (by omega))⟩
    exact ((hown4.ab HSL.out.1).gr hset).ab_mono fun b _ hb => HS0.out b hb
  have hkb1 : (k == 1) = false := by simpa using hk1
  by_cases hk2 : k = 2
  · subst hk2
    obtain ⟨ps, hps⟩ : ∃ ps, ps = x.list ++ [[0]] := ⟨_, rfl⟩
    have HPS := Lib.hid hps
    have hal : Below w2.heap.size w2 (w2.alloc (.cells #[.int .i64 (0)] 3)) := (Below.refl _ _).alloc (Nat.le_refl _) _
    have hown3 := hown2.up (Stay.notIn S) hal
    have hR3 := hR2.up hal
    have hgg3 := hgg2.up hal
    have HB03 := Lib.hid ((hal.block _ (by omega)).trans HB0.out)
    have HB13 := Lib.hid ((hal.block _ (by omega)).trans HB1.out)
    have hel : Lay.int.slice.R (w2.alloc (.cells #[.int .i64 (0)] 3)) (fun b => b < (w2.alloc (.cells #[.int .i64 (0)] 3)).heap.size ∧ (Value.slice A1 x.list.length c1).ownBlock ≠ some b ∧ ¬ S b) [0] [.slice (some ⟨w2.heap.size, 0, none⟩) 1 1] := by
      refine ⟨some ⟨w2.heap.size, 0, none⟩, 1, rfl, by simp, (lit_sl (S := fun b => b < w2.heap.size) w2 [0] _ 3 rfl (by simp)).mono fun b hb => ⟨hb.1, fun e => hb.2 (hown2.lt b e).2, fun e => hb.2 ?_⟩⟩
      show b < w2.heap.size
      have := HSL.out.1 b e; omega
    have hw3 : w.heap.size + 1 + 1 ≤ (w2.alloc (.cells #[.int .i64 (0)] 3)).heap.size := by have := hal.size; omega
    have hw3e : (w2.alloc (.cells #[.int .i64 (0)] 3)).heap.size = w2.heap.size + 1 := by simp
    have v0 : w2.cell? ⟨w.heap.size, 0, none⟩ = some (.int .i64 x.many) := (cell_of_block HB0.out 0).1
    clear hps hal hown2 hR2 hgg2
    go_wp2_with (at_builtin; refine wpList_append_row (L := Lay.int.slice) (Q := NotIn S) (ys := ps) (xs := x.list) (c := c1) (A := A1) (by rfl) (.tmp 31) (.tmp 33) (by rfl) Try.underlying23 hi0 hz0 hz1 hz2 (by rfl) (by decide) (by rfl) (by simp [Act.eval]) hown3 (Stay.notIn S) hel (fun _ h => h) (by simp [Value.oneCell']) (by omega) (by omega) hw3 HPS.out ?_; intro A4 c4 w4 hown4 hg4 hbk4; have HB04 := Lib.hid ((hg4.block w.heap.size (by omega) (fun e => by have := (hown3.lt _ e.symm).1; omega)).trans HB03.out); have HB14 := Lib.hid ((hg4.block (w.heap.size + 1) (by omega) (fun e => by have := (hown3.lt _ e.symm).1; omega)).trans HB13.out); clear v0; have v0 : w4.cell? ⟨w.heap.size, 0, none⟩ = some (.int .i64 x.many) := (cell_of_block HB04.out 0).1; have v1 : w4.cell? ⟨w.heap.size, 1, none⟩ = some (.slice A x.list.length c) := (cell_of_block HB04.out 1).1; have f0 : w4.frozen? ⟨w.heap.size, 0, none⟩ = false := (cell_of_block HB04.out 0).2; have f1 : w4.frozen? ⟨w.heap.size, 1, none⟩ = false := (cell_of_block HB04.out 1).2; have u0 : w4.cell? ⟨w.heap.size + 1, 0, none⟩ = some (.int .i64 0) := (cell_of_block HB14.out 0).1; have u1 : w4.cell? ⟨w.heap.size + 1, 1, none⟩ = some (.slice none 0 0) := (cell_of_block HB14.out 1).1; have g0 : w4.frozen? ⟨w.heap.size + 1, 0, none⟩ = false := (cell_of_block HB14.out 0).2; have g1 : w4.frozen? ⟨w.heap.size + 1, 1, none⟩ = false := (cell_of_block HB14.out 1).2)
    have hR4 := hR3.own hg4 (fun g e => by have := (hown3.lt g e).1; omega)
    have hgg4 := hgg3.own hg4 (fun g e => by have := (hown3.lt g e).1; omega)
    have hset : Gr S w4 (((w4.setCell ⟨w.heap.size, 1, none⟩ (.slice A4 ps.length c4)).setCell ⟨w.heap.size + 1, 0, none⟩ (.int .i64 x.many)).setCell ⟨w.heap.size + 1, 1, none⟩ (.slice A4 ps.length c4)) := (((Gr.refl _ _).set _ _ _ (.inl ((HS.out _).2 (.inr (.inl rfl))))).set _ _ _ (.inl ((HS.out _).2 (.inr (.inr rfl))))).set _ _ _ (.inl ((HS.out _).2 (.inr (.inr rfl))))
    refine bodyPost_ret (v := .agg #[.int .i64 (x.many), .slice A4 ps.length c4]) (by simp [results, Try.results37, go_sem, v0, v1, f0, f1, u0, u1, g0, g1]) rfl ⟨⟨x.many, ps⟩, A4, c4, rfl, hown4.cap.2, ?_, ⟨by show okInt x.many; unfold okInt; omega, by show smallL _ ps; rw [HPS.out]; exact HSM.out.snoc (by simp) (by intro y hy; simp at hy; unfold okInt; omega)⟩, p + 1, by omega, by omega, ((hR4.set (by omega)).set (by omega)).set (by omega), ((hgg4.set _ _ _ (.inr (by omega))).set _ _ _ (.inr (by omega))).set _ _ _ (.inr (by omega))⟩
    exact ((hown4.ab HSL.out.1).gr hset).ab_mono fun b _ hb => HS0.out b hb
  have hkb2 : (k == 2) = false := by simpa using hk2
  by_cases hk3 : k = 3
  · subst hk3
    have e1 : IntKind.i64.wrap (x.many + 3) = x.many + 3 := IntWalk.i64_in _ (by omega)
    have v0 : w2.cell? ⟨w.heap.size, 0, none⟩ = some (.int .i64 x.many) := (cell_of_block HB0.out 0).1
    have hal : Below w2.heap.size w2 (w2.alloc (.cells #[.int .i64 (-1), .int .i64 0, .int .i64 701, .int .i64 9223372036854775807, .int .i64 (x.many + 3)] 3)) := (Below.refl _ _).alloc (Nat.le_refl _) _
    have hsl := lit_sl (S := IsR r) w2 [-1, 0, 701, 9223372036854775807, x.many + 3] _ 3 rfl (by show ¬ _ = r; omega)
    have HN := Lib.hid (num_any r (p + 1) _ 5 _ _ (hR2.up hal) hsl (by simp) (by simp) (by omega) (by omega))
    have HB03 := Lib.hid ((hal.block _ (by omega)).trans HB0.out)
    have HB13 := Lib.hid ((hal.block _ (by omega)).trans HB1.out)
    have hgg3 := hgg2.up hal
    have hown3 := hown2.up (Stay.notIn S) hal
    clear hal hsl hown2 hR2 hgg2
    go_wp2_with fail
    clear v0
    refine HN.out.mono ?_
    clear HN
    rintro e w4 ⟨y, hy, rfl, hR4, hg4⟩
    have HY : Hid (okInt y) := Lib.hid (mem_lit hy (by intro z hz; simp at hz; unfold okInt; omega))
    have HB04 := Lib.hid (hg4.heap (by show ¬ _ = r; omega) HB03.out)
    have HB14 := Lib.hid (hg4.heap (by show ¬ _ = r; omega) HB13.out)
    have hgg4 := hgg3.trans hg4
    have hs4 := hg4.size
    have HXS : Hid (Lay.int.slice.Sl w4 (Ab (fun b => S b) w4) A x.list) := Lib.hid ((HXX.out.keep fun b hb => hgg4.block b hb.1 (fun e => hb.2 (by rw [show b = r from e]; exact hSr))).mono fun b hb => ⟨Nat.lt_of_lt_of_le hb.1 hgg4.size, fun e => by rcases (HS.out b).1 e with h9 | h9 | h9 <;> first | exact hb.2 h9 | (have := hb.1; omega)⟩)
    clear hy hg4 hgg3 hown3
    have v0 : w4.cell? ⟨w.heap.size, 0, none⟩ = some (.int .i64 x.many) := (cell_of_block HB04.out 0).1
    have v1 : w4.cell? ⟨w.heap.size, 1, none⟩ = some (.slice A x.list.length c) := (cell_of_block HB04.out 1).1
    have f0 : w4.frozen? ⟨w.heap.size, 0, none⟩ = false := (cell_of_block HB04.out 0).2
    have f1 : w4.frozen? ⟨w.heap.size, 1, none⟩ = false := (cell_of_block HB04.out 1).2
    have u0 : w4.cell? ⟨w.heap.size + 1, 0, none⟩ = some (.int .i64 0) := (cell_of_block HB14.out 0).1
    have u1 : w4.cell? ⟨w.heap.size + 1, 1, none⟩ = some (.slice none 0 0) := (cell_of_block HB14.out 1).1
    have g0 : w4.frozen? ⟨w.heap.size + 1, 0, none⟩ = false := (cell_of_block HB14.out 0).2
    have g1 : w4.frozen? ⟨w.heap.size + 1, 1, none⟩ = false := (cell_of_block HB14.out 1).2
    go_wp2
    have hset : Gr (fun b => S b) w4 (((w4.setCell ⟨w.heap.size, 0, none⟩ (.int .i64 y)).setCell ⟨w.heap.size + 1, 0, none⟩ (.int .i64 y)).setCell ⟨w.heap.size + 1, 1, none⟩ (.slice A x.list.length c)) := (((Gr.refl _ _).set _ _ _ (.inl ((HS.out _).2 (.inr (.inl rfl))))).set _ _ _ (.inl ((HS.out _).2 (.inr (.inr rfl))))).set _ _ _ (.inl ((HS.out _).2 (.inr (.inr rfl))))
    refine bodyPost_ret (v := .agg #[.int .i64 (y), .slice A x.list.length c]) (by simp [results, Try.results37, go_sem, v0, v1, f0, f1, u0, u1, g0, g1]) rfl ⟨⟨y, x.list⟩, A, c, rfl, hc, ?_, ⟨HY.out, HSM.out.mono (by omega)⟩, p + 1 + 1, by omega, by omega, ((hR4.set (by omega)).set (by omega)).set (by omega), ((hgg4.set _ _ _ (.inr (by omega))).set _ _ _ (.inr (by omega))).set _ _ _ (.inr (by omega))⟩
    exact (HXS.out.gr hset).ab_mono fun b _ hb => HS0.out b hb
  have hkb3 : (k == 3) = false := by simpa using hk3
  by_cases hk4 : k = 4
  · subst hk4
    obtain ⟨ps, hps⟩ : ∃ ps, ps = x.list ++ [[-9223372036854775808]] := ⟨_, rfl⟩
    have HPS := Lib.hid hps
    have hal : Below w2.heap.size w2 (w2.alloc (.cells #[.int .i64 (-9223372036854775808)] 3)) := (Below.refl _ _).alloc (Nat.le_refl _) _
    have hown3 := hown2.up (Stay.notIn S) hal
    have hR3 := hR2.up hal
    have hgg3 := hgg2.up hal
    have HB03 := Lib.hid ((hal.block _ (by omega)).trans HB0.out)
    have HB13 := Lib.hid ((hal.block _ (by omega)).trans HB1.out)
    have hel : Lay.int.slice.R (w2.alloc (.cells #[.int .i64 (-9223372036854775808)] 3)) (fun b => b < (w2.alloc (.cells #[.int .i64 (-9223372036854775808)] 3)).heap.size ∧ (Value.slice A1 x.list.length c1).ownBlock ≠ some b ∧ ¬ S b) [-9223372036854775808] [.slice (some ⟨w2.heap.size, 0, none⟩) 1 1] := by
      refine ⟨some ⟨w2.heap.size, 0, none⟩, 1, rfl, by simp, (lit_sl (S := fun b => b < w2.heap.size) w2 [-9223372036854775808] _ 3 rfl (by simp)).mono fun b hb => ⟨hb.1, fun e => hb.2 (hown2.lt b e).2, fun e => hb.2 ?_⟩⟩
      show b < w2.heap.size
      have := HSL.out.1 b e; omega
    have hw3 : w.heap.size + 1 + 1 ≤ (w2.alloc (.cells #[.int .i64 (-9223372036854775808)] 3)).heap.size := by have := hal.size; omega
    have hw3e : (w2.alloc (.cells #[.int .i64 (-9223372036854775808)] 3)).heap.size = w2.heap.size + 1 := by simp
    have v0 : w2.cell? ⟨w.heap.size, 0, none⟩ = some (.int .i64 x.many) := (cell_of_block HB0.out 0).1
    clear hps hal hown2 hR2 hgg2
    go_wp2_with (at_builtin; refine wpList_append_row (L := Lay.int.slice) (Q := NotIn S) (ys := ps) (xs := x.list) (c := c1) (A := A1) (by rfl) (.tmp 47) (.tmp 49) (by rfl) Try.underlying23 hi0 hz0 hz1 hz2 (by rfl) (by decide) (by rfl) (by simp [Act.eval]) hown3 (Stay.notIn S) hel (fun _ h => h) (by simp [Value.oneCell']) (by omega) (by omega) hw3 HPS.out ?_; intro A4 c4 w4 hown4 hg4 hbk4; have HB04 := Lib.hid ((hg4.block w.heap.size (by omega) (fun e => by have := (hown3.lt _ e.symm).1; omega)).trans HB03.out); have HB14 := Lib.hid ((hg4.block (w.heap.size + 1) (by omega) (fun e => by have := (hown3.lt _ e.symm).1; omega)).trans HB13.out); clear v0; have v0 : w4.cell? ⟨w.heap.size, 0, none⟩ = some (.int .i64 x.many) := (cell_of_block HB04.out 0).1; have v1 : w4.cell? ⟨w.heap.size, 1, none⟩ = some (.slice A x.list.length c) := (cell_of_block HB04.out 1).1; have f0 : w4.frozen? ⟨w.heap.size, 0, none⟩ = false := (cell_of_block HB04.out 0).2; have f1 : w4.frozen? ⟨w.heap.size, 1, none⟩ = false := (cell_of_block HB04.out 1).2; have u0 : w4.cell? ⟨w.heap.size + 1, 0, none⟩ = some (.int .i64 0) := (cell_of_block HB14.out 0).1; have u1 : w4.cell? ⟨w.heap.size + 1, 1, none⟩ = some (.slice none 0 0) := (cell_of_block HB14.out 1).1; have g0 : w4.frozen? ⟨w.heap.size + 1, 0, none⟩ = false := (cell_of_block HB14.out 0).2; have g1 : w4.frozen? ⟨w.heap.size + 1, 1, none⟩ = false := (cell_of_block HB14.out 1).2)
    have hR4 := hR3.own hg4 (fun g e => by have := (hown3.lt g e).1; omega)
    have hgg4 := hgg3.own hg4 (fun g e => by have := (hown3.lt g e).1; omega)
    have hset : Gr S w4 (((w4.setCell ⟨w.heap.size, 1, none⟩ (.slice A4 ps.length c4)).setCell ⟨w.heap.size + 1, 0, none⟩ (.int .i64 x.many)).setCell ⟨w.heap.size + 1, 1, none⟩ (.slice A4 ps.length c4)) := (((Gr.refl _ _).set _ _ _ (.inl ((HS.out _).2 (.inr (.inl rfl))))).set _ _ _ (.inl ((HS.out _).2 (.inr (.inr rfl))))).set _ _ _ (.inl ((HS.out _).2 (.inr (.inr rfl))))
    refine bodyPost_ret (v := .agg #[.int .i64 (x.many), .slice A4 ps.length c4]) (by simp [results, Try.results37, go_sem, v0, v1, f0, f1, u0, u1, g0, g1]) rfl ⟨⟨x.many, ps⟩, A4, c4, rfl, hown4.cap.2, ?_, ⟨by show okInt x.many; unfold okInt; omega, by show smallL _ ps; rw [HPS.out]; exact HSM.out.snoc (by simp) (by intro y hy; simp at hy; unfold okInt; omega)⟩, p + 1, by omega, by omega, ((hR4.set (by omega)).set (by omega)).set (by omega), ((hgg4.set _ _ _ (.inr (by omega))).set _ _ _ (.inr (by omega))).set _ _ _ (.inr (by omega))⟩
    exact ((hown4.ab HSL.out.1).gr hset).ab_mono fun b _ hb => HS0.out b hb
  have hkb4 : (k == 4) = false := by simpa using hk4
  by_cases hk5 : k = 5
  · subst hk5
    obtain ⟨ps, hps⟩ : ∃ ps, ps = x.list ++ [[2, 1]] := ⟨_, rfl⟩
    have HPS := Lib.hid hps
    have hal : Below w2.heap.size w2 (w2.alloc (.cells #[.int .i64 (2), .int .i64 (1)] 3)) := (Below.refl _ _).alloc (Nat.le_refl _) _
    have hown3 := hown2.up (Stay.notIn S) hal
    have hR3 := hR2.up hal
    have hgg3 := hgg2.up hal
    have HB03 := Lib.hid ((hal.block _ (by omega)).trans HB0.out)
    have HB13 := Lib.hid ((hal.block _ (by omega)).trans HB1.out)
    have hel : Lay.int.slice.R (w2.alloc (.cells #[.int .i64 (2), .int .i64 (1)] 3)) (fun b => b < (w2.alloc (.cells #[.int .i64 (2), .int .i64 (1)] 3)).heap.size ∧ (Value.slice A1 x.list.length c1).ownBlock ≠ some b ∧ ¬ S b) [2, 1] [.slice (some ⟨w2.heap.size, 0, none⟩) 2 2] := by
      refine ⟨some ⟨w2.heap.size, 0, none⟩, 2, rfl, by simp, (lit_sl (S := fun b => b < w2.heap.size) w2 [2, 1] _ 3 rfl (by simp)).mono fun b hb => ⟨hb.1, fun e => hb.2 (hown2.lt b e).2, fun e => hb.2 ?_⟩⟩
      show b < w2.heap.size
      have := HSL.out.1 b e; omega
    have hw3 : w.heap.size + 1 + 1 ≤ (w2.alloc (.cells #[.int .i64 (2), .int .i64 (1)] 3)).heap.size := by have := hal.size; omega
    have hw3e : (w2.alloc (.cells #[.int .i64 (2), .int .i64 (1)] 3)).heap.size = w2.heap.size + 1 := by simp
    have v0 : w2.cell? ⟨w.heap.size, 0, none⟩ = some (.int .i64 x.many) := (cell_of_block HB0.out 0).1
    clear hps hal hown2 hR2 hgg2
    go_wp2_with (at_builtin; refine wpList_append_row (L := Lay.int.slice) (Q := NotIn S) (ys := ps) (xs := x.list) (c := c1) (A := A1) (by rfl) (.tmp 54) (.tmp 56) (by rfl) Try.underlying23 hi0 hz0 hz1 hz2 (by rfl) (by decide) (by rfl) (by simp [Act.eval]) hown3 (Stay.notIn S) hel (fun _ h => h) (by simp [Value.oneCell']) (by omega) (by omega) hw3 HPS.out ?_; intro A4 c4 w4 hown4 hg4 hbk4; have HB04 := Lib.hid ((hg4.block w.heap.size (by omega) (fun e => by have := (hown3.lt _ e.symm).1; omega)).trans HB03.out); have HB14 := Lib.hid ((hg4.block (w.heap.size + 1) (by omega) (fun e => by have := (hown3.lt _ e.symm).1; omega)).trans HB13.out); clear v0; have v0 : w4.cell? ⟨w.heap.size, 0, none⟩ = some (.int .i64 x.many) := (cell_of_block HB04.out 0).1; have v1 : w4.cell? ⟨w.heap.size, 1, none⟩ = some (.slice A x.list.length c) := (cell_of_block HB04.out 1).1; have f0 : w4.frozen? ⟨w.heap.size, 0, none⟩ = false := (cell_of_block HB04.out 0).2; have f1 : w4.frozen? ⟨w.heap.size, 1, none⟩ = false := (cell_of_block HB04.out 1).2; have u0 : w4.cell? ⟨w.heap.size + 1, 0, none⟩ = some (.int .i64 0) := (cell_of_block HB14.out 0).1; have u1 : w4.cell? ⟨w.heap.size + 1, 1, none⟩ = some (.slice none 0 0) := (cell_of_block HB14.out 1).1; have g0 : w4.frozen? ⟨w.heap.size + 1, 0, none⟩ = false := (cell_of_block HB14.out 0).2; have g1 : w4.frozen? ⟨w.heap.size + 1, 1, none⟩ = false := (cell_of_block HB14.out 1).2)
    have hR4 := hR3.own hg4 (fun g e => by have := (hown3.lt g e).1; omega)
    have hgg4 := hgg3.own hg4 (fun g e => by have := (hown3.lt g e).1; omega)
    have hset : Gr S w4 (((w4.setCell ⟨w.heap.size, 1, none⟩ (.slice A4 ps.length c4)).setCell ⟨w.heap.size + 1, 0, none⟩ (.int .i64 x.many)).setCell ⟨w.heap.size + 1, 1, none⟩ (.slice A4 ps.length c4)) := (((Gr.refl _ _).set _ _ _ (.inl ((HS.out _).2 (.inr (.inl rfl))))).set _ _ _ (.inl ((HS.out _).2 (.inr (.inr rfl))))).set _ _ _ (.inl ((HS.out _).2 (.inr (.inr rfl))))
    refine bodyPost_ret (v := .agg #[.int .i64 (x.many), .slice A4 ps.length c4]) (by simp [results, Try.results37, go_sem, v0, v1, f0, f1, u0, u1, g0, g1]) rfl ⟨⟨x.many, ps⟩, A4, c4, rfl, hown4.cap.2, ?_, ⟨by show okInt x.many; unfold okInt; omega, by show smallL _ ps; rw [HPS.out]; exact HSM.out.snoc (by simp) (by intro y hy; simp at hy; unfold okInt; omega)⟩, p + 1, by omega, by omega, ((hR4.set (by omega)).set (by omega)).set (by omega), ((hgg4.set _ _ _ (.inr (by omega))).set _ _ _ (.inr (by omega))).set _ _ _ (.inr (by omega))⟩
    exact ((hown4.ab HSL.out.1).gr hset).ab_mono fun b _ hb => HS0.out b hb
  have hkb5 : (k == 5) = false := by simpa using hk5
  clear hk0 hk1 hk2 hk3 hk4 hk5
  have HXS : Hid (Lay.int.slice.Sl w2 (Ab (fun b => S b) w2) A x.list) := Lib.hid ((HXX.out.keep fun b hb => hgg2.block b hb.1 (fun e => hb.2 (by rw [show b = r from e]; exact hSr))).mono fun b hb => ⟨Nat.lt_of_lt_of_le hb.1 hgg2.size, fun e => by rcases (HS.out b).1 e with h9 | h9 | h9 <;> first | exact hb.2 h9 | (have := hb.1; omega)⟩)
  have v0 : w2.cell? ⟨w.heap.size, 0, none⟩ = some (.int .i64 x.many) := (cell_of_block HB0.out 0).1
  have v1 : w2.cell? ⟨w.heap.size, 1, none⟩ = some (.slice A x.list.length c) := (cell_of_block HB0.out 1).1
  have f0 : w2.frozen? ⟨w.heap.size, 0, none⟩ = false := (cell_of_block HB0.out 0).2
  have f1 : w2.frozen? ⟨w.heap.size, 1, none⟩ = false := (cell_of_block HB0.out 1).2
  have u0 : w2.cell? ⟨w.heap.size + 1, 0, none⟩ = some (.int .i64 0) := (cell_of_block HB1.out 0).1
  have u1 : w2.cell? ⟨w.heap.size + 1, 1, none⟩ = some (.slice none 0 0) := (cell_of_block HB1.out 1).1
  have g0 : w2.frozen? ⟨w.heap.size + 1, 0, none⟩ = false := (cell_of_block HB1.out 0).2
  have g1 : w2.frozen? ⟨w.heap.size + 1, 1, none⟩ = false := (cell_of_block HB1.out 1).2
  go_wp2
  have hset : Gr (fun b => S b) w2 ((w2.setCell ⟨w.heap.size + 1, 0, none⟩ (.int .i64 x.many)).setCell ⟨w.heap.size + 1, 1, none⟩ (.slice A x.list.length c)) := ((Gr.refl _ _).set _ _ _ (.inl ((HS.out _).2 (.inr (.inr rfl))))).set _ _ _ (.inl ((HS.out _).2 (.inr (.inr rfl))))
  refine bodyPost_ret (v := .agg #[.int .i64 (x.many), .slice A x.list.length c]) (by simp [results, Try.results37, go_sem, v0, v1, f0, f1, u0, u1, g0, g1]) rfl ⟨⟨x.many, x.list⟩, A, c, rfl, hc, ?_, ⟨by show okInt x.many; unfold okInt; omega, HSM.out.mono (by omega)⟩, p + 1, by omega, by omega, (hR2.set (by omega)).set (by omega), (hgg2.set _ _ _ (.inr (by omega))).set _ _ _ (.inr (by omega))⟩
  exact (HXS.out.gr hset).ab_mono fun b _ hb => HS0.out b hb
end Go.Proofs.Ytbljfhmcebgdaaa

/-! DrawUnitAll. -/
namespace Go.Proofs.Ytbljfhmcebgdaaa
open Go Go.RowKit

end Go.Proofs.Ytbljfhmcebgdaaa
