/- Damaged searches: a row is copied and lengthened, in a drawn statement. Words for regions that copy a formula's outer row into a new formula. -/
import Derived.Test.YtbljfhmcebgdaaaJFnSatBent15
import Derived.Test.YtbljfhmcebgdaaaJFnSatBent16
import Derived.Test.YtbljfhmcebgdaaaJFnSatBent20
/-! Damaged searches: a row is copied and lengthened, in a drawn statement. -/
namespace Go.Proofs.Ytbljfhmcebgdaaa
open Go Go.RowKit

/-- append(append([]int{}, ps...), zs...) is stored in the box iX: the empty row 0, the copy 3, the second row 7, append 8, store 10. -/
def AaI (W : World) (iX off : Nat) (bx : Array Value) (ps zs : List Int) (v0 v3 v7 v8 : Value) (f0 f3 f7 f8 f10 : Bool) (x : World) : Prop :=
  Gr (fun k => k = iX) W x ∧ (f0 = true → f3 = false → ∃ p, v0 = .slice (some p) 0 0 ∧ x.ownsRow W.heap.size 3 1 (.slice (some p) 0 0) 0 []) ∧
  (f3 = true → f8 = false → ∃ A c, v3 = .slice A ps.length c ∧ OwnI x W.heap.size (.slice A ps.length c) ps) ∧
  (f7 = true → f8 = false → ∃ b, v7 = .slice (some ⟨b, 0, none⟩) zs.length zs.length ∧ Lay.int.Rd x (some ⟨b, 0, none⟩) zs) ∧
  (f8 = true → ∃ A c ys, ys = ps ++ zs ∧ v8 = .slice A ys.length c ∧ OwnI x W.heap.size (.slice A ys.length c) ys) ∧
  (f10 = false → Below W.heap.size W x ∧ x.heap[iX]? = some (.cells bx 35 (0, 0))) ∧ (f10 = true → x.heap[iX]? = some (.cells (bx.setIfInBounds off v8) 35 (0, 0)))
/-- The walk stops here. -/
structure Stop (p : Prop) : Prop where
  out : p
section
variable {W x z : World} {iX off : Nat} {bx : Array Value} {ps zs : List Int} {v0 v3 v7 v8 : Value} {f0 f3 f7 f8 f10 : Bool}
theorem AaI.start (hb : W.heap[iX]? = some (.cells bx 35 (0, 0))) : AaI W iX off bx ps zs v0 v3 v7 v8 false false false false false (W.drewN 1) :=
  ⟨Gr.below (below_drewN (Below.refl _ _) 1), fun e => absurd e (by simp), fun e => absurd e (by simp), fun e => absurd e (by simp), fun e => absurd e (by simp), fun _ => ⟨below_drewN (Below.refl _ _) 1, hb⟩, fun e => absurd e (by simp)⟩
theorem AaI.up (h : AaI W iX off bx ps zs v0 v3 v7 v8 f0 f3 f7 f8 f10 x) (hb : Below x.heap.size x z) : AaI W iX off bx ps zs v0 v3 v7 v8 f0 f3 f7 f8 f10 z := by
  obtain ⟨h1, h2, h3, h4, h5, h6, h7⟩ := h
  have hsz := h1.size
  exact ⟨h1.up hb, fun e e' => (h2 e e').imp fun p ⟨k1, k2⟩ => ⟨k1, own_below k2 hb (Nat.le_refl _)⟩, fun e e' => by obtain ⟨A, c, k1, k2⟩ := h3 e e'; exact ⟨A, c, k1, k2.up hb⟩, fun e e' => (h4 e e').imp fun b ⟨k1, k2⟩ => ⟨k1, k2.up hb⟩, fun e => by obtain ⟨A, c, ys, k1, k2, k3⟩ := h5 e; exact ⟨A, c, ys, k1, k2, k3.up hb⟩, fun e => ⟨bthen (h6 e).1 hb, (hb.block _ (lt_of_block (h6 e).2)).trans (h6 e).2⟩, fun e => (hb.block _ (lt_of_block (h7 e))).trans (h7 e)⟩
theorem AaI.empty (h : AaI W iX off bx ps zs v0 v3 v7 v8 f0 f3 f7 f8 f10 x) : AaI W iX off bx ps zs (.slice (some ⟨x.heap.size, 0, none⟩) 0 0) v3 v7 v8 true f3 f7 f8 f10 (x.alloc (.cells #[] 3)) := by
  have hsz := h.1.size
  obtain ⟨h1, h2, h3, h4, h5, h6, h7⟩ := h.up ((Below.refl _ _).alloc (Nat.le_refl _) (.cells #[] 3))
  exact ⟨h1, fun _ _ => ⟨_, rfl, own_mono (own_lit0 rfl) hsz⟩, h3, h4, h5, h6, h7⟩
theorem AaI.copy {A : Option Addr} {c : Nat} (h : AaI W iX off bx ps zs v0 v3 v7 v8 f0 f3 f7 f8 f10 x) (hb : Below x.heap.size x z) (ho : OwnI z W.heap.size (.slice A ps.length c) ps) : AaI W iX off bx ps zs v0 (.slice A ps.length c) v7 v8 f0 true f7 f8 f10 z := by
  obtain ⟨h1, h2, h3, h4, h5, h6, h7⟩ := h.up hb
  exact ⟨h1, fun _ e => absurd e (by simp), fun _ _ => ⟨A, c, rfl, ho⟩, h4, h5, h6, h7⟩
theorem AaI.lit {cs : Array Value} (h : AaI W iX off bx ps zs v0 v3 v7 v8 f0 f3 f7 f8 f10 x) (hc : cs = (zs.map (Value.int .i64)).toArray) : AaI W iX off bx ps zs v0 v3 (.slice (some ⟨x.heap.size, 0, none⟩) zs.length zs.length) v8 f0 f3 true f8 f10 (x.alloc (.cells cs 3)) := by
  obtain ⟨h1, h2, h3, h4, h5, h6, h7⟩ := h.up ((Below.refl _ _).alloc (Nat.le_refl _) (.cells cs 3))
  exact ⟨h1, h2, h3, fun _ _ => ⟨_, rfl, (lit_sl (S := fun _ => False) x zs cs 3 hc (fun h => h)).mono fun _ h => h.1⟩, h5, h6, h7⟩
theorem AaI.app {A A' : Option Addr} {c c' : Nat} {ys : List Int} (h : AaI W iX off bx ps zs v0 v3 v7 v8 f0 f3 f7 f8 f10 x) (h3 : f3 = true) (h8 : f8 = false) (h10 : f10 = false) (hys : ys = ps ++ zs) (ho : OwnI x W.heap.size (.slice A ps.length c) ps) (ho' : OwnI z W.heap.size (.slice A' ys.length c') ys) (hg : x.grownBy z (Value.slice A ps.length c).ownBlock) : AaI W iX off bx ps zs v0 v3 v7 (.slice A' ys.length c') f0 f3 f7 true f10 z := by
  subst h3 h8 h10
  obtain ⟨h1, h2, h3, h4, h5, h6, h7⟩ := h
  obtain ⟨h6a, h6b⟩ := h6 rfl
  exact ⟨h1.own hg fun g e => (ho.lt g e).1, fun _ e => absurd e (by simp), fun _ e => absurd e (by simp), fun _ e => absurd e (by simp), fun _ => ⟨A', c', ys, hys, rfl, ho'⟩, fun _ => ⟨h6a.grown hg h1.size fun g e => (ho.lt g e).1, (hg.block _ (lt_of_block h6b) fun e => rowI_box ho h6b e.symm).trans h6b⟩, fun e => absurd e (by simp)⟩
theorem AaI.store (h : AaI W iX off bx ps zs v0 v3 v7 v8 f0 f3 f7 f8 f10 x) (h0 : f0 = true) (h3 : f3 = true) (h8 : f8 = true) (h10 : f10 = false) : AaI W iX off bx ps zs v0 v3 v7 v8 f0 f3 f7 f8 true (x.setCell ⟨iX, off, none⟩ v8) := by
  subst h0 h3 h8 h10
  obtain ⟨h1, h2, h3, h4, h5, h6, h7⟩ := h
  have hb := (h6 rfl).2
  have hg : Gr (fun k => k = iX) x (x.setCell ⟨iX, off, none⟩ v8) := Gr.set (Gr.refl (fun k => k = iX) x) iX off v8 (.inl rfl)
  exact ⟨h1.trans hg, fun _ e => absurd e (by simp), fun _ e => absurd e (by simp), fun _ e => absurd e (by simp), fun _ => by
    obtain ⟨A, c, ys, k1, k2, k3⟩ := h5 rfl
    exact ⟨A, c, ys, k1, k2, own_of_heap k3 fun k hk => hg.block k (k3.lt k hk).2 fun e => rowI_box k3 hb (by rw [hk, show k = iX from e])⟩, fun e => absurd e (by simp), fun _ => heap_set_same x iX off v8 _ _ hb⟩
theorem AaI.fin (h : AaI W iX off bx ps zs v0 v3 v7 v8 f0 f3 f7 f8 f10 x) (h8 : f8 = true) (h10 : f10 = true) : ∃ A c, OwnI x W.heap.size (.slice A (ps ++ zs).length c) (ps ++ zs) ∧ x.heap[iX]? = some (.cells (bx.setIfInBounds off (.slice A (ps ++ zs).length c)) 35 (0, 0)) ∧ Gr (fun k => k = iX) W x := by
  subst h8 h10
  obtain ⟨h1, h2, h3, h4, h5, h6, h7⟩ := h
  obtain ⟨A, c, ys, k1, k2, k3⟩ := h5 rfl
  subst k1
  have := h7 rfl
  rw [k2] at this
  exact ⟨A, c, k3, this, h1⟩
end
theorem okS.sm8 {n : Nat} {s : S} (h : okS n s) (hn : n ≤ 300) : smS s := by
  have h1 := h.put
  have h2 := h.why
  have h3 := h.lrn
  refine ⟨⟨by omega, h.puts⟩, ⟨by omega, h.whys⟩, ⟨by omega, fun cl hcl => ⟨by have := (h.cls cl hcl).1; omega, (h.cls cl hcl).2⟩, ?_⟩, h.code⟩
  have key : ∀ ys : List (List Int), (∀ l ∈ ys, l.length ≤ 700) → nsum (ys.map List.length) ≤ ys.length * 700 := by
    intro ys
    induction ys with
    | nil => intro _; simp [nsum]
    | cons y ys ih =>
      intro hy
      have h1 := ih fun l hl => hy l (by simp [hl])
      have h2 := hy y (by simp)
      simp only [List.map_cons, nsum, List.length_cons]
      omega
  have := key s.learned fun l hl => (h.cls l hl).1
  omega
/-- Searches that can not be. -/
theorem bent_put {x : C} {s : S} : satOk x ⟨s.put ++ [x.many + 1], s.why ++ [-1], s.learned, s.code⟩ = false := satOk_no fun h => by
  have := h.good.rng (x.many + 1) (List.mem_append_right _ (List.mem_singleton.2 rfl))
  omega
theorem bent_twice {x : C} {s : S} (hp : 0 < s.put.length) : satOk x ⟨s.put ++ s.put, s.why ++ s.why, s.learned, s.code⟩ = false := satOk_no fun h => by
  have h1 := h.good.nodup
  rw [List.map_append, List.nodup_append] at h1
  have hm := List.getElem_mem hp
  exact h1.2.2 _ (List.mem_map.2 ⟨_, hm, rfl⟩) _ (List.mem_map.2 ⟨_, hm, rfl⟩) rfl
theorem bent_zero {x : C} {s : S} : satOk x ⟨s.put, s.why, s.learned ++ [[0]], s.code⟩ = false := satOk_no fun h => by
  have := h.cls [0] (List.mem_append_right _ (List.mem_singleton.2 rfl))
  simp [clOk, cOk] at this
theorem bent_why {x : C} {s : S} (h0 : satOk x s = true) : satOk x ⟨s.put, s.why ++ [-1], s.learned, s.code⟩ = false := satOk_no fun h => by
  have h1 := h.len
  have h2 := ((satOk_iff x s).1 h0).len
  simp at h1
  omega
theorem same_put {s : S} {y : Int} {q : List Int} : sameS s ⟨s.put ++ [y], q, s.learned, s.code⟩ = false := by
  unfold sameS
  rw [decide_eq_false (by intro e; have := congrArg List.length e; simp at this)]
  rfl
theorem same_lrn {s : S} {cl : List Int} : sameS s ⟨s.put, s.why, s.learned ++ [cl], s.code⟩ = false := by
  unfold sameS
  rw [decide_eq_false (p := s.learned = s.learned ++ [cl]) (by intro e; have := congrArg List.length e; simp at this)]
  simp
theorem okS.addTwice {n : Nat} {s : S} (h : okS n s) (hn : n ≤ 300) : smS ⟨s.put ++ s.put, s.why ++ s.why, s.learned, s.code⟩ := by
  have h1 := (okS.sm8 h hn)
  refine ⟨⟨?_, ?_⟩, ⟨?_, ?_⟩, h1.2.2.1, h1.2.2.2⟩
  · show (s.put ++ s.put).length ≤ _; rw [List.length_append]; have := h.put; omega
  · intro l hl; rcases List.mem_append.1 hl with hl | hl <;> exact h.puts l hl
  · show (s.why ++ s.why).length ≤ _; rw [List.length_append]; have := h.why; omega
  · intro l hl; rcases List.mem_append.1 hl with hl | hl <;> exact h.whys l hl
/-- A row is stored in a box of the stage's own. -/
theorem sat_put {u y w8 : World} {iX off lo' c8 : Nat} {A8 : Option Addr} {qs : List Int} {cs : Array Value} (hB : Below u.heap.size u y) (hB8 : Below y.heap.size y w8) (hi : u.heap.size ≤ iX) (hX : w8.heap[iX]? = some (.cells cs 35 (0, 0))) (ho8 : OwnI w8 lo' (.slice A8 qs.length c8) qs) :
    Below u.heap.size u (w8.setCell ⟨iX, off, none⟩ (.slice A8 qs.length c8)) ∧ (w8.setCell ⟨iX, off, none⟩ (.slice A8 qs.length c8)).heap[iX]? = some (.cells (cs.setIfInBounds off (.slice A8 qs.length c8)) 35 (0, 0)) ∧
    Lay.int.Rd (w8.setCell ⟨iX, off, none⟩ (.slice A8 qs.length c8)) A8 qs ∧ qs.length ≤ c8 ∧
    (∀ (A : Option Addr) (c : Nat) (ps : List Int) (lo : Nat), OwnI y lo (.slice A ps.length c) ps → Lay.int.Rd (w8.setCell ⟨iX, off, none⟩ (.slice A8 qs.length c8)) A ps ∧ ps.length ≤ c) := by
  have hgr : Gr (fun k => k = iX) w8 (w8.setCell ⟨iX, off, none⟩ (.slice A8 qs.length c8)) := Gr.set (Gr.refl (fun k => k = iX) w8) iX off _ (.inl rfl)
  have key : ∀ (A : Option Addr) (c : Nat) (ps : List Int) (lo : Nat), OwnI w8 lo (.slice A ps.length c) ps → Lay.int.Rd (w8.setCell ⟨iX, off, none⟩ (.slice A8 qs.length c8)) A ps ∧ ps.length ≤ c := fun A c ps lo ho =>
    ⟨OwnI.rd (base := lo) (c := c) (own_of_heap ho fun k hk => hgr.block k (ho.lt k hk).2 fun e => rowI_box ho hX (by rw [hk, show k = iX from e])), OwnI.cap ho⟩
  exact ⟨(bthen hB hB8).setCell hi _, heap_set_same w8 iX off _ _ _ hX, (key _ _ _ _ ho8).1, (key _ _ _ _ ho8).2, fun A c ps lo ho => key A c ps lo (ho.up hB8)⟩
theorem own_gr9 {y y2 : World} {iX lo : Nat} {v : Value} {ys : List Int} {cs : Array Value} (ho : OwnI y lo v ys) (hX : y.heap[iX]? = some (.cells cs 35 (0, 0))) (hg : Gr (fun k => k = iX) y y2) : OwnI y2 lo v ys :=
  own_of_heap ho fun k hk => hg.block k (ho.lt k hk).2 fun e => rowI_box ho hX (by rw [hk, show k = iX from e])
end Go.Proofs.Ytbljfhmcebgdaaa

/-! Words for regions that copy a formula's outer row into a new formula. -/
namespace Go.Proofs.Ytbljfhmcebgdaaa
open Go Go.RowKit

/-- Nothing turned but cells of fresh formulas. -/
def RC (W0 : Nat) (x x' : World) : Prop := x.heap.size ≤ x'.heap.size ∧ ∀ i, i < x.heap.size → x'.heap[i]? = x.heap[i]? ∨ (W0 ≤ i ∧ (∃ cs, x.heap[i]? = some (.cells cs 25 (0, 0)) ∧ ∃ cs', x'.heap[i]? = some (.cells cs' 25 (0, 0)) ∧ cs'.size = cs.size))
theorem RC.refl (W0 : Nat) (x : World) : RC W0 x x := ⟨Nat.le_refl _, fun _ _ => .inl rfl⟩
theorem RC.of {W0 : Nat} {x x' : World} (h : Below x.heap.size x x') : RC W0 x x' := ⟨h.size, fun i hi => .inl (h.block i hi)⟩
theorem RC.same {W0 : Nat} {x x' : World} (h : RC W0 x x') {b : Nat} {o : Obj} (hb : x.heap[b]? = some o) (ho : ∀ cs, o ≠ .cells cs 25 (0, 0)) : x'.heap[b]? = some o := by
  rcases h.2 b (Array.getElem?_eq_some_iff.1 hb).1 with e | ⟨_, ⟨cs, e, _⟩⟩
  · rw [e]; exact hb
  · rw [hb] at e; injection e with e; exact absurd e (ho cs)
theorem RC.low {W0 : Nat} {x x' : World} (h : RC W0 x x') {b : Nat} (hb : b < W0) (hx : b < x.heap.size) : x'.heap[b]? = x.heap[b]? := by
  rcases h.2 b hx with e | ⟨h1, _⟩
  · exact e
  · omega
theorem RC.two {W0 : Nat} {x x' : World} (h : RC W0 x x') {b : Nat} (hb : ∃ z0 z1, x.heap[b]? = some (.cells #[z0, z1] 25 (0, 0))) : ∃ z0 z1, x'.heap[b]? = some (.cells #[z0, z1] 25 (0, 0)) := by
  obtain ⟨z0, z1, hb⟩ := hb
  rcases h.2 b (Array.getElem?_eq_some_iff.1 hb).1 with e | ⟨_, ⟨cs, e, cs', e', hs⟩⟩
  · exact ⟨z0, z1, by rw [e]; exact hb⟩
  · rw [hb] at e; injection e with e; injection e with e1 e2 e3
    rw [← e1] at hs
    match cs', hs with
    | ⟨[y0, y1]⟩, _ => exact ⟨y0, y1, e'⟩
abbrev OwnC (W0 : Nat) (w : World) (v : Value) (xs : List (List Int)) : Prop := OwnL Lay.int.slice (NotIn (fun b => W0 ≤ b)) 26 w W0 v xs
theorem tneC : ∀ cs : Array Value, ∀ cur : Array Value, Obj.cells cur 26 (0, 0) ≠ .cells cs 25 (0, 0) := fun _ _ e => by injection e with _ e _; exact absurd e (by decide)
theorem OwnC.rc {W0 : Nat} {x x' : World} {v : Value} {xs : List (List Int)} (h : OwnC W0 x v xs) (hr : RC W0 x x') : OwnC W0 x' v xs := by
  obtain ⟨cs, h1, h2⟩ := h
  refine ⟨cs, ?_, fun i y hy => ?_⟩
  · refine ⟨h1.1, ?_⟩
    rcases h1.2 with hn | ⟨g, cap, cur, e, hb, hgg, rest⟩
    · exact .inl hn
    · exact .inr ⟨g, cap, cur, e, hb, hr.same hgg (fun cs => tneC cs cur), rest⟩
  · obtain ⟨vs, hR, hu⟩ := h2 i y hy
    exact ⟨vs, Lay.int.slice.mono (fun b hb => ⟨Nat.lt_of_lt_of_le hb.1 hr.1, hb.2⟩) (Lay.int.slice.keep (fun b hb => hr.low (by have : ¬ W0 ≤ b := hb.2.2; omega) hb.1) hR), hu⟩
theorem OwnL.ne {α : Type} {L : Lay α} {Q : World → Nat → Prop} {e t : TypeId} {w : World} {lo b : Nat} {v : Value} {xs : List α} {cs : Array Value} (h : OwnL L Q e w lo v xs) (hb : w.heap[b]? = some (.cells cs t (0, 0))) (ht : t ≠ e) : v.ownBlock ≠ some b := by
  obtain ⟨_, h1, _⟩ := h
  rcases h1.2 with ⟨e1, _⟩ | ⟨g, cap, cur, e1, _, hg, _⟩
  · rw [e1]; intro h; cases h
  · rw [e1]
    intro h
    have : g = b := by simpa [Value.ownBlock] using h
    subst this
    rw [hb] at hg
    injection hg with hg; injection hg with _ hg _
    exact ht hg
theorem OwnL.grNe {α : Type} {L : Lay α} {e : TypeId} {w w' : World} {lo : Nat} {S : Nat → Prop} {v : Value} {xs : List α} (h : OwnL L (NotIn S) e w lo v xs) (hg : Gr S w w') (hne : ∀ g, v.ownBlock = some g → ¬ S g) : OwnL L (NotIn S) e w' lo v xs := by
  obtain ⟨cs, h1, h2⟩ := h
  refine ⟨cs, own_of_heap h1 fun g hg' => hg.block g (h1.lt g hg').2 (hne g hg'), fun i x hx => ?_⟩
  obtain ⟨vs, hr, hu⟩ := h2 i x hx
  exact ⟨vs, L.mono (fun b hb => ⟨Nat.lt_of_lt_of_le hb.1 hg.size, hb.2.1, hb.2.2⟩) (L.keep (fun b hb => hg.block b hb.1 hb.2.2) hr), hu⟩
/-- The row of the formula in block i. -/
abbrev OwnD (i W0 : Nat) (w : World) (v : Value) (xs : List (List Int)) : Prop := OwnL Lay.int.slice (NotIn (fun b => b = i)) 26 w W0 v xs
/-- A row that was written down: block b. -/
def LitAt (B : Nat) (xs : List Int) (b : Nat) (x : World) : Prop := B ≤ b ∧ Lay.int.Sl x (fun y => y = b ∧ b < x.heap.size) (some ⟨b, 0, none⟩) xs
theorem LitAt.up {B : Nat} {xs : List Int} {b : Nat} {x x' : World} (h : LitAt B xs b x) (hb : Below x.heap.size x x') : LitAt B xs b x' := ⟨h.1, (h.2.keep fun y hy => hb.block y (by rw [hy.1]; exact hy.2)).mono fun y hy => ⟨hy.1, Nat.lt_of_lt_of_le hy.2 hb.size⟩⟩
end Go.Proofs.Ytbljfhmcebgdaaa
