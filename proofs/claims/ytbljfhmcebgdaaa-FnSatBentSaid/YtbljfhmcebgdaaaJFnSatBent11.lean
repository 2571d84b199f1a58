/- The reference's search: l5Clash. -/
import Derived.Test.YtbljfhmcebgdaaaJFnSatBent10
/-! The reference's search: l5Clash. -/
namespace Go.Proofs.Ytbljfhmcebgdaaa
open Go Go.RowKit

/-- A search is handed back: what came in with another code, or rows of the call's own, apart from each other and from what was learned. -/
def RetCs (FL : Nat → Prop) (s s' : S) (P Q D : Option Addr) (p q d : Nat) (w : World) (e : Ending) (w' : World) : Prop :=
  ∃ (P' Q' D' : Option Addr) (p' q' d' : Nat), e = .returned (.agg #[.slice P' s'.put.length p', .slice Q' s'.why.length q', .slice D' s'.learned.length d', .int .i64 s'.code]) ∧ Below w.heap.size w w' ∧
    ((P' = P ∧ Q' = Q ∧ D' = D ∧ p' = p ∧ q' = q ∧ d' = d ∧ s'.put = s.put ∧ s'.why = s.why ∧ s'.learned = s.learned) ∨
     (OwnI w' w.heap.size (.slice P' s'.put.length p') s'.put ∧ OwnI w' w.heap.size (.slice Q' s'.why.length q') s'.why ∧ (∀ g, (Value.slice P' s'.put.length p').ownBlock = some g → (Value.slice Q' s'.why.length q').ownBlock ≠ some g) ∧ s'.learned.length ≤ d' ∧
      Lay.int.slice.Sl w' (fun b => FL b ∨ (w.heap.size ≤ b ∧ b < w'.heap.size ∧ (Value.slice P' s'.put.length p').ownBlock ≠ some b ∧ (Value.slice Q' s'.why.length q').ownBlock ≠ some b)) D' s'.learned))
theorem old_code {w wr : World} {b : Nat} {s : S} {P Q D : Option Addr} {p q d : Nat} {FL : Nat → Prop} {z : Int} (he : w.heap.size ≤ b) (h1 : wr.heap[b]? = some (.cells #[.slice P s.put.length p, .slice Q s.why.length q, .slice D s.learned.length d, .int .i64 s.code] 35 (0, 0))) (h2 : wr.heap[b + 1]? = some (.cells #[.slice none 0 0, .slice none 0 0, .slice none 0 0, .int .i64 0] 35 (0, 0))) (hb : Below w.heap.size w wr) :
    (((((wr.setCell ⟨b, 3, none⟩ (.int .i64 z)).setCell ⟨b + 1, 0, none⟩ (.slice P s.put.length p)).setCell ⟨b + 1, 1, none⟩ (.slice Q s.why.length q)).setCell ⟨b + 1, 2, none⟩ (.slice D s.learned.length d)).setCell ⟨b + 1, 3, none⟩ (.int .i64 z)).heap[b + 1]? = some (.cells #[.slice P s.put.length p, .slice Q s.why.length q, .slice D s.learned.length d, .int .i64 z] 35 (0, 0)) ∧ RetCs FL s ⟨s.put, s.why, s.learned, z⟩ P Q D p q d w (.returned (.agg #[.slice P s.put.length p, .slice Q s.why.length q, .slice D s.learned.length d, .int .i64 z])) (((((wr.setCell ⟨b, 3, none⟩ (.int .i64 z)).setCell ⟨b + 1, 0, none⟩ (.slice P s.put.length p)).setCell ⟨b + 1, 1, none⟩ (.slice Q s.why.length q)).setCell ⟨b + 1, 2, none⟩ (.slice D s.learned.length d)).setCell ⟨b + 1, 3, none⟩ (.int .i64 z)) := by
  have k2 : (wr.setCell ⟨b, 3, none⟩ (.int .i64 z)).heap[b + 1]? = some (.cells #[.slice none 0 0, .slice none 0 0, .slice none 0 0, .int .i64 0] 35 (0, 0)) := by rw [Below.heap_setCell wr ⟨b, 3, none⟩ _ (b + 1) (by show b + 1 ≠ b; omega)]; exact h2
  have f0 := heap_set_same _ (b + 1) 0 (.slice P s.put.length p) _ _ k2
  have f1 := heap_set_same _ (b + 1) 1 (.slice Q s.why.length q) _ _ f0
  have f2 := heap_set_same _ (b + 1) 2 (.slice D s.learned.length d) _ _ f1
  have f3 := heap_set_same _ (b + 1) 3 (.int .i64 z) _ _ f2
  refine ⟨f3, P, Q, D, p, q, d, rfl, ?_, .inl ⟨rfl, rfl, rfl, rfl, rfl, rfl, rfl, rfl, rfl⟩⟩
  exact below_setE (p := ⟨b + 1, 3, none⟩) (below_setE (p := ⟨b + 1, 2, none⟩) (below_setE (p := ⟨b + 1, 1, none⟩) (below_setE (p := ⟨b + 1, 0, none⟩) (below_setE (p := ⟨b, 3, none⟩) hb (by show w.heap.size ≤ b; omega) _) (by show w.heap.size ≤ b + 1; omega) _) (by show w.heap.size ≤ b + 1; omega) _) (by show w.heap.size ≤ b + 1; omega) _) (by show w.heap.size ≤ b + 1; omega) _
/-- Where what was learned lies. -/
abbrev QL (FL : Nat → Prop) (lo lim : Nat) : World → Nat → Prop := fun _ b => FL b ∨ (lo ≤ b ∧ b < lim)
theorem rowi_info : (Try.prog.info? 26).map (fun i => (i.zero, i.size, i.bytes)) = some (some (.slice none 0 0), 1, 24) := by kernel_rfl
theorem rowi_one : ∀ w F (x : List Int) vs, Lay.int.slice.R w F x vs → ∀ u ∈ vs, u.oneCell' = true := by
  rintro w F x vs ⟨A, c, rfl, _, _⟩ u hu
  simp at hu
  subst hu
  rfl
/-- append of some rows onto a row of the call's own. -/
theorem wpList_append_list {Q9 : Exit → Act → World → Prop} {ops : Array Oper} {rest : List Oper} {o : Oper} {a : Act} {w : World} {FL G : Nat → Prop} {lo4 lim lo : Nat} {A B : Option Addr} {c d : Nat} {xs zs ys : List (List Int)} (hgd : o.guard = none) (s x : Operand)
    (ho : o.op = .call { callee := .builtin .append, args := #[s, x], argTypes := #[23, 23] }) (hs : a.eval s = .slice A xs.length c) (hx : a.eval x = .slice B zs.length d)
    (hown : OwnL Lay.int.slice (QL FL lo4 lim) 26 w lo (.slice A xs.length c) xs) (hr : Lay.int.slice.Sl w G B zs) (hG : ∀ b, G b → b < w.heap.size ∧ (Value.slice A xs.length c).ownBlock ≠ some b ∧ QL FL lo4 lim w b) (hn : xs.length ≤ 2000000) (hm : zs.length ≤ 2000000) (hlo : lo ≤ w.heap.size) (hy : ys = xs ++ zs)
    (h : ∀ A' c' w', OwnL Lay.int.slice (QL FL lo4 lim) 26 w' lo (.slice A' ys.length c') ys → Below lo w w' → w.grownBy w' (Value.slice A xs.length c).ownBlock → wpList Try.prog ops Q9 rest (a.put o.dst (.slice A' ys.length c')) w') : wpList Try.prog ops Q9 (o :: rest) a w := by
  obtain ⟨i0, hi0, hz0, hz1, hz2⟩ := info_parts rowi_info
  refine wpList_append_rows (L := Lay.int.slice) (Q := QL FL lo4 lim) hgd s x ho Try.underlying23 hi0 hz0 hz1 hz2 rfl (by show 0 < 1; omega) rowi_one hs hx hown (fun _ _ _ _ h => h) hr hG hn hm (by omega) hlo hy ?_
  intro A' c' w' h1 h2 h3
  exact h A' c' w' h1 ((Below.refl _ _).grown h2 hlo (fun k hk => (hown.lt k hk).1)) h2
/-- append of one row, laid in a block of its own. -/
theorem wpList_append_list1 {Q9 : Exit → Act → World → Prop} {ops : Array Oper} {rest : List Oper} {o : Oper} {a : Act} {w : World} {FL : Nat → Prop} {lo4 lim lo g : Nat} {A B : Option Addr} {c r : Nat} {xs ys : List (List Int)} {R : List Int} (hgd : o.guard = none) (s x : Operand)
    (ho : o.op = .call { callee := .builtin .append, args := #[s, x], argTypes := #[23, 23] }) (hs : a.eval s = .slice A xs.length c) (hx : a.eval x = .slice (some ⟨g, 0, none⟩) 1 1)
    (hown : OwnL Lay.int.slice (QL FL lo4 lim) 26 w lo (.slice A xs.length c) xs) (hb : w.heap[g]? = some (.cells #[.slice B R.length r] 26 (0, 0))) (hrc : R.length ≤ r) (hR : Lay.int.Sl w (fun b => lo4 ≤ b ∧ b < lim) B R) (hlim : lim ≤ lo) (hn : xs.length ≤ 2000000) (hlo : lo ≤ w.heap.size) (hy : ys = xs ++ [R])
    (h : ∀ A' c' w', OwnL Lay.int.slice (QL FL lo4 lim) 26 w' lo (.slice A' ys.length c') ys → Below lo w w' → w.grownBy w' (Value.slice A xs.length c).ownBlock → wpList Try.prog ops Q9 rest (a.put o.dst (.slice A' ys.length c')) w') : wpList Try.prog ops Q9 (o :: rest) a w := by
  obtain ⟨i0, hi0, hz0, hz1, hz2⟩ := info_parts rowi_info
  have hsrc : Src w 1 (some ⟨g, 0, none⟩) 1 [.slice B R.length r] := by
    have := src_block (m := 1) (size := 1) hb rfl
    simpa using this
  refine wpList_append_rowsS (L := Lay.int.slice) (Q := QL FL lo4 lim) (G := fun b => lo4 ≤ b ∧ b < lim) (news := [.slice B R.length r]) (zs := [R]) hgd s x ho Try.underlying23 hi0 hz0 hz1 hz2 rfl (by show 0 < 1; omega) hs hx hown (fun _ _ _ _ h => h) hsrc (by intro u hu; simp at hu; subst hu; rfl) (fun i y hiy => ?_) (fun e => by cases e) (fun b hb9 => ⟨by omega, fun e => by have := (hown.lt b e).1; omega, .inr hb9⟩) hn (by simp) (by omega) hlo hy ?_
  · match i, hiy with
    | 0, hiy =>
      injection hiy with hiy
      subst hiy
      exact ⟨_, ⟨B, r, rfl, hrc, hR⟩, fun j u hu => by
        match j, hu with
        | 0, hu => exact hu
        | j + 1, hu => simp at hu⟩
    | i + 1, hiy => simp at hiy
  · intro A' c' w' h1 h2 _
    exact h A' c' w' h1 ((Below.refl _ _).grown h2 hlo (fun k hk => (hown.lt k hk).1)) h2
theorem gr_bel {w w' : World} (h : Gr (fun b => b = w.heap.size) w w') : Below w.heap.size w w' := h.to_below' (Nat.le_refl _) fun x e => by rw [show x = w.heap.size from e]; exact Nat.le_refl _
theorem ownI_gr {S : Nat → Prop} {w w' : World} {base : Nat} {v : Value} {xs : List Int} (h : OwnI w base v xs) (hg : Gr S w w') (hr : ∀ b, S b → b < base) : OwnI w' base v xs :=
  ⟨h.1, h.2.imp id fun ⟨g, cap, cur, e, hb, hc, r⟩ => ⟨g, cap, cur, e, hb, (hg.block g (lt_of_block hc) (fun e9 => by have := hr g e9; omega)).trans hc, r⟩⟩
theorem ownI_lt {w : World} {base : Nat} {v : Value} {xs : List Int} (h : OwnI w base v xs) (g : Nat) (e : v.ownBlock = some g) : base ≤ g ∧ g < w.heap.size := by
  rcases h.2 with ⟨rfl, _⟩ | ⟨g9, cap, cur, rfl, hb, hc, _⟩
  · cases e
  · have e9 : g9 = g := by simpa [Value.ownBlock] using e
    subst e9
    exact ⟨hb, lt_of_block hc⟩
theorem new_box {w wd y : World} {b : Nat} {FL : Nat → Prop} {P8 Q8 A8 : Option Addr} {p8 q8 c8 : Nat} {ps qs : List Int} {zs : List (List Int)} {z : Int} (he : w.heap.size ≤ b) (hb : b + 1 < wd.heap.size) (hw : Below w.heap.size w wd) (hi : Below wd.heap.size wd y) (hc : y.heap[b + 1]? = some (.cells #[.slice none 0 0, .slice none 0 0, .slice none 0 0, .int .i64 0] 35 (0, 0)))
    (ho : OwnI y wd.heap.size (.slice P8 ps.length p8) ps ∧ OwnI y wd.heap.size (.slice Q8 qs.length q8) qs ∧ (∀ g, (Value.slice P8 ps.length p8).ownBlock = some g → (Value.slice Q8 qs.length q8).ownBlock ≠ some g)) (hz : Lay.int.slice.Sl wd (fun k => FL k ∨ (w.heap.size ≤ k ∧ k ≠ b + 1 ∧ k < wd.heap.size)) A8 zs) (hf : ∀ k, FL k → k < w.heap.size) :
    Below w.heap.size w ((((y.setCell ⟨b + 1, 0, none⟩ (.slice P8 ps.length p8)).setCell ⟨b + 1, 1, none⟩ (.slice Q8 qs.length q8)).setCell ⟨b + 1, 2, none⟩ (.slice A8 zs.length c8)).setCell ⟨b + 1, 3, none⟩ (.int .i64 z)) ∧ ((((((y.setCell ⟨b + 1, 0, none⟩ (.slice P8 ps.length p8)).setCell ⟨b + 1, 1, none⟩ (.slice Q8 qs.length q8)).setCell ⟨b + 1, 2, none⟩ (.slice A8 zs.length c8)).setCell ⟨b + 1, 3, none⟩ (.int .i64 z))).heap[b + 1]? = some (.cells #[.slice P8 ps.length p8, .slice Q8 qs.length q8, .slice A8 zs.length c8, .int .i64 z] 35 (0, 0)) ∧ wd.heap.size ≤ (((((y.setCell ⟨b + 1, 0, none⟩ (.slice P8 ps.length p8)).setCell ⟨b + 1, 1, none⟩ (.slice Q8 qs.length q8)).setCell ⟨b + 1, 2, none⟩ (.slice A8 zs.length c8)).setCell ⟨b + 1, 3, none⟩ (.int .i64 z))).heap.size ∧ (OwnI ((((y.setCell ⟨b + 1, 0, none⟩ (.slice P8 ps.length p8)).setCell ⟨b + 1, 1, none⟩ (.slice Q8 qs.length q8)).setCell ⟨b + 1, 2, none⟩ (.slice A8 zs.length c8)).setCell ⟨b + 1, 3, none⟩ (.int .i64 z)) wd.heap.size (.slice P8 ps.length p8) ps ∧ OwnI ((((y.setCell ⟨b + 1, 0, none⟩ (.slice P8 ps.length p8)).setCell ⟨b + 1, 1, none⟩ (.slice Q8 qs.length q8)).setCell ⟨b + 1, 2, none⟩ (.slice A8 zs.length c8)).setCell ⟨b + 1, 3, none⟩ (.int .i64 z)) wd.heap.size (.slice Q8 qs.length q8) qs ∧ (∀ g, (Value.slice P8 ps.length p8).ownBlock = some g → (Value.slice Q8 qs.length q8).ownBlock ≠ some g)) ∧ Lay.int.slice.Sl ((((y.setCell ⟨b + 1, 0, none⟩ (.slice P8 ps.length p8)).setCell ⟨b + 1, 1, none⟩ (.slice Q8 qs.length q8)).setCell ⟨b + 1, 2, none⟩ (.slice A8 zs.length c8)).setCell ⟨b + 1, 3, none⟩ (.int .i64 z)) (fun k => FL k ∨ (w.heap.size ≤ k ∧ k < wd.heap.size)) A8 zs) ∧ Gr (fun k => k = b + 1) y ((((y.setCell ⟨b + 1, 0, none⟩ (.slice P8 ps.length p8)).setCell ⟨b + 1, 1, none⟩ (.slice Q8 qs.length q8)).setCell ⟨b + 1, 2, none⟩ (.slice A8 zs.length c8)).setCell ⟨b + 1, 3, none⟩ (.int .i64 z)) := by
  have f0 := heap_set_same _ (b + 1) 0 (.slice P8 ps.length p8) _ _ hc
  have f1 := heap_set_same _ (b + 1) 1 (.slice Q8 qs.length q8) _ _ f0
  have f2 := heap_set_same _ (b + 1) 2 (.slice A8 zs.length c8) _ _ f1
  have f3 := heap_set_same _ (b + 1) 3 (.int .i64 z) _ _ f2
  have hg : Gr (fun k => k = b + 1) y ((((y.setCell ⟨b + 1, 0, none⟩ (.slice P8 ps.length p8)).setCell ⟨b + 1, 1, none⟩ (.slice Q8 qs.length q8)).setCell ⟨b + 1, 2, none⟩ (.slice A8 zs.length c8)).setCell ⟨b + 1, 3, none⟩ (.int .i64 z)) := Gr.set (Gr.set (Gr.set (Gr.set (Gr.refl (fun k => k = b + 1) y) (b + 1) 0 _ (.inl rfl)) (b + 1) 1 _ (.inl rfl)) (b + 1) 2 _ (.inl rfl)) (b + 1) 3 _ (.inl rfl)
  generalize ((((y.setCell ⟨b + 1, 0, none⟩ (.slice P8 ps.length p8)).setCell ⟨b + 1, 1, none⟩ (.slice Q8 qs.length q8)).setCell ⟨b + 1, 2, none⟩ (.slice A8 zs.length c8)).setCell ⟨b + 1, 3, none⟩ (.int .i64 z)) = v at *
  have hsz := Nat.le_trans hi.size hg.size
  refine ⟨(hw.trans (hi.mono hw.size)).trans (hg.to_below' (Nat.le_trans hw.size hi.size) fun k hk => by have : k = b + 1 := hk; omega), ⟨f3, hsz, ⟨ownI_gr ho.1 hg (fun k hk => by have : k = b + 1 := hk; omega), ownI_gr ho.2.1 hg (fun k hk => by have : k = b + 1 := hk; omega), ho.2.2⟩, ?_⟩, hg⟩
  refine (hz.keep fun k hk => ?_).mono fun k hk => hk.imp id fun h => ⟨h.1, h.2.2⟩
  rcases hk with hk | hk
  · have := hf k hk
    have := hw.size
    exact (hg.block k (by have := hi.size; omega) (by show ¬ k = b + 1; omega)).trans (hi.block k (by omega))
  · exact (hg.block k (by have := hi.size; omega) hk.2.1).trans (hi.block k hk.2.2)
theorem new_ret {w wd y : World} {b : Nat} {FL : Nat → Prop} {s : S} {P Q D P8 Q8 A8 : Option Addr} {p q d p8 q8 c8 : Nat} {ps qs : List Int} {zs : List (List Int)} {z : Int} (he : w.heap.size ≤ b) (hb : b + 1 < wd.heap.size) (hw : Below w.heap.size w y) (_hx : y.heap[b + 1]? = some (.cells #[.slice P8 ps.length p8, .slice Q8 qs.length q8, .slice A8 zs.length c8, .int .i64 z] 35 (0, 0))) (hs : wd.heap.size ≤ y.heap.size) (h1 : OwnI y wd.heap.size (.slice P8 ps.length p8) ps) (h2 : OwnI y wd.heap.size (.slice Q8 qs.length q8) qs) (h3 : ∀ g, (Value.slice P8 ps.length p8).ownBlock = some g → (Value.slice Q8 qs.length q8).ownBlock ≠ some g)
    (hz : Lay.int.slice.Sl y (fun k => FL k ∨ (w.heap.size ≤ k ∧ k < wd.heap.size)) A8 zs) (hc : zs.length ≤ c8) (hd : w.heap.size ≤ wd.heap.size) : RetCs FL s ⟨ps, qs, zs, z⟩ P Q D p q d w (.returned (.agg #[.slice P8 ps.length p8, .slice Q8 qs.length q8, .slice A8 zs.length c8, .int .i64 z])) y := by
  refine ⟨P8, Q8, A8, p8, q8, c8, rfl, hw, .inr ⟨own_low h1 hd, own_low h2 hd, h3, hc, hz.mono fun k hk => hk.imp id fun h => ⟨h.1, Nat.lt_of_lt_of_le h.2 hs, fun e => ?_, fun e => ?_⟩⟩⟩
  · have := ownI_lt h1 _ e; omega
  · have := ownI_lt h2 _ e; omega
set_option maxRecDepth 100000 in
set_option maxHeartbeats 16000000 in
theorem l5Clash_any (x : C) (s : S) (A P Q D B : Option Addr) (a p q d c M : Nat) (cl : List Int) (FL : Nat → Prop) (w : World) (hM : x.many = (M : Int)) (hM2 : M ≤ 1000) (h : SRd w x s A P Q D) (hfl : Lay.int.slice.Sl w FL D s.learned) (hFL : ∀ b, FL b → b < w.heap.size) (hg : SatGood x s) (hcl : Lay.int.Rd w B cl) (hc : clOk (M : Int) cl = true) (hf : ∀ y ∈ cl, -y ∈ s.put) (hp : s.put.length ≤ p) (hq : s.why.length ≤ q) :
    Calls Try.prog 115 #[.agg #[.int .i64 x.many, .slice A x.list.length a], .agg #[.slice P s.put.length p, .slice Q s.why.length q, .slice D s.learned.length d, .int .i64 s.code], .slice B cl.length c] w (RetCs FL s (clashP M x s cl) P Q D p q d w) := by
  have HMM := Lib.hid hM
  rw [hM]
  have hgd : Good M s.put := by rw [← hM]; exact hg.good
  have hal1 : Below w.heap.size w (w.alloc (.cells #[.int .i64 (M : Int), .slice A x.list.length a] 25)) := (Below.refl _ _).alloc (Nat.le_refl _) _
  have hs1 : (w.alloc (.cells #[.int .i64 (M : Int), .slice A x.list.length a] 25)).heap.size = w.heap.size + 1 := by simp
  have hb1 := heap_alloc_new w (.cells #[.int .i64 (M : Int), .slice A x.list.length a] 25)
  obtain ⟨w1, hw1⟩ : ∃ w1, w1 = w.alloc (.cells #[.int .i64 (M : Int), .slice A x.list.length a] 25) := ⟨_, rfl⟩
  rw [← hw1] at hal1 hs1 hb1
  have hal2 : Below w1.heap.size w1 (w1.alloc (.cells #[.slice P s.put.length p, .slice Q s.why.length q, .slice D s.learned.length d, .int .i64 s.code] 35)) := (Below.refl _ _).alloc (Nat.le_refl _) _
  have hs2 : (w1.alloc (.cells #[.slice P s.put.length p, .slice Q s.why.length q, .slice D s.learned.length d, .int .i64 s.code] 35)).heap.size = w.heap.size + 1 + 1 := by simp [hs1]
  have hb2 := heap_alloc_new w1 (.cells #[.slice P s.put.length p, .slice Q s.why.length q, .slice D s.learned.length d, .int .i64 s.code] 35)
  rw [hs1] at hb2
  obtain ⟨w2, hw2⟩ : ∃ w2, w2 = w1.alloc (.cells #[.slice P s.put.length p, .slice Q s.why.length q, .slice D s.learned.length d, .int .i64 s.code] 35) := ⟨_, rfl⟩
  rw [← hw2] at hal2 hs2 hb2
  have hal3 : Below w2.heap.size w2 (w2.alloc (.cells #[.slice none 0 0, .slice none 0 0, .slice none 0 0, .int .i64 0] 35)) := (Below.refl _ _).alloc (Nat.le_refl _) _
  have hb3 := heap_alloc_new w2 (.cells #[.slice none 0 0, .slice none 0 0, .slice none 0 0, .int .i64 0] 35)
  rw [hs2] at hb3
  obtain ⟨w3, hw3⟩ : ∃ w3, w3 = w2.alloc (.cells #[.slice none 0 0, .slice none 0 0, .slice none 0 0, .int .i64 0] 35) := ⟨_, rfl⟩
  rw [← hw3] at hal3 hb3
  have HB1 := Lib.hid ((hal3.block _ (Nat.lt_of_lt_of_le (lt_of_block hb1) hal2.size)).trans ((hal2.block _ (lt_of_block hb1)).trans hb1))
  have HB2 := Lib.hid ((hal3.block _ (lt_of_block hb2)).trans hb2)
  have HB3 := Lib.hid hb3
  have hw03 := bthen (bthen hal1 hal2) hal3
  have HS := Lib.hid (h.up hw03)
  have HCL := Lib.hid (show Lay.int.Rd w3 B cl from hcl.up hw03)
  have HAL := Lib.hid hw03
  have HSZF : Hid (w3.heap.size = w.heap.size + 1 + 1 + 1) := Lib.hid (by rw [hw3]; simp [hs2])
  have HSW := Lib.hid h
  have HFL := Lib.hid (And.intro hfl hFL)
  have HG := Lib.hid hg
  have HGD := Lib.hid hgd
  have HC := Lib.hid hc
  have HF := Lib.hid hf
  have HCP := Lib.hid (And.intro hp hq)
  have HW1 := Lib.hid hw1
  have HW2 := Lib.hid hw2
  have HW3 := Lib.hid hw3
  obtain ⟨k0, k0'⟩ := cell_of_block HB1.out 0
  obtain ⟨k1, k1'⟩ := cell_of_block HB1.out 1
  obtain ⟨u0, _⟩ := cell_of_block HB2.out 0
  obtain ⟨u1, _⟩ := cell_of_block HB2.out 1
  obtain ⟨u2, _⟩ := cell_of_block HB2.out 2
  obtain ⟨u3, _⟩ := cell_of_block HB2.out 3
  rw [HW3.out, HW2.out, HW1.out] at k0 k1 u0 u1 u2 u3
  have HLV := Lib.hid (l5Levels_any x s A P Q D a p q d M w3 hM (by omega) HS.out.put HS.out.why hgd hg.len)
  rw [hM] at HLV
  clear h hfl hFL hg hgd hcl hc hf hp hq hal1 hs1 hb1 hal2 hs2 hb2 hal3 hb3 hw03 hw1 hw2 hw3 hM
  go_enter Try.func115, Try.ntmps115
  go_wp2_with fail
  rw [← HW1.out, ← HW2.out, ← HW3.out]
  clear k0 k1 k0' k1' u0 u1 u2 u3 HW1 HW2 HW3
  refine HLV.out.mono ?_
  clear HLV
  rintro e w4 ⟨L, l, vs, rfl, hv, hlr, hb4⟩
  have HLR := Lib.hid hlr
  have hlr : Lay.int.Rd w4 L vs := hlr.mono fun y hy => hy.2
  have HV := Lib.hid (And.intro hv hlr)
  have HSZ3 : Hid (w.heap.size + 1 + 1 < w3.heap.size) := Lib.hid (lt_of_block HB3.out)
  have HS4 := Lib.hid (HS.out.up hb4)
  have HCL4 := Lib.hid (show Lay.int.Rd w4 B cl from HCL.out.up hb4)
  have HB1 := Lib.hid ((hb4.block _ (lt_of_block HB1.out)).trans HB1.out)
  have HB2 := Lib.hid ((hb4.block _ (lt_of_block HB2.out)).trans HB2.out)
  have HB3 := Lib.hid ((hb4.block _ (lt_of_block HB3.out)).trans HB3.out)
  have HAL := Lib.hid (bthen HAL.out hb4)
  have HTP := Lib.hid (l5Top_any L B l c M _ vs cl _ _ w4 hlr hv HCL4.out (fun k hk => (clOk_rng HC.out k hk).2) (by omega) (by have := clOk_len HC.out; omega))
  obtain ⟨t, ht⟩ : ∃ t, t = (topP (lev s.put s.why 0) cl 0 0).1 := ⟨_, rfl⟩
  have HTT := Lib.hid ht
  rw [← ht] at HTP
  obtain ⟨lv, hlve⟩ : ∃ lv, lv = lev s.put s.why 0 := ⟨_, rfl⟩
  rw [← hlve] at HTP HV HTT
  have HLE := Lib.hid hlve
  clear hv hlr hb4 ht hlve HS HCL
  go_wp2_with fail
  refine HTP.out.mono ?_
  clear HTP
  rintro e w5 ⟨rfl, rfl⟩
  obtain ⟨b, hbe⟩ : ∃ b, b = w.heap.size + 1 := ⟨_, rfl⟩
  rw [← hbe] at HB2 HB3
  have HBE := Lib.hid hbe
  obtain ⟨v0, v0'⟩ := cell_of_block HB2.out 0
  obtain ⟨v1, v1'⟩ := cell_of_block HB2.out 1
  obtain ⟨v2, v2'⟩ := cell_of_block HB2.out 2
  obtain ⟨v3, v3'⟩ := cell_of_block HB2.out 3
  obtain ⟨o0, o0'⟩ := cell_of_block HB3.out 0
  obtain ⟨o1, o1'⟩ := cell_of_block HB3.out 1
  obtain ⟨o2, o2'⟩ := cell_of_block HB3.out 2
  obtain ⟨o3, o3'⟩ := cell_of_block HB3.out 3
  rw [← hbe]
  clear hbe
  have hbw : w.heap.size ≤ b := by rw [HBE.out]; omega
  by_cases ht0 : t = 0
  · have g0 : (t == 0) = true := by simpa using ht0
    have HRE : Hid (clashP M x s cl = ⟨s.put, s.why, s.learned, 2⟩) := Lib.hid (by unfold clashP; rw [← HLE.out, ← HTT.out, if_pos ht0])
    clear ht0
    go_wp2
    have hfin := old_code (z := 2) (FL := FL) hbw HB2.out HB3.out HAL.out
    generalize (((((w4.setCell ⟨b, 3, none⟩ (.int .i64 2)).setCell ⟨b + 1, 0, none⟩ (.slice P s.put.length p)).setCell ⟨b + 1, 1, none⟩ (.slice Q s.why.length q)).setCell ⟨b + 1, 2, none⟩ (.slice D s.learned.length d)).setCell ⟨b + 1, 3, none⟩ (.int .i64 2)) = w9 at *
    obtain ⟨hbx, hres⟩ := hfin
    have HRES := Lib.hid hres
    clear hres
    have e0 := (cell_of_block hbx 0).1
    have e1 := (cell_of_block hbx 1).1
    have e2 := (cell_of_block hbx 2).1
    have e3 := (cell_of_block hbx 3).1
    simp at e0 e1 e2 e3
    refine bodyPost_ret (v := .agg #[.slice P s.put.length p, .slice Q s.why.length q, .slice D s.learned.length d, .int .i64 2]) (by simp [results, Try.results115, go_sem, e0, e1, e2, e3]) rfl ?_
    rw [HRE.out]
    exact HRES.out
  have g0 : (t == 0) = false := by simpa using ht0
  by_cases hl3 : 300 ≤ s.learned.length
  · have g3 : decide (300 ≤ s.learned.length) = true := decide_eq_true hl3
    have g4 : (300 : Int) ≤ (s.learned.length : Int) := by omega
    have HRE : Hid (clashP M x s cl = ⟨s.put, s.why, s.learned, 3⟩) := Lib.hid (by unfold clashP; rw [← HLE.out, ← HTT.out, if_neg ht0, if_pos hl3])
    clear ht0 hl3
    go_wp2
    have hfin := old_code (z := 3) (FL := FL) hbw HB2.out HB3.out HAL.out
    generalize (((((w4.setCell ⟨b, 3, none⟩ (.int .i64 3)).setCell ⟨b + 1, 0, none⟩ (.slice P s.put.length p)).setCell ⟨b + 1, 1, none⟩ (.slice Q s.why.length q)).setCell ⟨b + 1, 2, none⟩ (.slice D s.learned.length d)).setCell ⟨b + 1, 3, none⟩ (.int .i64 3)) = w9 at *
    obtain ⟨hbx, hres⟩ := hfin
    have HRES := Lib.hid hres
    clear hres
    have e0 := (cell_of_block hbx 0).1
    have e1 := (cell_of_block hbx 1).1
    have e2 := (cell_of_block hbx 2).1
    have e3 := (cell_of_block hbx 3).1
    simp at e0 e1 e2 e3
    refine bodyPost_ret (v := .agg #[.slice P s.put.length p, .slice Q s.why.length q, .slice D s.learned.length d, .int .i64 3]) (by simp [results, Try.results115, go_sem, e0, e1, e2, e3]) rfl ?_
    rw [HRE.out]
    exact HRES.out
  have g3 : decide (300 ≤ s.learned.length) = false := decide_eq_false hl3
  have g4 : ¬ (300 : Int) ≤ (s.learned.length : Int) := by omega
  obtain ⟨R, hR⟩ : ∃ R, R = learnP M (allC x s) s.put s.why s.put.length cl := ⟨_, rfl⟩
  obtain ⟨N, hN⟩ : ∃ N, N = backN (belowP lv t R 0) s.why 0 := ⟨_, rfl⟩
  obtain ⟨ps, hps⟩ : ∃ ps, ps = s.put.take N := ⟨_, rfl⟩
  obtain ⟨qs, hqs⟩ : ∃ qs, qs = s.why.take N := ⟨_, rfl⟩
  have HRE : Hid (clashP M x s cl = ⟨ps, qs, s.learned ++ [R], s.code⟩) := Lib.hid (by unfold clashP; rw [← HLE.out, ← HTT.out, if_neg ht0, if_neg hl3, ← hR, ← hN, hps, hqs])
  have HPQ := Lib.hid (And.intro hps hqs)
  have HRN := Lib.hid (And.intro hR hN)
  have HLEARN := Lib.hid (fun (y : World) (A9 : Option Addr) (c9 : Nat) (hy : Below w4.heap.size w4 y) (h8 : cl.length ≤ c9) (h9 : Lay.int.Sl y (fun b => w4.heap.size ≤ b ∧ b < y.heap.size) A9 cl) => l5Learn_any x s A P Q D L A9 a p q d l c9 M vs cl (fun b => w4.heap.size ≤ b ∧ b < y.heap.size) y HMM.out hM2 (HS4.out.up hy) HG.out (HV.out.2.up hy) (by rw [← HLE.out]; exact HV.out.1) h9 h8 (fun b hb => hb.2) HC.out HF.out)
  rw [HMM.out, ← hR] at HLEARN
  have hcll : ([] : List Int).length + cl.length ≤ 1048576 := by have := clOk_len HC.out; simp; omega
  have q0 := Later.cell (show w4.cell? ⟨w.heap.size, 0, none⟩ = some (.int .i64 (M : Int)) from (cell_of_block HB1.out 0).1)
  have q1 := Later.cell (show w4.cell? ⟨w.heap.size, 1, none⟩ = some (.slice A x.list.length a) from (cell_of_block HB1.out 1).1)
  have r0 := Later.cell (show w4.cell? ⟨b, 0, none⟩ = some (.slice P s.put.length p) from v0)
  have r1 := Later.cell (show w4.cell? ⟨b, 1, none⟩ = some (.slice Q s.why.length q) from v1)
  have r2 := Later.cell (show w4.cell? ⟨b, 2, none⟩ = some (.slice D s.learned.length d) from v2)
  have r3 := Later.cell (show w4.cell? ⟨b, 3, none⟩ = some (.int .i64 s.code) from v3)
  clear hps hqs hR hN ht0 hl3 o0 o1 o2 o3 o0' o1' o2' o3' v0' v1' v2' v3'
  go_wp2
  clear v0 v1 v2 v3
  refine wp_region_rel4 [[], [], [], [], [], [(3, 32), (4, 33)], [(0, 29), (1, 30), (2, 31), (5, 34)], [(6, 35)]]
    (fun y y' => Below y.heap.size y y')
    [(5, fun y y' => Gr (fun b => b = w4.heap.size) y y')]
    (fun f9 x9 => Gr (fun b => b = w4.heap.size) w4 x9 ∧ (f9 3 = false → x9.heap.size = w4.heap.size) ∧ (f9 3 = true → f9 5 = false → OwnI x9 w4.heap.size (.slice (some ⟨w4.heap.size, 0, none⟩) 0 0) []))
    [fun vs9 _ => vs9 0 = (.agg #[.int .i64 (M : Int), .slice A x.list.length a]),
    fun vs9 _ => vs9 1 = (.agg #[.slice P s.put.length p, .slice Q s.why.length q, .slice D s.learned.length d, .int .i64 s.code]),
    fun vs9 _ => vs9 2 = (.slice L vs.length l),
    fun vs9 _ => vs9 3 = (.slice (some ⟨w4.heap.size, 0, none⟩) 0 0),
    fun vs9 _ => vs9 4 = (.slice B cl.length c),
    fun vs9 y9 => (fun v y9 => ∃ (A9 : Option Addr) (c9 : Nat), v = .slice A9 cl.length c9 ∧ cl.length ≤ c9 ∧ Lay.int.Sl y9 (fun b => w4.heap.size ≤ b ∧ b < y9.heap.size) A9 cl) (vs9 5) y9,
    fun vs9 y9 => (fun v y9 => ∃ (A9 : Option Addr) (c9 : Nat), v = .slice A9 R.length c9 ∧ R.length ≤ c9 ∧ Lay.int.Sl y9 (fun b => w4.heap.size ≤ b ∧ b < y9.heap.size) A9 R) (vs9 6) y9,
    fun vs9 y9 => (fun v y9 => ∃ (A9 : Option Addr) (c9 : Nat), v = .slice A9 R.length c9 ∧ R.length ≤ c9 ∧ Lay.int.Sl y9 (fun b => w4.heap.size ≤ b ∧ b < y9.heap.size) A9 R) (vs9 7) y9]
    [(0, 29), (1, 30), (2, 31), (3, 32), (4, 33), (5, 34), (6, 35), (7, 2)] (by kernel_rfl) (by kernel_rfl) (by kernel_rfl) (by kernel_rfl)
    (fun _ => Below.refl _ _) ⟨fun _ => Gr.refl _ _, trivial⟩
    ⟨⟨.inr (fun vs9 _ _ (h9 : vs9 0 = (.agg #[.int .i64 (M : Int), .slice A x.list.length a])) _ => h9), ⟨.inr (.inr (fun _ _ _ h _ => h)), trivial⟩⟩,
    ⟨.inr (fun vs9 _ _ (h9 : vs9 1 = (.agg #[.slice P s.put.length p, .slice Q s.why.length q, .slice D s.learned.length d, .int .i64 s.code])) _ => h9), ⟨.inr (.inr (fun _ _ _ h _ => h)), trivial⟩⟩,
    ⟨.inr (fun vs9 _ _ (h9 : vs9 2 = (.slice L vs.length l)) _ => h9), ⟨.inr (.inr (fun _ _ _ h _ => h)), trivial⟩⟩,
    ⟨.inr (fun vs9 _ _ (h9 : vs9 3 = (.slice (some ⟨w4.heap.size, 0, none⟩) 0 0)) _ => h9), ⟨.inr (.inr (fun _ _ _ h _ => h)), trivial⟩⟩,
    ⟨.inr (fun vs9 _ _ (h9 : vs9 4 = (.slice B cl.length c)) _ => h9), ⟨.inr (.inr (fun _ _ _ h _ => h)), trivial⟩⟩,
    ⟨.inr (fun vs9 x9 y9 h9 hR9 => (show ∀ v9 y8 y7, (fun v y9 => ∃ (A9 : Option Addr) (c9 : Nat), v = .slice A9 cl.length c9 ∧ cl.length ≤ c9 ∧ Lay.int.Sl y9 (fun b => w4.heap.size ≤ b ∧ b < y9.heap.size) A9 cl) v9 y8 → (fun y y' => Below y.heap.size y y') y8 y7 → (fun v y9 => ∃ (A9 : Option Addr) (c9 : Nat), v = .slice A9 cl.length c9 ∧ cl.length ≤ c9 ∧ Lay.int.Sl y9 (fun b => w4.heap.size ≤ b ∧ b < y9.heap.size) A9 cl) v9 y7 from fun _ y8 y7 ⟨A9, c9, h1, h0, h2⟩ hR => ⟨A9, c9, h1, h0, (h2.keep fun b hb => hR.block b hb.2).mono fun b hb => ⟨hb.1, Nat.lt_of_lt_of_le hb.2 hR.size⟩⟩) (vs9 5) x9 y9 h9 hR9), ⟨.inr (.inl rfl), trivial⟩⟩,
    ⟨.inr (fun vs9 x9 y9 h9 hR9 => (show ∀ v9 y8 y7, (fun v y9 => ∃ (A9 : Option Addr) (c9 : Nat), v = .slice A9 R.length c9 ∧ R.length ≤ c9 ∧ Lay.int.Sl y9 (fun b => w4.heap.size ≤ b ∧ b < y9.heap.size) A9 R) v9 y8 → (fun y y' => Below y.heap.size y y') y8 y7 → (fun v y9 => ∃ (A9 : Option Addr) (c9 : Nat), v = .slice A9 R.length c9 ∧ R.length ≤ c9 ∧ Lay.int.Sl y9 (fun b => w4.heap.size ≤ b ∧ b < y9.heap.size) A9 R) v9 y7 from fun _ y8 y7 ⟨A9, c9, h1, h0, h2⟩ hR => ⟨A9, c9, h1, h0, (h2.keep fun b hb => hR.block b hb.2).mono fun b hb => ⟨hb.1, Nat.lt_of_lt_of_le hb.2 hR.size⟩⟩) (vs9 6) x9 y9 h9 hR9), ⟨.inl (by kernel_rfl), trivial⟩⟩,
    ⟨.inr (fun vs9 x9 y9 h9 hR9 => (show ∀ v9 y8 y7, (fun v y9 => ∃ (A9 : Option Addr) (c9 : Nat), v = .slice A9 R.length c9 ∧ R.length ≤ c9 ∧ Lay.int.Sl y9 (fun b => w4.heap.size ≤ b ∧ b < y9.heap.size) A9 R) v9 y8 → (fun y y' => Below y.heap.size y y') y8 y7 → (fun v y9 => ∃ (A9 : Option Addr) (c9 : Nat), v = .slice A9 R.length c9 ∧ R.length ≤ c9 ∧ Lay.int.Sl y9 (fun b => w4.heap.size ≤ b ∧ b < y9.heap.size) A9 R) v9 y7 from fun _ y8 y7 ⟨A9, c9, h1, h0, h2⟩ hR => ⟨A9, c9, h1, h0, (h2.keep fun b hb => hR.block b hb.2).mono fun b hb => ⟨hb.1, Nat.lt_of_lt_of_le hb.2 hR.size⟩⟩) (vs9 7) x9 y9 h9 hR9), ⟨.inl (by kernel_rfl), trivial⟩⟩, trivial⟩ ⟨fun vs vs' x h _ hv => (by dsimp only at hv ⊢; first | (rw [← h]; exact hv) | exact hv),
    fun vs vs' x h _ hv => (by dsimp only at hv ⊢; first | (rw [← h]; exact hv) | exact hv),
    fun vs vs' x h _ hv => (by dsimp only at hv ⊢; first | (rw [← h]; exact hv) | exact hv),
    fun vs vs' x h _ hv => (by dsimp only at hv ⊢; first | (rw [← h]; exact hv) | exact hv),
    fun vs vs' x h _ hv => (by dsimp only at hv ⊢; first | (rw [← h]; exact hv) | exact hv),
    fun vs vs' x h _ hv => (by dsimp only at hv ⊢; first | (rw [← h]; exact hv) | exact hv),
    fun vs vs' x h _ hv => (by dsimp only at hv ⊢; first | (rw [← h]; exact hv) | exact hv),
    fun vs vs' x h _ hv => (by dsimp only at hv ⊢; first | (rw [← h]; exact hv) | exact hv), trivial⟩ (⟨.below (below_drewN (Below.refl _ _) 1), fun _ => by simp, fun e => absurd e (by simp)⟩) ⟨?_, ?_, ?_, ?_, ?_, ?_, ?_, ?_, trivial⟩ ?_
  · intro vals xw f hf1 hf2 hf3 hI hF
    clear hf2 hf3
    dsimp only [owes4, bare]
    simp only [putsD, Act.put, List.setIfInBounds_toArray, List.set_cons_zero, List.set_cons_succ]
    have hbl9 := gr_bel hI.1
    have c90 : xw.cell? _ = _ := q0 ⟨xw, hbl9⟩
    have c91 : xw.cell? _ = _ := q1 ⟨xw, hbl9⟩
    go_wp2
    exact ⟨rfl, rfl, ⟨fun h9 => absurd h9 (Nat.ne_of_beq_eq_false rfl), fun _ => Below.refl _ _⟩, hI⟩
  · intro vals xw f hf1 hf2 hf3 hI hF
    clear hf2 hf3
    dsimp only [owes4, bare]
    simp only [putsD, Act.put, List.setIfInBounds_toArray, List.set_cons_zero, List.set_cons_succ]
    have hbl9 := gr_bel hI.1
    have c90 : xw.cell? _ = _ := r0 ⟨xw, hbl9⟩
    have c91 : xw.cell? _ = _ := r1 ⟨xw, hbl9⟩
    have c92 : xw.cell? _ = _ := r2 ⟨xw, hbl9⟩
    have c93 : xw.cell? _ = _ := r3 ⟨xw, hbl9⟩
    go_wp2
    exact ⟨rfl, rfl, ⟨fun h9 => absurd h9 (Nat.ne_of_beq_eq_false rfl), fun _ => Below.refl _ _⟩, hI⟩
  · intro vals xw f hf1 hf2 hf3 hI hF
    clear hf2 hf3
    dsimp only [owes4, bare]
    simp only [putsD, Act.put, List.setIfInBounds_toArray, List.set_cons_zero, List.set_cons_succ]
    go_wp2
    exact ⟨rfl, rfl, ⟨fun h9 => absurd h9 (Nat.ne_of_beq_eq_false rfl), fun _ => Below.refl _ _⟩, hI⟩
  · intro vals xw f hf1 hf2 hf3 hI hF
    have k5 : f 5 = false := hf3 5 (by kernel_rfl)
    clear hf2 hf3
    dsimp only [owes4, bare]
    simp only [putsD, Act.put, List.setIfInBounds_toArray, List.set_cons_zero, List.set_cons_succ]
    obtain ⟨i1, i2, i3⟩ := hI
    have hsz := i2 hf1
    have hal := (Below.refl xw.heap.size xw).alloc (Nat.le_refl _) (.cells #[] 3)
    have HO9 : Hid (OwnI (xw.alloc (.cells #[] 3)) w4.heap.size (.slice (some ⟨w4.heap.size, 0, none⟩) 0 0) []) := Lib.hid (own_lit0 hsz)
    have HAL9 := Lib.hid hal
    have HI1 := Lib.hid (i1.up hal)
    have HSE := Lib.hid hsz
    clear i1 i2 i3 hal hsz
    go_wp2
    rw [HSE.out]
    exact ⟨rfl, rfl, ⟨fun h9 => absurd h9 (Nat.ne_of_beq_eq_false rfl), fun _ => HAL9.out⟩, HI1.out, fun e => absurd e (by simp [did]), fun _ _ => HO9.out⟩
  · intro vals xw f hf1 hf2 hf3 hI hF
    clear hf2 hf3
    dsimp only [owes4, bare]
    simp only [putsD, Act.put, List.setIfInBounds_toArray, List.set_cons_zero, List.set_cons_succ]
    go_wp2
    exact ⟨rfl, rfl, ⟨fun h9 => absurd h9 (Nat.ne_of_beq_eq_false rfl), fun _ => Below.refl _ _⟩, hI⟩
  · intro vals xw f hf1 hf2 hf3 hI hF
    have k3 : f 3 = true := hf2 3 (by kernel_rfl)
    clear hf2 hf3
    simp only [saysD, List.getD_cons_zero, List.getD_cons_succ, and_true] at hF
    obtain ⟨e32, e33⟩ := hF
    dsimp only [owes4, bare]
    simp only [putsD, Act.put, List.setIfInBounds_toArray, List.set_cons_zero, List.set_cons_succ]
    simp only [e32, e33]
    obtain ⟨i1, i2, i3⟩ := hI
    have ho := i3 k3 hf1
    have HO9 := Lib.hid ho
    have HI1 := Lib.hid i1
    have HRC : Hid (Lay.int.Rd xw B cl) := Lib.hid (HCL4.out.up (gr_bel i1))
    have hlo : w4.heap.size ≤ xw.heap.size := i1.size
    clear i1 i2 i3 ho
    refine wpList_append_intsC (zs := cl) (by rfl) (.tmp 32) (.tmp 33) (by rfl) (by rfl) (by rfl) HO9.out HRC.out (none_len HRC.out) hcll hlo rfl ?_
    intro A9 c9 w9 hown hbl hg
    have HG9 : Hid (Gr (fun b => b = w4.heap.size) xw w9) := Lib.hid (Gr.one hg rfl)
    have HS9 : Hid (Lay.int.Sl w9 (fun b => w4.heap.size ≤ b ∧ b < w9.heap.size) A9 cl) := Lib.hid (by
  obtain ⟨A8, c8, e8, _, h8⟩ := hown.form
  injection e8 with e8
  rw [e8]
  exact h8)
    have HC9 := Lib.hid (OwnI.cap hown)
    clear hown hbl hg
    exact ⟨rfl, ⟨A9, c9, rfl, HC9.out, HS9.out⟩, ⟨fun _ => HG9.out, fun h9 => absurd rfl h9⟩, HI1.out.trans HG9.out, fun e => absurd (k3.symm.trans e) (by simp), fun _ e => absurd e (by simp [did])⟩
  · intro vals xw f hf1 hf2 hf3 hI hF
    have k3 : f 3 = true := hf2 3 (by kernel_rfl)
    have k5 : f 5 = true := hf2 5 (by kernel_rfl)
    clear hf2 hf3
    simp only [saysD, List.getD_cons_zero, List.getD_cons_succ, and_true] at hF
    obtain ⟨e29, e30, e31, A9, c9, e34, h8, h9⟩ := hF
    have e34 : vals 5 = .slice A9 cl.length c9 := e34
    dsimp only [owes4, bare]
    simp only [putsD, Act.put, List.setIfInBounds_toArray, List.set_cons_zero, List.set_cons_succ]
    simp only [e29, e30, e31, e34]
    have HWF := Lib.hid (HLEARN.out xw A9 c9 (gr_bel hI.1) h8 h9)
    have HII := Lib.hid hI.1
    clear hI h8 h9
    go_wp2_with fail
    refine HWF.out.mono ?_
    rintro e w9 ⟨A8, c8, rfl, hs8, hc8, hb9⟩
    have HC8 := Lib.hid hc8
    have HS8 : Hid (Lay.int.Sl w9 (fun b => w4.heap.size ≤ b ∧ b < w9.heap.size) A8 R) := Lib.hid (hs8.mono fun b hb => by
  rcases hb with hb | hb
  · exact ⟨hb.1, Nat.lt_of_lt_of_le hb.2 hb9.size⟩
  · exact ⟨Nat.le_trans HII.out.size hb.1, hb.2⟩)
    have HB9 := Lib.hid hb9
    clear hb9 hs8 hc8
    go_wp2
    exact ⟨rfl, ⟨A8, c8, rfl, HC8.out, HS8.out⟩, ⟨fun h9 => absurd h9 (Nat.ne_of_beq_eq_false rfl), fun _ => HB9.out⟩, HII.out.up HB9.out, fun e => absurd (k3.symm.trans e) (by simp), fun _ e => absurd (k5.symm.trans e) (by simp)⟩
  · intro vals xw f hf1 hf2 hf3 hI hF
    have k3 : f 3 = true := hf2 3 (by kernel_rfl)
    have k5 : f 5 = true := hf2 5 (by kernel_rfl)
    clear hf2 hf3
    simp only [saysD, List.getD_cons_zero, List.getD_cons_succ, and_true] at hF
    obtain ⟨A9, c9, e35, h8, h9⟩ := hF
    dsimp only [owes4, bare]
    simp only [putsD, Act.put, List.setIfInBounds_toArray, List.set_cons_zero, List.set_cons_succ]
    simp only [e35]
    have HTT9 := Lib.hid (And.intro h8 h9)
    clear h8 h9
    go_wp2
    exact ⟨rfl, ⟨A9, c9, rfl, HTT9.out⟩, ⟨fun h9 => absurd h9 (Nat.ne_of_beq_eq_false rfl), fun _ => Below.refl _ _⟩, hI⟩
  · intro vals xw f hall hI hF
    rw [show List.range _ = [0, 1, 2, 3, 4, 5, 6, 7] from rfl] at hF
    simp only [says, List.getD_cons_zero, List.getD_cons_succ, and_true] at hF
    obtain ⟨A9, c9, e2, h8, h9⟩ := hF.2.2.2.2.2.2.2
    have HZ9 := Lib.hid h9
    have HZC := Lib.hid h8
    have HB5 := Lib.hid (gr_bel hI.1)
    simp only [putsD, Act.put, List.setIfInBounds_toArray, List.set_cons_zero, List.set_cons_succ]
    simp only [e2]
    clear hF e2 h8 h9 hI hall q0 q1 r0 r1 r2 r3
    have HLIM : Hid (b + 1 < w4.heap.size ∧ w4.heap.size ≤ xw.heap.size) := Lib.hid ⟨lt_of_block HB3.out, HB5.out.size⟩
    have hal6 := (Below.refl xw.heap.size xw).alloc (Nat.le_refl _) (.cells #[] 26)
    have HO6 : Hid (OwnL Lay.int.slice (QL FL w4.heap.size xw.heap.size) 26 (xw.alloc (.cells #[] 26)) xw.heap.size (.slice (some ⟨xw.heap.size, 0, none⟩) ([] : List (List Int)).length 0) []) := Lib.hid ⟨[], own_lit0 rfl, fun i y h => by simp at h⟩
    have hb46 := HB5.out.trans (hal6.mono HB5.out.size)
    have hx2 : (xw.alloc (.cells #[] 26)).cell? ⟨b, 2, none⟩ = some (.slice D s.learned.length d) := (cell_of_block ((hb46.block _ (lt_of_block HB2.out)).trans HB2.out) 2).1
    have hbx6 : Below w.heap.size w (xw.alloc (.cells #[] 26)) := HAL.out.trans (hb46.mono HAL.out.size)
    have HLD6 : Hid (Lay.int.slice.Sl (xw.alloc (.cells #[] 26)) FL D s.learned) := Lib.hid (HFL.out.1.keep fun y hy => hbx6.block y (HFL.out.2 y hy))
    have HB46 := Lib.hid hb46
    have HBX6 := Lib.hid hbx6
    have HL6 := Lib.hid hal6.size
    obtain ⟨ys, hys⟩ : ∃ ys, ys = [] ++ s.learned := ⟨_, rfl⟩
    obtain ⟨zs, hzs⟩ : ∃ zs, zs = ys ++ [R] := ⟨_, rfl⟩
    have HYS := Lib.hid hys
    have HZS := Lib.hid hzs
    have HZE : Hid (zs = s.learned ++ [R]) := Lib.hid (by rw [hzs, hys]; rfl)
    have hl9 : ([] : List (List Int)).length ≤ 2000000 := by simp
    have hl8 : s.learned.length ≤ 2000000 := by have := HG.out.learned; omega
    have hl7 : ys.length ≤ 2000000 := by rw [hys]; simp; omega
    have HGG : Hid (∀ y, FL y → y < (xw.alloc (.cells #[] 26)).heap.size ∧ (Value.slice (some ⟨xw.heap.size, 0, none⟩) ([] : List (List Int)).length 0).ownBlock ≠ some y ∧ QL FL w4.heap.size xw.heap.size (xw.alloc (.cells #[] 26)) y) := Lib.hid (fun y hy => by
      have h1 := HFL.out.2 y hy
      have h2 := HAL.out.size
      have h3 := hb46.size
      have h4 := HLIM.out
      refine ⟨by omega, fun e => ?_, .inl hy⟩
      have e' : xw.heap.size = y := by simpa [Value.ownBlock] using e
      omega)
    have HAL6 := Lib.hid hal6
    clear hys hzs hal6 hb46 hbx6
    go_wp2_with (at_builtin; first
      | (refine wpList_append_list (ys := ys) (by rfl) (.tmp 36) (.tmp 38) (by rfl) (by rfl) (by rfl) HO6.out HLD6.out HGG.out hl9 hl8 HL6.out HYS.out ?_; intro A7 c7 w7 hown7 hb7 hg7
         have hal8 := (Below.refl w7.heap.size w7).alloc (Nat.le_refl _) (.cells #[.slice A9 R.length c9] 26)
         have HO8 := Lib.hid (hown7.up (fun _ _ _ _ h => h) hal8)
         have h78 := hb7.trans (hal8.mono (Nat.le_trans HAL6.out.size hb7.size))
         have h68 := HAL6.out.trans h78
         have HX8 := Lib.hid h68
         have HZ8 : Hid (Lay.int.Sl (w7.alloc (.cells #[.slice A9 R.length c9] 26)) (fun b => w4.heap.size ≤ b ∧ b < xw.heap.size) A9 R) := Lib.hid (HZ9.out.keep fun y hy => h68.block y hy.2)
         have HN8 := Lib.hid (heap_alloc_new w7 (.cells #[.slice A9 R.length c9] 26))
         have HL8 := Lib.hid (h68.size)
         clear hown7 hb7 hg7 hal8 h78 h68)
      | (refine wpList_append_list1 (ys := zs) (by rfl) (.tmp 39) (.tmp 41) (by rfl) (by rfl) (by rfl) HO8.out HN8.out HZC.out HZ8.out (Nat.le_refl _) hl7 HL8.out HZS.out ?_; intro A8 c8 w8 hown8 hb8 hg8
         have hx8 := HX8.out.trans hb8
         have h48 := HB5.out.trans (hx8.mono HB5.out.size)
         have HO9 := Lib.hid hown8
         have HX9 := Lib.hid hx8
         have H48 := Lib.hid h48
         have HB28 := Lib.hid ((h48.block _ (lt_of_block HB2.out)).trans HB2.out)
         have HB38 := Lib.hid ((h48.block _ (lt_of_block HB3.out)).trans HB3.out)
         have HW8 := Lib.hid (HAL.out.trans (h48.mono HAL.out.size))
         obtain ⟨hx9, hx9'⟩ := cell_of_block HB28.out 2
         clear hown8 hb8 hg8 hx8 h48))
    obtain ⟨wd, hwd⟩ : ∃ wd, wd = w8.setCell ⟨b, 2, none⟩ (.slice A8 zs.length c8) := ⟨_, rfl⟩
    rw [← hwd]
    have hset : ∀ y, y ≠ b → wd.heap[y]? = w8.heap[y]? := fun y hy => by rw [hwd]; exact Below.heap_setCell w8 ⟨b, 2, none⟩ _ y hy
    have hszd : wd.heap.size = w8.heap.size := by rw [hwd]; simp [World.setCell]
    have HBD : Hid (Below w.heap.size w wd) := Lib.hid (by rw [hwd]; exact below_setE HW8.out (by show w.heap.size ≤ b; exact hbw) _)
    have HB2D : Hid (wd.heap[b]? = some (.cells #[.slice P s.put.length p, .slice Q s.why.length q, .slice A8 zs.length c8, .int .i64 s.code] 35 (0, 0))) := Lib.hid (by
      have := heap_set_same _ b 2 (.slice A8 zs.length c8) _ _ HB28.out
      rw [hwd]
      simpa using this)
    have HB3D : Hid (wd.heap[b + 1]? = some (.cells #[.slice none 0 0, .slice none 0 0, .slice none 0 0, .int .i64 0] 35 (0, 0))) := Lib.hid ((hset _ (by omega)).trans HB38.out)
    have hb3 : w3.heap.size = b + 2 := by rw [HSZF.out, HBE.out]
    have hlim := HLIM.out
    have hs89 := HX9.out.size
    have HLRD : Hid (Lay.int.Sl wd (fun y => w3.heap.size ≤ y ∧ y < w4.heap.size) L vs) := Lib.hid (HLR.out.keep fun y hy => (hset y (by have := hy.1; omega)).trans (H48.out.block y hy.2))
    have HRD : Hid (Lay.int.Sl wd (fun y => w4.heap.size ≤ y ∧ y < xw.heap.size) A9 R) := Lib.hid (HZ9.out.keep fun y hy => (hset y (by have := hy.1; omega)).trans (HX9.out.block y hy.2))
    have HZL : Hid (Lay.int.slice.Sl wd (fun y => FL y ∨ (w.heap.size ≤ y ∧ y ≠ b + 1 ∧ y < wd.heap.size)) A8 zs) := Lib.hid (by
      have h1 := HO9.out.sl.mono (G := fun y => FL y ∨ (w.heap.size ≤ y ∧ y ≠ b ∧ y ≠ b + 1 ∧ y < wd.heap.size)) (fun y hy => by
        rcases hy with ⟨hy1, ⟨hy2, _⟩ | hy2 | ⟨hy2, hy3⟩⟩
        · exact .inr ⟨by omega, by omega, by omega, by omega⟩
        · exact .inl hy2
        · exact .inr ⟨by omega, by omega, by omega, by omega⟩)
      refine (h1.keep fun y hy => hset y ?_).mono fun y hy => hy.imp id fun h => ⟨h.1, h.2.2.1, h.2.2.2⟩
      rcases hy with hy | hy
      · have := HFL.out.2 y hy; omega
      · exact hy.2.1)
    have HSRD := Lib.hid (HSW.out.up HBD.out)
    have HLD : Hid (b + 1 < wd.heap.size ∧ w.heap.size ≤ b) := Lib.hid ⟨by omega, hbw⟩
    have HROK : Hid (clOk (M : Int) R = true) := Lib.hid (by rw [HRN.out.1]; exact (learnP_ok HGD.out HG.out.len (cs := allC x s) HG.out.whys s.put.length cl HC.out (by rw [List.take_length]; exact HF.out)).1)
    have HCAP : Hid (zs.length ≤ c8) := Lib.hid (OwnL.cap HO9.out).2
    have HBK : Hid (∀ y, Below wd.heap.size wd y → Calls Try.prog 124 #[.agg #[.slice P s.put.length p, .slice Q s.why.length q, .slice A8 zs.length c8, .int .i64 s.code], .int .i64 (belowP lv t R 0)] y (RetBk ⟨s.put, s.why, zs, s.code⟩ ps qs A8 c8 y)) := Lib.hid (fun y hy => by
      have hlen := HGD.out.length
      rw [Int.toNat_natCast] at hlen
      have := l5Back_any ⟨s.put, s.why, zs, s.code⟩ P Q A8 p q c8 (belowP lv t R 0) y (HSRD.out.put.up hy) (HSRD.out.why.up hy) HG.out.len (by show s.put.length ≤ 1000000; omega) HCP.out.1 HCP.out.2
      rw [show backN (belowP lv t R 0) (S.mk s.put s.why zs s.code).why 0 = N from HRN.out.2.symm, show (S.mk s.put s.why zs s.code).put.take N = ps from HPQ.out.1.symm, show (S.mk s.put s.why zs s.code).why.take N = qs from HPQ.out.2.symm] at this
      exact this)
    have HBL : Hid (∀ y, Below wd.heap.size wd y → Calls Try.prog 125 #[.slice L vs.length l, .slice A9 R.length c9, .int .i64 t] y fun e w' => e = .returned (.int .i64 (belowP lv t R 0)) ∧ y = w') := Lib.hid (fun y hy => by
      have h1 : Lay.int.Sl y (fun b => w3.heap.size ≤ b ∧ b < w4.heap.size) L vs := HLRD.out.keep fun k hk => hy.block k (by have := hk.2; omega)
      have h2 : Lay.int.Sl y (fun b => w4.heap.size ≤ b ∧ b < xw.heap.size) A9 R := HRD.out.keep fun k hk => hy.block k (by have := hk.2; omega)
      exact l5Below_any L A9 l c9 M lv t vs R _ _ y h1 HV.out.1 h2 (fun k hk => (clOk_rng HROK.out k hk).2) (by omega) (by have := clOk_len HROK.out; omega))
    have m0 := Later.cell (cell_of_block HB2D.out 0).1
    have m1 := Later.cell (cell_of_block HB2D.out 1).1
    have m2 := Later.cell (cell_of_block HB2D.out 2).1
    have m3 := Later.cell (cell_of_block HB2D.out 3).1
    simp at m0 m1 m2 m3
    clear hwd hset hszd hb3 hlim hs89 hx2 hx9 hx9' hl9 hl8 hl7 hcll
    refine wp_region_rel4 [[], [], [], [], [(1, 45), (2, 46), (3, 47)], [(0, 44), (4, 48)], [(5, 49)]]
      (fun y y' => Below y.heap.size y y')
      [(6, fun y y' => Gr (fun k => k = b + 1) y y')]
      (fun f9 x9 => f9 6 = false → Below wd.heap.size wd x9)
      [fun vs9 _ => vs9 0 = (.agg #[.slice P s.put.length p, .slice Q s.why.length q, .slice A8 zs.length c8, .int .i64 s.code]),
        fun vs9 _ => vs9 1 = (.slice L vs.length l),
        fun vs9 _ => vs9 2 = (.slice A9 R.length c9),
        fun vs9 _ => vs9 3 = (.int .i64 t),
        fun vs9 _ => vs9 4 = (.int .i64 (belowP lv t R 0)),
        fun vs9 y9 => (fun v y9 => ∃ (P8 Q8 : Option Addr) (p8 q8 : Nat), v = .agg #[.slice P8 ps.length p8, .slice Q8 qs.length q8, .slice A8 zs.length c8, .int .i64 s.code] ∧ OwnI y9 wd.heap.size (.slice P8 ps.length p8) ps ∧ OwnI y9 wd.heap.size (.slice Q8 qs.length q8) qs ∧ (∀ g, (Value.slice P8 ps.length p8).ownBlock = some g → (Value.slice Q8 qs.length q8).ownBlock ≠ some g)) (vs9 5) y9,
        fun _ y9 => (fun _ y9 => Below w.heap.size w y9 ∧ ∃ (P8 Q8 : Option Addr) (p8 q8 : Nat), y9.heap[b + 1]? = some (.cells #[.slice P8 ps.length p8, .slice Q8 qs.length q8, .slice A8 zs.length c8, .int .i64 s.code] 35 (0, 0)) ∧ wd.heap.size ≤ y9.heap.size ∧ OwnI y9 wd.heap.size (.slice P8 ps.length p8) ps ∧ OwnI y9 wd.heap.size (.slice Q8 qs.length q8) qs ∧ (∀ g, (Value.slice P8 ps.length p8).ownBlock = some g → (Value.slice Q8 qs.length q8).ownBlock ≠ some g) ∧ Lay.int.slice.Sl y9 (fun y => FL y ∨ (w.heap.size ≤ y ∧ y < wd.heap.size)) A8 zs) undef y9]
      [(0, 44), (1, 45), (2, 46), (3, 47), (4, 48), (5, 49)] (by kernel_rfl) (by kernel_rfl) (by kernel_rfl) (by kernel_rfl)
      (fun _ => Below.refl _ _) ⟨fun _ => Gr.refl _ _, trivial⟩
      ⟨⟨.inr (fun vs9 _ _ (h9 : vs9 0 = (.agg #[.slice P s.put.length p, .slice Q s.why.length q, .slice A8 zs.length c8, .int .i64 s.code])) _ => h9), ⟨.inr (.inr (fun _ _ _ h _ => h)), trivial⟩⟩,
        ⟨.inr (fun vs9 _ _ (h9 : vs9 1 = (.slice L vs.length l)) _ => h9), ⟨.inr (.inr (fun _ _ _ h _ => h)), trivial⟩⟩,
        ⟨.inr (fun vs9 _ _ (h9 : vs9 2 = (.slice A9 R.length c9)) _ => h9), ⟨.inr (.inr (fun _ _ _ h _ => h)), trivial⟩⟩,
        ⟨.inr (fun vs9 _ _ (h9 : vs9 3 = (.int .i64 t)) _ => h9), ⟨.inr (.inr (fun _ _ _ h _ => h)), trivial⟩⟩,
        ⟨.inr (fun vs9 _ _ (h9 : vs9 4 = (.int .i64 (belowP lv t R 0))) _ => h9), ⟨.inr (.inr (fun _ _ _ h _ => h)), trivial⟩⟩,
        ⟨.inr (fun vs9 x9 y9 h9 hR9 => (show ∀ v9 y8 y7, (fun v y9 => ∃ (P8 Q8 : Option Addr) (p8 q8 : Nat), v = .agg #[.slice P8 ps.length p8, .slice Q8 qs.length q8, .slice A8 zs.length c8, .int .i64 s.code] ∧ OwnI y9 wd.heap.size (.slice P8 ps.length p8) ps ∧ OwnI y9 wd.heap.size (.slice Q8 qs.length q8) qs ∧ (∀ g, (Value.slice P8 ps.length p8).ownBlock = some g → (Value.slice Q8 qs.length q8).ownBlock ≠ some g)) v9 y8 → (fun y y' => Below y.heap.size y y') y8 y7 → (fun v y9 => ∃ (P8 Q8 : Option Addr) (p8 q8 : Nat), v = .agg #[.slice P8 ps.length p8, .slice Q8 qs.length q8, .slice A8 zs.length c8, .int .i64 s.code] ∧ OwnI y9 wd.heap.size (.slice P8 ps.length p8) ps ∧ OwnI y9 wd.heap.size (.slice Q8 qs.length q8) qs ∧ (∀ g, (Value.slice P8 ps.length p8).ownBlock = some g → (Value.slice Q8 qs.length q8).ownBlock ≠ some g)) v9 y7 from fun _ _ _ ⟨P8, Q8, p8, q8, h1, h2, h3, h4⟩ hR => ⟨P8, Q8, p8, q8, h1, h2.up hR, h3.up hR, h4⟩) (vs9 5) x9 y9 h9 hR9), ⟨.inr (.inr (fun vs9 x9 y9 h9 hR9 => (show ∀ v9 y8 y7, (fun v y9 => ∃ (P8 Q8 : Option Addr) (p8 q8 : Nat), v = .agg #[.slice P8 ps.length p8, .slice Q8 qs.length q8, .slice A8 zs.length c8, .int .i64 s.code] ∧ OwnI y9 wd.heap.size (.slice P8 ps.length p8) ps ∧ OwnI y9 wd.heap.size (.slice Q8 qs.length q8) qs ∧ (∀ g, (Value.slice P8 ps.length p8).ownBlock = some g → (Value.slice Q8 qs.length q8).ownBlock ≠ some g)) v9 y8 → (fun y y' => Gr (fun k => k = b + 1) y y') y8 y7 → (fun v y9 => ∃ (P8 Q8 : Option Addr) (p8 q8 : Nat), v = .agg #[.slice P8 ps.length p8, .slice Q8 qs.length q8, .slice A8 zs.length c8, .int .i64 s.code] ∧ OwnI y9 wd.heap.size (.slice P8 ps.length p8) ps ∧ OwnI y9 wd.heap.size (.slice Q8 qs.length q8) qs ∧ (∀ g, (Value.slice P8 ps.length p8).ownBlock = some g → (Value.slice Q8 qs.length q8).ownBlock ≠ some g)) v9 y7 from fun _ _ _ ⟨P8, Q8, p8, q8, h1, h2, h3, h4⟩ hR => ⟨P8, Q8, p8, q8, h1, ownI_gr h2 hR (fun k hk => by have : k = b + 1 := hk; have := HLD.out.1; omega), ownI_gr h3 hR (fun k hk => by have : k = b + 1 := hk; have := HLD.out.1; omega), h4⟩) (vs9 5) x9 y9 h9 hR9)), trivial⟩⟩,
        ⟨.inl (by kernel_rfl), ⟨.inr (.inl rfl), trivial⟩⟩, trivial⟩ ⟨fun vs vs' x h _ hv => (by dsimp only at hv ⊢; first | (rw [← h]; exact hv) | exact hv),
        fun vs vs' x h _ hv => (by dsimp only at hv ⊢; first | (rw [← h]; exact hv) | exact hv),
        fun vs vs' x h _ hv => (by dsimp only at hv ⊢; first | (rw [← h]; exact hv) | exact hv),
        fun vs vs' x h _ hv => (by dsimp only at hv ⊢; first | (rw [← h]; exact hv) | exact hv),
        fun vs vs' x h _ hv => (by dsimp only at hv ⊢; first | (rw [← h]; exact hv) | exact hv),
        fun vs vs' x h _ hv => (by dsimp only at hv ⊢; first | (rw [← h]; exact hv) | exact hv),
        fun vs vs' x h _ hv => (by dsimp only at hv ⊢; first | (rw [← h]; exact hv) | exact hv), trivial⟩ (fun _ => below_drewN (Below.refl _ _) 1) ⟨?_, ?_, ?_, ?_, ?_, ?_, ?_, trivial⟩ ?_
    · intro vals xw9 f hf1 hf2 hf3 hI hF
      have k6 : f 6 = false := hf3 6 (by kernel_rfl)
      clear hf2 hf3
      dsimp only [owes4, bare]
      simp only [putsD, Act.put, List.setIfInBounds_toArray, List.set_cons_zero, List.set_cons_succ]
      have hbl9 := hI k6
      have c90 : xw9.cell? _ = _ := m0 ⟨xw9, hbl9⟩
      have c91 : xw9.cell? _ = _ := m1 ⟨xw9, hbl9⟩
      have c92 : xw9.cell? _ = _ := m2 ⟨xw9, hbl9⟩
      have c93 : xw9.cell? _ = _ := m3 ⟨xw9, hbl9⟩
      go_wp2
      exact ⟨rfl, rfl, ⟨fun h9 => absurd h9 (Nat.ne_of_beq_eq_false rfl), fun _ => Below.refl _ _⟩, hI⟩
    · intro vals xw9 f hf1 hf2 hf3 hI hF
      clear hf2 hf3
      dsimp only [owes4, bare]
      simp only [putsD, Act.put, List.setIfInBounds_toArray, List.set_cons_zero, List.set_cons_succ]
      go_wp2
      exact ⟨rfl, rfl, ⟨fun h9 => absurd h9 (Nat.ne_of_beq_eq_false rfl), fun _ => Below.refl _ _⟩, hI⟩
    · intro vals xw9 f hf1 hf2 hf3 hI hF
      clear hf2 hf3
      dsimp only [owes4, bare]
      simp only [putsD, Act.put, List.setIfInBounds_toArray, List.set_cons_zero, List.set_cons_succ]
      go_wp2
      exact ⟨rfl, rfl, ⟨fun h9 => absurd h9 (Nat.ne_of_beq_eq_false rfl), fun _ => Below.refl _ _⟩, hI⟩
    · intro vals xw9 f hf1 hf2 hf3 hI hF
      clear hf2 hf3
      dsimp only [owes4, bare]
      simp only [putsD, Act.put, List.setIfInBounds_toArray, List.set_cons_zero, List.set_cons_succ]
      go_wp2
      exact ⟨rfl, rfl, ⟨fun h9 => absurd h9 (Nat.ne_of_beq_eq_false rfl), fun _ => Below.refl _ _⟩, hI⟩
    · intro vals xw9 f hf1 hf2 hf3 hI hF
      have k6 : f 6 = false := hf3 6 (by kernel_rfl)
      clear hf2 hf3
      simp only [saysD, List.getD_cons_zero, List.getD_cons_succ, and_true] at hF
      obtain ⟨e45, e46, e47⟩ := hF
      dsimp only [owes4, bare]
      simp only [putsD, Act.put, List.setIfInBounds_toArray, List.set_cons_zero, List.set_cons_succ]
      simp only [e45, e46, e47]
      have HI9 := Lib.hid (hI k6)
      have HW9 := Lib.hid (HBL.out xw9 (hI k6))
      clear hI
      go_wp2_with fail
      refine HW9.out.mono ?_
      rintro e w9 ⟨rfl, rfl⟩
      go_wp2
      exact ⟨rfl, rfl, ⟨fun h9 => absurd h9 (Nat.ne_of_beq_eq_false rfl), fun _ => Below.refl _ _⟩, fun _ => HI9.out⟩
    · intro vals xw9 f hf1 hf2 hf3 hI hF
      have k6 : f 6 = false := hf3 6 (by kernel_rfl)
      clear hf2 hf3
      simp only [saysD, List.getD_cons_zero, List.getD_cons_succ, and_true] at hF
      obtain ⟨e44, e48⟩ := hF
      dsimp only [owes4, bare]
      simp only [putsD, Act.put, List.setIfInBounds_toArray, List.set_cons_zero, List.set_cons_succ]
      simp only [e44, e48]
      have HI9 := Lib.hid (hI k6)
      have HW9 := Lib.hid (HBK.out xw9 (hI k6))
      clear hI
      go_wp2_with fail
      refine HW9.out.mono ?_
      rintro e w9 ⟨P8, Q8, p8, q8, rfl, h1, h2, h3, h4⟩
      have HO9 := Lib.hid (And.intro (own_low h1 HI9.out.size) (And.intro (own_low h2 HI9.out.size) h3))
      have HB9 := Lib.hid h4
      clear h1 h2 h3 h4
      go_wp2
      exact ⟨rfl, ⟨P8, Q8, p8, q8, rfl, HO9.out⟩, ⟨fun h9 => absurd h9 (Nat.ne_of_beq_eq_false rfl), fun _ => HB9.out⟩, fun _ => HI9.out.trans (HB9.out.mono HI9.out.size)⟩
    · intro vals xw9 f hf1 hf2 hf3 hI hF
      clear hf2 hf3
      simp only [saysD, List.getD_cons_zero, List.getD_cons_succ, and_true] at hF
      obtain ⟨P8, Q8, p8, q8, e49, h1, h2, h3⟩ := hF
      dsimp only [owes4, bare]
      simp only [putsD, Act.put, List.setIfInBounds_toArray, List.set_cons_zero, List.set_cons_succ]
      simp only [e49]
      have HI9 := Lib.hid (hI hf1)
      have HO9 := Lib.hid (And.intro h1 (And.intro h2 h3))
      clear h1 h2 h3 hI
      have hbn := (HI9.out.block _ (lt_of_block HB3D.out)).trans HB3D.out
      obtain ⟨o0, o0'⟩ := cell_of_block hbn 0
      obtain ⟨o1, o1'⟩ := cell_of_block hbn 1
      obtain ⟨o2, o2'⟩ := cell_of_block hbn 2
      obtain ⟨o3, o3'⟩ := cell_of_block hbn 3
      have HBN := Lib.hid hbn
      clear hbn
      go_wp2
      have hfin := new_box (c8 := c8) (z := s.code) HLD.out.2 HLD.out.1 HBD.out HI9.out HBN.out HO9.out HZL.out HFL.out.2
      refine ⟨rfl, ⟨hfin.1, P8, Q8, p8, q8, hfin.2.1.1, hfin.2.1.2.1, hfin.2.1.2.2.1.1, hfin.2.1.2.2.1.2.1, hfin.2.1.2.2.1.2.2, hfin.2.1.2.2.2⟩, ⟨fun _ => hfin.2.2, fun h9 => absurd rfl h9⟩, fun e => absurd e (by simp [did])⟩
    · intro vals xw9 f hall hI hF
      rw [show List.range _ = [0, 1, 2, 3, 4, 5, 6] from rfl] at hF
      simp only [says, List.getD_cons_zero, List.getD_cons_succ, and_true] at hF
      obtain ⟨hw8, P8, Q8, p8, q8, hbx, hsz, hO1, hO2, hO3, hZ8⟩ := hF.2.2.2.2.2.2
      have HRES := Lib.hid (new_ret (s := s) (p := p) (q := q) (d := d) (P := P) (Q := Q) (D := D) HLD.out.2 HLD.out.1 hw8 hbx hsz hO1 hO2 hO3 hZ8 HCAP.out HBD.out.size)
      clear hO1 hO2 hO3 hZ8 hI hall hF m0 m1 m2 m3
      obtain ⟨e0, _⟩ := cell_of_block hbx 0
      obtain ⟨e1, _⟩ := cell_of_block hbx 1
      obtain ⟨e2, _⟩ := cell_of_block hbx 2
      obtain ⟨e3, _⟩ := cell_of_block hbx 3
      simp only [putsD, Act.put, List.setIfInBounds_toArray, List.set_cons_zero, List.set_cons_succ]
      go_wp2
      refine bodyPost_ret (v := .agg #[.slice P8 ps.length p8, .slice Q8 qs.length q8, .slice A8 zs.length c8, .int .i64 s.code]) (by simp [results, Try.results115, go_sem, e0, e1, e2, e3]) rfl ?_
      rw [HRE.out, ← HZE.out]
      exact HRES.out
end Go.Proofs.Ytbljfhmcebgdaaa
