/- append of one element that lies somewhere. No program is named here. The reference's draws of searches: the search in memory. The reference's draws of searches: what the drawn statements keep. The reference's draws of searches: a search is run and copied. -/
import Derived.Test.YtbljfhmcebgdaaaJFnSatBent4
import Derived.Test.YtbljfhmcebgdaaaJFnSatBent14
import Derived.Test.YtbljfhmcebgdaaaJFnSatBent15
/-! append of one element that lies somewhere. No program is named here. -/
namespace Go.Proofs.Ytbljfhmcebgdaaa
open Go Go.RowKit

/-- append of one element that lies somewhere. -/
theorem wpList_append_rowAt {P : Program} {Q' : Exit → Act → World → Prop} {ops : Array Oper} {rest : List Oper} {o : Oper} {a : Act} {W : World} {α : Type} {L : Lay α} {Q : World → Nat → Prop} {t e : TypeId} {i : TypeInfo} {z : Value} {bytes : Nat} {G : Nat → Prop}
    {lo : Nat} {A : Option Addr} {c : Nat} {xs ys : List α} {x : α} {cs : Array Value} {ad : Addr} {k9 : Nat} (hgd : o.guard = none) (s y : Operand)
    (ho : o.op = .call { callee := .builtin .append, args := #[s, y], argTypes := #[t, t] }) (ht : P.underlying t = some (.slice e)) (hi : P.info? e = some i) (hz : i.zero = some z) (hsize : i.size = L.size) (hby : i.bytes = bytes) (hzs : z.cells.size = L.size) (hsz : 0 < L.size)
    (hs : a.eval s = .slice A xs.length c) (hy : a.eval y = .slice (some ad) 1 k9) (hnews : ∀ j u, cs.toList[j]? = some u → W.cell? (ad.add j) = some u)
    (hown : OwnL L Q e W lo (.slice A xs.length c) xs) (hQ : Stay Q) (hr : L.R W G x cs.toList) (hG : ∀ b, G b → b < W.heap.size ∧ (Value.slice A xs.length c).ownBlock ≠ some b ∧ Q W b) (h1 : ∀ u ∈ cs.toList, u.oneCell' = true)
    (hn : xs.length ≤ 2000000) (hb : bytes ≤ 128) (hlo : lo ≤ W.heap.size) (hys : ys = xs ++ [x])
    (h : ∀ A' c' w', OwnL L Q e w' lo (.slice A' ys.length c') ys → W.grownBy w' (Value.slice A xs.length c).ownBlock →
      ((Value.slice A' ys.length c').ownBlock = (Value.slice A xs.length c).ownBlock ∨ ∃ g, (Value.slice A' ys.length c').ownBlock = some g ∧ W.heap.size ≤ g) → wpList P ops Q' rest (a.put o.dst (.slice A' ys.length c')) w') :
    wpList P ops Q' (o :: rest) a W := by
  have hal : Below W.heap.size W W := Below.refl _ _
  have hl : ys.length = xs.length + 1 := by rw [hys]; simp
  have hlc : cs.toList.length = L.size := L.len hr
  obtain ⟨ks, hk1, hk2⟩ := hown.up hQ hal
  have hbb : (xs.length + 1) * bytes ≤ 140737488355328 := by
    have : (xs.length + 1) * bytes ≤ 2000001 * 128 := Nat.mul_le_mul (by omega) hb
    omega
  refine wpList_plain hgd fun _ hK => ?_
  obtain ⟨v', w', hrun, ho', hg', _, hbk⟩ := run_append_own_at (P := P) W lo t o.type e i z L.size bytes ht hi hz hsize hby hzs hsz
    (.slice A xs.length c) xs.length ks hk1 ad 1 k9 cs.toList (by omega) hnews h1 (by unfold maxLen; omega) hbb (Nat.le_trans hlo hal.size)
  have hform : ∃ A' c', v' = .slice A' ys.length c' := by
    rcases ho'.2 with ⟨e1, e2⟩ | ⟨g, cap, cur, e1, _⟩
    · omega
    · exact ⟨_, cap, by rw [e1, hl]⟩
  obtain ⟨A', c', rfl⟩ := hform
  have hgW := grown_then hal hg'
  have hbk2 : (Value.slice A' ys.length c').ownBlock = (Value.slice A xs.length c).ownBlock ∨ ∃ g, (Value.slice A' ys.length c').ownBlock = some g ∧ W.heap.size ≤ g := by
    rcases hbk with e | e
    · exact .inl e
    · exact .inr ⟨_, e, hal.size⟩
  have hne : ∀ b, b < W.heap.size → (Value.slice A xs.length c).ownBlock ≠ some b → (Value.slice A' ys.length c').ownBlock ≠ some b := fun b h2 h3 h4 => by
    rcases hbk2 with e | ⟨g, e, hg⟩
    · exact h3 (e ▸ h4)
    · rw [e] at h4; injection h4 with h4; omega
  unfold Oper.wp execOp
  simp only [ho, resolve, invoke, builtin, Sem.run_bind, Sem.run_pure, Result.andThen_ok, List.map_toArray, List.map_cons, List.map_nil, hs, hy, hrun]
  refine hK _ _ (h A' c' w' ⟨ks ++ cs.toList, by rw [hl] at ho' ⊢; exact ho', fun k y hky => ?_⟩ hgW hbk2)
  have hkl : ks.length = xs.length * L.size := hk1.1
  rw [hys] at hky
  have hmove : ∀ {y : α} {vs : List Value}, L.R W (fun b => b < W.heap.size ∧ (Value.slice A xs.length c).ownBlock ≠ some b ∧ Q W b) y vs → L.R w' (fun b => b < w'.heap.size ∧ (Value.slice A' ys.length c').ownBlock ≠ some b ∧ Q w' b) y vs := fun hR =>
    L.mono (fun b h9 => ⟨Nat.lt_of_lt_of_le h9.1 hgW.size, hne b h9.1 h9.2.1, hQ _ _ _ (hgW.block b h9.1 (fun e9 => h9.2.1 e9.symm)) h9.2.2⟩) (L.keep (fun b h9 => hgW.block b h9.1 (fun e9 => h9.2.1 e9.symm)) hR)
  rcases Nat.lt_or_ge k xs.length with h2 | h2
  · rw [List.getElem?_append_left h2] at hky
    obtain ⟨cs0, h01, h02⟩ := hown
    obtain ⟨vs, hR, hu⟩ := hk2 k y hky
    obtain ⟨vs0, hR0, hu0⟩ := h02 k y hky
    refine ⟨vs, ?_, fun j u hj => ?_⟩
    · refine L.mono (fun b h9 => ?_) (L.keep (fun b h9 => hg'.block b h9.1 (fun e9 => h9.2.1 e9.symm)) hR)
      have hq := hQ _ _ _ (hg'.block b h9.1 (fun e9 => h9.2.1 e9.symm)) h9.2.2
      refine ⟨Nat.lt_of_lt_of_le h9.1 hg'.size, fun e9 => ?_, hq⟩
      rcases hbk with e | e
      · exact h9.2.1 (e ▸ e9)
      · rw [e] at e9; injection e9 with e9; have := h9.1; omega
    · have hjl : j < vs.length := by
        rcases Nat.lt_or_ge j vs.length with h | h
        · exact h
        · rw [List.getElem?_eq_none h] at hj; cases hj
      have hvl := L.len hR
      have hm : (k + 1) * L.size ≤ xs.length * L.size := Nat.mul_le_mul_right _ h2
      rw [Nat.add_mul, Nat.one_mul] at hm
      rw [List.getElem?_append_left (by omega)]
      exact hu j u hj
  · rw [List.getElem?_append_right h2] at hky
    have hk0 : k = xs.length := by
      rcases Nat.eq_or_lt_of_le h2 with h3 | h3
      · exact h3.symm
      · rw [List.getElem?_eq_none (by simp; omega)] at hky; cases hky
    subst hk0
    simp at hky
    subst hky
    refine ⟨cs.toList, hmove (L.mono hG hr), fun j u hj => ?_⟩
    rw [List.getElem?_append_right (by omega), show xs.length * L.size + j - ks.length = j by omega]
    exact hj
end Go.Proofs.Ytbljfhmcebgdaaa

/-! The reference's draws of searches: the search in memory. -/
namespace Go.Proofs.Ytbljfhmcebgdaaa
open Go Go.RowKit

/-- append of some integers onto a row of the call's own, and where the row lies then. -/
theorem wpList_append_intsD {Q : Exit → Act → World → Prop} {ops : Array Oper} {rest : List Oper} {o : Oper} {a : Act} {w : World} {lo : Nat} {A Y : Option Addr} {c cy : Nat} {xs ys zs : List Int} (hgd : o.guard = none) (s y : Operand)
    (ho : o.op = .call { callee := .builtin .append, args := #[s, y], argTypes := #[26, 26] }) (hs : a.eval s = .slice A xs.length c) (hy : a.eval y = .slice Y ys.length cy)
    (hown : OwnI w lo (.slice A xs.length c) xs) (hY : Lay.int.Rd w Y ys) (hn : xs.length + ys.length ≤ 1048576) (hlo : lo ≤ w.heap.size) (hzs : zs = xs ++ ys)
    (h : ∀ A' c' w', OwnI w' lo (.slice A' zs.length c') zs → w.grownBy w' (Value.slice A xs.length c).ownBlock → ((Value.slice A' zs.length c').ownBlock = (Value.slice A xs.length c).ownBlock ∨ ∃ g, (Value.slice A' zs.length c').ownBlock = some g ∧ w.heap.size ≤ g) → wpList Try.prog ops Q rest (a.put o.dst (.slice A' zs.length c')) w') : wpList Try.prog ops Q (o :: rest) a w := by
  obtain ⟨i0, hi0, hz0, hz1, hz2⟩ := info_parts int_info
  have hl : zs.length = xs.length + ys.length := by rw [hzs]; simp
  have hc : zs.map (Value.int .i64) = xs.map (Value.int .i64) ++ ys.map (Value.int .i64) := by rw [hzs]; simp
  refine wpList_plain hgd fun _ hK => ?_
  obtain ⟨A', c', w', hrun, h2, h3, hbk⟩ := run_append_src_at (P := Try.prog) (w := w) lo 26 o.type 3 i0 _ 1 8 Try.underlying26 hi0 hz0 hz1 hz2 (by rfl) (by omega) _ xs.length (xs.map (Value.int .i64)) hown Y ys.length cy (ys.map (Value.int .i64)) (src_ints hY) (ints_one _) zs.length hl.symm (by unfold maxLen; omega) (by omega) hlo (none_len hY)
  have h9 : OwnI w' lo (.slice A' zs.length c') zs := by unfold OwnI; rw [hc]; exact h2
  unfold Oper.wp execOp
  simp only [ho, resolve, invoke, builtin, Sem.run_bind, Sem.run_pure, Result.andThen_ok, List.map_toArray, List.map_cons, List.map_nil, hs, hy, hrun]
  exact hK _ _ (h A' c' w' h9 h3 hbk)
/-- A drawn search is small. -/
structure okS (n : Nat) (s : S) : Prop where
  put : s.put.length ≤ 700 + n
  why : s.why.length ≤ 700 + n
  lrn : s.learned.length ≤ 300 + n
  puts : ∀ l ∈ s.put, okInt l
  whys : ∀ l ∈ s.why, okInt l
  cls : ∀ cl ∈ s.learned, cl.length ≤ 700 ∧ ∀ l ∈ cl, okInt l
  code : okInt s.code
theorem okS.new (n : Nat) : okS n ⟨[], [], [], 0⟩ := ⟨by simp, by simp, by simp, by simp, by simp, by simp, by show okInt 0; unfold okInt; omega⟩
theorem okS.mono {m n : Nat} {s : S} (h : okS m s) (hn : m ≤ n) : okS n s := ⟨by have := h.put; omega, by have := h.why; omega, by have := h.lrn; omega, h.puts, h.whys, h.cls, h.code⟩
theorem mem_snoc9 {p : Int → Prop} {xs : List Int} {y : Int} (h : ∀ l ∈ xs, p l) (hy : p y) : ∀ l ∈ xs ++ [y], p l := fun l hl => by
  rcases List.mem_append.1 hl with hl | hl
  · exact h l hl
  · rw [List.mem_singleton.1 hl]; exact hy
theorem mem_set9 {p : Int → Prop} {xs : List Int} {y : Int} {k : Nat} (h : ∀ l ∈ xs, p l) (hy : p y) : ∀ l ∈ xs.set k y, p l := fun l hl => by
  rcases List.mem_or_eq_of_mem_set hl with hl | rfl
  · exact h l hl
  · exact hy
theorem whyOk_int {cs : List (List Int)} {pre : List Int} {m k : Int} (h : whyOk cs pre m k = true) (hc : cs.length ≤ 3000) : -1 ≤ k ∧ k < 3000 := by
  unfold whyOk at h
  rw [Bool.or_eq_true] at h
  rcases h with h | h
  · have : k = -1 := by simpa using h
    omega
  · rw [Bool.and_eq_true, Bool.and_eq_true, decide_eq_true_eq, decide_eq_true_eq] at h
    omega
theorem SatGood.okS {x : C} {s : S} (h : SatGood x s) : okS 0 s := by
  obtain ⟨h0, h1, h2, h3⟩ := (cnfOk_iff x).1 h.cnf
  obtain ⟨M, hM⟩ := Int.eq_ofNat_of_zero_le h0
  have hl := h.good.length
  rw [hM, Int.toNat_natCast] at hl
  have hlen := h.len
  have hlr := h.learned
  refine ⟨by omega, by omega, by omega, fun l hl => ?_, fun k hk => ?_, fun cl hcl => ?_, ?_⟩
  · have := h.good.rng l hl
    unfold okInt; omega
  · obtain ⟨i, hi, e⟩ := List.getElem_of_mem hk
    have hip : i < s.put.length := by omega
    have := whyOk_int ((whysF_iff h.len).1 h.whys i _ _ (List.getElem?_eq_getElem hip) (List.getElem?_eq_getElem hi)) (by rw [List.length_append]; omega)
    rw [e] at this
    unfold okInt; omega
  · have hc := h.cls cl hcl
    rw [hM] at hc
    refine ⟨by have := clOk_len hc; omega, fun l hl => ?_⟩
    have := clOk_rng hc l hl
    unfold okInt; omega
  · have := h.code0; have := h.code1
    unfold okInt; omega
/-- A search's rows: the call's own; what was learned leads to the blocks FL. -/
structure StR (lo g : Nat) (FL : Nat → Prop) (s : S) (P Q D : Option Addr) (p q d : Nat) (x : World) : Prop where
  put : OwnI x lo (.slice P s.put.length p) s.put
  why : OwnI x lo (.slice Q s.why.length q) s.why
  lrn : OwnL Lay.int.slice (fun _ b => FL b) 26 x lo (.slice D s.learned.length d) s.learned
  apart : ∀ k, (Value.slice P s.put.length p).ownBlock = some k → (Value.slice Q s.why.length q).ownBlock ≠ some k
  fl : ∀ b, FL b → lo ≤ b ∧ b < x.heap.size ∧ b ≠ g ∧ (Value.slice P s.put.length p).ownBlock ≠ some b ∧ (Value.slice Q s.why.length q).ownBlock ≠ some b
  glo : lo ≤ g ∧ g < x.heap.size
theorem OwnL.gr8 {w w' : World} {lo : Nat} {FL T : Nat → Prop} {v : Value} {zs : List (List Int)} (h : OwnL Lay.int.slice (fun _ b => FL b) 26 w lo v zs) (hg : Gr T w w') (hv : ∀ k, v.ownBlock = some k → ¬ T k) (hF : ∀ b, FL b → ¬ T b) : OwnL Lay.int.slice (fun _ b => FL b) 26 w' lo v zs := by
  have hlt := h.lt
  obtain ⟨cs, h1, h2⟩ := h
  refine ⟨cs, own_of_heap h1 fun g hg' => hg.block g (hlt g hg').2 (hv g hg'), fun i x hx => ?_⟩
  obtain ⟨vs, hr, hu⟩ := h2 i x hx
  exact ⟨vs, Lay.int.slice.mono (fun b hb => ⟨Nat.lt_of_lt_of_le hb.1 hg.size, hb.2.1, hb.2.2⟩) (Lay.int.slice.keep (fun b hb => hg.block b hb.1 (hF b hb.2.2)) hr), hu⟩
/-- The row's block is a block of rows. -/
theorem OwnL.ne8 {w : World} {lo : Nat} {Q : World → Nat → Prop} {v : Value} {zs : List (List Int)} (h : OwnL Lay.int.slice Q 26 w lo v zs) (r : Nat) (o : Obj) (hr : w.heap[r]? = some o) (ho : ∀ cs fr, o ≠ .cells cs 26 fr) : v.ownBlock ≠ some r := by
  obtain ⟨cs, h, _⟩ := h
  rcases h.2 with ⟨e, _⟩ | ⟨g, cap, cur, e, _, hg, _⟩
  · rw [e]; intro h; cases h
  · rw [e]
    intro h
    injection h with h
    subst h
    rw [hr] at hg
    injection hg with hg
    exact ho _ _ hg
theorem ownI_type {w : World} {lo k : Nat} {v : Value} {xs : List Int} (h : OwnI w lo v xs) (e : v.ownBlock = some k) : ∃ cs, w.heap[k]? = some (.cells cs 3 (0, 0)) := by
  rcases h.2 with ⟨rfl, _⟩ | ⟨g9, cap, cur, rfl, hb, hc, _⟩
  · cases e
  · have e9 : g9 = k := by simpa [Value.ownBlock] using e
    subst e9
    exact ⟨cur, hc⟩
/-- What was learned does not lie in a row of integers. -/
theorem OwnL.neI {w : World} {lo lo' k : Nat} {Q : World → Nat → Prop} {v u : Value} {zs : List (List Int)} {xs : List Int} (h : OwnL Lay.int.slice Q 26 w lo v zs) (h' : OwnI w lo' u xs) (e : u.ownBlock = some k) : v.ownBlock ≠ some k := by
  obtain ⟨cs, hc⟩ := ownI_type h' e
  exact h.ne8 k _ hc fun _ _ e => by injection e with _ e _; exact absurd e (by decide)
section
variable {lo g : Nat} {FL T : Nat → Prop} {s : S} {P Q D : Option Addr} {p q d : Nat} {x z : World}
theorem StR.gr (h : StR lo g FL s P Q D p q d x) (hg : Gr T x z) (hT : ∀ b, T b → b < lo) : StR lo g FL s P Q D p q d z :=
  ⟨h.put.gr hg hT, h.why.gr hg hT, h.lrn.gr8 hg (fun k hk e => by have := hT k e; have := (h.lrn.lt k hk).1; omega) (fun b hb e => by have := hT b e; have := (h.fl b hb).1; omega), h.apart, fun b hb => ⟨(h.fl b hb).1, Nat.lt_of_lt_of_le (h.fl b hb).2.1 hg.size, (h.fl b hb).2.2⟩, h.glo.1, Nat.lt_of_lt_of_le h.glo.2 hg.size⟩
theorem StR.up (h : StR lo g FL s P Q D p q d x) (hb : Below x.heap.size x z) : StR lo g FL s P Q D p q d z := h.gr (T := fun _ => False) (.below hb) fun _ h => h.elim
theorem StR.code (h : StR lo g FL s P Q D p q d x) (k : Int) : StR lo g FL ⟨s.put, s.why, s.learned, k⟩ P Q D p q d x := ⟨h.put, h.why, h.lrn, h.apart, h.fl, h.glo⟩
/-- The box is written. -/
theorem StR.box {cs : Array Value} (h : StR lo g FL s P Q D p q d x) (hb : x.heap[g]? = some (.cells cs 35 (0, 0))) (hg : Gr (fun k => k = g) x z) : StR lo g FL s P Q D p q d z := by
  have key : ∀ {v : Value} {l : List Int}, OwnI x lo v l → OwnI z lo v l := fun {v l} ho => own_of_heap ho fun k hk => hg.block k (ho.lt k hk).2 fun e => rowI_ne ho g _ hb (tne (by decide)) (by rw [hk, show k = g from e])
  exact ⟨key h.put, key h.why, h.lrn.gr8 hg (fun k hk e => h.lrn.ne8 g _ hb (fun _ _ e => by injection e with _ e _; exact absurd e (by decide)) (by rw [hk, show k = g from e])) (fun b hb e => (h.fl b hb).2.2.1 e), h.apart, fun b hb => ⟨(h.fl b hb).1, Nat.lt_of_lt_of_le (h.fl b hb).2.1 hg.size, (h.fl b hb).2.2⟩, h.glo.1, Nat.lt_of_lt_of_le h.glo.2 hg.size⟩
theorem gr_own {row : Option Nat} (hg : x.grownBy z row) : Gr (fun b => row = some b) x z := ⟨hg.os, hg.tape, hg.output, hg.size, fun i hi hn => hg.block i hi fun e => hn e.symm⟩
/-- Another row of marks. -/
theorem StR.putRow {A : Option Addr} {c : Nat} {ys : List Int} (h : StR lo g FL s P Q D p q d x) (ho : OwnI z lo (.slice A ys.length c) ys) (hg : x.grownBy z (Value.slice P s.put.length p).ownBlock) (hk : (Value.slice A ys.length c).ownBlock = (Value.slice P s.put.length p).ownBlock ∨ ∃ k, (Value.slice A ys.length c).ownBlock = some k ∧ x.heap.size ≤ k) :
    StR lo g FL ⟨ys, s.why, s.learned, s.code⟩ A Q D c q d z := by
  have hgr := gr_own hg
  refine ⟨ho, own_of_heap h.why fun k hk9 => hg.block k (h.why.lt k hk9).2 fun e => h.apart k e.symm hk9, h.lrn.gr8 hgr (fun k hk9 e => h.lrn.neI h.put e hk9) (fun b hb e => (h.fl b hb).2.2.2.1 e), fun k hk9 hq => ?_, fun b hb => ⟨(h.fl b hb).1, Nat.lt_of_lt_of_le (h.fl b hb).2.1 hg.size, (h.fl b hb).2.2.1, fun e => ?_, (h.fl b hb).2.2.2.2⟩, h.glo.1, Nat.lt_of_lt_of_le h.glo.2 hg.size⟩
  · rcases hk with e | ⟨k', e, hk'⟩
    · rw [e] at hk9; exact h.apart k hk9 hq
    · rw [e] at hk9
      injection hk9 with hk9
      subst hk9
      have := (h.why.lt k' hq).2
      omega
  · rcases hk with e' | ⟨k', e', hk'⟩
    · rw [e'] at e; exact (h.fl b hb).2.2.2.1 e
    · rw [e'] at e
      injection e with e
      subst e
      have := (h.fl k' hb).2.1
      omega
/-- Another row of reasons. -/
theorem StR.whyRow {A : Option Addr} {c : Nat} {ys : List Int} (h : StR lo g FL s P Q D p q d x) (ho : OwnI z lo (.slice A ys.length c) ys) (hg : x.grownBy z (Value.slice Q s.why.length q).ownBlock) (hk : (Value.slice A ys.length c).ownBlock = (Value.slice Q s.why.length q).ownBlock ∨ ∃ k, (Value.slice A ys.length c).ownBlock = some k ∧ x.heap.size ≤ k) :
    StR lo g FL ⟨s.put, ys, s.learned, s.code⟩ P A D p c d z := by
  have hgr := gr_own hg
  refine ⟨own_of_heap h.put fun k hk9 => hg.block k (h.put.lt k hk9).2 fun e => h.apart k hk9 e.symm, ho, h.lrn.gr8 hgr (fun k hk9 e => h.lrn.neI h.why e hk9) (fun b hb e => (h.fl b hb).2.2.2.2 e), fun k hp hk9 => ?_, fun b hb => ⟨(h.fl b hb).1, Nat.lt_of_lt_of_le (h.fl b hb).2.1 hg.size, (h.fl b hb).2.2.1, (h.fl b hb).2.2.2.1, fun e => ?_⟩, h.glo.1, Nat.lt_of_lt_of_le h.glo.2 hg.size⟩
  · rcases hk with e | ⟨k', e, hk'⟩
    · rw [e] at hk9; exact h.apart k hp hk9
    · rw [e] at hk9
      injection hk9 with hk9
      subst hk9
      have := (h.put.lt k' hp).2
      omega
  · rcases hk with e' | ⟨k', e', hk'⟩
    · rw [e'] at e; exact (h.fl b hb).2.2.2.2 e
    · rw [e'] at e
      injection e with e
      subst e
      have := (h.fl k' hb).2.1
      omega
/-- A row of integers shorter by some: the same block. -/
theorem OwnI.short {A : Option Addr} {c n : Nat} {xs : List Int} (h : OwnI x lo (.slice A xs.length c) xs) (hn : n ≤ xs.length) : OwnI x lo (.slice A (xs.take n).length c) (xs.take n) := by
  have hl : (xs.take n).length = n := by rw [List.length_take]; omega
  rcases h.2 with ⟨e, e2⟩ | ⟨g, cap, cur, e, hb, hc, h1, h2, h3, h4⟩
  · injection e with e1 e2 e3
    subst e1 e3
    have : n = 0 := by omega
    subst this
    exact ⟨by simp, .inl ⟨by simp, by simp⟩⟩
  · injection e with e1 e2 e3
    subst e1 e3
    refine ⟨by simp, .inr ⟨g, c, cur, rfl, hb, hc, by omega, h2, h3, ?_⟩⟩
    have := congrArg (List.take n) h4
    rw [List.take_take] at this
    rw [hl, List.map_take, ← this]
    congr 1
    omega
end
end Go.Proofs.Ytbljfhmcebgdaaa

/-! The reference's draws of searches: what the drawn statements keep. -/
namespace Go.Proofs.Ytbljfhmcebgdaaa
open Go Go.RowKit

abbrev RowK := Option Addr → Nat → List Int → World → Prop
/-- A row of integers in a search: what stays when it turns. -/
structure KOk (lo g : Nat) (K : RowK) : Prop where
  own : ∀ {A c xs x}, K A c xs x → OwnI x lo (.slice A xs.length c) xs
  gr : ∀ {A c xs x z} {T : Nat → Prop}, K A c xs x → Gr T x z → (∀ b, T b → b < lo) → K A c xs z
  row : ∀ {A A' : Option Addr} {c c' : Nat} {xs ys : List Int} {x z}, K A c xs x → OwnI z lo (.slice A' ys.length c') ys → x.grownBy z (Value.slice A xs.length c).ownBlock → ((Value.slice A' ys.length c').ownBlock = (Value.slice A xs.length c).ownBlock ∨ ∃ k, (Value.slice A' ys.length c').ownBlock = some k ∧ x.heap.size ≤ k) → K A' c' ys z
  box : ∀ {A c xs x z cs}, K A c xs x → x.heap[g]? = some (.cells cs 35 (0, 0)) → Gr (fun k => k = g) x z → K A c xs z
  glo : ∀ {A c xs x}, K A c xs x → lo ≤ g ∧ g < x.heap.size
/-- append of a drawn number onto a row of the search: literal 3, number 4, its slice 5, append 6, store 8. -/
def ApI (w : World) (r : Nat) (q : Int) (g off : Nat) (bx : Array Value) (K : RowK) (A : Option Addr) (c : Nat) (xs lit : List Int) (v3 v4 v5 v6 : Value) (f3 f4 f5 f6 f8 : Bool) (x : World) : Prop :=
  Gr (IsR r) w x ∧ (f4 = false → Rdr x r q) ∧ (f4 = true → Rdr x r (q + 1) ∧ ∃ y, v4 = .int .i64 y ∧ okInt y) ∧
  (f3 = true → f4 = false → ∃ b, v3 = .slice (some ⟨b, 0, none⟩) lit.length lit.length ∧ Lay.int.Sl x (Ab (IsR r) x) (some ⟨b, 0, none⟩) lit) ∧
  (f5 = true → f6 = false → ∃ b y, okInt y ∧ v5 = .slice (some ⟨b, 0, none⟩) [y].length 1 ∧ Lay.int.Rd x (some ⟨b, 0, none⟩) [y]) ∧
  (f6 = false → K A c xs x) ∧ (f6 = true → ∃ A' c' y, v6 = .slice A' (xs ++ [y]).length c' ∧ okInt y ∧ K A' c' (xs ++ [y]) x) ∧
  (f8 = false → x.heap[g]? = some (.cells bx 35 (0, 0))) ∧ (f8 = true → x.heap[g]? = some (.cells (bx.setIfInBounds off v6) 35 (0, 0)))
section
variable {w x z : World} {r g off lo c : Nat} {q : Int} {bx : Array Value} {K : RowK} {A : Option Addr} {xs lit : List Int} {v3 v4 v5 v6 u3 u4 u5 u6 : Value} {f3 f4 f5 f6 f8 : Bool}
theorem ApI.start (hK : KOk lo g K) (hk : K A c xs x) (hg : Gr (IsR r) w x) (hr : Rdr x r q) (hb : x.heap[g]? = some (.cells bx 35 (0, 0))) : ApI w r q g off bx K A c xs lit v3 v4 v5 v6 false false false false false (x.drewN 1) := by
  have hbl : Below x.heap.size x (x.drewN 1) := below_drewN (Below.refl _ _) 1
  exact ⟨hg.up hbl, fun _ => hr.up hbl, fun e => absurd e (by simp), fun e => absurd e (by simp), fun e => absurd e (by simp), fun _ => hK.gr (T := fun _ => False) hk (.below hbl) (fun _ h => h.elim), fun e => absurd e (by simp), fun _ => (hbl.block _ (lt_of_block hb)).trans hb, fun e => absurd e (by simp)⟩
theorem ApI.up (hK : KOk lo g K) (h : ApI w r q g off bx K A c xs lit v3 v4 v5 v6 f3 f4 f5 f6 f8 x) (hb : Below x.heap.size x z) : ApI w r q g off bx K A c xs lit v3 v4 v5 v6 f3 f4 f5 f6 f8 z := by
  obtain ⟨h1, h2, h3, h4, h5, h6, h7, h8, h9⟩ := h
  have kk : ∀ {A c xs}, K A c xs x → K A c xs z := fun hk => hK.gr (T := fun _ => False) hk (.below hb) (fun _ h => h.elim)
  exact ⟨h1.up hb, fun e => (h2 e).up hb, fun e => ⟨(h3 e).1.up hb, (h3 e).2⟩, fun e e' => (h4 e e').imp fun b ⟨e9, hs⟩ => ⟨e9, hs.gr (.below hb)⟩, fun e e' => by obtain ⟨b, y, k1, k2, k3⟩ := h5 e e'; exact ⟨b, y, k1, k2, k3.up hb⟩, fun e => kk (h6 e), fun e => by obtain ⟨A', c', y, k1, k2, k3⟩ := h7 e; exact ⟨A', c', y, k1, k2, kk k3⟩, fun e => (hb.block _ (lt_of_block (h8 e))).trans (h8 e), fun e => (hb.block _ (lt_of_block (h9 e))).trans (h9 e)⟩
theorem ApI.made {cs : Array Value} (hK : KOk lo g K) (h : ApI w r q g off bx K A c xs lit v3 v4 v5 v6 f3 f4 f5 f6 f8 x) (hc : cs = (lit.map (Value.int .i64)).toArray) (hr : r < x.heap.size) :
    ApI w r q g off bx K A c xs lit (.slice (some ⟨x.heap.size, 0, none⟩) lit.length lit.length) v4 v5 v6 true f4 f5 f6 f8 (x.alloc (.cells cs 3)) := by
  obtain ⟨h1, h2, h3, h4, h5, h6, h7, h8, h9⟩ := h.up hK ((Below.refl _ _).alloc (Nat.le_refl _) (.cells cs 3))
  exact ⟨h1, h2, h3, fun _ _ => ⟨_, rfl, lit_sl (S := IsR r) x lit cs 3 hc (by show ¬ _ = r; omega)⟩, h5, h6, h7, h8, h9⟩
theorem ApI.num {y : Int} (hK : KOk lo g K) (h : ApI w r q g off bx K A c xs lit v3 v4 v5 v6 f3 f4 f5 f6 f8 x) (h4 : f4 = false) (h5 : f5 = false) (h6 : f6 = false) (h8 : f8 = false) (hr : r < lo) (hy : okInt y) (hR : Rdr z r (q + 1)) (hg : Gr (IsR r) x z) :
    ApI w r q g off bx K A c xs lit v3 (.int .i64 y) v5 v6 f3 true f5 f6 f8 z := by
  subst h4 h5 h6 h8
  obtain ⟨h1, h2, h3, h4, h5, h6, h7, h8, h9⟩ := h
  have hkx := h6 rfl
  have hT : ∀ b, IsR r b → b < lo := fun b hb => by have hb : b = r := hb; omega
  exact ⟨h1.trans hg, fun e => absurd e (by simp), fun _ => ⟨hR, y, rfl, hy⟩, fun _ e => absurd e (by simp), fun e => absurd e (by simp), fun _ => hK.gr hkx hg hT, fun e => absurd e (by simp), fun _ => hg.heap (fun e => by have := hT _ e; have := (hK.glo hkx).1; omega) (h8 rfl), fun e => absurd e (by simp)⟩
theorem rd_one (x : World) (y : Int) : Lay.int.Rd (x.alloc (.cells #[.int .i64 y] 3)) (some ⟨x.heap.size, 0, none⟩) [y] := (lit_sl (S := fun _ => False) x [y] _ 3 rfl (fun h => h)).mono fun _ h => h.1
theorem ApI.one {y : Int} (hK : KOk lo g K) (h : ApI w r q g off bx K A c xs lit v3 v4 v5 v6 f3 f4 f5 f6 f8 x) (hy : okInt y) :
    ApI w r q g off bx K A c xs lit v3 v4 (.slice (some ⟨x.heap.size, 0, none⟩) 1 1) v6 f3 f4 true f6 f8 (x.alloc (.cells #[.int .i64 y] 3)) := by
  obtain ⟨h1, h2, h3, h4, h5, h6, h7, h8, h9⟩ := h.up hK ((Below.refl _ _).alloc (Nat.le_refl _) (.cells #[.int .i64 y] 3))
  exact ⟨h1, h2, h3, h4, fun _ _ => ⟨_, y, hy, rfl, rd_one x y⟩, h6, h7, h8, h9⟩
theorem rowI_box {v : Value} {l : List Int} {cs : Array Value} (ho : OwnI x lo v l) (hb : x.heap[g]? = some (.cells cs 35 (0, 0))) : v.ownBlock ≠ some g := rowI_ne ho g _ hb (tne (by decide))
theorem ApI.app {A' : Option Addr} {c' : Nat} {y : Int} {ys : List Int} (hys : ys = xs ++ [y]) (hK : KOk lo g K) (h : ApI w r q g off bx K A c xs lit v3 v4 v5 v6 f3 f4 f5 f6 f8 x) (h4 : f4 = true) (h6 : f6 = false) (h8 : f8 = false) (hr : r < lo) (hlo : w.heap.size ≤ lo) (hy : okInt y) (ho : OwnI z lo (.slice A' ys.length c') ys) (hg : x.grownBy z (Value.slice A xs.length c).ownBlock)
    (hk : (Value.slice A' ys.length c').ownBlock = (Value.slice A xs.length c).ownBlock ∨ ∃ k, (Value.slice A' ys.length c').ownBlock = some k ∧ x.heap.size ≤ k) :
    ApI w r q g off bx K A c xs lit v3 v4 v5 (.slice A' ys.length c') f3 f4 f5 true f8 z := by
  subst h4 h6 h8 hys
  obtain ⟨h1, h2, h3, h4, h5, h6, h7, h8, h9⟩ := h
  have hkx := h6 rfl
  have hlt := (hK.own hkx).lt
  exact ⟨h1.own hg (fun k e => by have := (hlt k e).1; omega), fun e => absurd e (by simp), fun _ => ⟨(h3 rfl).1.own hg (fun k e => by have := (hlt k e).1; omega), (h3 rfl).2⟩, fun _ e => absurd e (by simp), fun _ e => absurd e (by simp), fun e => absurd e (by simp), fun _ => ⟨A', c', y, rfl, hy, hK.row hkx ho hg hk⟩, fun _ => (hg.block _ (lt_of_block (h8 rfl)) (fun e => rowI_box (hK.own hkx) (h8 rfl) e.symm)).trans (h8 rfl), fun e => absurd e (by simp)⟩
theorem ApI.store (hK : KOk lo g K) (h : ApI w r q g off bx K A c xs lit v3 v4 v5 v6 f3 f4 f5 f6 f8 x) (h4 : f4 = true) (h6 : f6 = true) (h8 : f8 = false) (hr : r < lo) (hlo : w.heap.size ≤ lo) :
    ApI w r q g off bx K A c xs lit v3 v4 v5 v6 f3 f4 f5 f6 true (x.setCell ⟨g, off, none⟩ v6) := by
  subst h4 h6 h8
  obtain ⟨h1, h2, h3, h4, h5, h6, h7, h8, h9⟩ := h
  obtain ⟨A', c', y, k1, k2, k3⟩ := h7 rfl
  have hgl := (hK.glo k3).1
  have hg : Gr (fun k => k = g) x (x.setCell ⟨g, off, none⟩ v6) := Gr.set (Gr.refl (fun k => k = g) x) g off v6 (.inl rfl)
  exact ⟨h1.set g off v6 (.inr (by omega)), fun e => absurd e (by simp), fun _ => ⟨(h3 rfl).1.set (by omega), (h3 rfl).2⟩, fun _ e => absurd e (by simp), fun _ e => absurd e (by simp), fun e => absurd e (by simp), fun _ => ⟨A', c', y, k1, k2, hK.box k3 (h8 rfl) hg⟩, fun e => absurd e (by simp), fun _ => heap_set_same x g off v6 _ _ (h8 rfl)⟩
end
/-- A drawn number is stored in a row of the search: index 4, literal 6, number 7, pointer 8, store 9. -/
def ElI (w : World) (r : Nat) (q : Int) (g gp : Nat) (bx : Array Value) (K : RowK) (c : Nat) (xs lit : List Int) (v4 v6 v7 v8 : Value) (f4 f6 f7 f8 f9 : Bool) (x : World) : Prop :=
  Gr (IsR r) w x ∧ (f4 = false → Rdr x r q) ∧ (f4 = true → ∃ k : Nat, v4 = .int .i64 (k : Int) ∧ k < xs.length ∧ (f8 = true → v8 = .pointer (some ⟨gp, k, none⟩))) ∧ (f4 = true → f7 = false → Rdr x r (q + 1)) ∧ (f7 = true → Rdr x r (q + 1 + 1) ∧ ∃ y, v7 = .int .i64 y ∧ okInt y) ∧
  (f6 = true → f7 = false → ∃ b, v6 = .slice (some ⟨b, 0, none⟩) lit.length lit.length ∧ Lay.int.Sl x (Ab (IsR r) x) (some ⟨b, 0, none⟩) lit) ∧
  (f9 = false → K (some ⟨gp, 0, none⟩) c xs x) ∧ (f9 = true → ∃ k y, okInt y ∧ K (some ⟨gp, 0, none⟩) c (xs.set k y) x) ∧ x.heap[g]? = some (.cells bx 35 (0, 0))
section
variable {w x z : World} {r g gp lo c : Nat} {q : Int} {bx : Array Value} {K : RowK} {xs lit : List Int} {v4 v6 v7 v8 : Value} {f4 f6 f7 f8 f9 : Bool}
theorem ElI.start (hK : KOk lo g K) (hk : K (some ⟨gp, 0, none⟩) c xs x) (hg : Gr (IsR r) w x) (hr : Rdr x r q) (hb : x.heap[g]? = some (.cells bx 35 (0, 0))) : ElI w r q g gp bx K c xs lit v4 v6 v7 v8 false false false false false (x.drewN 1) := by
  have hbl : Below x.heap.size x (x.drewN 1) := below_drewN (Below.refl _ _) 1
  exact ⟨hg.up hbl, fun _ => hr.up hbl, fun e => absurd e (by simp), fun e => absurd e (by simp), fun e => absurd e (by simp), fun e => absurd e (by simp), fun _ => hK.gr (T := fun _ => False) hk (.below hbl) (fun _ h => h.elim), fun e => absurd e (by simp), (hbl.block _ (lt_of_block hb)).trans hb⟩
theorem ElI.pick {k : Nat} (hK : KOk lo g K) (h : ElI w r q g gp bx K c xs lit v4 v6 v7 v8 f4 f6 f7 f8 f9 x) (h4 : f4 = false) (h7 : f7 = false) (h8 : f8 = false) (h9 : f9 = false) (hr : r < lo) (hk : k < xs.length) (hR : Rdr z r (q + 1)) (hg : Gr (IsR r) x z) :
    ElI w r q g gp bx K c xs lit (.int .i64 (k : Int)) v6 v7 v8 true f6 f7 f8 f9 z := by
  subst h4 h7 h8 h9
  obtain ⟨h1, h2, h3, h4, h5, h6, h7, h8, h9⟩ := h
  have hkx := h7 rfl
  have hT : ∀ b, IsR r b → b < lo := fun b hb => by have hb : b = r := hb; omega
  exact ⟨h1.trans hg, fun e => absurd e (by simp), fun _ => ⟨k, rfl, hk, fun e => absurd e (by simp)⟩, fun _ _ => hR, fun e => absurd e (by simp), fun e e' => (h6 e e').imp fun b ⟨e9, hs⟩ => ⟨e9, hs.gr hg⟩, fun _ => hK.gr hkx hg hT, fun e => absurd e (by simp), hg.heap (fun e => by have := hT _ e; have := (hK.glo hkx).1; omega) h9⟩
theorem ElI.made {cs : Array Value} (hK : KOk lo g K) (h : ElI w r q g gp bx K c xs lit v4 v6 v7 v8 f4 f6 f7 f8 f9 x) (hc : cs = (lit.map (Value.int .i64)).toArray) (hr : r < x.heap.size) :
    ElI w r q g gp bx K c xs lit v4 (.slice (some ⟨x.heap.size, 0, none⟩) lit.length lit.length) v7 v8 f4 true f7 f8 f9 (x.alloc (.cells cs 3)) := by
  obtain ⟨h1, h2, h3, h4, h5, h6, h7, h8, h9⟩ := h
  have hb : Below x.heap.size x (x.alloc (.cells cs 3)) := (Below.refl _ _).alloc (Nat.le_refl _) (.cells cs 3)
  have kk : ∀ {A c xs}, K A c xs x → K A c xs (x.alloc (.cells cs 3)) := fun hk => hK.gr (T := fun _ => False) hk (.below hb) (fun _ h => h.elim)
  exact ⟨h1.up hb, fun e => (h2 e).up hb, h3, fun e e' => (h4 e e').up hb, fun e => ⟨(h5 e).1.up hb, (h5 e).2⟩, fun _ _ => ⟨_, rfl, lit_sl (S := IsR r) x lit cs 3 hc (by show ¬ _ = r; omega)⟩, fun e => kk (h7 e), fun e => by obtain ⟨k, y, k1, k2⟩ := h8 e; exact ⟨k, y, k1, kk k2⟩, (hb.block _ (lt_of_block h9)).trans h9⟩
theorem ElI.num {y : Int} (hK : KOk lo g K) (h : ElI w r q g gp bx K c xs lit v4 v6 v7 v8 f4 f6 f7 f8 f9 x) (h4 : f4 = true) (h7 : f7 = false) (h9 : f9 = false) (hr : r < lo) (hy : okInt y) (hR : Rdr z r (q + 1 + 1)) (hg : Gr (IsR r) x z) :
    ElI w r q g gp bx K c xs lit v4 v6 (.int .i64 y) v8 f4 f6 true f8 f9 z := by
  subst h4 h7 h9
  obtain ⟨h1, h2, h3, h4, h5, h6, h7, h8, h9⟩ := h
  have hkx := h7 rfl
  have hT : ∀ b, IsR r b → b < lo := fun b hb => by have hb : b = r := hb; omega
  exact ⟨h1.trans hg, fun e => absurd e (by simp), h3, fun _ e => absurd e (by simp), fun _ => ⟨hR, y, rfl, hy⟩, fun _ e => absurd e (by simp), fun _ => hK.gr hkx hg hT, fun e => absurd e (by simp), hg.heap (fun e => by have := hT _ e; have := (hK.glo hkx).1; omega) h9⟩
theorem ElI.ptr {k : Nat} (h : ElI w r q g gp bx K c xs lit v4 v6 v7 v8 f4 f6 f7 f8 f9 x) (hv : v4 = .int .i64 (k : Int)) : ElI w r q g gp bx K c xs lit v4 v6 v7 (.pointer (some ⟨gp, k, none⟩)) f4 f6 f7 true f9 x := by
  obtain ⟨h1, h2, h3, h4, h5, h6, h7, h8, h9⟩ := h
  exact ⟨h1, h2, fun e => by
    obtain ⟨k', e1, e2, e3⟩ := h3 e
    rw [hv] at e1
    injection e1 with _ e1
    have : k = k' := by omega
    subst this
    exact ⟨k, hv, e2, fun _ => rfl⟩, h4, h5, h6, h7, h8, h9⟩
theorem own_set8 {w : World} {lo g c k : Nat} {xs : List Int} (h : OwnI w lo (.slice (some ⟨g, 0, none⟩) xs.length c) xs) (x : Int) : OwnI (w.setCell ⟨g, k, none⟩ (.int .i64 x)) lo (.slice (some ⟨g, 0, none⟩) (xs.set k x).length c) (xs.set k x) := by
  have := (h.stored k (.int .i64 x)).1
  unfold OwnI
  rw [List.length_set, List.map_set]
  exact this
theorem own_blk {g n c : Nat} : (Value.slice (some ⟨g, 0, none⟩) n c).ownBlock = some g := rfl
theorem ElI.store {k : Nat} {y : Int} (hK : KOk lo g K) (h : ElI w r q g gp bx K c xs lit v4 v6 v7 v8 f4 f6 f7 f8 f9 x) (h4 : f4 = true) (h7 : f7 = true) (h9 : f9 = false) (hr : r < lo) (hlo : w.heap.size ≤ lo) (hy : okInt y) :
    ElI w r q g gp bx K c xs lit v4 v6 v7 v8 f4 f6 f7 f8 true (x.setCell ⟨gp, k, none⟩ (.int .i64 y)) := by
  subst h4 h7 h9
  obtain ⟨h1, h2, h3, h4, h5, h6, h7, h8, h9⟩ := h
  have hkx := h7 rfl
  have ho := hK.own hkx
  have hgb : x.grownBy (x.setCell ⟨gp, k, none⟩ (.int .i64 y)) (some gp) := (ho.stored k (.int .i64 y)).2
  have hgp := ho.lt gp rfl
  exact ⟨h1.set gp k _ (.inr (by omega)), fun e => absurd e (by simp), h3, fun _ e => absurd e (by simp), fun _ => ⟨(h5 rfl).1.set (by omega), (h5 rfl).2⟩, fun _ e => absurd e (by simp), fun e => absurd e (by simp), fun _ => ⟨k, y, hy, hK.row hkx (own_set8 ho y) (by rw [own_blk]; exact hgb) (.inl rfl)⟩, (hgb.block _ (lt_of_block h9) (fun e => rowI_box ho h9 e.symm)).trans h9⟩
end
end Go.Proofs.Ytbljfhmcebgdaaa

/-! The reference's draws of searches: a search is run and copied. -/
namespace Go.Proofs.Ytbljfhmcebgdaaa
open Go Go.RowKit

/-- literal 2, number 3, run 4, copy 5, box 6, store 7. -/
def RuI (lo : Nat) (w : World) (r : Nat) (p : Int) (b4 : Nat) (xc : C) (lit : List Int) (v2 v3 v4 v5 v6 : Value) (f2 f3 f4 f5 f6 f7 : Bool) (x : World) : Prop :=
  Gr (IsR r) w x ∧ (f3 = false → Rdr x r p) ∧ (f3 = true → Rdr x r (p + 1) ∧ ∃ n : Nat, v3 = .int .i64 (n : Int) ∧ n ≤ 50) ∧
  (f2 = true → f3 = false → ∃ b, v2 = .slice (some ⟨b, 0, none⟩) lit.length lit.length ∧ Lay.int.Sl x (Ab (IsR r) x) (some ⟨b, 0, none⟩) lit) ∧
  (f4 = true → f5 = false → ∃ (s : S) (P Q D : Option Addr) (p' q' d' : Nat), v4 = .agg #[.slice P s.put.length p', .slice Q s.why.length q', .slice D s.learned.length d', .int .i64 s.code] ∧ SatGood xc s ∧ Lay.int.Rd x P s.put ∧ Lay.int.Rd x Q s.why ∧ Lay.int.slice.Rd x D s.learned) ∧
  (f5 = true → ∃ (s : S) (P Q D : Option Addr) (p' q' d' : Nat) (FL : Nat → Prop), v5 = .agg #[.slice P s.put.length p', .slice Q s.why.length q', .slice D s.learned.length d', .int .i64 s.code] ∧ SatGood xc s ∧ StR lo b4 FL s P Q D p' q' d' x ∧ (∀ k, FL k → w.heap.size ≤ k) ∧ (f6 = true → ∀ g, v6 = .pointer (some ⟨g, 0, none⟩) → ¬ FL g)) ∧
  (f6 = true → ∃ g, v6 = .pointer (some ⟨g, 0, none⟩) ∧ w.heap.size ≤ g ∧ g < x.heap.size ∧ (f7 = false → x.heap[g]? = some (.cells #[.slice none 0 0, .slice none 0 0, .slice none 0 0, .int .i64 0] 35 (0, 0))) ∧
    (f7 = true → ∃ cs, v5 = .agg cs ∧ x.heap[g]? = some (.cells cs 35 (0, 0))))
section
variable {w x z : World} {lo r b4 : Nat} {p : Int} {xc : C} {lit : List Int} {v2 v3 v4 v5 v6 : Value} {f2 f3 f4 f5 f6 f7 : Bool}
theorem RuI.start (hg : Gr (IsR r) w x) (hr : Rdr x r p) : RuI lo w r p b4 xc lit v2 v3 v4 v5 v6 false false false false false false (x.drewN 1) := by
  have hbl : Below x.heap.size x (x.drewN 1) := below_drewN (Below.refl _ _) 1
  exact ⟨hg.up hbl, fun _ => hr.up hbl, fun e => absurd e (by simp), fun e => absurd e (by simp), fun e => absurd e (by simp), fun e => absurd e (by simp), fun e => absurd e (by simp)⟩
theorem RuI.up (h : RuI lo w r p b4 xc lit v2 v3 v4 v5 v6 f2 f3 f4 f5 f6 f7 x) (hb : Below x.heap.size x z) : RuI lo w r p b4 xc lit v2 v3 v4 v5 v6 f2 f3 f4 f5 f6 f7 z := by
  obtain ⟨h1, h2, h3, h4, h5, h6, h7⟩ := h
  refine ⟨h1.up hb, fun e => (h2 e).up hb, fun e => ⟨(h3 e).1.up hb, (h3 e).2⟩, fun e e' => (h4 e e').imp fun b ⟨e9, hs⟩ => ⟨e9, hs.gr (.below hb)⟩, fun e e' => ?_, fun e => ?_, fun e => ?_⟩
  · obtain ⟨s, P, Q, D, p', q', d', k1, k2, k3, k4, k5⟩ := h5 e e'
    exact ⟨s, P, Q, D, p', q', d', k1, k2, k3.up hb, k4.up hb, k5.up hb⟩
  · obtain ⟨s, P, Q, D, p', q', d', FL, k1, k2, k3, k4⟩ := h6 e
    exact ⟨s, P, Q, D, p', q', d', FL, k1, k2, k3.up hb, k4⟩
  · obtain ⟨g, k1, k2, k3, k4, k5⟩ := h7 e
    exact ⟨g, k1, k2, Nat.lt_of_lt_of_le k3 hb.size, fun e => (hb.block g k3).trans (k4 e), fun e => (k5 e).imp fun cs ⟨e1, e2⟩ => ⟨e1, (hb.block g k3).trans e2⟩⟩
theorem RuI.made {cs : Array Value} (h : RuI lo w r p b4 xc lit v2 v3 v4 v5 v6 f2 f3 f4 f5 f6 f7 x) (hc : cs = (lit.map (Value.int .i64)).toArray) (hr : r < x.heap.size) :
    RuI lo w r p b4 xc lit (.slice (some ⟨x.heap.size, 0, none⟩) lit.length lit.length) v3 v4 v5 v6 true f3 f4 f5 f6 f7 (x.alloc (.cells cs 3)) := by
  obtain ⟨h1, h2, h3, h4, h5, h6, h7⟩ := h.up ((Below.refl _ _).alloc (Nat.le_refl _) (.cells cs 3))
  exact ⟨h1, h2, h3, fun _ _ => ⟨_, rfl, lit_sl (S := IsR r) x lit cs 3 hc (by show ¬ _ = r; omega)⟩, h5, h6, h7⟩
theorem RuI.num {n : Nat} (h : RuI lo w r p b4 xc lit v2 v3 v4 v5 v6 f2 f3 f4 f5 f6 f7 x) (h3 : f3 = false) (h4 : f4 = false) (h5 : f5 = false) (h7 : f7 = false) (hr : r < w.heap.size) (hn : n ≤ 50) (hR : Rdr z r (p + 1)) (hg : Gr (IsR r) x z) :
    RuI lo w r p b4 xc lit v2 (.int .i64 (n : Int)) v4 v5 v6 f2 true f4 f5 f6 f7 z := by
  subst h3 h4 h5 h7
  obtain ⟨h1, h2, h3, h4, h5, h6, h7⟩ := h
  refine ⟨h1.trans hg, fun e => absurd e (by simp), fun _ => ⟨hR, n, rfl, hn⟩, fun _ e => absurd e (by simp), fun e => absurd e (by simp), fun e => absurd e (by simp), fun e => ?_⟩
  obtain ⟨g, k1, k2, k3, k4, k5⟩ := h7 e
  exact ⟨g, k1, k2, Nat.lt_of_lt_of_le k3 hg.size, fun e => hg.heap (by show ¬ g = r; omega) (k4 e), fun e => absurd e (by simp)⟩
theorem RuI.run {s : S} {P Q D : Option Addr} {p' q' d' : Nat} (h : RuI lo w r p b4 xc lit v2 v3 v4 v5 v6 f2 f3 f4 f5 f6 f7 x) (hb : Below x.heap.size x z) (hs : SatGood xc s) (hP : Lay.int.Rd z P s.put) (hQ : Lay.int.Rd z Q s.why) (hD : Lay.int.slice.Rd z D s.learned) :
    RuI lo w r p b4 xc lit v2 v3 (.agg #[.slice P s.put.length p', .slice Q s.why.length q', .slice D s.learned.length d', .int .i64 s.code]) v5 v6 f2 f3 true f5 f6 f7 z := by
  obtain ⟨h1, h2, h3, h4, h5, h6, h7⟩ := h.up hb
  exact ⟨h1, h2, h3, h4, fun _ _ => ⟨s, P, Q, D, p', q', d', rfl, hs, hP, hQ, hD⟩, h6, h7⟩
theorem RuI.copy {s : S} {P Q D : Option Addr} {p' q' d' lim : Nat} (h : RuI lo w r p b4 xc lit v2 v3 v4 v5 v6 f2 f3 f4 f5 f6 f7 x) (h7 : f7 = false) (hb4 : lo ≤ b4 ∧ b4 < w.heap.size) (hs : SatGood xc s) (hP : OwnI z x.heap.size (.slice P s.put.length p') s.put) (hQ : OwnI z x.heap.size (.slice Q s.why.length q') s.why)
    (hap : ∀ g, (Value.slice P s.put.length p').ownBlock = some g → (Value.slice Q s.why.length q').ownBlock ≠ some g ∧ g < lim) (hq : ∀ g, (Value.slice Q s.why.length q').ownBlock = some g → g < lim) (hD : OwnL Lay.int.slice (fun _ b => lim ≤ b) 26 z lim (.slice D s.learned.length d') s.learned) (hl : x.heap.size ≤ lim) (hb : Below x.heap.size x z) :
    RuI lo w r p b4 xc lit v2 v3 v4 (.agg #[.slice P s.put.length p', .slice Q s.why.length q', .slice D s.learned.length d', .int .i64 s.code]) v6 f2 f3 f4 true f6 f7 z := by
  subst h7
  have hsz := h.1.size
  have h7x := h.2.2.2.2.2.2
  obtain ⟨h1, h2, h3, h4, h5, h6, h7⟩ := h.up hb
  refine ⟨h1, h2, h3, h4, fun _ e => absurd e (by simp), fun _ => ⟨s, P, Q, D, p', q', d', fun b => lim ≤ b ∧ b < z.heap.size, rfl, hs, ⟨own_low hP (by omega), own_low hQ (by omega), ?_, fun k hk => (hap k hk).1, fun b hb9 => ⟨by omega, hb9.2, by omega, fun e => by have := (hap b e).2; omega, fun e => by have := hq b e; omega⟩, hb4.1, Nat.lt_of_lt_of_le hb4.2 (Nat.le_trans hsz hb.size)⟩, fun k hk => by have := hk.1; omega, fun e g hg hF => ?_⟩, fun e => ?_⟩
  · obtain ⟨cs, k1, k2⟩ := hD
    refine ⟨cs, own_mono k1 (by omega), fun i y hy => ?_⟩
    obtain ⟨vs, hr, hu⟩ := k2 i y hy
    exact ⟨vs, Lay.int.slice.mono (fun b hb9 => ⟨hb9.1, hb9.2.1, hb9.2.2, hb9.1⟩) hr, hu⟩
  · obtain ⟨g', k1, _, k3, _⟩ := h7x e
    rw [hg] at k1
    injection k1 with k1
    injection k1 with k1
    injection k1 with k1
    subst k1
    omega
  · obtain ⟨g, k1, k2, k3, k4, k5⟩ := h7 e
    exact ⟨g, k1, k2, k3, k4, fun e => absurd e (by simp)⟩
theorem RuI.box (h : RuI lo w r p b4 xc lit v2 v3 v4 v5 v6 f2 f3 f4 f5 f6 f7 x) (h6 : f6 = false) (h7 : f7 = false) :
    RuI lo w r p b4 xc lit v2 v3 v4 v5 (.pointer (some ⟨x.heap.size, 0, none⟩)) f2 f3 f4 f5 true f7 (x.alloc (.cells #[.slice none 0 0, .slice none 0 0, .slice none 0 0, .int .i64 0] 35)) := by
  subst h6 h7
  have h6x := h.2.2.2.2.2.1
  have hsz := h.1.size
  obtain ⟨h1, h2, h3, h4, h5, h6, h7⟩ := h.up ((Below.refl _ _).alloc (Nat.le_refl _) (.cells #[.slice none 0 0, .slice none 0 0, .slice none 0 0, .int .i64 0] 35))
  refine ⟨h1, h2, h3, h4, h5, fun e => ?_, fun _ => ⟨_, rfl, hsz, by simp, fun _ => heap_alloc_new _ _, fun e => absurd e (by simp)⟩⟩
  obtain ⟨s, P, Q, D, p', q', d', FL, k1, k2, k3, k4⟩ := h6x e
  refine ⟨s, P, Q, D, p', q', d', FL, k1, k2, k3.up ((Below.refl _ _).alloc (Nat.le_refl _) _), k4.1, fun _ g hg hF => ?_⟩
  injection hg with hg
  injection hg with hg
  injection hg with hg
  subst hg
  have := (k3.fl _ hF).2.1
  omega
/-- The copy is in the box. -/
def RuE (lo : Nat) (w : World) (r : Nat) (p : Int) (xc : C) (g : Nat) (x : World) : Prop :=
  ∃ (s : S) (P Q D : Option Addr) (p' q' d' : Nat) (FL : Nat → Prop), SatGood xc s ∧ StR lo g FL s P Q D p' q' d' x ∧ (∀ k, FL k → w.heap.size ≤ k) ∧ x.heap[g]? = some (.cells #[.slice P s.put.length p', .slice Q s.why.length q', .slice D s.learned.length d', .int .i64 s.code] 35 (0, 0)) ∧ Rdr x r (p + 1) ∧ Gr (IsR r) w x
theorem RuI.store {g : Nat} {u0 u1 u2 u3 : Value} (h : RuI lo w r p b4 xc lit v2 v3 v4 v5 v6 f2 f3 f4 f5 f6 f7 x) (h3 : f3 = true) (h5 : f5 = true) (h6 : f6 = true) (h7 : f7 = false) (hr : r < w.heap.size) (e6 : v6 = .pointer (some ⟨g, 0, none⟩)) (e5 : v5 = .agg #[u0, u1, u2, u3]) :
    RuI lo w r p b4 xc lit v2 v3 v4 v5 v6 f2 f3 f4 f5 f6 true ((((x.setCell ⟨g, 0, none⟩ u0).setCell ⟨g, 1, none⟩ u1).setCell ⟨g, 2, none⟩ u2).setCell ⟨g, 3, none⟩ u3) := by
  subst h3 h5 h6 h7
  obtain ⟨h1, h2, h3, h4, h5, h6, h7⟩ := h
  obtain ⟨g', k1, k2, k3, k4, _⟩ := h7 rfl
  rw [e6] at k1
  injection k1 with k1
  injection k1 with k1
  injection k1 with k1
  subst k1
  obtain ⟨s, P, Q, D, p', q', d', FL, m1, m2, m3, m4⟩ := h6 rfl
  have hst := cp_store (u0 := u0) (u1 := u1) (u2 := u2) (u3 := u3) (k4 rfl)
  have hF := m4.2 rfl g e6
  have hbx := k4 rfl
  have key : ∀ {v : Value} {l : List Int}, OwnI x lo v l → OwnI ((((x.setCell ⟨g, 0, none⟩ u0).setCell ⟨g, 1, none⟩ u1).setCell ⟨g, 2, none⟩ u2).setCell ⟨g, 3, none⟩ u3) lo v l := fun {v l} ho => own_of_heap ho fun k hk => hst.2.block k (ho.lt k hk).2 fun e => rowI_ne ho g _ hbx (tne (by decide)) (by rw [hk, show k = g from e])
  refine ⟨h1.then hst.2 (fun k hk => .inr (by have hk : k = g := hk; omega)), fun e => absurd e (by simp), fun _ => ⟨(h3 rfl).1.gr hst.2 (fun k hk => by have hk : k = g := hk; omega), (h3 rfl).2⟩, fun _ e => absurd e (by simp), fun _ e => absurd e (by simp), fun _ => ⟨s, P, Q, D, p', q', d', FL, m1, m2, ?_, m4⟩, fun _ => ⟨g, e6, k2, Nat.lt_of_lt_of_le k3 hst.2.size, fun e => absurd e (by simp), fun _ => ⟨_, e5, hst.1⟩⟩⟩
  exact ⟨key m3.put, key m3.why, m3.lrn.gr8 hst.2 (fun k hk e => m3.lrn.ne8 g _ hbx (fun _ _ e => by injection e with _ e _; exact absurd e (by decide)) (by rw [hk, show k = g from e])) (fun b hb e => hF (by rw [← show b = g from e]; exact hb)), m3.apart, fun b hb => ⟨(m3.fl b hb).1, Nat.lt_of_lt_of_le (m3.fl b hb).2.1 hst.2.size, (m3.fl b hb).2.2⟩, m3.glo.1, Nat.lt_of_lt_of_le m3.glo.2 hst.2.size⟩
theorem RuI.fin (h : RuI lo w r p b4 xc lit v2 v3 v4 v5 v6 f2 f3 f4 f5 f6 f7 x) (g3 : f3 = true) (g5 : f5 = true) (g6 : f6 = true) (g7 : f7 = true) (hlo : lo ≤ w.heap.size) : ∃ g, v6 = .pointer (some ⟨g, 0, none⟩) ∧ w.heap.size ≤ g ∧ RuE lo w r p xc g x := by
  subst g3 g5 g6 g7
  obtain ⟨h1, h2, h3, h4, h5, h6, h7⟩ := h
  obtain ⟨g, k1, k2, k3, _, k5⟩ := h7 rfl
  obtain ⟨cs, c1, c2⟩ := k5 rfl
  obtain ⟨s, P, Q, D, p', q', d', FL, m1, m2, m3, m4⟩ := h6 rfl
  rw [m1] at c1
  injection c1 with c1
  subst c1
  exact ⟨g, k1, k2, s, P, Q, D, p', q', d', FL, m2, ⟨m3.put, m3.why, m3.lrn, m3.apart, fun b hb => ⟨(m3.fl b hb).1, (m3.fl b hb).2.1, fun e => m4.2 rfl g k1 (by rw [← e]; exact hb), (m3.fl b hb).2.2.2⟩, Nat.le_trans hlo k2, k3⟩, m4.1, c2, (h3 rfl).1, h1⟩
end
/-- What l5State gives: a small search in rows of the call's own. -/
def RetDS (r : Nat) (p N : Int) (w : World) (e : Ending) (w' : World) : Prop :=
  ∃ (s : S) (P Q D : Option Addr) (p' q' d' g : Nat) (FL : Nat → Prop), e = .returned (.agg #[.slice P s.put.length p', .slice Q s.why.length q', .slice D s.learned.length d', .int .i64 s.code]) ∧ okS 3 s ∧ StR w.heap.size g FL s P Q D p' q' d' w' ∧ Drawn r p N w w'
/-- In l5State, behind its copy: b holds the clauses, b + 1 the answer, g the search. -/
structure StA (w : World) (b r : Nat) (q : Int) (cn : Array Value) (g : Nat) (FL : Nat → Prop) (s : S) (P Q D : Option Addr) (p' q' d' : Nat) (X : World) : Prop where
  so : StR b g FL s P Q D p' q' d' X
  bx : X.heap[g]? = some (.cells #[.slice P s.put.length p', .slice Q s.why.length q', .slice D s.learned.length d', .int .i64 s.code] 35 (0, 0))
  b4 : X.heap[b + 1]? = some (.cells #[.slice none 0 0, .slice none 0 0, .slice none 0 0, .int .i64 0] 35 (0, 0))
  b3 : X.heap[b]? = some (.cells cn 25 (0, 0))
  fl : ∀ k, FL k → b + 1 < k
  rd : Rdr X r q
  gr : Gr (IsR r) w X
  gb : b + 1 < g
  rb : r < b
  eb : b = w.heap.size
section
variable {w X Y z : World} {b r g : Nat} {q : Int} {cn : Array Value} {FL : Nat → Prop} {s : S} {P Q D : Option Addr} {p' q' d' : Nat}
theorem StA.draw {q2 : Int} (h : StA w b r q cn g FL s P Q D p' q' d' X) (hR : Rdr Y r q2) (hg : Gr (IsR r) X Y) : StA w b r q2 cn g FL s P Q D p' q' d' Y := by
  have hb := h.rb
  have hgb := h.gb
  have ne : ∀ k, b ≤ k → ¬ IsR r k := fun k hk e => by have e : k = r := e; omega
  exact ⟨h.so.gr hg (fun k hk => by have hk : k = r := hk; omega), hg.heap (ne _ (by omega)) h.bx, hg.heap (ne _ (by omega)) h.b4, hg.heap (ne _ (Nat.le_refl _)) h.b3, h.fl, hR, h.gr.trans hg, h.gb, hb, h.eb⟩
theorem StA.up (h : StA w b r q cn g FL s P Q D p' q' d' X) (hb : Below X.heap.size X Y) : StA w b r q cn g FL s P Q D p' q' d' Y := h.draw (h.rd.up hb) (.below hb)
theorem StA.setCode (h : StA w b r q cn g FL s P Q D p' q' d' X) (k : Int) : StA w b r q cn g FL ⟨s.put, s.why, s.learned, k⟩ P Q D p' q' d' (X.setCell ⟨g, 3, none⟩ (.int .i64 k)) := by
  have hrb := h.rb
  have hgb := h.gb
  have heb := h.eb
  have hg : Gr (fun y => y = g) X (X.setCell ⟨g, 3, none⟩ (.int .i64 k)) := Gr.set (Gr.refl (fun y => y = g) X) g 3 _ (.inl rfl)
  exact ⟨(h.so.code k).box h.bx hg, by simpa using heap_set_same X g 3 (.int .i64 k) _ _ h.bx, hg.heap (by show ¬ b + 1 = g; omega) h.b4, hg.heap (by show ¬ b = g; omega) h.b3, h.fl, h.rd.set (by omega), h.gr.set g 3 _ (.inr (by omega)), h.gb, h.rb, h.eb⟩
theorem StA.addPut {A : Option Addr} {c : Nat} {ys : List Int} (h : StA w b r q cn g FL s P Q D p' q' d' X) (ho : OwnI z b (.slice A ys.length c) ys) (hg : X.grownBy z (Value.slice P s.put.length p').ownBlock) (hk : (Value.slice A ys.length c).ownBlock = (Value.slice P s.put.length p').ownBlock ∨ ∃ k, (Value.slice A ys.length c).ownBlock = some k ∧ X.heap.size ≤ k) :
    (z.heap[g]? = X.heap[g]? ∧ z.heap[b]? = X.heap[b]? ∧ z.heap[b + 1]? = X.heap[b + 1]?) ∧ StA w b r q cn g FL ⟨ys, s.why, s.learned, s.code⟩ A Q D c q' d' (z.setCell ⟨g, 0, none⟩ (.slice A ys.length c)) := by
  have hrb := h.rb
  have hgb := h.gb
  have heb := h.eb
  have hlt := h.so.put.lt
  have n1 := fun e => rowI_box h.so.put h.bx e
  have n2 := fun e => rowI_box h.so.put h.b4 e
  have n3 : (Value.slice P s.put.length p').ownBlock ≠ some b := rowI_ne h.so.put b _ h.b3 (tne (by decide))
  have e1 : z.heap[g]? = X.heap[g]? := hg.block _ (lt_of_block h.bx) fun e => n1 e.symm
  have e2 : z.heap[b + 1]? = X.heap[b + 1]? := hg.block _ (lt_of_block h.b4) fun e => n2 e.symm
  have e3 : z.heap[b]? = X.heap[b]? := hg.block _ (lt_of_block h.b3) fun e => n3 e.symm
  have bz := e1.trans h.bx
  have hs : Gr (fun y => y = g) z (z.setCell ⟨g, 0, none⟩ (.slice A ys.length c)) := Gr.set (Gr.refl (fun y => y = g) z) g 0 _ (.inl rfl)
  exact ⟨⟨e1, e3, e2⟩, (h.so.putRow ho hg hk).box bz hs, by simpa using heap_set_same z g 0 (.slice A ys.length c) _ _ bz, hs.heap (by show ¬ b + 1 = g; omega) (e2.trans h.b4), hs.heap (by show ¬ b = g; omega) (e3.trans h.b3), h.fl, (h.rd.own hg (fun k e => by have := (hlt k e).1; omega)).set (by omega), (h.gr.own hg (fun k e => by have := (hlt k e).1; omega)).set g 0 _ (.inr (by omega)), h.gb, h.rb, h.eb⟩
theorem StA.addWhy {A : Option Addr} {c : Nat} {ys : List Int} (h : StA w b r q cn g FL s P Q D p' q' d' X) (ho : OwnI z b (.slice A ys.length c) ys) (hg : X.grownBy z (Value.slice Q s.why.length q').ownBlock) (hk : (Value.slice A ys.length c).ownBlock = (Value.slice Q s.why.length q').ownBlock ∨ ∃ k, (Value.slice A ys.length c).ownBlock = some k ∧ X.heap.size ≤ k) :
    (z.heap[g]? = X.heap[g]? ∧ z.heap[b]? = X.heap[b]? ∧ z.heap[b + 1]? = X.heap[b + 1]?) ∧ StA w b r q cn g FL ⟨s.put, ys, s.learned, s.code⟩ P A D p' c d' (z.setCell ⟨g, 1, none⟩ (.slice A ys.length c)) := by
  have hrb := h.rb
  have hgb := h.gb
  have heb := h.eb
  have hlt := h.so.why.lt
  have n1 := fun e => rowI_box h.so.why h.bx e
  have n2 := fun e => rowI_box h.so.why h.b4 e
  have n3 : (Value.slice Q s.why.length q').ownBlock ≠ some b := rowI_ne h.so.why b _ h.b3 (tne (by decide))
  have e1 : z.heap[g]? = X.heap[g]? := hg.block _ (lt_of_block h.bx) fun e => n1 e.symm
  have e2 : z.heap[b + 1]? = X.heap[b + 1]? := hg.block _ (lt_of_block h.b4) fun e => n2 e.symm
  have e3 : z.heap[b]? = X.heap[b]? := hg.block _ (lt_of_block h.b3) fun e => n3 e.symm
  have bz := e1.trans h.bx
  have hs : Gr (fun y => y = g) z (z.setCell ⟨g, 1, none⟩ (.slice A ys.length c)) := Gr.set (Gr.refl (fun y => y = g) z) g 1 _ (.inl rfl)
  exact ⟨⟨e1, e3, e2⟩, (h.so.whyRow ho hg hk).box bz hs, by simpa using heap_set_same z g 1 (.slice A ys.length c) _ _ bz, hs.heap (by show ¬ b + 1 = g; omega) (e2.trans h.b4), hs.heap (by show ¬ b = g; omega) (e3.trans h.b3), h.fl, (h.rd.own hg (fun k e => by have := (hlt k e).1; omega)).set (by omega), (h.gr.own hg (fun k e => by have := (hlt k e).1; omega)).set g 1 _ (.inr (by omega)), h.gb, h.rb, h.eb⟩
theorem StA.fin {p : Int} (h : StA w b r q cn g FL s P Q D p' q' d' X) (hok : okS 3 s) (q0 : p ≤ q) (q1 : q ≤ p + 10) : ((((X.setCell ⟨b + 1, 0, none⟩ (.slice P s.put.length p')).setCell ⟨b + 1, 1, none⟩ (.slice Q s.why.length q')).setCell ⟨b + 1, 2, none⟩ (.slice D s.learned.length d')).setCell ⟨b + 1, 3, none⟩ (.int .i64 s.code)).heap[b + 1]? = some (.cells #[.slice P s.put.length p', .slice Q s.why.length q', .slice D s.learned.length d', .int .i64 s.code] 35 (0, 0)) ∧ RetDS r p 10 w (.returned (.agg #[.slice P s.put.length p', .slice Q s.why.length q', .slice D s.learned.length d', .int .i64 s.code])) ((((X.setCell ⟨b + 1, 0, none⟩ (.slice P s.put.length p')).setCell ⟨b + 1, 1, none⟩ (.slice Q s.why.length q')).setCell ⟨b + 1, 2, none⟩ (.slice D s.learned.length d')).setCell ⟨b + 1, 3, none⟩ (.int .i64 s.code)) := by
  have hrb := h.rb
  have hgb := h.gb
  have heb := h.eb
  have hst := cp_store (u0 := (.slice P s.put.length p')) (u1 := (.slice Q s.why.length q')) (u2 := (.slice D s.learned.length d')) (u3 := (.int .i64 s.code)) h.b4
  have n1 := fun e => rowI_box h.so.put h.b4 e
  have n2 := fun e => rowI_box h.so.why h.b4 e
  refine ⟨hst.1, s, P, Q, D, p', q', d', g, FL, rfl, hok, ⟨?_, ?_, ?_, h.so.apart, fun k hk => ⟨by rw [← heb]; exact (h.so.fl k hk).1, Nat.lt_of_lt_of_le (h.so.fl k hk).2.1 hst.2.size, (h.so.fl k hk).2.2⟩, by rw [← heb]; exact h.so.glo.1, Nat.lt_of_lt_of_le h.so.glo.2 hst.2.size⟩, q, q0, q1, h.rd.gr hst.2 (fun k hk => by have hk : k = b + 1 := hk; omega), h.gr.then hst.2 (fun k hk => .inr (by have hk : k = b + 1 := hk; omega))⟩
  · rw [← heb]
    exact own_of_heap h.so.put fun k hk => hst.2.block k (h.so.put.lt k hk).2 fun e => n1 (by rw [hk, show k = b + 1 from e])
  · rw [← heb]
    exact own_of_heap h.so.why fun k hk => hst.2.block k (h.so.why.lt k hk).2 fun e => n2 (by rw [hk, show k = b + 1 from e])
  · rw [← heb]
    exact h.so.lrn.gr8 hst.2 (fun k hk e => h.so.lrn.ne8 (b + 1) _ h.b4 (fun _ _ e => by injection e with _ e _; exact absurd e (by decide)) (by rw [hk, show k = b + 1 from e])) (fun k hk e => by have := h.fl k hk; have e : k = b + 1 := e; omega)
end
end Go.Proofs.Ytbljfhmcebgdaaa
