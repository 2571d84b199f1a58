/- Rows of the call's own whose elements may lead on to other blocks; append of one element. No program is named here. append of a whole slice onto a row of the call's own whose elements lead to other blocks. No program is named here. The reference's contexts: l10Decls, l10Terms, CtxOk. The reference's CtxOk. strings.Trim at the letters a to z, out of the kit's shelf of library contracts (laid by the kit's lay-plain tool). What a law leaves. The program's declarations: DeclOk, bitsOf, EnvOk. -/
import Derived.Ground.NamesProg
import Derived.Shelf.Strings.SlTrimAscii
import Derived.Test.YtiahmfpfimmbgaaGreatDoorProg
import Derived.Test.YtiahmfpfimmbgaaGreatDoorJFnCtx0
import Derived.Test.YtiahmfpfimmbgaaGreatDoorJFnCtx1
import Derived.Test.YtiahmfpfimmbgaaGreatDoorJFnCtx2
/-! Rows of the call's own whose elements may lead on to other blocks; append of one element. No program is named here. -/
namespace Go.Proofs.YtiahmfpfimmbgaaGreatDoor
open Go Go.RowKit

/-- What is so of a block hangs on the block alone. -/
def Stay (Q : World → Nat → Prop) : Prop := ∀ w w' b, w'.heap[b]? = w.heap[b]? → Q w b → Q w' b
theorem Stay.any : Stay (fun _ _ => True) := fun _ _ _ _ _ => trivial
theorem Stay.own (lo : Nat) : Stay (fun w b => lo ≤ b ∧ ∀ o, w.frozen? ⟨b, o, none⟩ = false) := fun w w' b h hq => ⟨hq.1, fun o => by
  rw [← hq.2 o]; exact World.frozen?_of_block (a := ⟨b, o, none⟩) h⟩
/-- A row of the call's own, of elements that lead to other blocks. -/
def OwnL {α : Type} (L : Lay α) (Q : World → Nat → Prop) (e : TypeId) (w : World) (lo : Nat) (v : Value) (xs : List α) : Prop :=
  ∃ cs, w.ownsRow lo e L.size v xs.length cs ∧ ∀ i x, xs[i]? = some x → ∃ vs, L.R w (fun b => b < w.heap.size ∧ v.ownBlock ≠ some b ∧ Q w b) x vs ∧ ∀ j u, vs[j]? = some u → cs[i * L.size + j]? = some u
section
variable {α : Type} {L : Lay α} {Q : World → Nat → Prop} {e : TypeId} {lo : Nat} {w : World} {v : Value} {xs : List α}
theorem OwnL.nil (L : Lay α) (Q : World → Nat → Prop) (e : TypeId) (w : World) (lo : Nat) : OwnL L Q e w lo (.slice none 0 0) [] := ⟨[], World.ownsRow_nil _ _ _ _, fun i x h => by simp at h⟩
/-- Nothing that the row leads to has turned. -/
theorem OwnL.keep {w' : World} (h : OwnL L Q e w lo v xs) (hQ : Stay Q) (hg : w.grownBy w' none) : OwnL L Q e w' lo v xs := by
  obtain ⟨cs, h1, h2⟩ := h
  refine ⟨cs, rows_kept h1 hg (by simp), fun i x hx => ?_⟩
  obtain ⟨vs, hr, hu⟩ := h2 i x hx
  refine ⟨vs, L.mono (fun b hb => ?_) (L.keep (fun b hb => hg.block b hb.1 (by simp)) hr), hu⟩
  exact ⟨Nat.lt_of_lt_of_le hb.1 hg.size, hb.2.1, hQ _ _ _ (hg.block b hb.1 (by simp)) hb.2.2⟩
theorem grown_of_below {a b : World} {row : Option Nat} (h : Below a.heap.size a b) : a.grownBy b row := ⟨h.os, h.tape, h.output, h.size, fun i hi _ => h.block i hi⟩
theorem OwnL.up {w' : World} (h : OwnL L Q e w lo v xs) (hQ : Stay Q) (hb : Below w.heap.size w w') : OwnL L Q e w' lo v xs := h.keep hQ (grown_of_below hb)
theorem OwnL.form (h : OwnL L Q e w lo v xs) : ∃ A c, v = .slice A xs.length c ∧ xs.length ≤ c := by
  obtain ⟨cs, h1, h2⟩ := h
  rcases h1.2 with ⟨e1, e2⟩ | ⟨g, cap, cur, e1, _, _, h3, _⟩
  · exact ⟨none, 0, by rw [e1, e2], by omega⟩
  · exact ⟨_, cap, e1, h3⟩
theorem OwnL.cap {A : Option Addr} {n c : Nat} (h : OwnL L Q e w lo (.slice A n c) xs) : n = xs.length ∧ xs.length ≤ c := by
  obtain ⟨A', c', e1, h1⟩ := h.form
  injection e1 with e1 e2 e3
  exact ⟨e2, by omega⟩
/-- How it reads: the row's own block, and those of its elements. -/
theorem OwnL.sl {A : Option Addr} {c : Nat} (h : OwnL L Q e w lo (.slice A xs.length c) xs) : L.Sl w (fun b => b < w.heap.size ∧ (lo ≤ b ∧ (∀ o, w.frozen? ⟨b, o, .none⟩ = false) ∨ Q w b)) A xs := by
  obtain ⟨cs, h1, h2⟩ := h
  intro h0
  rcases h1.2 with ⟨e1, e2⟩ | ⟨g, cap, cur, e1, hg, _⟩
  · omega
  · injection e1 with e1 e2 e3
    subst e1
    refine ⟨_, rfl, ⟨(h1.lt g rfl).2, .inl ⟨hg, fun o => h1.frozenAt o⟩⟩, fun k x hx => ?_⟩
    obtain ⟨vs, hr, hu⟩ := h2 k x hx
    exact ⟨vs, L.mono (fun b hb => ⟨hb.1, .inr hb.2.2⟩) hr, fun j u hj => h1.cells (g := g) rfl _ _ (hu j u hj)⟩
theorem OwnL.rd {A : Option Addr} {c : Nat} (h : OwnL L Q e w lo (.slice A xs.length c) xs) : L.Rd w A xs := h.sl.mono fun _ h => h.1
theorem OwnL.own {A : Option Addr} {c : Nat} (h : OwnL L (fun w b => lo ≤ b ∧ ∀ o, w.frozen? ⟨b, o, none⟩ = false) e w lo (.slice A xs.length c) xs) : L.Sl w (Own lo w) A xs :=
  h.sl.mono fun _ h => ⟨h.2.elim (fun h => h.1) (fun h => h.1), h.1, h.2.elim (fun h => h.2) (fun h => h.2)⟩
/-- The element at a place, as cells. -/
theorem OwnL.at {A : Option Addr} {c : Nat} (h : OwnL L Q e w lo (.slice A xs.length c) xs) {k : Nat} (hk : k < xs.length) : ∃ ad, A = some ad ∧ ad.block < w.heap.size := by
  obtain ⟨ad, e1, hf, _⟩ := h.rd (by omega)
  exact ⟨ad, e1, hf⟩
end
theorem OwnL.lt {α : Type} {L : Lay α} {Q : World → Nat → Prop} {e : TypeId} {w : World} {lo : Nat} {v : Value} {xs : List α} (h : OwnL L Q e w lo v xs) : ∀ g, v.ownBlock = some g → lo ≤ g ∧ g < w.heap.size := by
  obtain ⟨cs, h1, _⟩ := h
  exact fun g hg => h1.lt g hg
end Go.Proofs.YtiahmfpfimmbgaaGreatDoor

/-! append of a whole slice onto a row of the call's own whose elements lead to other blocks. No program is named here. -/
namespace Go.Proofs.YtiahmfpfimmbgaaGreatDoor
open Go Go.RowKit

theorem flat_len {n : Nat} : ∀ {ls : List (List Value)}, (∀ l ∈ ls, l.length = n) → ls.flatten.length = ls.length * n
  | [], _ => by simp
  | l :: ls, h => by
    rw [List.flatten_cons, List.length_append, flat_len (ls := ls) fun x hx => h x (List.mem_cons_of_mem _ hx), h l (List.mem_cons_self ..), List.length_cons, Nat.add_mul, Nat.one_mul, Nat.add_comm]
theorem flat_get {n : Nat} : ∀ {ls : List (List Value)} (_ : ∀ l ∈ ls, l.length = n) (i j : Nat) (l : List Value), ls[i]? = some l → j < n → ls.flatten[i * n + j]? = l[j]?
  | [], _, i, j, l, h, _ => by simp at h
  | l0 :: ls, hl, 0, j, l, h, hj => by
    simp at h
    subst h
    rw [List.flatten_cons, Nat.zero_mul, Nat.zero_add, List.getElem?_append_left (by rw [hl _ (List.mem_cons_self ..)]; exact hj)]
  | l0 :: ls, hl, i + 1, j, l, h, hj => by
    have h0 := hl l0 (List.mem_cons_self ..)
    rw [List.flatten_cons, List.getElem?_append_right (by rw [h0, Nat.add_mul, Nat.one_mul]; omega)]
    have e : (i + 1) * n + j - l0.length = i * n + j := by rw [h0, Nat.add_mul, Nat.one_mul]; omega
    rw [e]
    exact flat_get (fun x hx => hl x (List.mem_cons_of_mem _ hx)) i j l (by simpa using h) hj
/-- A slice that is read: its cells. -/
theorem Lay.Sl.src {α : Type} {L : Lay α} {w : World} {F : Nat → Prop} {A : Option Addr} {xs : List α} (h : L.Sl w F A xs) (h1 : ∀ x vs, L.R w F x vs → ∀ u ∈ vs, u.oneCell' = true) :
    ∃ news, Src w L.size A xs.length news ∧ (∀ u ∈ news, u.oneCell' = true) ∧ ∀ i x, xs[i]? = some x → ∃ vs, L.R w F x vs ∧ ∀ j u, vs[j]? = some u → news[i * L.size + j]? = some u := by
  by_cases h0 : 0 < xs.length
  · obtain ⟨ad, rfl, hf, hc⟩ := h h0
    have hk' : ∀ k, ∃ vs, ∀ x, xs[k]? = some x → L.R w F x vs ∧ ∀ j u, vs[j]? = some u → w.cell? (ad.add (k * L.size + j)) = some u := fun k => by
      cases hx : xs[k]? with
      | none => exact ⟨[], fun x h => by cases h⟩
      | some x =>
        obtain ⟨vs, h1, h2⟩ := hc k x hx
        exact ⟨vs, fun x' h => by cases h; exact ⟨h1, h2⟩⟩
    obtain ⟨f, hf'⟩ := Classical.axiomOfChoice hk'
    have hlen : ∀ l ∈ (List.range xs.length).map f, l.length = L.size := fun l hl => by
      obtain ⟨i, hi, rfl⟩ := List.mem_map.1 hl
      exact L.len (hf' i _ (List.getElem?_eq_getElem (List.mem_range.1 hi))).1
    have hat : ∀ i, i < xs.length → ((List.range xs.length).map f)[i]? = some (f i) := fun i hi => by simp [hi]
    refine ⟨((List.range xs.length).map f).flatten, ⟨by rw [flat_len hlen]; simp, fun _ => ⟨ad, rfl, fun j u hu => ?_⟩⟩, fun u hu => ?_, fun i x hx => ?_⟩
    · have hj : j < xs.length * L.size := by
        have := (List.getElem?_eq_some_iff.1 hu).1
        rw [flat_len hlen] at this
        simpa using this
      have hs : 0 < L.size := by
        rcases Nat.eq_zero_or_pos L.size with e | e
        · rw [e] at hj; omega
        · exact e
      have hi : j / L.size < xs.length := (Nat.div_lt_iff_lt_mul hs).2 hj
      have hm : j % L.size < L.size := Nat.mod_lt _ hs
      have e : j / L.size * L.size + j % L.size = j := by rw [Nat.mul_comm]; exact Nat.div_add_mod j L.size
      have h9 := flat_get hlen (j / L.size) (j % L.size) _ (hat _ hi) hm
      rw [e, hu] at h9
      have := (hf' _ _ (List.getElem?_eq_getElem hi)).2 (j % L.size) u h9.symm
      rw [e] at this
      exact this
    · obtain ⟨l, hl, hul⟩ := List.mem_flatten.1 hu
      obtain ⟨i, hi, rfl⟩ := List.mem_map.1 hl
      exact h1 _ _ (hf' i _ (List.getElem?_eq_getElem (List.mem_range.1 hi))).1 u hul
    · have hi : i < xs.length := (List.getElem?_eq_some_iff.1 hx).1
      refine ⟨f i, (hf' i x hx).1, fun j u hj => ?_⟩
      have hjl : j < L.size := by
        have := (List.getElem?_eq_some_iff.1 hj).1
        rwa [L.len (hf' i x hx).1] at this
      rw [flat_get hlen i j _ (hat i hi) hjl]
      exact hj
  · have : xs = [] := List.eq_nil_of_length_eq_zero (by omega)
    subst this
    exact ⟨[], ⟨by simp, fun h => absurd h (by simp)⟩, by simp, fun i x h => by simp at h⟩
section
variable {P : Program} (w : World)
theorem run_append_src_at (base : Nat) (t ty e : TypeId) (i : TypeInfo) (z : Value) (size bytes : Nat) (ht : P.underlying t = some (.slice e)) (hi : P.info? e = some i) (hz : i.zero = some z)
    (hsize : i.size = size) (hby : i.bytes = bytes) (hzs : z.cells.size = size) (hsz : 0 < size)
    (v : Value) (n : Nat) (xs : List Value) (hown : w.ownsRow base e size v n xs)
    (A : Option Addr) (m c : Nat) (news : List Value) (hr : Src w size A m news) (h1 : ∀ u ∈ news, u.oneCell' = true)
    (nm : Nat) (hnm : n + m = nm) (h63 : nm ≤ maxLen) (hbytes : nm * bytes ≤ 140737488355328) (hbase : base ≤ w.heap.size) (hA : A = none → m = 0) :
    ∃ A' c' w', (Builtin.append_ #[t, t] ty #[v, .slice A m c]).run P w = .ok (.slice A' nm c') w' ∧ w'.ownsRow base e size (.slice A' nm c') nm (xs ++ news) ∧ w.grownBy w' v.ownBlock ∧
      ((Value.slice A' nm c').ownBlock = v.ownBlock ∨ ∃ g, (Value.slice A' nm c').ownBlock = some g ∧ w.heap.size ≤ g) := by
  subst hnm
  suffices H : ∃ v' w', (Builtin.append_ #[t, t] ty #[v, .slice A m c]).run P w = .ok v' w' ∧ w'.ownsRow base e size v' (n + m) (xs ++ news) ∧ w.grownBy w' v.ownBlock ∧ (v'.ownBlock = v.ownBlock ∨ ∃ g, v'.ownBlock = some g ∧ w.heap.size ≤ g) by
    obtain ⟨v', w', h1, h2, h3, h4⟩ := H
    rcases h2.2 with ⟨e1, e2⟩ | ⟨g, cap, cur, e1, _⟩
    · exact ⟨none, 0, w', by rw [h1, e1, e2], by rw [e1] at h2; rw [e2] at h2 ⊢; exact h2, h3, by rw [e1] at h4; rw [e2]; exact h4⟩
    · exact ⟨_, cap, w', by rw [h1, e1], by rw [e1] at h2; exact h2, h3, by rw [e1] at h4; exact h4⟩
  rcases A with _ | ad
  · have hm : m = 0 := hA rfl
    subst hm
    have hn : news = [] := List.eq_nil_of_length_eq_zero (by simpa using hr.1)
    subst hn
    exact ⟨v, w, run_append_of_nil w base t ty e i size ht hi v n xs hown c, by simpa using hown, World.grownBy.refl _ _, .inl rfl⟩
  · have hcells : ∀ j u, news[j]? = some u → w.cell? (ad.add j) = some u := by
      intro j u hu
      rcases Nat.eq_zero_or_pos m with h0 | h0
      · subst h0
        have hn : news = [] := List.eq_nil_of_length_eq_zero (by simpa using hr.1)
        subst hn
        simp at hu
      · obtain ⟨ad', h, hc⟩ := hr.2 h0
        injection h with h
        subst h
        exact hc j u hu
    obtain ⟨v', w', hrun, h2, h3, _, h5⟩ := run_append_own_at (P := P) w base t ty e i z size bytes ht hi hz hsize hby hzs hsz v n xs hown ad m c news hr.1 hcells h1 h63 hbytes hbase
    refine ⟨v', w', hrun, h2, h3, ?_⟩
    rcases h5 with e | e
    · exact .inl e
    · exact .inr ⟨_, e, Nat.le_refl _⟩
end
theorem OwnL.appended {α : Type} {L : Lay α} {Q : World → Nat → Prop} {e : TypeId} {w w' : World} {lo c c' : Nat} {A A' : Option Addr} {xs zs ys : List α} {G : Nat → Prop} {news ks : List Value}
    (hown : OwnL L Q e w lo (.slice A xs.length c) xs) (hQ : Stay Q) (hG : ∀ b, G b → b < w.heap.size ∧ (Value.slice A xs.length c).ownBlock ≠ some b ∧ Q w b) (hy : ys = xs ++ zs)
    (hks : w.ownsRow lo e L.size (.slice A xs.length c) xs.length ks) (hkx : ∀ i x, xs[i]? = some x → ∃ vs, L.R w (fun b => b < w.heap.size ∧ (Value.slice A xs.length c).ownBlock ≠ some b ∧ Q w b) x vs ∧ ∀ j u, vs[j]? = some u → ks[i * L.size + j]? = some u)
    (hz : ∀ i x, zs[i]? = some x → ∃ vs, L.R w G x vs ∧ ∀ j u, vs[j]? = some u → news[i * L.size + j]? = some u)
    (ho' : w'.ownsRow lo e L.size (.slice A' ys.length c') ys.length (ks ++ news)) (hg : w.grownBy w' (Value.slice A xs.length c).ownBlock)
    (hbk : (Value.slice A' ys.length c').ownBlock = (Value.slice A xs.length c).ownBlock ∨ ∃ g, (Value.slice A' ys.length c').ownBlock = some g ∧ w.heap.size ≤ g) : OwnL L Q e w' lo (.slice A' ys.length c') ys := by
  have hne : ∀ b, b < w.heap.size → (Value.slice A xs.length c).ownBlock ≠ some b → (Value.slice A' ys.length c').ownBlock ≠ some b := fun b h2 h3 h4 => by
    rcases hbk with e | ⟨g, e, hg⟩
    · exact h3 (e ▸ h4)
    · rw [e] at h4; injection h4 with h4; omega
  have hmove : ∀ {y : α} {vs : List Value}, L.R w (fun b => b < w.heap.size ∧ (Value.slice A xs.length c).ownBlock ≠ some b ∧ Q w b) y vs → L.R w' (fun b => b < w'.heap.size ∧ (Value.slice A' ys.length c').ownBlock ≠ some b ∧ Q w' b) y vs := fun hR =>
    L.mono (fun b h9 => ⟨Nat.lt_of_lt_of_le h9.1 hg.size, hne b h9.1 h9.2.1, hQ _ _ _ (hg.block b h9.1 (fun e9 => h9.2.1 e9.symm)) h9.2.2⟩) (L.keep (fun b h9 => hg.block b h9.1 (fun e9 => h9.2.1 e9.symm)) hR)
  refine ⟨ks ++ news, ho', fun k y hky => ?_⟩
  have hkl : ks.length = xs.length * L.size := hks.1
  rw [hy] at hky
  rcases Nat.lt_or_ge k xs.length with h2 | h2
  · rw [List.getElem?_append_left h2] at hky
    obtain ⟨vs, hR, hu⟩ := hkx k y hky
    refine ⟨vs, hmove hR, fun j u hj => ?_⟩
    have hjl := (List.getElem?_eq_some_iff.1 hj).1
    have hvl := L.len hR
    have hm : (k + 1) * L.size ≤ xs.length * L.size := Nat.mul_le_mul_right _ h2
    rw [Nat.add_mul, Nat.one_mul] at hm
    rw [List.getElem?_append_left (by omega)]
    exact hu j u hj
  · rw [List.getElem?_append_right h2] at hky
    obtain ⟨vs, hR, hu⟩ := hz _ y hky
    refine ⟨vs, hmove (L.mono hG hR), fun j u hj => ?_⟩
    have e1 : k * L.size = xs.length * L.size + (k - xs.length) * L.size := by rw [← Nat.add_mul]; congr 1; omega
    rw [List.getElem?_append_right (by omega), show k * L.size + j - ks.length = (k - xs.length) * L.size + j by omega]
    exact hu j u hj
/-- append of a slice whose cells are known. -/
theorem run_append_rowsS {P : Program} {w : World} {α : Type} {L : Lay α} {Q : World → Nat → Prop} {t e ty : TypeId} {i : TypeInfo} {z : Value} {bytes : Nat} {G : Nat → Prop} {news : List Value}
    {lo : Nat} {A B : Option Addr} {c d : Nat} {xs zs ys : List α} (ht : P.underlying t = some (.slice e)) (hi : P.info? e = some i) (hz : i.zero = some z) (hsize : i.size = L.size) (hby : i.bytes = bytes) (hzs : z.cells.size = L.size) (hsz : 0 < L.size)
    (hown : OwnL L Q e w lo (.slice A xs.length c) xs) (hQ : Stay Q) (hs : Src w L.size B zs.length news) (h1 : ∀ u ∈ news, u.oneCell' = true) (hnz : ∀ i x, zs[i]? = some x → ∃ vs, L.R w G x vs ∧ ∀ j u, vs[j]? = some u → news[i * L.size + j]? = some u)
    (hB : B = none → zs.length = 0) (hG : ∀ b, G b → b < w.heap.size ∧ (Value.slice A xs.length c).ownBlock ≠ some b ∧ Q w b)
    (hn : xs.length ≤ 2000000) (hm : zs.length ≤ 2000000) (hb : bytes ≤ 128) (hlo : lo ≤ w.heap.size) (hy : ys = xs ++ zs) :
    ∃ A' c' w', (Builtin.append_ #[t, t] ty #[.slice A xs.length c, .slice B zs.length d]).run P w = .ok (.slice A' ys.length c') w' ∧ OwnL L Q e w' lo (.slice A' ys.length c') ys ∧ w.grownBy w' (Value.slice A xs.length c).ownBlock ∧
      ((Value.slice A' ys.length c').ownBlock = (Value.slice A xs.length c).ownBlock ∨ ∃ g, (Value.slice A' ys.length c').ownBlock = some g ∧ w.heap.size ≤ g) := by
  have hl : xs.length + zs.length = ys.length := by rw [hy]; simp
  obtain ⟨ks, hk1, hk2⟩ := hown
  have hbb : ys.length * bytes ≤ 140737488355328 := by
    have : ys.length * bytes ≤ 4000000 * 128 := Nat.mul_le_mul (by omega) hb
    omega
  obtain ⟨A', c', w', hrun, ho', hg', hbk⟩ := run_append_src_at (P := P) w lo t ty e i z L.size bytes ht hi hz hsize hby hzs hsz _ xs.length ks hk1 B zs.length d news hs h1 ys.length hl (by unfold maxLen; omega) hbb hlo hB
  exact ⟨A', c', w', hrun, OwnL.appended ⟨ks, hk1, hk2⟩ hQ hG hy hk1 hk2 hnz ho' hg' hbk, hg', hbk⟩
theorem wpList_append_rowsS {P : Program} {Q' : Exit → Act → World → Prop} {ops : Array Oper} {rest : List Oper} {o : Oper} {a : Act} {w : World} {α : Type} {L : Lay α} {Q : World → Nat → Prop} {t e : TypeId} {i : TypeInfo} {z : Value} {bytes : Nat} {G : Nat → Prop} {news : List Value}
    {lo : Nat} {A B : Option Addr} {c d : Nat} {xs zs ys : List α} (hgd : o.guard = none) (s y : Operand)
    (ho : o.op = .call { callee := .builtin .append, args := #[s, y], argTypes := #[t, t] }) (ht : P.underlying t = some (.slice e)) (hi : P.info? e = some i) (hz : i.zero = some z) (hsize : i.size = L.size) (hby : i.bytes = bytes) (hzs : z.cells.size = L.size) (hsz : 0 < L.size)
    (hs : a.eval s = .slice A xs.length c) (hyv : a.eval y = .slice B zs.length d)
    (hown : OwnL L Q e w lo (.slice A xs.length c) xs) (hQ : Stay Q) (hsr : Src w L.size B zs.length news) (h1 : ∀ u ∈ news, u.oneCell' = true) (hnz : ∀ i x, zs[i]? = some x → ∃ vs, L.R w G x vs ∧ ∀ j u, vs[j]? = some u → news[i * L.size + j]? = some u)
    (hB : B = none → zs.length = 0) (hG : ∀ b, G b → b < w.heap.size ∧ (Value.slice A xs.length c).ownBlock ≠ some b ∧ Q w b)
    (hn : xs.length ≤ 2000000) (hm : zs.length ≤ 2000000) (hb : bytes ≤ 128) (hlo : lo ≤ w.heap.size) (hy : ys = xs ++ zs)
    (h : ∀ A' c' w', OwnL L Q e w' lo (.slice A' ys.length c') ys → w.grownBy w' (Value.slice A xs.length c).ownBlock →
      ((Value.slice A' ys.length c').ownBlock = (Value.slice A xs.length c).ownBlock ∨ ∃ g, (Value.slice A' ys.length c').ownBlock = some g ∧ w.heap.size ≤ g) → wpList P ops Q' rest (a.put o.dst (.slice A' ys.length c')) w') :
    wpList P ops Q' (o :: rest) a w := by
  obtain ⟨A', c', w', hrun, h2, h3, h4⟩ := run_append_rowsS (d := d) (ty := o.type) ht hi hz hsize hby hzs hsz hown hQ hsr h1 hnz hB hG hn hm hb hlo hy
  refine wpList_plain hgd fun _ hK => ?_
  unfold Oper.wp execOp
  simp only [ho, resolve, invoke, builtin, Sem.run_bind, Sem.run_pure, Result.andThen_ok, List.map_toArray, List.map_cons, List.map_nil, hs, hyv, hrun]
  exact hK _ _ (h A' c' w' h2 h3 h4)
/-- append of a slice that is read anywhere. -/
theorem run_append_rows {P : Program} {w : World} {α : Type} {L : Lay α} {Q : World → Nat → Prop} {t e ty : TypeId} {i : TypeInfo} {z : Value} {bytes : Nat} {G : Nat → Prop}
    {lo : Nat} {A B : Option Addr} {c d : Nat} {xs zs ys : List α} (ht : P.underlying t = some (.slice e)) (hi : P.info? e = some i) (hz : i.zero = some z) (hsize : i.size = L.size) (hby : i.bytes = bytes) (hzs : z.cells.size = L.size) (hsz : 0 < L.size)
    (hL : ∀ w F x vs, L.R w F x vs → ∀ u ∈ vs, u.oneCell' = true)
    (hown : OwnL L Q e w lo (.slice A xs.length c) xs) (hQ : Stay Q) (hr : L.Sl w G B zs) (hG : ∀ b, G b → b < w.heap.size ∧ (Value.slice A xs.length c).ownBlock ≠ some b ∧ Q w b)
    (hn : xs.length ≤ 2000000) (hm : zs.length ≤ 2000000) (hb : bytes ≤ 128) (hlo : lo ≤ w.heap.size) (hy : ys = xs ++ zs) :
    ∃ A' c' w', (Builtin.append_ #[t, t] ty #[.slice A xs.length c, .slice B zs.length d]).run P w = .ok (.slice A' ys.length c') w' ∧ OwnL L Q e w' lo (.slice A' ys.length c') ys ∧ w.grownBy w' (Value.slice A xs.length c).ownBlock ∧
      ((Value.slice A' ys.length c').ownBlock = (Value.slice A xs.length c).ownBlock ∨ ∃ g, (Value.slice A' ys.length c').ownBlock = some g ∧ w.heap.size ≤ g) := by
  have hl : xs.length + zs.length = ys.length := by rw [hy]; simp
  obtain ⟨ks, hk1, hk2⟩ := hown
  obtain ⟨news, hs, h1, hnz⟩ := hr.src (fun x vs h => hL _ _ x vs h)
  have hbb : ys.length * bytes ≤ 140737488355328 := by
    have : ys.length * bytes ≤ 4000000 * 128 := Nat.mul_le_mul (by omega) hb
    omega
  have hB : B = none → zs.length = 0 := fun e => by
    rcases Nat.eq_zero_or_pos zs.length with h9 | h9
    · exact h9
    · obtain ⟨ad, e9, _⟩ := hr h9
      rw [e] at e9; cases e9
  obtain ⟨A', c', w', hrun, ho', hg', hbk⟩ := run_append_src_at (P := P) w lo t ty e i z L.size bytes ht hi hz hsize hby hzs hsz _ xs.length ks hk1 B zs.length d news hs h1 ys.length hl (by unfold maxLen; omega) hbb hlo hB
  exact ⟨A', c', w', hrun, OwnL.appended ⟨ks, hk1, hk2⟩ hQ hG hy hk1 hk2 hnz ho' hg' hbk, hg', hbk⟩
theorem wpList_append_rows {P : Program} {Q' : Exit → Act → World → Prop} {ops : Array Oper} {rest : List Oper} {o : Oper} {a : Act} {w : World} {α : Type} {L : Lay α} {Q : World → Nat → Prop} {t e : TypeId} {i : TypeInfo} {z : Value} {bytes : Nat} {G : Nat → Prop}
    {lo : Nat} {A B : Option Addr} {c d : Nat} {xs zs ys : List α} (hgd : o.guard = none) (s y : Operand)
    (ho : o.op = .call { callee := .builtin .append, args := #[s, y], argTypes := #[t, t] }) (ht : P.underlying t = some (.slice e)) (hi : P.info? e = some i) (hz : i.zero = some z) (hsize : i.size = L.size) (hby : i.bytes = bytes) (hzs : z.cells.size = L.size) (hsz : 0 < L.size)
    (hL : ∀ w F x vs, L.R w F x vs → ∀ u ∈ vs, u.oneCell' = true) (hs : a.eval s = .slice A xs.length c) (hyv : a.eval y = .slice B zs.length d)
    (hown : OwnL L Q e w lo (.slice A xs.length c) xs) (hQ : Stay Q) (hr : L.Sl w G B zs) (hG : ∀ b, G b → b < w.heap.size ∧ (Value.slice A xs.length c).ownBlock ≠ some b ∧ Q w b)
    (hn : xs.length ≤ 2000000) (hm : zs.length ≤ 2000000) (hb : bytes ≤ 128) (hlo : lo ≤ w.heap.size) (hy : ys = xs ++ zs)
    (h : ∀ A' c' w', OwnL L Q e w' lo (.slice A' ys.length c') ys → w.grownBy w' (Value.slice A xs.length c).ownBlock →
      ((Value.slice A' ys.length c').ownBlock = (Value.slice A xs.length c).ownBlock ∨ ∃ g, (Value.slice A' ys.length c').ownBlock = some g ∧ w.heap.size ≤ g) → wpList P ops Q' rest (a.put o.dst (.slice A' ys.length c')) w') :
    wpList P ops Q' (o :: rest) a w := by
  obtain ⟨A', c', w', hrun, h1, h2, h3⟩ := run_append_rows (d := d) (ty := o.type) ht hi hz hsize hby hzs hsz hL hown hQ hr hG hn hm hb hlo hy
  refine wpList_plain hgd fun _ hK => ?_
  unfold Oper.wp execOp
  simp only [ho, resolve, invoke, builtin, Sem.run_bind, Sem.run_pure, Result.andThen_ok, List.map_toArray, List.map_cons, List.map_nil, hs, hyv, hrun]
  exact hK _ _ (h A' c' w' h1 h2 h3)
end Go.Proofs.YtiahmfpfimmbgaaGreatDoor

/-! The reference's contexts: l10Decls, l10Terms, CtxOk. -/
namespace Go.Proofs.YtiahmfpfimmbgaaGreatDoor
open Go Go.RowKit

theorem term_one : ∀ w F (x : T) vs, Lay.term.R w F x vs → ∀ u ∈ vs, u.oneCell' = true := by
  intro w F x vs h u hu
  obtain ⟨A, c, rfl, _, _⟩ := TermR.form h
  simp at hu
  rcases hu with rfl | rfl | rfl | rfl | rfl <;> rfl
theorem term_info : (Tryz.prog.info? 48).map (fun i => (i.zero, i.size, i.bytes)) = some (some ((.agg #[.int .i64 0, .int .i64 0, .int .i64 0, .string ⟨#[]⟩, .slice none 0 0])), 5, 64) := by kernel_rfl
/-- A row of terms of the call's own, whose kids lie below lo. -/
def OwnTs (lo : Nat) (w : World) (v : Value) (xs : List T) : Prop := OwnL Lay.term (fun _ b => b < lo) 48 w lo v xs
theorem stay_lt (lo : Nat) : Stay (fun _ b => b < lo) := fun _ _ _ _ h => h
theorem OwnTs.up {lo : Nat} {w w' : World} {v : Value} {xs : List T} (h : OwnTs lo w v xs) (hb : Below w.heap.size w w') : OwnTs lo w' v xs := OwnL.up h (stay_lt lo) hb
theorem own_lit0T (w : World) : OwnTs w.heap.size (w.alloc (.cells #[] 48)) (.slice (some ⟨w.heap.size, 0, none⟩) ([] : List T).length 0) [] := ⟨[], own_lit0 rfl, fun i x h => by simp at h⟩
/-- append of some terms, read below lo. -/
theorem wpList_append_terms {Q : Exit → Act → World → Prop} {ops : Array Oper} {rest : List Oper} {o : Oper} {a : Act} {w : World} {lo : Nat} {A B : Option Addr} {c d : Nat} {xs zs ys : List T} (hgd : o.guard = none) (s x : Operand)
    (ho : o.op = .call { callee := .builtin .append, args := #[s, x], argTypes := #[24, 24] }) (hs : a.eval s = .slice A xs.length c) (hx : a.eval x = .slice B zs.length d)
    (hown : OwnTs lo w (.slice A xs.length c) xs) (hr : Lay.term.Sl w (fun b => b < lo) B zs) (hn : xs.length ≤ 2000000) (hm : zs.length ≤ 2000000) (hlo : lo ≤ w.heap.size) (hy : ys = xs ++ zs)
    (h : ∀ A' c' w', OwnTs lo w' (.slice A' ys.length c') ys → Below lo w w' → w.grownBy w' (Value.slice A xs.length c).ownBlock → wpList Tryz.prog ops Q rest (a.put o.dst (.slice A' ys.length c')) w') : wpList Tryz.prog ops Q (o :: rest) a w := by
  obtain ⟨i0, hi0, hz0, hz1, hz2⟩ := info_parts term_info
  refine wpList_append_rows (L := Lay.term) (Q := fun _ b => b < lo) hgd s x ho Tryz.underlying24 hi0 hz0 hz1 hz2 rfl (by show 0 < 5; omega) term_one hs hx hown (stay_lt lo) hr (fun b hb => ⟨Nat.lt_of_lt_of_le hb hlo, fun e => by have := (hown.lt b e).1; omega, hb⟩) hn hm (by omega) hlo hy ?_
  intro A' c' w' h1 h2 h3
  exact h A' c' w' h1 ((Below.refl _ _).grown h2 hlo (fun k hk => (hown.lt k hk).1)) h2
set_option maxHeartbeats 2000000 in
theorem l10Decls_any (A : Option Addr) (q : Nat) (c : List Ly) (w : World) (h : Lay.layer.Rd w A c) (hl : c.length ≤ 1048576) (hd : (dsAll c).length ≤ 1048576) :
    Calls Tryz.prog 69 #[.slice A c.length q] w fun e w' => ∃ A' c', e = .returned (.slice A' (dsAll c).length c') ∧ OwnDs w' w.heap.size (.slice A' (dsAll c).length c') (dsAll c) ∧ Below w.heap.size w w' := by
  have hal : Below w.heap.size w (w.alloc (.cells #[] 39)) := (Below.refl _ _).alloc (Nat.le_refl _) _
  have hlit := own_lit0D w
  have H := h.up hal
  go_enter Tryz.func69, Tryz.ntmps69
  go_wp2
  go_loopw [3, 4] (fun a i wr => ∃ (k : Nat) (xs : List D) (A' : Option Addr) (c' : Nat), k ≤ c.length ∧ a = .slice A' xs.length c' ∧ i = .int .i64 k ∧ OwnDs wr w.heap.size (.slice A' xs.length c') xs ∧ Below w.heap.size w wr ∧ Hid (xs = dsAll (c.take k))) (fun _ i _ => c.length - (intOf i).toNat)
  case atStart => exact ⟨0, [], _, _, Nat.zero_le _, rfl, rfl, hlit, hal, Lib.hid (by simp [dsAll])⟩
  case round =>
    obtain ⟨k, xs, A', c', hk, rfl, rfl, hown, hb, HX⟩ := hrel
    by_cases hlt : k < c.length
    · have hk1 : (k : Int) < c.length := by omega
      obtain ⟨ad, A1, c1, A2, c2, rfl, hf, e1, e2, hc1, hc2, hds, hts⟩ := (h.up hb).at_layer hlt
      have hxl : xs.length ≤ 2000000 := by rw [HX.out]; have := dsAll_le c k; omega
      have hzl : c[k].ds.length ≤ 2000000 := by have := dsAll_at c k hlt; omega
      obtain ⟨ys, hys⟩ : ∃ ys, ys = xs ++ c[k].ds := ⟨_, rfl⟩
      have HY : Hid (ys = dsAll (c.take (k + 1))) := Lib.hid (by rw [hys, HX.out, dsAll_step c k hlt])
      have HYS := Lib.hid hys
      have hB : A1 = none → c[k].ds.length = 0 := fun e => by
        rcases Nat.eq_zero_or_pos c[k].ds.length with h9 | h9
        · exact h9
        · obtain ⟨a9, e9, _⟩ := hds h9
          rw [e] at e9; cases e9
      have hsz := hb.size
      have HB := Lib.hid hB
      have HSR := Lib.hid (src_decls hds)
      clear hys hB hds hts
      go_wp2_with (at_builtin; refine wpList_append_decls (ys := ys) (by rfl) (.tmp 12) (.tmp 17) (by rfl) (by rfl) (by rfl) hown HSR.out HB.out hxl hzl hsz HYS.out ?_; intro A3 c3 w3 hown3 hb3 hg3)
      have hb4 := hb.trans hb3
      go_roundw
      case rel => exact ⟨k + 1, ys, A3, c3, by omega, rfl, by go_num, hown3, hb4, HY⟩
      case measure => simp [intOf]; omega
    · have hke : k = c.length := by omega
      subst hke
      have HE : Hid (xs = dsAll c) := Lib.hid (by rw [HX.out, List.take_length])
      go_wp2
      go_ret
      rw [← HE.out]
      exact ⟨_, _, rfl, hown, hb⟩
set_option maxHeartbeats 2000000 in
theorem l10Terms_any (A : Option Addr) (q : Nat) (c : List Ly) (w : World) (h : Lay.layer.Rd w A c) (hl : c.length ≤ 1048576) (hd : (tsAll c).length ≤ 1048576) :
    Calls Tryz.prog 51 #[.slice A c.length q] w fun e w' => ∃ A' c', e = .returned (.slice A' (tsAll c).length c') ∧ OwnTs w.heap.size w' (.slice A' (tsAll c).length c') (tsAll c) ∧ Below w.heap.size w w' := by
  have hal : Below w.heap.size w (w.alloc (.cells #[] 48)) := (Below.refl _ _).alloc (Nat.le_refl _) _
  have hlit := own_lit0T w
  go_enter Tryz.func51, Tryz.ntmps51
  go_wp2
  go_loopw [3, 4] (fun a i wr => ∃ (k : Nat) (xs : List T) (A' : Option Addr) (c' : Nat), k ≤ c.length ∧ a = .slice A' xs.length c' ∧ i = .int .i64 k ∧ OwnTs w.heap.size wr (.slice A' xs.length c') xs ∧ Below w.heap.size w wr ∧ Hid (xs = tsAll (c.take k))) (fun _ i _ => c.length - (intOf i).toNat)
  case atStart => exact ⟨0, [], _, _, Nat.zero_le _, rfl, rfl, hlit, hal, Lib.hid (by simp [tsAll])⟩
  case round =>
    obtain ⟨k, xs, A', c', hk, rfl, rfl, hown, hb, HX⟩ := hrel
    by_cases hlt : k < c.length
    · have hk1 : (k : Int) < c.length := by omega
      obtain ⟨ad, A1, c1, A2, c2, rfl, hf, e1, e2, hc1, hc2, hds, hts⟩ := (Lay.Sl.below h hb (fun _ h => h)).at_layer hlt
      have hxl : xs.length ≤ 2000000 := by rw [HX.out]; have := tsAll_le c k; omega
      have hzl : c[k].ts.length ≤ 2000000 := by have := tsAll_at c k hlt; omega
      obtain ⟨ys, hys⟩ : ∃ ys, ys = xs ++ c[k].ts := ⟨_, rfl⟩
      have HY : Hid (ys = tsAll (c.take (k + 1))) := Lib.hid (by rw [hys, HX.out, tsAll_step c k hlt])
      have HYS := Lib.hid hys
      have hsz := hb.size
      have HTS := Lib.hid hts
      clear hys hds hts
      go_wp2_with (at_builtin; refine wpList_append_terms (ys := ys) (by rfl) (.tmp 12) (.tmp 17) (by rfl) (by rfl) (by rfl) hown HTS.out hxl hzl hsz HYS.out ?_; intro A3 c3 w3 hown3 hb3 hg3)
      have hb4 := hb.trans hb3
      go_roundw
      case rel => exact ⟨k + 1, ys, A3, c3, by omega, rfl, by go_num, hown3, hb4, HY⟩
      case measure => simp [intOf]; omega
    · have hke : k = c.length := by omega
      subst hke
      have HE : Hid (xs = tsAll c) := Lib.hid (by rw [HX.out, List.take_length])
      go_wp2
      go_ret
      rw [← HE.out]
      exact ⟨_, _, rfl, hown, hb⟩
end Go.Proofs.YtiahmfpfimmbgaaGreatDoor

/-! The reference's CtxOk. -/
namespace Go.Proofs.YtiahmfpfimmbgaaGreatDoor
open Go Go.RowKit

theorem OwnDs.rdv {w : World} {base c : Nat} {A : Option Addr} {xs : List D} (h : OwnDs w base (.slice A xs.length c) xs) : Lay.decl.Sl w (fun b => b < w.heap.size) A xs := h.sl.mono fun _ h => h.2
theorem sort0_yes {ds : List D} {t : T} (h : tsort ds t = 0) : sort0 ds t = true := by unfold sort0; rw [h]; rfl
theorem sort0_no {ds : List D} {t : T} (h : tsort ds t ≠ 0) : sort0 ds t = false := by unfold sort0; simpa using h
set_option maxRecDepth 100000 in
set_option maxHeartbeats 8000000 in
theorem specCtxOk_any (A : Option Addr) (q : Nat) (c : List Ly) (w : World) (h : Lay.layer.Rd w A c) (hq : c.length ≤ q) (hc : okC c) :
    Calls Tryz.prog 40 #[.slice A c.length q] w (RetB w (ctxOk c)) := by
  obtain ⟨hl, hds, hts, hnm, htm⟩ := hc
  obtain ⟨r, hr⟩ : ∃ r, r = ctxOk c := ⟨_, rfl⟩
  rw [← hr]
  have HR := Lib.hid hr
  clear hr
  have HNM := Lib.hid hnm
  have HTM := Lib.hid htm
  clear hnm htm
  by_cases h1 : 1 ≤ c.length
  rotate_left
  · have HX : Hid (r = false) := Lib.hid (by rw [HR.out]; exact ctxOk_short h1)
    go_enter Tryz.func40, Tryz.ntmps40
    go_wp2
    go_ret
    exact ⟨ret_bool (by rw [HX.out]), Below.refl _ _⟩
  by_cases h6 : c.length ≤ 6
  rotate_left
  · have HX : Hid (r = false) := Lib.hid (by rw [HR.out]; exact ctxOk_long h6)
    go_enter Tryz.func40, Tryz.ntmps40
    go_wp2
    go_ret
    exact ⟨ret_bool (by rw [HX.out]), Below.refl _ _⟩
  have HD := Lib.hid (l10Decls_any A q c w h hl hds)
  go_enter Tryz.func40, Tryz.ntmps40
  go_wp2_with fail
  refine HD.out.mono ?_
  rintro e w1 ⟨A1, c1, rfl, hown, hb1⟩
  have HDO := Lib.hid (specDeclOk_any A1 c1 (dsAll c) _ w1 hown.rdv (fun _ h => h) (by omega) HNM.out hown.cap.2)
  obtain ⟨p, hp⟩ : ∃ p, p = declOk (dsAll c) := ⟨_, rfl⟩
  rw [← hp] at HDO
  clear hown
  go_wp2_with fail
  refine HDO.out.mono ?_
  rintro e w2 ⟨rfl, hb2⟩
  have hb := bthen hb1 hb2
  clear hb1 hb2 HD HDO
  cases p
  · have HX : Hid (r = false) := Lib.hid (by rw [HR.out]; exact ctxOk_decl hp.symm)
    clear hp
    go_wp2
    go_ret
    exact ⟨ret_bool (by rw [HX.out]), hb⟩
  have HDK := Lib.hid hp.symm
  clear hp
  have HT := Lib.hid (l10Terms_any A q c w2 (h.up hb) hl hts)
  go_wp2_with fail
  refine HT.out.mono ?_
  rintro e w3 ⟨A3, c3, rfl, hown3, hb3⟩
  have hb := bthen hb hb3
  clear hown3 hb3 HT
  by_cases h8 : (tsAll c).length ≤ 8
  rotate_left
  · have HX : Hid (r = false) := Lib.hid (by rw [HR.out]; exact ctxOk_terms h8)
    have h9 : (8 : Int) < (tsAll c).length := by omega
    go_wp2
    go_ret
    exact ⟨ret_bool (by rw [HX.out]), hb⟩
  have HX : Hid (r = ctxGo [] c) := Lib.hid (by rw [HR.out]; exact ctxOk_go h1 h6 HDK.out h8)
  have h9 : ¬ (8 : Int) < (tsAll c).length := by omega
  go_wp2
  clear h9
  go_loopw [3] (fun i wr => ∃ k : Nat, k ≤ c.length ∧ i = .int .i64 k ∧ Below w.heap.size w wr ∧ Hid (ctxGo [] c = ctxGo (c.take k) (c.drop k))) (fun i _ => c.length - (intOf i).toNat)
  case atStart => exact ⟨0, Nat.zero_le _, rfl, hb, Lib.hid (by simp)⟩
  case round =>
    obtain ⟨k, hk, rfl, hbr, HG⟩ := hrel
    by_cases hlt : k < c.length
    · have hk1 : (k : Int) < c.length := by omega
      have hkq : k + 1 ≤ q := by omega
      have e9 : (c.take (k + 1)).length = k + 1 := by rw [List.length_take]; omega
      have hLD := l10Decls_any A q (c.take (k + 1)) wr ((h.up hbr).take (k + 1)) (by omega) (Nat.le_trans (dsAll_le c (k + 1)) hds)
      rw [e9] at hLD
      have HLD := Lib.hid hLD
      have HST := Lib.hid (ctxGo_step c k hlt)
      have HLY := Lib.hid (lyOk_take c k hlt)
      have HNK : Hid (okNames (dsAll (c.take (k + 1)))) := Lib.hid (fun d hd => HNM.out d (dsAll_mem hd))
      have hdk : (dsAll (c.take (k + 1))).length ≤ 1048576 := Nat.le_trans (dsAll_le c (k + 1)) hds
      generalize dsAll (c.take (k + 1)) = ds at *
      have hA : ∃ ad, A = some ad := by
        obtain ⟨ad, _, _, _, _, e, _⟩ := h.at_layer hlt
        exact ⟨ad, e⟩
      obtain ⟨ad, rfl⟩ := hA
      clear hLD e9
      go_wp2_with fail
      refine HLD.out.mono ?_
      rintro e w5 ⟨A5, c5, rfl, hown5, hb5⟩
      have hbr5 := bthen hbr hb5
      clear HLD
      go_wp2
      go_loopw [5] (fun j wj => ∃ m : Nat, m ≤ c[k].ts.length ∧ j = .int .i64 m ∧ Below w5.heap.size w5 wj ∧ Hid (lyOk (c.take k) c[k] = (c[k].ts.drop m).all (sort0 ds))) (fun j _ => c[k].ts.length - (intOf j).toNat)
      case atStart => exact ⟨0, Nat.zero_le _, rfl, Below.refl _ _, Lib.hid (by rw [HLY.out]; simp)⟩
      case round =>
        obtain ⟨m, hm, rfl, hbj, HJ⟩ := hrel
        have hbw := bthen hbr5 hbj
        obtain ⟨ad', B1, d1, B2, d2, had, hf, e1, e2, hc1, hc2, hdd, htt⟩ := (h.up hbw).at_layer hlt
        cases had
        have htl : c[k].ts.length ≤ 1048576 := Nat.le_trans (tsAll_at c k hlt) hts
        by_cases hmt : m < c[k].ts.length
        · have hm1 : (m : Int) < c[k].ts.length := by omega
          obtain ⟨ad2, B3, d3, rfl, hf2, t1, t2, t3, t4, t5, hcc, hkk⟩ := htt.at_term hmt
          have hown := hown5.up hbj
          have HC := Lib.hid (specTermSort_any ds c[k].ts[m] ((HTM.out _ (tsAll_mem hlt hmt)).imp fun _ h => h.1) HNK.out (by omega) B3 A5 d3 c5 _ wr hkk hown.rdv (fun _ h => h) hown.cap.2)
          have HSTEP := Lib.hid (all_step (sort0 ds) c[k].ts m hmt)
          obtain ⟨z, hz⟩ : ∃ z, z = tsort ds c[k].ts[m] := ⟨_, rfl⟩
          rw [← hz] at HC
          have HZ := Lib.hid hz
          clear hz hown hkk hdd htt
          go_wp2_with fail
          refine HC.out.mono ?_
          rintro e w6 ⟨rfl, hb6⟩
          have hbj6 := bthen hbj hb6
          by_cases hz0 : z = 0
          · have HN : Hid (lyOk (c.take k) c[k] = (c[k].ts.drop (m + 1)).all (sort0 ds)) := Lib.hid (by rw [HJ.out, HSTEP.out, sort0_yes (by rw [← HZ.out]; exact hz0), Bool.true_and])
            subst hz0
            go_wp2
            go_roundw
            case rel => exact ⟨m + 1, by omega, by go_num, hbj6, HN⟩
            case measure => simp [intOf]; omega
          · have HN : Hid (r = false) := Lib.hid (by rw [HX.out, HG.out, HST.out, HJ.out, HSTEP.out, sort0_no (by rw [← HZ.out]; exact hz0), Bool.false_and, Bool.false_and])
            have gz : (z != 0) = true := by simpa using hz0
            go_wp2
            go_ret
            exact ⟨ret_bool (by rw [HN.out]), bthen hbr5 hbj6⟩
        · have hme : m = c[k].ts.length := by omega
          subst hme
          have HN : Hid (ctxGo [] c = ctxGo (c.take (k + 1)) (c.drop (k + 1))) := Lib.hid (by rw [HG.out, HST.out, HJ.out, List.drop_length]; rfl)
          go_wp2
          go_roundw
          case rel => exact ⟨k + 1, by omega, by go_num, hbw, HN⟩
          case measure => simp [intOf]; omega
    · have hke : k = c.length := by omega
      subst hke
      have HN : Hid (r = true) := Lib.hid (by rw [HX.out, HG.out, List.drop_length]; rfl)
      go_wp2
      go_ret
      exact ⟨ret_bool (by rw [HN.out]), hbr⟩
end Go.Proofs.YtiahmfpfimmbgaaGreatDoor

/-! strings.Trim at the letters a to z, out of the kit's shelf of library contracts (laid by the kit's lay-plain tool). -/
namespace Go.Proofs.YtiahmfpfimmbgaaGreatDoor
open Go Go.RowKit Go.Shelf

def lays160_ren : Go.Shelf.Ren := ⟨fun | 160 => 79 | 232 => 103 | 231 => 102 | 227 => 104 | 234 => 106 | 233 => 105 | 236 => 108 | 235 => 107 | 228 => 124 | 271 => 127 | 151 => 126 | 197 => 125 | 120 => 139 | 152 => 138 | 260 => 137 | 137 => 140 | 119 => 141 | 224 => 142 | 225 => 143 | 217 => 144 | 266 => 145 | n => n, fun | 9 => 9 | 4 => 4 | 3 => 3 | 5 => 5 | 117 => 125 | 116 => 124 | 0 => 0 | 124 => 128 | 21 => 21 | 105 => 143 | 46 => 170 | 119 => 169 | 139 => 173 | 138 => 172 | n => n, fun | 3 => 0 | 4 => 1 | n => n⟩
theorem lays160 : Go.Proofs.Lays.n160 Tryz.prog lays160_ren := {
  mixed := by kernel_rfl
  f119 := Tryz.func141.trans (congrArg some (by kernel_rfl))
  f120 := Tryz.func139.trans (congrArg some (by kernel_rfl))
  f137 := Tryz.func140.trans (congrArg some (by kernel_rfl))
  f151 := Tryz.func126.trans (congrArg some (by kernel_rfl))
  f152 := Tryz.func138.trans (congrArg some (by kernel_rfl))
  f160 := Tryz.func79.trans (congrArg some (by kernel_rfl))
  f197 := Tryz.func125.trans (congrArg some (by kernel_rfl))
  f217 := Tryz.func144.trans (congrArg some (by kernel_rfl))
  f224 := Tryz.func142.trans (congrArg some (by kernel_rfl))
  f225 := Tryz.func143.trans (congrArg some (by kernel_rfl))
  f227 := Tryz.func104.trans (congrArg some (by kernel_rfl))
  f228 := Tryz.func124.trans (congrArg some (by kernel_rfl))
  f231 := Tryz.func102.trans (congrArg some (by kernel_rfl))
  f232 := Tryz.func103.trans (congrArg some (by kernel_rfl))
  f233 := Tryz.func105.trans (congrArg some (by kernel_rfl))
  f234 := Tryz.func106.trans (congrArg some (by kernel_rfl))
  f235 := Tryz.func107.trans (congrArg some (by kernel_rfl))
  f236 := Tryz.func108.trans (congrArg some (by kernel_rfl))
  f260 := Tryz.func137.trans (congrArg some (by kernel_rfl))
  f266 := Tryz.func145.trans (congrArg some (by kernel_rfl))
  f271 := Tryz.func127.trans (congrArg some (by kernel_rfl))
  t0 := Tryz.underlying0
  a0 := Tryz.isAgg0
  z0 := Tryz.sizeOf0
  v0 := Tryz.zeroValue0
  t3 := Tryz.underlying3
  a3 := Tryz.isAgg3
  z3 := Tryz.sizeOf3
  v3 := Tryz.zeroValue3
  t4 := Tryz.underlying4
  a4 := Tryz.isAgg4
  z4 := Tryz.sizeOf4
  v4 := Tryz.zeroValue4
  t5 := Tryz.underlying5
  a5 := Tryz.isAgg5
  z5 := Tryz.sizeOf5
  v5 := Tryz.zeroValue5
  t9 := Tryz.underlying9
  a9 := Tryz.isAgg9
  z9 := Tryz.sizeOf9
  v9 := Tryz.zeroValue9
  t21 := Tryz.underlying21
  a21 := Tryz.isAgg21
  z21 := Tryz.sizeOf21
  v21 := Tryz.zeroValue21
  t46 := Tryz.underlying170
  a46 := Tryz.isAgg170
  z46 := Tryz.sizeOf170
  v46 := Tryz.zeroValue170
  t105 := Tryz.underlying143
  a105 := Tryz.isAgg143
  z105 := Tryz.sizeOf143
  v105 := Tryz.zeroValue143
  t116 := Tryz.underlying124
  a116 := Tryz.isAgg124
  z116 := Tryz.sizeOf124
  t117 := Tryz.underlying125
  a117 := Tryz.isAgg125
  z117 := Tryz.sizeOf125
  v117 := Tryz.zeroValue125
  t119 := Tryz.underlying169
  a119 := Tryz.isAgg169
  z119 := Tryz.sizeOf169
  t124 := Tryz.underlying128
  a124 := Tryz.isAgg128
  z124 := Tryz.sizeOf128
  v124 := Tryz.zeroValue128
  t138 := Tryz.underlying172
  a138 := Tryz.isAgg172
  z138 := Tryz.sizeOf172
  v138 := Tryz.zeroValue172
  t139 := Tryz.underlying173
  a139 := Tryz.isAgg173
  z139 := Tryz.sizeOf173
  v139 := Tryz.zeroValue173
  g3 := by kernel_rfl
  g4 := by kernel_rfl }

theorem dropWhile_all {α : Type} {p : α → Bool} : ∀ {l : List α}, (∀ x ∈ l.dropWhile p, p x = true) → l.dropWhile p = []
  | [], _ => rfl
  | x :: xs, h => by
    cases hx : p x
    · rw [List.dropWhile_cons_of_neg (by simp [hx])] at h
      exact absurd (h x (List.mem_cons_self ..)) (by simp [hx])
    · rw [List.dropWhile_cons_of_pos hx] at h ⊢
      exact dropWhile_all h
theorem dropWhile_nil {α : Type} {p : α → Bool} : ∀ {l : List α}, l.dropWhile p = [] → ∀ x ∈ l, p x = true
  | [], _, x, hx => by cases hx
  | y :: ys, h, x, hx => by
    cases hy : p y
    · rw [List.dropWhile_cons_of_neg (by simp [hy])] at h; cases h
    · rw [List.dropWhile_cons_of_pos hy] at h
      rcases List.mem_cons.1 hx with rfl | hx
      · exact hy
      · exact dropWhile_nil h x hx
theorem dropWhile_of {α : Type} {p : α → Bool} : ∀ {l : List α}, (∀ x ∈ l, p x = true) → l.dropWhile p = []
  | [], _ => rfl
  | x :: xs, h => by
    rw [List.dropWhile_cons_of_pos (h x (List.mem_cons_self ..))]
    exact dropWhile_of fun y hy => h y (List.mem_cons_of_mem _ hy)
theorem trimS_nil (l cs : List UInt8) : (Lib.trimS l cs).isEmpty = l.all (cs.contains ·) := by
  rw [Bool.eq_iff_iff, List.isEmpty_iff, List.all_eq_true]
  unfold Lib.trimS Lib.trimLeftS Lib.trimRightS
  constructor
  · intro h x hx
    have h1 : l.reverse.dropWhile (cs.contains ·) = [] := dropWhile_all fun y hy => dropWhile_nil h y (by simpa using hy)
    exact dropWhile_nil h1 x (by simpa using hx)
  · intro h
    rw [dropWhile_of (l := l.reverse) fun x hx => h x (by simpa using hx)]
    rfl
def azL : List UInt8 := [97, 98, 99, 100, 101, 102, 103, 104, 105, 106, 107, 108, 109, 110, 111, 112, 113, 114, 115, 116, 117, 118, 119, 120, 121, 122]
theorem az_letter (c : UInt8) : azL.contains c = letter c := by
  have h : ∀ n : Fin 256, azL.contains (UInt8.ofNat n.val) = letter (UInt8.ofNat n.val) := by decide +kernel
  have := h ⟨c.toNat, c.toNat_lt⟩
  simpa using this
/-- Trim at the letters: what is left is empty just if all are letters. -/
theorem trimAz_any (s : ByteArray) (w : World) (hs : s.size ≤ 9223372036854775807) :
    Calls Tryz.prog 79 #[.string s, .string ⟨#[97, 98, 99, 100, 101, 102, 103, 104, 105, 106, 107, 108, 109, 110, 111, 112, 113, 114, 115, 116, 117, 118, 119, 120, 121, 122]⟩] w
      fun e w' => ∃ r : ByteArray, e = .returned (.string r) ∧ r.toList.isEmpty = allLet s ∧ Below w.heap.size w w' := by
  have hcon := Any.strings_Trim_laid lays160 (by kernel_rfl) s ⟨#[97, 98, 99, 100, 101, 102, 103, 104, 105, 106, 107, 108, 109, 110, 111, 112, 113, 114, 115, 116, 117, 118, 119, 120, 121, 122]⟩ w hs (by decide) (ascii_of_all (by decide))
  refine hcon.mono fun e w' ⟨h1, h2⟩ => ⟨_, h1, ?_, h2⟩
  rw [Lib.toList_data]
  show (Lib.trimS s.data.toList azL).isEmpty = _
  rw [trimS_nil]
  unfold allLet
  exact congrArg (fun f => s.data.toList.all f) (funext az_letter)
end Go.Proofs.YtiahmfpfimmbgaaGreatDoor

/-! What a law leaves. -/
namespace Go.Proofs.YtiahmfpfimmbgaaGreatDoor
open Go Go.RowKit

def LawC (w : World) (e : Ending) (w' : World) : Prop := e = .returned (.bool true) ∧ Below w.heap.size w w'
end Go.Proofs.YtiahmfpfimmbgaaGreatDoor

/-! The program's declarations: DeclOk, bitsOf, EnvOk. -/
namespace Go.Proofs.YtiahmfpfimmbgaaGreatDoor
open Go Go.RowKit

set_option maxHeartbeats 1000000 in
/-- The closure: whether a declaration has the name of the one in block b. -/
theorem declOk1_any (y x : D) (b : Nat) (w : World) (hb : w.heap[b]? = some (.cells #[.string x.name, .int .i64 x.wide] 39 (0, 0))) :
    Calls Tryz.prog 81 #[.agg #[.string y.name, .int .i64 y.wide], .pointer (some ⟨b, 0, none⟩)] w (RetB w (y.name.toList == x.name.toList)) := by
  have hal : Below w.heap.size w (w.alloc (.cells #[.string y.name, .int .i64 y.wide] 39)) := (Below.refl _ _).alloc (Nat.le_refl _) _
  have c0 : w.cell? ⟨b, 0, none⟩ = some (.string x.name) := (cell_of_block hb 0).1
  have hlt := lt_of_block hb
  have HAL := Lib.hid hal
  obtain ⟨q, hq⟩ : ∃ q, q = (y.name.toList == x.name.toList) := ⟨_, rfl⟩
  rw [← hq]
  have g9 := hq.symm
  clear hal hb hq
  go_enter Tryz.func81, Tryz.ntmps81
  go_wp2
  go_ret
  exact ⟨rfl, HAL.out⟩
set_option maxHeartbeats 2000000 in
theorem indexName_any (A : Option Addr) (c : Nat) (xs : List D) (x : D) (b : Nat) (F : Nat → Prop) (w : World) (h : Lay.decl.Sl w F A xs) (hF : ∀ b, F b → b < w.heap.size) (hb : w.heap[b]? = some (.cells #[.string x.name, .int .i64 x.wide] 39 (0, 0))) (hn : xs.length ≤ 9223372036854775807) :
    Calls Tryz.prog 109 #[.slice A xs.length c, .func (.func 81) #[] #[.pointer (some ⟨b, 0, none⟩)]] w fun e w' => e = .returned (.int .i64 (fN 0 xs x.name)) ∧ Below w.heap.size w w' := by
  have HB := Lib.hid hb
  clear hb
  go_enter Tryz.func109, Tryz.ntmps109
  go_wp2
  go_loopw [8] (fun i wr => ∃ k : Nat, k ≤ xs.length ∧ i = .int .i64 k ∧ Below w.heap.size w wr ∧ Hid (fN 0 xs x.name = fN k (xs.drop k) x.name)) (fun i _ => xs.length - (intOf i).toNat)
  case atStart => exact ⟨0, Nat.zero_le _, rfl, Below.refl _ _, Lib.hid rfl⟩
  case round =>
    obtain ⟨k, hk, rfl, hbr, HT⟩ := hrel
    by_cases hlt : k < xs.length
    · obtain ⟨ad, rfl, hf, c1, c2⟩ := (h.below hbr hF).at_decl hlt
      have hk1 : (k : Int) < xs.length := by omega
      have HS := Lib.hid (fN_step xs k x.name hlt)
      have HC := Lib.hid (declOk1_any xs[k] x b wr ((hbr.block _ (lt_of_block HB.out)).trans HB.out))
      obtain ⟨q, hq⟩ : ∃ q, q = (xs[k].name.toList == x.name.toList) := ⟨_, rfl⟩
      have HQ := Lib.hid hq
      rw [← hq] at HC
      clear hq
      go_wp2_with fail
      refine HC.out.mono ?_
      rintro e w2 ⟨rfl, hb2⟩
      have hbq := bthen hbr hb2
      cases q
      · have HE : Hid (fN 0 xs x.name = fN (k + 1) (xs.drop (k + 1)) x.name) := Lib.hid (by rw [HT.out, HS.out, ← HQ.out]; rfl)
        go_wp2
        go_roundw
        case rel => exact ⟨k + 1, by omega, by go_num, hbq, HE⟩
        case measure => simp [intOf]; omega
      · have HE : Hid (fN 0 xs x.name = (k : Int)) := Lib.hid (by rw [HT.out, HS.out, ← HQ.out]; rfl)
        go_wp2
        go_ret
        exact ⟨ret_int (by rw [HE.out]), hbq⟩
    · have HE : Hid (fN 0 xs x.name = -1) := Lib.hid (by rw [HT.out, List.drop_of_length_le (by omega)]; rfl)
      have hke : k = xs.length := by omega
      subst hke
      go_wp2
      go_ret
      exact ⟨ret_int (by rw [HE.out]), hbr⟩
set_option maxHeartbeats 1000000 in
theorem hasName_any (A : Option Addr) (c : Nat) (xs : List D) (x : D) (b : Nat) (F : Nat → Prop) (w : World) (h : Lay.decl.Sl w F A xs) (hF : ∀ b, F b → b < w.heap.size) (hb : w.heap[b]? = some (.cells #[.string x.name, .int .i64 x.wide] 39 (0, 0))) (hn : xs.length ≤ 9223372036854775807) :
    Calls Tryz.prog 80 #[.slice A xs.length c, .func (.func 81) #[] #[.pointer (some ⟨b, 0, none⟩)]] w (RetB w (hasN xs x.name)) := by
  have HC := Lib.hid (indexName_any A c xs x b F w h hF hb hn)
  have HH := Lib.hid (fN_has 0 xs x.name)
  have HG := Lib.hid (fN_ge 0 xs x.name)
  obtain ⟨q, hq⟩ : ∃ q, q = fN 0 xs x.name := ⟨_, rfl⟩
  rw [← hq] at HC HH HG
  clear hq h hb
  by_cases hq0 : 0 ≤ q
  · have HE : Hid (hasN xs x.name = true) := Lib.hid (HH.out.1 hq0)
    go_enter Tryz.func80, Tryz.ntmps80
    go_wp2_with fail
    refine HC.out.mono ?_
    rintro e w2 ⟨rfl, hb2⟩
    go_wp2
    go_ret
    exact ⟨ret_bool (by rw [HE.out]), hb2⟩
  · have HE : Hid (hasN xs x.name = false) := Lib.hid (Bool.eq_false_iff.2 fun h9 => hq0 (HH.out.2 h9))
    go_enter Tryz.func80, Tryz.ntmps80
    go_wp2_with fail
    refine HC.out.mono ?_
    rintro e w2 ⟨rfl, hb2⟩
    go_wp2
    go_ret
    exact ⟨ret_bool (by rw [HE.out]; exact decide_eq_false (by omega)), hb2⟩
theorem nameOk_short {s : ByteArray} (h : ¬ 1 ≤ s.size) : nameOk s = false := by unfold nameOk; rw [decide_eq_false h]; rfl
theorem nameOk_long {s : ByteArray} (h : ¬ s.size ≤ 4) : nameOk s = false := by unfold nameOk; rw [decide_eq_false h]; simp
theorem nameOk_tru {s : ByteArray} (h : tru s = true) : nameOk s = false := by unfold nameOk; rw [h]; simp
theorem nameOk_let {s : ByteArray} (h : allLet s = false) : nameOk s = false := by unfold nameOk; rw [h]; simp
theorem nameOk_yes {s : ByteArray} (h1 : 1 ≤ s.size) (h4 : s.size ≤ 4) (ht : tru s = false) (hl : allLet s = true) : nameOk s = true := by unfold nameOk; rw [decide_eq_true h1, decide_eq_true h4, ht, hl]; rfl
set_option maxRecDepth 100000 in
set_option maxHeartbeats 4000000 in
theorem implDeclOk_any (A : Option Addr) (c : Nat) (xs : List D) (F : Nat → Prop) (w : World) (h : Lay.decl.Sl w F A xs) (hF : ∀ b, F b → b < w.heap.size) (hn : xs.length ≤ 9223372036854775807) (ho : okNames xs) (hc : xs.length ≤ c) :
    Calls Tryz.prog 42 #[.slice A xs.length c] w (RetB w (declOk xs)) := by
  by_cases hl4 : xs.length ≤ 4
  · go_enter Tryz.func42, Tryz.ntmps42
    go_wp2
    go_loopw [3, 11] (fun b i wr => ∃ (k : Nat) (n : Int), k ≤ xs.length ∧ i = .int .i64 k ∧ b = .int .i64 n ∧ 0 ≤ n ∧ n ≤ 4 * k ∧ Below w.heap.size w wr ∧ Hid (dGo [] 0 xs = dGo (xs.take k) n (xs.drop k))) (fun _ i _ => xs.length - (intOf i).toNat)
    case atStart => exact ⟨0, 0, Nat.zero_le _, rfl, rfl, by omega, by omega, Below.refl _ _, Lib.hid rfl⟩
    case round =>
      obtain ⟨k, n, hk, rfl, rfl, n0, n1, hb, HT⟩ := hrel
      by_cases hlt : k < xs.length
      · have hr := h.below hb hF
        obtain ⟨ad, rfl, hf, c1, c2⟩ := hr.at_decl hlt
        have hk1 : (k : Int) < xs.length := by omega
        have hos := ho _ (List.getElem_mem hlt)
        have hal : Below wr.heap.size wr (wr.alloc (.cells #[.string xs[k].name, .int .i64 xs[k].wide] 39)) := (Below.refl _ _).alloc (Nat.le_refl _) _
        have HAL := Lib.hid (bthen hb hal)
        have HBX := Lib.hid (heap_alloc_new wr (.cells #[.string xs[k].name, .int .i64 xs[k].wide] 39))
        have hkc : k ≤ c := by omega
        clear hal hr
        by_cases h1 : 1 ≤ xs[k].name.size
        · by_cases h4 : xs[k].name.size ≤ 4
          · obtain ⟨q, hq⟩ : ∃ q, q = tru xs[k].name := ⟨_, rfl⟩
            have HQ := Lib.hid hq
            have g9 : (xs[k].name.toList == [116, 114, 117, 101]) = q := hq.symm
            clear hq
            cases q
            · have HTR := Lib.hid (fun z => trimAz_any xs[k].name z hos)
              obtain ⟨p, hp⟩ : ∃ p, p = allLet xs[k].name := ⟨_, rfl⟩
              have HP := Lib.hid hp
              rw [← hp] at HTR
              clear hp
              go_wp2_with fail
              generalize wr.alloc (.cells #[.string xs[k].name, .int .i64 xs[k].wide] 39) = w1 at *
              refine (HTR.out _).mono ?_
              rintro e w2 ⟨r, rfl, hre, hb2⟩
              have HB2 := Lib.hid (bthen HAL.out hb2)
              have HBX := Lib.hid ((hb2.block _ (lt_of_block HBX.out)).trans HBX.out)
              clear hb2 g9 c1 c2
              cases p
              · have HB : Hid (declOk xs = false) := Lib.hid (declOk_bad xs k n hlt HT.out (dOne_name (nameOk_let HP.out.symm)))
                go_wp2
                go_ret
                exact ⟨ret_bool (by rw [HB.out]), HB2.out⟩
              · have HNM : Hid (nameOk xs[k].name = true) := Lib.hid (nameOk_yes h1 h4 HQ.out.symm HP.out.symm)
                have e9 : (xs.take k).length = k := by rw [List.length_take]; omega
                have HCN := Lib.hid (hasName_any (some ad) c (xs.take k) xs[k] wr.heap.size F w2 ((h.below HB2.out hF).take k) (fun b hb9 => Nat.lt_of_lt_of_le (hF b hb9) HB2.out.size) HBX.out (by omega))
                rw [e9] at HCN
                clear e9 h1 h4
                go_wp2_with fail
                refine HCN.out.mono ?_
                rintro e w3 ⟨rfl, hb3⟩
                have HB3 := Lib.hid (bthen HB2.out hb3)
                have HBX := Lib.hid ((hb3.block _ (lt_of_block HBX.out)).trans HBX.out)
                obtain ⟨u, hu⟩ : ∃ u, u = hasN (xs.take k) xs[k].name := ⟨_, rfl⟩
                have HU := Lib.hid hu
                rw [← hu]
                clear hu hb3 hre
                have v1 := (cell_of_block HBX.out 1).1
                cases u
                · by_cases hw1 : 1 ≤ xs[k].wide
                  · by_cases hw4 : xs[k].wide ≤ 4
                    · have HX : Hid (dGo [] 0 xs = dGo (xs.take (k + 1)) (n + xs[k].wide) (xs.drop (k + 1))) := Lib.hid (declOk_next xs k n hlt HT.out (dOne_yes HNM.out hw1 hw4 HU.out.symm))
                      go_wp2
                      go_roundw
                      case rel => exact ⟨k + 1, n + xs[k].wide, by omega, by go_num, rfl, by omega, by omega, HB3.out, HX⟩
                      case measure => simp [intOf]; omega
                    · have HB : Hid (declOk xs = false) := Lib.hid (declOk_bad xs k n hlt HT.out (dOne_high hw4))
                      go_wp2
                      go_ret
                      exact ⟨ret_bool (by rw [HB.out]), HB3.out⟩
                  · have HB : Hid (declOk xs = false) := Lib.hid (declOk_bad xs k n hlt HT.out (dOne_low hw1))
                    go_wp2
                    go_ret
                    exact ⟨ret_bool (by rw [HB.out]), HB3.out⟩
                · have HB : Hid (declOk xs = false) := Lib.hid (declOk_bad xs k n hlt HT.out (dOne_seen HU.out.symm))
                  go_wp2
                  go_ret
                  exact ⟨ret_bool (by rw [HB.out]), HB3.out⟩
            · have HB : Hid (declOk xs = false) := Lib.hid (declOk_bad xs k n hlt HT.out (dOne_name (nameOk_tru HQ.out.symm)))
              go_wp2
              go_ret
              exact ⟨ret_bool (by rw [HB.out]), HAL.out⟩
          · have HB : Hid (declOk xs = false) := Lib.hid (declOk_bad xs k n hlt HT.out (dOne_name (nameOk_long h4)))
            go_wp2
            go_ret
            exact ⟨ret_bool (by rw [HB.out]), HAL.out⟩
        · have HB : Hid (declOk xs = false) := Lib.hid (declOk_bad xs k n hlt HT.out (dOne_name (nameOk_short h1)))
          go_wp2
          go_ret
          exact ⟨ret_bool (by rw [HB.out]), HAL.out⟩
      · have hke : k = xs.length := by omega
        subst hke
        have HE := Lib.hid (declOk_end xs n hl4 HT.out)
        go_wp2
        go_ret
        exact ⟨ret_bool (by rw [HE.out]), hb⟩
  · have HE := Lib.hid (declOk_long xs hl4)
    go_enter Tryz.func42, Tryz.ntmps42
    go_wp2
    go_ret
    exact ⟨ret_bool (by rw [HE.out]), Below.refl _ _⟩
end Go.Proofs.YtiahmfpfimmbgaaGreatDoor
