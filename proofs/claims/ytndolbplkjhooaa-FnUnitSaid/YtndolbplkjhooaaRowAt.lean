/- append of one element that lies somewhere. No program is named here. -/
import Derived.Test.YtndolbplkjhooaaRow
namespace Go.Proofs.Ytndolbplkjhooaa
open Go Go.RowKit

/-- append of one element that lies somewhere. -/
theorem wpList_append_rowAt {P : Program} {Q' : Exit → Act → World → Prop} {ops : Array Oper} {rest : List Oper} {o : Oper} {a : Act} {W : World} {α : Type} {L : Lay α} {Q : World → Nat → Prop} {t e : TypeId} {i : TypeInfo} {z : Value} {bytes : Nat} {G : Nat → Prop}
    {lo : Nat} {A : Option Addr} {c : Nat} {xs ys : List α} {x : α} {cs : Array Value} {ad : Addr} {k9 : Nat} (hgd : o.guard = none) (s y : Operand)
    (ho : o.op = .call { callee := .builtin .append, args := #[s, y], argTypes := #[t, t] }) (ht : P.underlying t = some (.slice e)) (hi : P.info? e = some i) (hz : i.zero = some z) (hsize : i.size = L.size) (hby : i.bytes = bytes) (hzs : z.cells.size = L.size) (hsz : 0 < L.size)
    (hs : a.eval s = .slice A xs.length c) (hy : a.eval y = .slice (some ad) 1 k9) (hnews : ∀ j u, cs.toList[j]? = some u → W.cell? (ad.add j) = some u)
    (hown : OwnL L Q e W lo (.slice A xs.length c) xs) (hQ : Stay Q) (hr : L.R W G x cs.toList) (hG : ∀ b, G b → b < W.heap.size ∧ (Value.slice A xs.length c).ownBlock ≠ some b ∧ Q W b) (h1 : ∀ u ∈ cs.toList, u.oneCell' = true)
    (hn : xs.length ≤ 2000000) (hb : bytes ≤ 128) (hlo : lo ≤ W.heap.size) (hys : ys = xs ++ [x])
    (h : ∀ A' c' w', OwnL L Q e w' lo (.slice A' ys.length c') ys → W.grownBy w' (Value.slice A xs.length c).ownBlock →
      ((Value.slice A' ys.length c').ownBlock = (Value.slice A xs.length c).ownBlock ∨ ∃ g, (Value.slice A' ys.length c').ownBlock = some g ∧ W.heap.size ≤ g) → wpList P ops Q' rest (a.put o.dst (.slice A' ys.length c')) w') :
    wpList P ops Q' (o :: rest) a W := by
  have hal : Below W.heap.size W W := Below.refl _ _
  have hl : ys.length = xs.length + 1 := by rw [hys]; simp
  have hlc : cs.toList.length = L.size := L.len hr
  obtain ⟨ks, hk1, hk2⟩ := hown.up hQ hal
  have hbb : (xs.length + 1) * bytes ≤ 140737488355328 := by
    have : (xs.length + 1) * bytes ≤ 2000001 * 128 := Nat.mul_le_mul (by omega) hb
    omega
  refine wpList_plain hgd fun _ hK => ?_
  obtain ⟨v', w', hrun, ho', hg', _, hbk⟩ := run_append_own_at (P := P) W lo t o.type e i z L.size bytes ht hi hz hsize hby hzs hsz
    (.slice A xs.length c) xs.length ks hk1 ad 1 k9 cs.toList (by omega) hnews h1 (by unfold maxLen; omega) hbb (Nat.le_trans hlo hal.size)
  have hform : ∃ A' c', v' = .slice A' ys.length c' := by
    rcases ho'.2 with ⟨e1, e2⟩ | ⟨g, cap, cur, e1, _⟩
    · omega
    · exact ⟨_, cap, by rw [e1, hl]⟩
  obtain ⟨A', c', rfl⟩ := hform
  have hgW := grown_then hal hg'
  have hbk2 : (Value.slice A' ys.length c').ownBlock = (Value.slice A xs.length c).ownBlock ∨ ∃ g, (Value.slice A' ys.length c').ownBlock = some g ∧ W.heap.size ≤ g := by
    rcases hbk with e | e
    · exact .inl e
    · exact .inr ⟨_, e, hal.size⟩
  have hne : ∀ b, b < W.heap.size → (Value.slice A xs.length c).ownBlock ≠ some b → (Value.slice A' ys.length c').ownBlock ≠ some b := fun b h2 h3 h4 => by
    rcases hbk2 with e | ⟨g, e, hg⟩
    · exact h3 (e ▸ h4)
    · rw [e] at h4; injection h4 with h4; omega
  unfold Oper.wp execOp
  simp only [ho, resolve, invoke, builtin, Sem.run_bind, Sem.run_pure, Result.andThen_ok, List.map_toArray, List.map_cons, List.map_nil, hs, hy, hrun]
  refine hK _ _ (h A' c' w' ⟨ks ++ cs.toList, by rw [hl] at ho' ⊢; exact ho', fun k y hky => ?_⟩ hgW hbk2)
  have hkl : ks.length = xs.length * L.size := hk1.1
  rw [hys] at hky
  have hmove : ∀ {y : α} {vs : List Value}, L.R W (fun b => b < W.heap.size ∧ (Value.slice A xs.length c).ownBlock ≠ some b ∧ Q W b) y vs → L.R w' (fun b => b < w'.heap.size ∧ (Value.slice A' ys.length c').ownBlock ≠ some b ∧ Q w' b) y vs := fun hR =>
    L.mono (fun b h9 => ⟨Nat.lt_of_lt_of_le h9.1 hgW.size, hne b h9.1 h9.2.1, hQ _ _ _ (hgW.block b h9.1 (fun e9 => h9.2.1 e9.symm)) h9.2.2⟩) (L.keep (fun b h9 => hgW.block b h9.1 (fun e9 => h9.2.1 e9.symm)) hR)
  rcases Nat.lt_or_ge k xs.length with h2 | h2
  · rw [List.getElem?_append_left h2] at hky
    obtain ⟨cs0, h01, h02⟩ := hown
    obtain ⟨vs, hR, hu⟩ := hk2 k y hky
    obtain ⟨vs0, hR0, hu0⟩ := h02 k y hky
    refine ⟨vs, ?_, fun j u hj => ?_⟩
    · refine L.mono (fun b h9 => ?_) (L.keep (fun b h9 => hg'.block b h9.1 (fun e9 => h9.2.1 e9.symm)) hR)
      have hq := hQ _ _ _ (hg'.block b h9.1 (fun e9 => h9.2.1 e9.symm)) h9.2.2
      refine ⟨Nat.lt_of_lt_of_le h9.1 hg'.size, fun e9 => ?_, hq⟩
      rcases hbk with e | e
      · exact h9.2.1 (e ▸ e9)
      · rw [e] at e9; injection e9 with e9; have := h9.1; omega
    · have hjl : j < vs.length := by
        rcases Nat.lt_or_ge j vs.length with h | h
        · exact h
        · rw [List.getElem?_eq_none h] at hj; cases hj
      have hvl := L.len hR
      have hm : (k + 1) * L.size ≤ xs.length * L.size := Nat.mul_le_mul_right _ h2
      rw [Nat.add_mul, Nat.one_mul] at hm
      rw [List.getElem?_append_left (by omega)]
      exact hu j u hj
  · rw [List.getElem?_append_right h2] at hky
    have hk0 : k = xs.length := by
      rcases Nat.eq_or_lt_of_le h2 with h3 | h3
      · exact h3.symm
      · rw [List.getElem?_eq_none (by simp; omega)] at hky; cases hky
    subst hk0
    simp at hky
    subst hky
    refine ⟨cs.toList, hmove (L.mono hG hr), fun j u hj => ?_⟩
    rw [List.getElem?_append_right (by omega), show xs.length * L.size + j - ks.length = j by omega]
    exact hj
end Go.Proofs.Ytndolbplkjhooaa
