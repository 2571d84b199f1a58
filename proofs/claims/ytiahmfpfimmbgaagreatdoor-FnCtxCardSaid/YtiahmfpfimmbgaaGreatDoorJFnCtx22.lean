/- Bent contexts: what they are (plain), and a declaration appended to one layer. -/
import Derived.Test.YtiahmfpfimmbgaaGreatDoorJFnCtx15
import Derived.Test.YtiahmfpfimmbgaaGreatDoorJFnCtx21
/-! Bent contexts: what they are (plain), and a declaration appended to one layer. -/
namespace Go.Proofs.YtiahmfpfimmbgaaGreatDoor
open Go Go.RowKit

theorem set_split {c : List Ly} {k : Nat} {l : Ly} (hk : c[k]? = some l) : ∃ xs ys, c = xs ++ l :: ys ∧ ∀ l', c.set k l' = xs ++ l' :: ys := by
  have hkl : k < c.length := (List.getElem?_eq_some_iff.1 hk).1
  have hl : c[k] = l := (List.getElem?_eq_some_iff.1 hk).2
  refine ⟨c.take k, c.drop (k + 1), ?_, fun l' => ?_⟩
  · rw [← hl, ← List.drop_eq_getElem_cons hkl, List.take_append_drop]
  · rw [List.set_eq_take_append_cons_drop, if_pos hkl]
theorem dsAll_cons9 (xs ys : List Ly) (l : Ly) : dsAll (xs ++ l :: ys) = dsAll xs ++ (l.ds ++ dsAll ys) := by rw [dsAll_app]; rfl
theorem tsAll_cons9 (xs ys : List Ly) (l : Ly) : tsAll (xs ++ l :: ys) = tsAll xs ++ (l.ts ++ tsAll ys) := by rw [tsAll_app]; rfl
theorem okDC_setT {c : List Ly} {k : Nat} {l : Ly} {t : T} (h : okDC c) (hk : c[k]? = some l) (ht : T.All okT5 t) (hl : (tsAll c).length ≤ 1000) : okDC (c.set k ⟨l.ds, l.ts ++ [t]⟩) ∧ (tsAll (c.set k ⟨l.ds, l.ts ++ [t]⟩)).length = (tsAll c).length + 1 ∧ (c.set k ⟨l.ds, l.ts ++ [t]⟩)[k]? = some ⟨l.ds, l.ts ++ [t]⟩ ∧ (c.set k ⟨l.ds, l.ts ++ [t]⟩).length = c.length := by
  have hkl : k < c.length := (List.getElem?_eq_some_iff.1 hk).1
  refine ⟨?_, ?_, by rw [List.getElem?_set]; simp [hkl], by simp⟩
  all_goals obtain ⟨xs, ys, rfl, hs⟩ := set_split hk
  all_goals rw [hs]
  · obtain ⟨⟨h1, h2, h3, h4, h5⟩, h6, h8⟩ := h
    refine ⟨⟨by simpa using h1, by rw [dsAll_cons9] at h2 ⊢; exact h2, ?_, by rw [dsAll_cons9] at h4 ⊢; exact h4, fun x hx => ?_⟩, by rw [dsAll_cons9] at h6 ⊢; exact h6, fun x hx => ?_⟩
    · rw [tsAll_cons9] at hl ⊢; simp at hl ⊢; omega
    · rw [tsAll_cons9] at hx h5
      simp only [List.mem_append, List.mem_singleton] at hx h5
      rcases hx with hx | ((hx | rfl) | hx)
      · exact h5 x (.inl hx)
      · exact h5 x (.inr (.inl hx))
      · exact ht.five
      · exact h5 x (.inr (.inr hx))
    · rw [tsAll_cons9] at hx h8
      simp only [List.mem_append, List.mem_singleton] at hx h8
      rcases hx with hx | ((hx | rfl) | hx)
      · exact h8 x (.inl hx)
      · exact h8 x (.inr (.inl hx))
      · exact ht
      · exact h8 x (.inr (.inr hx))
  · rw [tsAll_cons9, tsAll_cons9]; simp; omega
theorem okDC_setD {c : List Ly} {k : Nat} {l : Ly} {d : D} (h : okDC c) (hk : c[k]? = some l) (hd : d.name.size ≤ 5 ∧ 1 ≤ d.wide ∧ d.wide ≤ 4) (hl : (dsAll c).length ≤ 7) : okDC (c.set k ⟨l.ds ++ [d], l.ts⟩) ∧ (c.set k ⟨l.ds ++ [d], l.ts⟩).length = c.length := by
  refine ⟨?_, by simp⟩
  obtain ⟨xs, ys, rfl, hs⟩ := set_split hk
  rw [hs]
  obtain ⟨⟨h1, h2, h3, h4, h5⟩, ⟨h6, h7⟩, h8⟩ := h
  have hm : ∀ x, x ∈ dsAll (xs ++ ⟨l.ds ++ [d], l.ts⟩ :: ys) → x ∈ dsAll (xs ++ l :: ys) ∨ x = d := fun x hx => by
    rw [dsAll_cons9] at hx ⊢
    simp only [List.mem_append, List.mem_singleton] at hx ⊢
    rcases hx with hx | ((hx | rfl) | hx)
    · exact .inl (.inl hx)
    · exact .inl (.inr (.inl hx))
    · exact .inr rfl
    · exact .inl (.inr (.inr hx))
  refine ⟨⟨by simpa using h1, ?_, by rw [tsAll_cons9] at h3 ⊢; exact h3, fun x hx => ?_, by rw [tsAll_cons9] at h5 ⊢; exact h5⟩, ⟨?_, fun x hx => ?_⟩, by rw [tsAll_cons9] at h8 ⊢; exact h8⟩
  · rw [dsAll_cons9] at hl ⊢; simp at hl ⊢; omega
  · rcases hm x hx with hx | rfl
    · exact h4 x hx
    · have := hd.1; omega
  · rw [dsAll_cons9] at hl ⊢; simp at hl ⊢; omega
  · rcases hm x hx with hx | rfl
    · exact h7 x hx
    · exact hd
theorem okDC_push {c : List Ly} (h : okDC c) (hl : c.length ≤ 1000) : okDC (c ++ [⟨[], []⟩]) := by
  have e1 : dsAll (c ++ [⟨[], []⟩]) = dsAll c := by rw [dsAll_app, dsAll_one]; simp
  have e2 : tsAll (c ++ [⟨[], []⟩]) = tsAll c := by rw [tsAll_app, tsAll_one]; simp
  obtain ⟨⟨h1, h2, h3, h4, h5⟩, h6, h8⟩ := h
  exact ⟨⟨by rw [List.length_append, List.length_singleton]; omega, by rw [e1]; exact h2, by rw [e2]; exact h3, by rw [e1]; exact h4, by rw [e2]; exact h5⟩, by rw [e1]; exact h6, by rw [e2]; exact h8⟩
/-- One layer's declarations have grown. -/
theorem bentD {X X' z : World} {g S M E k : Nat} {c : List Ly} {l : Ly} {ys : List D} {Ad At A9 : Option Addr} {cd ct c9 : Nat} (hk : c[k]? = some l) (hg2 : g < X.heap.size)
    (e0 : X.cell? ⟨g, k * 2, none⟩ = some (.slice Ad l.ds.length cd)) (e1 : X.cell? ⟨g, k * 2 + 1, none⟩ = some (.slice At l.ts.length ct)) (hfz : ∀ o, X.frozen? ⟨g, o, none⟩ = false) (hgl : ∃ cs9, X.heap[g]? = some (.cells cs9 58 (0, 0))) (s2 : S ≤ M) (s3 : M ≤ E) (s4 : E ≤ X.heap.size) (s5 : ¬ (S ≤ g ∧ g < E))
    (hdm : ∀ b, (Value.slice Ad l.ds.length cd).ownBlock = some b → b < M) (hod : OwnDs X S (.slice Ad l.ds.length cd) l.ds) (hru : RowU M E X (.slice At l.ts.length ct) l.ts)
    (hoth : ∀ i l9, i ≠ k → c[i]? = some l9 → ∃ u0 u1, Lay.layer.R X (fun b => b < X.heap.size ∧ b ≠ g ∧ ¬ (S ≤ b ∧ b < E)) l9 [u0, u1] ∧ X.cell? ⟨g, i * 2, none⟩ = some u0 ∧ X.cell? ⟨g, i * 2 + 1, none⟩ = some u1)
    (hb : Below X.heap.size X X') (hown : OwnDs z S (.slice A9 ys.length c9) ys) (hgr : X'.grownBy z (Value.slice Ad l.ds.length cd).ownBlock) :
    z.cell? ⟨g, k * 2, none⟩ = some (.slice Ad l.ds.length cd) ∧ z.frozen? ⟨g, k * 2, none⟩ = false ∧ Lay.layer.Rd (z.setCell ⟨g, k * 2, none⟩ (.slice A9 ys.length c9)) (some ⟨g, 0, none⟩) (c.set k ⟨ys, l.ts⟩) := by
  have hgn : (Value.slice Ad l.ds.length cd).ownBlock ≠ some g := fun e => s5 ⟨(hod.lt g e).1, by have := hdm g e; omega⟩
  have hsz : X.heap.size ≤ z.heap.size := Nat.le_trans hb.size hgr.size
  have hzb : ∀ b, b < X.heap.size → (Value.slice Ad l.ds.length cd).ownBlock ≠ some b → z.heap[b]? = X.heap[b]? := fun b h1 h2 => (hgr.block b (Nat.lt_of_lt_of_le h1 hb.size) (fun e => h2 e.symm)).trans (hb.block b h1)
  have hgz : z.heap[g]? = X.heap[g]? := hzb g hg2 hgn
  have x0 : z.cell? ⟨g, k * 2, none⟩ = some (.slice Ad l.ds.length cd) := (World.cell?_of_block (a := ⟨g, k * 2, none⟩) hgz).trans e0
  have hfar : ∀ b, b ≠ g → (z.setCell ⟨g, k * 2, none⟩ (.slice A9 ys.length c9)).heap[b]? = z.heap[b]? := fun b hb => Below.heap_setCell z ⟨g, _, none⟩ _ b hb
  have hcl : ∀ o, o ≠ k * 2 → (z.setCell ⟨g, k * 2, none⟩ (.slice A9 ys.length c9)).cell? ⟨g, o, none⟩ = X.cell? ⟨g, o, none⟩ := fun o ho => (World.cell?_setCell_other _ _ _ _ (fun e => by injection e with _ e _; omega)).trans (World.cell?_of_block (a := ⟨g, o, none⟩) hgz)
  refine ⟨x0, (World.frozen?_of_block (a := ⟨g, k * 2, none⟩) hgz).trans (hfz _), layers_rd (by rw [size_setCell]; omega) fun i l9 hl9 => ?_⟩
  have hkl : k < c.length := (List.getElem?_eq_some_iff.1 hk).1
  by_cases hi : i = k
  · subst hi
    rw [List.getElem?_set] at hl9
    simp [hkl] at hl9
    subst hl9
    refine ⟨_, _, ⟨A9, c9, At, ct, rfl, (OwnDs.cap hown).2, ?_, ?_, ?_⟩, World.cell?_setCell_same _ _ _ x0, (hcl _ (by omega)).trans e1⟩
    · obtain ⟨A8, c8, e8, h8⟩ := hru.row.form
      injection e8 with _ _ e8
      show l.ts.length ≤ ct
      omega
    · refine ((hown.at1.keep fun b hb => hfar b (fun e => ?_)).mono fun b hb => by rw [size_setCell]; exact hb.2)
      obtain ⟨cs8, h7⟩ := hown.blk hb.1
      obtain ⟨cs9, h6⟩ := hgl
      rw [e, hgz, h6] at h7
      injection h7 with h7
      injection h7 with _ h7 _
      exact absurd h7 neLD
    · refine ((TrT.sl hru.tree).keep fun b hb => (hfar b (fun e => s5 ⟨by rw [← e]; have := hb.1; omega, by rw [← e]; exact hb.2.1⟩)).trans (hzb b (by have := hb.2.1; omega) (fun e => by have := hdm b e; have := hb.1; omega))).mono fun b hb => by rw [size_setCell]; have := hb.2.1; omega
  · rw [List.getElem?_set_ne (Ne.symm hi)] at hl9
    obtain ⟨u0, u1, hr, c0, c1⟩ := hoth i l9 hi hl9
    refine ⟨u0, u1, Lay.layer.mono (fun b hb => by rw [size_setCell]; have := hb.1; omega) (Lay.layer.keep (fun b hb => (hfar b hb.2.1).trans (hzb b hb.1 (fun e => hb.2.2 ⟨(hod.lt b e).1, by have := hdm b e; omega⟩))) hr), (hcl _ (by omega)).trans c0, (hcl _ (by omega)).trans c1⟩
theorem drawn_low {r : Nat} {p q M : Int} {w w5 xw : World} (h1 : p ≤ q) (h2 : q ≤ p + M) (hR : Rdr w5 r q) (hg : Gr (IsR r) w w5) (hb : Below w.heap.size w5 xw) (hr : r < w.heap.size) : Drawn r p M w xw :=
  ⟨q, h1, h2, hR.keep fun b hb9 => hb.block b (Nat.lt_of_le_of_lt hb9 hr), hb.os.trans hg.os, hb.tape.trans hg.tape, hb.output.trans hg.output, Nat.le_trans hg.size hb.size, fun i hi hn => (hb.block i hi).trans (hg.block i hi hn)⟩
theorem AsB.fin' {lo : Nat} {X x : World} {g k : Nat} {c : List Ly} {l : Ly} {At : Option Addr} {ct : Nat} {t : T} {vk vt vz va vp : Value} {fk ft fz fa fp fe fo : Bool} (hB : BentS lo X g c k l At ct) (h : AsB lo X g k At ct l.ts t vk vt vz va vp fk ft fz fa fp fe fo x) (h1 : fk = true) (h2 : ft = true) (h3 : fa = true) (h4 : fe = true) (h5 : fo = true) :
    ∃ At' ct', BentS lo x g (c.set k ⟨l.ds, l.ts ++ [t]⟩) k ⟨l.ds, l.ts ++ [t]⟩ At' ct' := by
  subst h1 h2 h3 h4 h5
  exact AsB.fin hB h
theorem AsB.start' {lo : Nat} {X x : World} {g k : Nat} {At : Option Addr} {ct : Nat} {ts : List T} {t : T} {vk vt vz va vp : Value} {fk ft fz fa fp fe fo : Bool} (hl : lo ≤ X.heap.size) (hb : Below X.heap.size X x) (hz : fz = false) (ha : fa = false) (hk : fk = true → vk = .slice none 0 0 ∧ t.kids = [] ∧ ft = false) : AsB lo X g k At ct ts t vk vt vz va vp fk ft fz fa fp fe fo x :=
  (AsB.start (X := X) hz ha hk).up hl hb
def nmT (s : UInt8) : T := .mk 21 0 0 ⟨#[s]⟩ []
def twT : T := .mk 15 0 0 ⟨#[]⟩ [nmT 119, nmT 119]
def trT : T := .mk 24 0 0 ⟨#[]⟩ []
theorem nmT_ok (s : UInt8) : T.All okT5 (nmT s) := okT_leaf (by decide) (by decide) (by show (1 : Nat) ≤ _; decide)
theorem trT_ok : T.All okT5 trT := okT_leaf (by decide) (by decide) (by decide)
theorem twT_ok : T.All okT5 twT := okT_node (by simp) (by decide) (by decide) (fun k hk => by
  simp only [List.mem_cons, List.not_mem_nil, or_false] at hk
  rcases hk with rfl | rfl <;> exact nmT_ok _)
theorem twT_kids : ∀ i y, twT.kids[i]? = some y → y.kids = [] ∧ ∀ j u, (tcells y none 0)[j]? = some u → (#[.int .i64 21, .int .i64 0, .int .i64 0, .string ⟨#[119]⟩, .slice none 0 0, .int .i64 21, .int .i64 0, .int .i64 0, .string ⟨#[119]⟩, .slice none 0 0] : Array Value)[i * 5 + j]? = some u := fun i y hy => by
  have hy : ([nmT 119, nmT 119] : List T)[i]? = some y := hy
  match i, hy with
  | 0, hy =>
    injection hy with hy; subst hy
    exact ⟨rfl, fun j u hu => by
      match j, hu with
      | 0, hu => exact hu
      | 1, hu => exact hu
      | 2, hu => exact hu
      | 3, hu => exact hu
      | 4, hu => exact hu
      | j + 5, hu => simp [tcells] at hu⟩
  | 1, hy =>
    injection hy with hy; subst hy
    exact ⟨rfl, fun j u hu => by
      match j, hu with
      | 0, hu => exact hu
      | 1, hu => exact hu
      | 2, hu => exact hu
      | 3, hu => exact hu
      | 4, hu => exact hu
      | j + 5, hu => simp [tcells] at hu⟩
  | i + 2, hy => simp at hy
end Go.Proofs.YtiahmfpfimmbgaaGreatDoor
