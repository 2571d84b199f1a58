/- The program's layers of a stack. The program's closure of CtxName. The program's closure of CtxAssert. Layers as the answer of a law: rows in ranges of their own; marks. The program's changed. The reference's l10Copy. What the reference hands back is only read; the reference's CtxTerms. Changed contexts as answers: comparisons, marks; CtxPush. CtxName and CtxAssert, the program's. -/
import Derived.RegionTactic
import Derived.Test.YtiahmfpfimmbgaaGreatDoorJFnCtxBent7
import Derived.Test.YtiahmfpfimmbgaaGreatDoorJFnCtxBent9
/-! The program's layers of a stack. -/
namespace Go.Proofs.YtiahmfpfimmbgaaGreatDoor
open Go Go.RowKit

theorem RowP.low {P : LyF} {lo lo' : Nat} {w : World} {v : Value} {ls : List Ly} (h : RowP P lo w v ls) (hl : lo' ≤ lo) : RowP P lo' w v ls := by
  obtain ⟨cs, h1, S, E, Vd, Vt, h2, h3⟩ := h
  exact ⟨cs, own_mono h1 hl, S, E, Vd, Vt, fun k l hk => by
    obtain ⟨g1, g2, ⟨g3, g4, g5⟩, g6, g7⟩ := h2 k l hk
    exact ⟨g1, g2, ⟨Nat.le_trans hl g3, g4, g5⟩, g6, g7⟩, h3⟩
theorem RowP.far {P : LyF} {lo : Nat} {w : World} {v : Value} {ls : List Ly} (h : RowP P lo w v ls) (hP : StayP P) (p : Addr) (u : Value) (hp : p.block < lo) : RowP P lo (w.setCell p u) v ls :=
  h.keep hP (by rw [size_setCell]; exact Nat.le_refl _) fun b hb _ => Below.heap_setCell w p u b (fun e => by omega)
end Go.Proofs.YtiahmfpfimmbgaaGreatDoor

/-! The program's closure of CtxName. -/
namespace Go.Proofs.YtiahmfpfimmbgaaGreatDoor
open Go Go.RowKit

theorem decl_src {w : World} {b : Nat} {d : D} {fr : Nat × Nat} (h : w.heap[b]? = some (.cells #[.string d.name, .int .i64 d.wide] 39 fr)) : Src w Lay.decl.size (some ⟨b, 0, none⟩) [d].length [.string d.name, .int .i64 d.wide] := src_block h rfl
end Go.Proofs.YtiahmfpfimmbgaaGreatDoor

/-! The program's closure of CtxAssert. -/
namespace Go.Proofs.YtiahmfpfimmbgaaGreatDoor
open Go Go.RowKit

end Go.Proofs.YtiahmfpfimmbgaaGreatDoor

/-! Layers as the answer of a law: rows in ranges of their own; marks. -/
namespace Go.Proofs.YtiahmfpfimmbgaaGreatDoor
open Go Go.RowKit Go.ChangeShapes Go.WideShapes Go.ChangeAt Go.Deep

/-- The layers lie at A, between lo and hi, each layer's rows in a range of its own; P of each. -/
def TrG (P : Nat → LyF) (lo hi : Nat) (w : World) (A : Option Addr) (ls : List Ly) : Prop :=
  hi ≤ w.heap.size ∧ (0 < ls.length → ∃ ad, A = some ad ∧ Cp lo hi w ad.block ∧ ∃ (S E : Nat → Nat) (Vd Vt : Nat → Value),
    (∀ k l, ls[k]? = some l → w.cell? (ad.add (k * 2)) = some (Vd k) ∧ w.cell? (ad.add (k * 2 + 1)) = some (Vt k) ∧ (lo ≤ S k ∧ S k ≤ E k ∧ E k ≤ hi) ∧ ¬ (S k ≤ ad.block ∧ ad.block < E k) ∧ P k w (S k) (E k) (Vd k) (Vt k) l) ∧
    ∀ i j, i < j → j < ls.length → E i ≤ S j)
abbrev TrY (lo hi : Nat) (w : World) (A : Option Addr) (ls : List Ly) : Prop := TrG (fun _ => PP) lo hi w A ls
theorem RowP.cp_of {lo c : Nat} {w : World} {A : Option Addr} {ls : List Ly} (h : RowP PP lo w (.slice A ls.length c) ls) : TrY lo w.heap.size w A ls := by
  obtain ⟨cs, h1, S, E, Vd, Vt, h2, h3⟩ := h
  refine ⟨Nat.le_refl _, fun h0 => ?_⟩
  have hcs : cs.length = ls.length * 2 := h1.1
  rcases h1.2 with ⟨e1, e2⟩ | ⟨g, cap, cur, e1, hlo, hg, hn, hm, hsz, htk⟩
  · omega
  · injection e1 with e1 e2 e3
    subst e1
    refine ⟨_, rfl, ⟨hlo, (Array.getElem?_eq_some_iff.1 hg).1, Nat.le_refl _, fun o => World.ownsRow.frozenAt (g := g) (cap := c) ⟨h1.1, h1.2⟩ o⟩, S, E, Vd, Vt, fun k l hl => ?_, h3⟩
    obtain ⟨g1, g2, g3, g6, g7⟩ := h2 k l hl
    have hc : ∀ j u, cs[j]? = some u → w.cell? ((⟨g, 0, none⟩ : Addr).add j) = some u := fun j u hu => by
      have hj : j < cs.length := (List.getElem?_eq_some_iff.1 hu).1
      have ea : (⟨g, 0, none⟩ : Addr).add j = ⟨g, j, none⟩ := by
        unfold Addr.add
        split
        · rename_i e; rw [e]
        · simp
      rw [ea, World.ownsRow.cellAt (g := g) (cap := c) ⟨h1.1, h1.2⟩ _ (by omega)]
      exact hu
    exact ⟨hc _ _ g1, hc _ _ g2, g3, g6 g rfl, g7⟩
section
variable {P : Nat → LyF} {lo hi : Nat} {w w' : World} {A : Option Addr} {ls : List Ly}
theorem TrG.stay (hP : ∀ k, StayP (P k)) (h : TrG P lo hi w A ls) (hs : w.heap.size ≤ w'.heap.size) (hb : ∀ b, lo ≤ b → b < hi → w'.heap[b]? = w.heap[b]?) : TrG P lo hi w' A ls := by
  obtain ⟨h0, h⟩ := h
  refine ⟨Nat.le_trans h0 hs, fun h9 => ?_⟩
  obtain ⟨ad, e, hf, S, E, Vd, Vt, h2, h3⟩ := h h9
  have hk := hb _ hf.1 hf.2.1
  refine ⟨ad, e, stay_cp hf hs hk, S, E, Vd, Vt, fun k l hl => ?_, h3⟩
  obtain ⟨g1, g2, ⟨g3, g4, g5⟩, g6, g7⟩ := h2 k l hl
  exact ⟨(World.cell?_of_block (w := w) (by rw [block_of_add]; exact hk)).trans g1, (World.cell?_of_block (w := w) (by rw [block_of_add]; exact hk)).trans g2, ⟨g3, g4, g5⟩, g6, hP k _ _ _ _ _ _ _ g7 hs fun b h8 h9 => hb b (by omega) (by omega)⟩
end
theorem PP.layer {w : World} {S E lo hi : Nat} {vd vt : Value} {l : Ly} (h : PP w S E vd vt l) (h1 : lo ≤ S) (h2 : E ≤ hi) (h3 : hi ≤ w.heap.size) : Lay.layer.R w (Cp lo hi w) l [vd, vt] := by
  obtain ⟨Fd, Ft, Ad, cd, At, ct, rfl, rfl, k1, k2, k3, k4, k5, k6, k7⟩ := h
  exact ⟨Ad, cd, At, ct, rfl, k1, k2, k6.mono fun b hb => ⟨by have := (k3 b hb).1; omega, by have := (k3 b hb).2.1; omega, h3, (k3 b hb).2.2.2⟩, (TrT.sl k7).mono fun b hb => ⟨by have := (k4 b hb).1; omega, by have := (k4 b hb).2.1; omega, h3, (k4 b hb).2.2.2⟩⟩
theorem sl_two {w : World} {F : Nat → Prop} {A : Option Addr} {ls : List Ly} (h : 0 < ls.length → ∃ ad, A = some ad ∧ F ad.block ∧ ∀ k l, ls[k]? = some l → ∃ vd vt, Lay.layer.R w F l [vd, vt] ∧ w.cell? (ad.add (k * 2)) = some vd ∧ w.cell? (ad.add (k * 2 + 1)) = some vt) : Lay.layer.Sl w F A ls := by
  intro h0
  obtain ⟨ad, e, hf, hc⟩ := h h0
  refine ⟨ad, e, hf, fun k l hl => ?_⟩
  obtain ⟨vd, vt, hr, c1, c2⟩ := hc k l hl
  refine ⟨_, hr, fun j u hu => ?_⟩
  match j, hu with
  | 0, hu => simp at hu; subst hu; exact c1
  | 1, hu => simp at hu; subst hu; exact c2
  | j + 2, hu => simp at hu
theorem TrG.sl {lo hi : Nat} {w : World} {A : Option Addr} {ls : List Ly} (h : TrY lo hi w A ls) : Lay.layer.Sl w (Cp lo hi w) A ls := sl_two fun h0 => by
  obtain ⟨ad, e, hf, S, E, Vd, Vt, h2, h3⟩ := h.2 h0
  refine ⟨ad, e, hf, fun k l hl => ?_⟩
  obtain ⟨g1, g2, ⟨g3, g4, g5⟩, g6, g7⟩ := h2 k l hl
  exact ⟨Vd k, Vt k, g7.layer g3 g5 h.1, g1, g2⟩
theorem TrG.cp_rd {lo hi : Nat} {w : World} {A : Option Addr} {ls : List Ly} (h : TrY lo hi w A ls) : Lay.layer.Rd w A ls := h.sl.mono fun _ h => h.lt
/-- Marked layers. -/
def upLs : List Ly → Int → List Ly
  | [], _ => []
  | l :: ls, k => ⟨upD l.ds.length k, upTL l.ts (k + 2 * (l.ds.length : Int))⟩ :: upLs ls (k + (2 * (l.ds.length : Int) + 4 * (T.sizeL l.ts : Int)))
theorem upLs_len : ∀ (ls : List Ly) (k : Int), (upLs ls k).length = ls.length
  | [], _ => rfl
  | l :: ls, k => by simp [upLs, upLs_len ls]
theorem upLs_get : ∀ (ls : List Ly) (k : Int) (i : Nat) (x : Ly), ls[i]? = some x → (upLs ls k)[i]? = some ⟨upD x.ds.length (k + (mwL (ls.take i) : Int)), upTL x.ts (k + (mwL (ls.take i) : Int) + 2 * (x.ds.length : Int))⟩
  | [], _, i, x, h => by simp at h
  | l :: ls, k, 0, x, h => by
    simp at h
    subst h
    simp [upLs, mwL]
  | l :: ls, k, i + 1, x, h => by
    have := upLs_get ls (k + (2 * (l.ds.length : Int) + 4 * (T.sizeL l.ts : Int))) i x (by simpa using h)
    simp only [upLs, List.getElem?_cons_succ, List.take_succ_cons, mwL]
    rw [this]
    have e : k + (2 * (l.ds.length : Int) + 4 * (T.sizeL l.ts : Int)) + (mwL (ls.take i) : Int) = k + ((2 * l.ds.length + 4 * T.sizeL l.ts + mwL (ls.take i) : Nat) : Int) := by push_cast; omega
    rw [e]
/-- A layer that is marked from K on. -/
def PM (K : Int) : LyF := fun w S E vd vt l => ∃ (Fd Ft : Nat → Prop) (Ad : Option Addr) (cd : Nat) (At : Option Addr) (ct : Nat), vd = .slice Ad l.ds.length cd ∧ vt = .slice At l.ts.length ct ∧ l.ds.length ≤ cd ∧ l.ts.length ≤ ct ∧ (∀ b, Fd b → Cp S E w b) ∧ (∀ b, Ft b → Cp S E w b) ∧ Lay.decl.Sl w Fd Ad (upD l.ds.length K) ∧ Lay.term.Sl w Ft At (upTL l.ts (K + 2 * (l.ds.length : Int)))
theorem stay_PM (K : Int) : StayP (PM K) := by
  rintro w w' S E vd vt l ⟨Fd, Ft, Ad, cd, At, ct, e1, e2, h1, h2, h3, h4, h6, h7⟩ hs hb
  have hk : ∀ b, Cp S E w b → w'.heap[b]? = w.heap[b]? := fun b h9 => hb b h9.1 h9.2.1
  exact ⟨Fd, Ft, Ad, cd, At, ct, e1, e2, h1, h2, fun b hb9 => stay_cp (h3 b hb9) hs (hk b (h3 b hb9)), fun b hb9 => stay_cp (h4 b hb9) hs (hk b (h4 b hb9)), h6.keep fun b hb9 => hk b (h3 b hb9), h7.keep fun b hb9 => hk b (h4 b hb9)⟩
theorem PM.layer {K : Int} {w : World} {S E lo hi : Nat} {vd vt : Value} {l : Ly} (h : PM K w S E vd vt l) (h1 : lo ≤ S) (h2 : E ≤ hi) (h3 : hi ≤ w.heap.size) : Lay.layer.R w (Cp lo hi w) ⟨upD l.ds.length K, upTL l.ts (K + 2 * (l.ds.length : Int))⟩ [vd, vt] := by
  obtain ⟨Fd, Ft, Ad, cd, At, ct, rfl, rfl, k1, k2, k3, k4, k6, k7⟩ := h
  refine ⟨Ad, cd, At, ct, ?_, ?_, ?_, k6.mono fun b hb => ⟨by have := (k3 b hb).1; omega, by have := (k3 b hb).2.1; omega, h3, (k3 b hb).2.2.2⟩, k7.mono fun b hb => ⟨by have := (k4 b hb).1; omega, by have := (k4 b hb).2.1; omega, h3, (k4 b hb).2.2.2⟩⟩
  · simp only [upD_len, upTL_len]
  · simp only [upD_len]; exact k1
  · simp only [upTL_len]; exact k2
/-- Marked as far as the layer j. -/
def PJ (k0 : Int) (ls : List Ly) (j k : Nat) : LyF := fun w S E vd vt l => (k < j → PM (k0 + (mwL (ls.take k) : Int)) w S E vd vt l) ∧ (j ≤ k → PP w S E vd vt l)
/-- One layer more is marked. -/
theorem TrG.next {k0 : Int} {ls : List Ly} {j lo hi : Nat} {w : World} {A : Option Addr} (h : TrG (PJ k0 ls j) lo hi w A ls) (hj : j < ls.length) :
    ∃ ad S E Fd Ft Ad cd At ct, A = some ad ∧ w.cell? (ad.add (j * 2)) = some (.slice Ad ls[j].ds.length cd) ∧ w.cell? (ad.add (j * 2 + 1)) = some (.slice At ls[j].ts.length ct) ∧ Lay.decl.Sl w Fd Ad ls[j].ds ∧ TrS w Ft At ls[j].ts ∧ (lo ≤ S ∧ E ≤ hi ∧ (∀ b, Fd b → Cp S E w b) ∧ (∀ b, Ft b → Cp S E w b) ∧ (∀ b, Fd b → ¬ Ft b)) ∧
      ∀ w', Dab (fun b => S ≤ b ∧ b < E) w w' → Lay.decl.Sl w' Fd Ad (upD ls[j].ds.length (k0 + (mwL (ls.take j) : Int))) → Lay.term.Sl w' Ft At (upTL ls[j].ts (k0 + (mwL (ls.take j) : Int) + 2 * (ls[j].ds.length : Int))) → TrG (PJ k0 ls (j + 1)) lo hi w' A ls := by
  obtain ⟨h0, h⟩ := h
  obtain ⟨ad, e, hf, S, E, Vd, Vt, h2, h3⟩ := h (by omega)
  obtain ⟨g1, g2, ⟨g3, g4, g5⟩, g6, ⟨_, g7⟩⟩ := h2 j _ (List.getElem?_eq_getElem hj)
  obtain ⟨Fd, Ft, Ad, cd, At, ct, e1, e2, k1, k2, k3, k4, k5, k6, k7⟩ := g7 (Nat.le_refl _)
  rw [e1] at g1
  rw [e2] at g2
  refine ⟨ad, S j, E j, Fd, Ft, Ad, cd, At, ct, e, g1, g2, k6, k7, ⟨g3, g5, k3, k4, k5⟩, fun w' hd hD hT => ⟨Nat.le_trans h0 hd.size, fun _ => ?_⟩⟩
  have hk := hd.block ad.block (by have := hf.2.1; omega) g6
  refine ⟨ad, e, stay_cp hf hd.size hk, S, E, Vd, Vt, fun k l hl => ?_, h3⟩
  obtain ⟨q1, q2, q3, q6, q7⟩ := h2 k l hl
  have hkl : k < ls.length := (List.getElem?_eq_some_iff.1 hl).1
  refine ⟨(World.cell?_of_block (w := w) (by rw [block_of_add]; exact hk)).trans q1, (World.cell?_of_block (w := w) (by rw [block_of_add]; exact hk)).trans q2, q3, q6, ?_⟩
  by_cases hkj : k = j
  · subst hkj
    rw [List.getElem?_eq_getElem hkl] at hl
    injection hl with hl
    subst hl
    exact ⟨fun _ => ⟨Fd, Ft, Ad, cd, At, ct, e1, e2, k1, k2, fun b hb => (k3 b hb).dab hd, fun b hb => (k4 b hb).dab hd, hD, hT⟩, fun h9 => absurd h9 (by omega)⟩
  · have hb : ∀ b, S k ≤ b → b < E k → w'.heap[b]? = w.heap[b]? := fun b h8 h9 => hd.block b (by have := q3.2.2; omega) (fun h10 => by
      rcases Nat.lt_or_gt_of_ne hkj with hlt | hlt
      · have := h3 k j hlt hj; omega
      · have := h3 j k hlt hkl; omega)
    exact ⟨fun h9 => stay_PM _ _ _ _ _ _ _ _ (q7.1 (by omega)) hd.size hb, fun h9 => stay_PP _ _ _ _ _ _ _ (q7.2 (by omega)) hd.size hb⟩
theorem TrG.marked {k0 : Int} {ls : List Ly} {lo hi : Nat} {w : World} {A : Option Addr} (h : TrG (PJ k0 ls ls.length) lo hi w A ls) : Lay.layer.Sl w (Cp lo hi w) A (upLs ls k0) := sl_two fun h0 => by
  rw [upLs_len] at h0
  obtain ⟨ad, e, hf, S, E, Vd, Vt, h2, h3⟩ := h.2 h0
  refine ⟨ad, e, hf, fun k l hl => ?_⟩
  have hk : k < ls.length := by have := (List.getElem?_eq_some_iff.1 hl).1; rwa [upLs_len] at this
  rw [upLs_get ls k0 k _ (List.getElem?_eq_getElem hk)] at hl
  injection hl with hl
  subst hl
  obtain ⟨g1, g2, ⟨g3, g4, g5⟩, g6, g7⟩ := h2 k _ (List.getElem?_eq_getElem hk)
  exact ⟨Vd k, Vt k, (g7.1 hk).layer g3 g5 h.1, g1, g2⟩
end Go.Proofs.YtiahmfpfimmbgaaGreatDoor

/-! The program's changed. -/
namespace Go.Proofs.YtiahmfpfimmbgaaGreatDoor
open Go Go.RowKit

/-- A stack of the context x; of no layers, whatever it holds. -/
def StkC (lo : Nat) (w : World) (p : Nat) (x : List Ly) : Prop := ∃ ds ts, StkE lo w p ds ts (msAll x) ∧ (x ≠ [] → ds = dsAll x ∧ ts = tsAll x)
theorem StkC.of {lo p : Nat} {w : World} {x : List Ly} (h : StkE lo w p (dsAll x) (tsAll x) (msAll x)) : StkC lo w p x := ⟨_, _, h, fun _ => ⟨rfl, rfl⟩⟩
/-- What a change hands back: layers of the call's own. -/
def RetCh (r : List Ly × Bool) (w : World) (e : Ending) (w' : World) : Prop := ∃ A c, e = .returned (.tuple #[.slice A r.1.length c, .bool r.2]) ∧ r.1.length ≤ c ∧ RowP PP w.heap.size w' (.slice A r.1.length c) r.1 ∧ Below w.heap.size w w'
end Go.Proofs.YtiahmfpfimmbgaaGreatDoor

/-! The reference's l10Copy. -/
namespace Go.Proofs.YtiahmfpfimmbgaaGreatDoor
open Go Go.RowKit

/-- The box of a layer that is being copied: its row of terms grows. -/
def BoxY (lo p n : Nat) (A : Option Addr) (c : Nat) (z : World) (ts : List T) : Prop :=
  ∃ B b, z.heap[p]? = some (.cells #[.slice A n c, .slice B ts.length b] 58 (0, 0)) ∧ RowTr lo z (.slice B ts.length b) ts
def Fact.boxY (lo p n : Nat) (A : Option Addr) (c : Nat) (W : World) (ts : List T) : Fact :=
  .of (fun _ z => BoxY lo p n A c z ts ∧ Gr (fun g => g = p ∨ lo ≤ g) W z ∧ p < W.heap.size) fun _ z z' ⟨⟨B, b, h1, h2⟩, h3, h4⟩ hb =>
    ⟨⟨B, b, (hb.block p (lt_of_block h1)).trans h1, h2.up hb⟩, h3.up hb, h4⟩
set_option maxRecDepth 100000 in
set_option maxHeartbeats 8000000 in
theorem l10Copy_any (A : Option Addr) (q : Nat) (c : List Ly) (w : World) (h : Lay.layer.Rd w A c) (hl : c.length ≤ 1048576) (ho : ∀ l ∈ c, okL2 l) :
    Calls Tryz.prog 52 #[.slice A c.length q] w fun e w' => ∃ A' c', e = .returned (.slice A' c.length c') ∧ RowP PR w.heap.size w' (.slice A' c.length c') c ∧ Below w.heap.size w w' := by
  have hal : Below w.heap.size w (w.alloc (.cells #[] 58)) := (Below.refl _ _).alloc (Nat.le_refl _) _
  have hlit := RowP.lit PR w
  have HH := Lib.hid h
  have HO := Lib.hid ho
  clear h ho
  go_enter Tryz.func52, Tryz.ntmps52
  go_wp2
  go_loopw [3, 4] (fun a i wr => ∃ (k : Nat) (xs : List Ly) (A' : Option Addr) (c' : Nat), k ≤ c.length ∧ a = .slice A' xs.length c' ∧ i = .int .i64 k ∧ Hid (RowP PR w.heap.size wr (.slice A' xs.length c') xs) ∧ Below w.heap.size w wr ∧ Hid (xs = c.take k)) (fun _ i _ => c.length - (intOf i).toNat)
  case atStart => exact ⟨0, [], _, _, Nat.zero_le _, rfl, rfl, Lib.hid hlit, hal, Lib.hid (by simp)⟩
  case round =>
    obtain ⟨k, xs, A', c', hk, rfl, rfl, HROW, hb, HX⟩ := hrel
    clear hal hlit
    by_cases hlt : k < c.length
    · have hk1 : (k : Int) < c.length := by omega
      obtain ⟨ad, A1, c1, A2, c2, rfl, hf, e1, e2, hc1, hc2, hds, hts⟩ := (Lay.Sl.below HH.out hb (fun _ h => h)).at_layer hlt
      obtain ⟨ys, hys⟩ : ∃ ys, ys = xs ++ [c[k]] := ⟨_, rfl⟩
      have HYE : Hid (ys = c.take (k + 1)) := Lib.hid (by rw [hys, HX.out, List.take_succ_eq_append_getElem hlt])
      have HYS := Lib.hid hys
      have HXL : Hid (xs.length ≤ 1048576) := Lib.hid (by rw [HX.out, List.length_take]; omega)
      obtain ⟨ol1, ol2, ol3⟩ := HO.out _ (List.getElem_mem hlt)
      have HO3 := Lib.hid ol3
      have hB : A1 = none → c[k].ds.length = 0 := fun e => by
        rcases Nat.eq_zero_or_pos c[k].ds.length with h9 | h9
        · exact h9
        · obtain ⟨a9, e9, _⟩ := hds h9
          rw [e] at e9; cases e9
      have HBN := Lib.hid hB
      have HTS := Lib.hid hts
      generalize hll : c[k] = l at *
      have HLL := Lib.hid hll
      generalize wr = V at *
      have hal1 : Below V.heap.size V (V.alloc (.cells #[] 39)) := (Below.refl _ _).alloc (Nat.le_refl _) _
      have hown := own_lit0D V
      have hbV := Nat.lt_of_lt_of_le hf hb.size
      have hb1 : (ad.add (k * 2)).block < V.heap.size := by rw [block_of_add]; exact hbV
      have f1 := (hal1.cell (p := ad.add (k * 2)) hb1).trans e1
      have HE2 := Lib.hid e2
      have HSR := Lib.hid (src_decls (hds.below hal1 (fun b hb9 => Nat.lt_of_lt_of_le hb9 hb.size)))
      have hsz1 := hal1.size
      have HAL1 := Lib.hid hal1
      have HB := Lib.hid hb
      have hz0 : ([] : List D).length ≤ 2000000 := by simp
      have hz1 : l.ds.length ≤ 2000000 := by omega
      clear hys hB hds hts hll e1 e2 ol3 hal1 hb hf
      go_wp2_with (at_builtin; refine wpList_append_decls (xs := []) (ys := l.ds) (by rfl) (.tmp 14) (.tmp 19) (by rfl) (by rfl) (by rfl) hown HSR.out HBN.out hz0 hz1 hsz1 rfl ?_; intro A3 c3 w3 hown3 hb3 hg3; have HOWN := Lib.hid hown3; have HB3 := Lib.hid hb3; have HSZ3 := Lib.hid (Nat.le_trans hsz1 hb3.size); clear hown hown3 hb3 hg3 f1 hsz1)
      have hnb := heap_alloc_new w3 (.cells #[.slice A3 l.ds.length c3, .slice none 0 0] 58)
      have hal5 : Below w3.heap.size w3 (w3.alloc (.cells #[.slice A3 l.ds.length c3, .slice none 0 0] 58)) := (Below.refl _ _).alloc (Nat.le_refl _) _
      have HSZ5 : Hid ((w3.alloc (.cells #[.slice A3 l.ds.length c3, .slice none 0 0] 58)).heap.size = w3.heap.size + 1) := Lib.hid (by simp)
      have HNB := Lib.hid hnb
      have HAL5 := Lib.hid hal5
      clear hnb hal5
      generalize w3.alloc (.cells #[.slice A3 l.ds.length c3, .slice none 0 0] 58) = W5 at *
      have HVW : Hid (Below V.heap.size V W5) := Lib.hid ((HAL1.out.trans HB3.out).trans (HAL5.out.mono HSZ3.out))
      have HDS : Hid (OwnDs W5 V.heap.size (.slice A3 l.ds.length c3) l.ds) := Lib.hid (HOWN.out.up HAL5.out)
      have HDB : Hid (∀ g, (Value.slice A3 l.ds.length c3).ownBlock = some g → g < w3.heap.size) := Lib.hid (fun g hg => (HOWN.out.lt g hg).2)
      obtain ⟨p, hp⟩ : ∃ p, p = w3.heap.size := ⟨_, rfl⟩
      rw [← hp] at HSZ5 HNB HSZ3 HDB ⊢
      clear hp HOWN HB3 HSR HBN HAL1 HAL5
      obtain ⟨M, hM⟩ : ∃ M, M = W5.heap.size := ⟨_, rfl⟩
      have HM := Lib.hid hM
      rw [← hM] at HSZ5
      clear hM hz0 hz1
      go_loopw [6] (fun j wr => ∃ m : Nat, m ≤ l.ts.length ∧ j = .int .i64 m ∧ Hid (BoxY M p l.ds.length A3 c3 wr (l.ts.take m)) ∧ Hid (Gr (fun g => g = p ∨ M ≤ g) W5 wr)) (fun j _ => l.ts.length - (intOf j).toNat)
      case atStart => exact ⟨0, Nat.zero_le _, rfl, Lib.hid ⟨none, 0, HNB.out, RowTr.nil _ _⟩, Lib.hid (Gr.refl _ _)⟩
      case round =>
        obtain ⟨m, hm, rfl, HBT, HGR⟩ := hrel
        have HPW : Hid (p < W5.heap.size) := Lib.hid (by have := HSZ5.out; have := HM.out; omega)
        have HMW : Hid (M ≤ wr.heap.size) := Lib.hid (by rw [HM.out]; exact HGR.out.size)
        have HVr : Hid (Below V.heap.size V wr) := Lib.hid (HVW.out.trans (HGR.out.to_below' HVW.out.size (fun x hx => by have := HSZ3.out; have := HSZ5.out; omega)))
        have hw2 := (HVr.out.cell (p := ⟨(ad.add (k * 2)).block, (ad.add (k * 2)).off + 1, none⟩) hb1).trans HE2.out
        by_cases hlm : m < l.ts.length
        · have hm1 : (m : Int) < l.ts.length := by omega
          obtain ⟨B, b, hbx, hrow⟩ := HBT.out
          have hFV : ∀ g, g < w.heap.size → g < V.heap.size := fun g hg => Nat.lt_of_lt_of_le hg HB.out.size
          obtain ⟨ad2, A5, c5, rfl, hf2, t1, t2, t3, t4, t5, hcc, hkk⟩ := (HTS.out.below HVr.out hFV).at_term hlm
          obtain ⟨zs, hzs⟩ : ∃ zs, zs = l.ts.take m ++ [l.ts[m]] := ⟨_, rfl⟩
          have HZE : Hid (zs = l.ts.take (m + 1)) := Lib.hid (by rw [hzs, List.take_succ_eq_append_getElem hlm])
          have HZS := Lib.hid hzs
          have hxl : (l.ts.take m).length ≤ 2000000 := by rw [List.length_take]; omega
          generalize l.ts.take m = ts at *
          have HCP := Lib.hid (l3Copy_any l.ts[m] (HO3.out _ (List.getElem_mem hlm)) A5 c5 (fun g => g < w.heap.size))
          generalize hx : l.ts[m] = x at *
          have HXX := Lib.hid hx
          have HRW := Lib.hid hrow
          have HBX := Lib.hid hbx
          have HKK := Lib.hid hkk
          have HFL : Hid (∀ g, g < w.heap.size → g < wr.heap.size) := Lib.hid (fun g hg => Nat.lt_of_lt_of_le (hFV g hg) HVr.out.size)
          have z0 := Later.cell (cell_of_block HBX.out 1).1
          have z1 := Later.cell hw2
          have y0 := Later.cell t1
          have y1 := Later.cell t2
          have y2 := Later.cell t3
          have y3 := Later.cell t4
          have y4 := Later.cell t5
          clear hzs hkk hrow hbx t1 t2 t3 t4 t5 hx hFV hf2
          go_wp2
          clear hw2
          generalize wr = W1 at *
          refine wp_region_shares [[], [(0, 32)], [], [], [(2, 34), (3, 35)], [(4, 36)], [(5, 37)], [], [(6, 38), (7, 39)], [(8, 40)], [(9, 41)], [(10, 42)], [(1, 33), (11, 43)], [], [(13, 45), (12, 44)]]
            [.eq (.pointer (some ⟨p, 1, none⟩)), .eq (.slice B ts.length b), .eq (.slice (some ad) c.length q), .eq (.int .i64 (k : Int)), .eq (.pointer (some (ad.add (k * 2)))), .eq (.pointer (some ⟨(ad.add (k * 2)).block, (ad.add (k * 2)).off + 1, none⟩)), .eq (.slice (some ad2) l.ts.length c2), .eq (.int .i64 (m : Int)), .eq (.pointer (some (ad2.add (m * 5)))), .eq (.agg #[.int .i64 x.op, .int .i64 x.a, .int .i64 x.b, .string x.name, .slice A5 x.kids.length c5]), Fact.treeV M W1.heap.size x, Fact.treeL M W1.heap.size x, Fact.rowT M W1 (.slice B ts.length b) zs, .eq (.pointer (some ⟨p, 1, none⟩)), Fact.boxY M p l.ds.length A3 c3 W1 zs]
            [12, 14] [12, 14] [13, 14] [14] [(0, 32), (1, 33), (2, 34), (3, 35), (4, 36), (5, 37), (6, 38), (7, 39), (8, 40), (9, 41), (10, 42), (11, 43), (12, 44), (13, 45)] (by kernel_rfl) (by kernel_rfl) (by kernel_rfl) (by kernel_rfl)
            ⟨?_, ?_, ?_, ?_, ?_, ?_, ?_, ?_, ?_, ?_, ?_, ?_, ?_, ?_, ?_, trivial⟩ ?_
          · intro vals z hC hF
            simp only [putsD, Act.put, List.setIfInBounds_toArray, List.set_cons_zero, List.set_cons_succ]
            go_wp2
            exact ⟨rfl, rfl, .inr (Below.refl _ _), .inr (.inl (by simp))⟩
          · intro vals z hC hF
            have hC := hC.resolve_left (by simp)
            have hsz := hC.size
            have e1 : z.cell? _ = _ := z0 ⟨z, hC⟩
            simp only [factsD, List.getD_cons_zero, List.getD_cons_succ, Fact.eq, Fact.row, Fact.lit, Fact.lit0, Fact.of, and_true, Fact.treeV, Fact.treeL, Fact.rowT, Fact.boxY] at hF
            simp only [putsD, Act.put, List.setIfInBounds_toArray, List.set_cons_zero, List.set_cons_succ]
            simp only [hF]
            go_wp2
            exact ⟨rfl, rfl, .inr (Below.refl _ _), .inr (.inl (by simp))⟩
          · intro vals z hC hF
            simp only [putsD, Act.put, List.setIfInBounds_toArray, List.set_cons_zero, List.set_cons_succ]
            go_wp2
            exact ⟨rfl, rfl, .inr (Below.refl _ _), .inr (.inl (by simp))⟩
          · intro vals z hC hF
            simp only [putsD, Act.put, List.setIfInBounds_toArray, List.set_cons_zero, List.set_cons_succ]
            go_wp2
            exact ⟨rfl, rfl, .inr (Below.refl _ _), .inr (.inl (by simp))⟩
          · intro vals z hC hF
            simp only [factsD, List.getD_cons_zero, List.getD_cons_succ, Fact.eq, Fact.row, Fact.lit, Fact.lit0, Fact.of, and_true, Fact.treeV, Fact.treeL, Fact.rowT, Fact.boxY] at hF
            obtain ⟨e1, e2⟩ := hF
            simp only [putsD, Act.put, List.setIfInBounds_toArray, List.set_cons_zero, List.set_cons_succ]
            simp only [e1, e2]
            go_wp2
            exact ⟨rfl, rfl, .inr (Below.refl _ _), .inr (.inl (by simp))⟩
          · intro vals z hC hF
            simp only [factsD, List.getD_cons_zero, List.getD_cons_succ, Fact.eq, Fact.row, Fact.lit, Fact.lit0, Fact.of, and_true, Fact.treeV, Fact.treeL, Fact.rowT, Fact.boxY] at hF
            simp only [putsD, Act.put, List.setIfInBounds_toArray, List.set_cons_zero, List.set_cons_succ]
            simp only [hF]
            go_wp2
            exact ⟨rfl, rfl, .inr (Below.refl _ _), .inr (.inl (by simp))⟩
          · intro vals z hC hF
            have hC := hC.resolve_left (by simp)
            have hsz := hC.size
            have e1 : z.cell? _ = _ := z1 ⟨z, hC⟩
            simp only [factsD, List.getD_cons_zero, List.getD_cons_succ, Fact.eq, Fact.row, Fact.lit, Fact.lit0, Fact.of, and_true, Fact.treeV, Fact.treeL, Fact.rowT, Fact.boxY] at hF
            simp only [putsD, Act.put, List.setIfInBounds_toArray, List.set_cons_zero, List.set_cons_succ]
            simp only [hF]
            go_wp2
            exact ⟨rfl, rfl, .inr (Below.refl _ _), .inr (.inl (by simp))⟩
          · intro vals z hC hF
            simp only [putsD, Act.put, List.setIfInBounds_toArray, List.set_cons_zero, List.set_cons_succ]
            go_wp2
            exact ⟨rfl, rfl, .inr (Below.refl _ _), .inr (.inl (by simp))⟩
          · intro vals z hC hF
            simp only [factsD, List.getD_cons_zero, List.getD_cons_succ, Fact.eq, Fact.row, Fact.lit, Fact.lit0, Fact.of, and_true, Fact.treeV, Fact.treeL, Fact.rowT, Fact.boxY] at hF
            obtain ⟨e1, e2⟩ := hF
            simp only [putsD, Act.put, List.setIfInBounds_toArray, List.set_cons_zero, List.set_cons_succ]
            simp only [e1, e2]
            go_wp2
            exact ⟨rfl, rfl, .inr (Below.refl _ _), .inr (.inl (by simp))⟩
          · intro vals z hC hF
            have hC := hC.resolve_left (by simp)
            have hsz := hC.size
            have e1 : z.cell? _ = _ := y0 ⟨z, hC⟩
            have e2 : z.cell? _ = _ := y1 ⟨z, hC⟩
            have e3 : z.cell? _ = _ := y2 ⟨z, hC⟩
            have e4 : z.cell? _ = _ := y3 ⟨z, hC⟩
            have e5 : z.cell? _ = _ := y4 ⟨z, hC⟩
            simp only [factsD, List.getD_cons_zero, List.getD_cons_succ, Fact.eq, Fact.row, Fact.lit, Fact.lit0, Fact.of, and_true, Fact.treeV, Fact.treeL, Fact.rowT, Fact.boxY] at hF
            have e9 := hF
            simp only [putsD, Act.put, List.setIfInBounds_toArray, List.set_cons_zero, List.set_cons_succ]
            simp only [e9]
            go_wp2
            exact ⟨rfl, rfl, .inr (Below.refl _ _), .inr (.inl (by simp))⟩
          · intro vals z hC hF
            have hC := hC.resolve_left (by simp)
            have hsz := hC.size
            simp only [factsD, List.getD_cons_zero, List.getD_cons_succ, Fact.eq, Fact.row, Fact.lit, Fact.lit0, Fact.of, and_true, Fact.treeV, Fact.treeL, Fact.rowT, Fact.boxY] at hF
            have e1 := hF
            simp only [putsD, Act.put, List.setIfInBounds_toArray, List.set_cons_zero, List.set_cons_succ]
            simp only [e1]
            have HC9 := Lib.hid (HCP.out z (HKK.out.below hC HFL.out) (fun g hg => Nat.lt_of_lt_of_le (HFL.out g hg) hsz))
            go_wp2_with fail
            refine HC9.out.mono ?_
            rintro e w9 ⟨A9, c9, rfl, hc9, ht9, hb9⟩
            have HT9 : Hid (TrS w9 (fun g => W1.heap.size ≤ g ∧ OwnB9 M w9 g) A9 x.kids) := Lib.hid (TrT.mono ht9 fun g hg => ⟨Nat.le_trans hsz hg.1, hg.le (Nat.le_trans HMW.out hsz)⟩)
            clear ht9
            go_wp2
            exact ⟨rfl, ⟨A9, c9, rfl, hc9, HT9.out⟩, .inr hb9, .inr (.inl (by simp))⟩
          · intro vals z hC hF
            have hC := hC.resolve_left (by simp)
            have hsz := hC.size
            simp only [factsD, List.getD_cons_zero, List.getD_cons_succ, Fact.eq, Fact.row, Fact.lit, Fact.lit0, Fact.of, and_true, Fact.treeV, Fact.treeL, Fact.rowT, Fact.boxY] at hF
            obtain ⟨A9, c9, e1, hc9, ht9⟩ := hF
            have e1 : vals 10 = .agg #[.int .i64 x.op, .int .i64 x.a, .int .i64 x.b, .string x.name, .slice A9 x.kids.length c9] := e1
            simp only [putsD, Act.put, List.setIfInBounds_toArray, List.set_cons_zero, List.set_cons_succ]
            simp only [e1]
            have hal9 : Below z.heap.size z (z.alloc (.cells (tcells x A9 c9).toArray 48)) := (Below.refl _ _).alloc (Nat.le_refl _) _
            go_wp2
            exact ⟨rfl, ⟨_, A9, c9, rfl, heap_alloc_new _ _, hc9, TrS.up (F := fun _ => True) ht9 hal9⟩, .inr hal9, .inr (.inl (by simp))⟩
          · intro vals z hC hF
            have hC := hC.resolve_left (by simp)
            have hsz := hC.size
            simp only [factsD, List.getD_cons_zero, List.getD_cons_succ, Fact.eq, Fact.row, Fact.lit, Fact.lit0, Fact.of, and_true, Fact.treeV, Fact.treeL, Fact.rowT, Fact.boxY] at hF
            obtain ⟨e5, b5, A9, c9, e7, hb5, hc9, ht9⟩ := hF
            have hrz := HRW.out.up hC
            simp only [putsD, Act.put, List.setIfInBounds_toArray, List.set_cons_zero, List.set_cons_succ]
            simp only [e5, e7]
            refine wpList_append_tree (ys := zs) (by rfl) (.tmp 33) (.tmp 43) (by rfl) (by rfl) (by rfl) hrz (Nat.le_trans HMW.out hsz) hxl ht9 hc9 hb5 (fun g hg e9 => by have := (HRW.out.lt g e9).2; omega) ⟨W1, Nat.le_refl _, hC, HRW.out⟩ HZS.out ?_
            intro A8 c8 w8 hown8 hg8
            exact ⟨rfl, ⟨A8, c8, rfl, hown8, below_grown hC hg8⟩, .inl (by simp), .inl (by simp)⟩
          · intro vals z hC hF
            simp only [putsD, Act.put, List.setIfInBounds_toArray, List.set_cons_zero, List.set_cons_succ]
            go_wp2
            exact ⟨rfl, rfl, .inr (Below.refl _ _), .inr (.inl (by simp))⟩
          · intro vals z hC hF
            simp only [factsD, List.getD_cons_zero, List.getD_cons_succ, Fact.eq, Fact.row, Fact.lit, Fact.lit0, Fact.of, and_true, Fact.treeV, Fact.treeL, Fact.rowT, Fact.boxY] at hF
            obtain ⟨e11, A8, c8, e8, hown8, hg8⟩ := hF
            have hpx := (hg8.block p (lt_of_block HBX.out) (fun e => by have := (HRW.out.lt p e.symm).1; have := HSZ5.out; omega)).trans HBX.out
            have x1 := (cell_of_block hpx 1).1
            have x2 := (cell_of_block hpx 1).2
            have HRF := Lib.hid (hown8.far ⟨p, 1, none⟩ (.slice A8 zs.length c8) (by show p < M; have := HSZ5.out; omega))
            have HPX := Lib.hid (heap_set_same z p 1 (.slice A8 zs.length c8) _ _ hpx)
            have HGN : Hid (Gr (fun g => g = p ∨ M ≤ g) W1 (z.setCell ⟨p, 1, none⟩ (.slice A8 zs.length c8))) := Lib.hid (Gr.set (Gr.mono (S := fun g => M ≤ g) ⟨hg8.os, hg8.tape, hg8.output, hg8.size, fun i hi hn => hg8.block i hi (fun e => hn (HRW.out.lt i e.symm).1)⟩ fun _ h => .inr h) p 1 _ (.inl (.inl rfl)))
            clear hpx
            simp only [putsD, Act.put, List.setIfInBounds_toArray, List.set_cons_zero, List.set_cons_succ]
            simp only [e11, e8]
            go_wp2
            exact ⟨rfl, ⟨⟨A8, c8, HPX.out, HRF.out⟩, HGN.out, lt_of_block HBX.out⟩, .inl (by simp), .inl (by simp)⟩
          · intro vals z hF
            simp only [facts, List.getD_cons_zero, List.getD_cons_succ, Fact.eq, Fact.row, Fact.lit, Fact.lit0, Fact.of, and_true, Fact.treeV, Fact.treeL, Fact.rowT, Fact.boxY] at hF
            obtain ⟨hbt, hgn, hpl⟩ := hF
            simp only [putsD, Act.put, List.setIfInBounds_toArray, List.set_cons_zero, List.set_cons_succ]
            have HGN := Lib.hid (HGR.out.trans hgn)
            have HBN := Lib.hid hbt
            clear hbt hgn hpl z0 z1 y0 y1 y2 y3 y4
            go_wp2
            go_roundw
            case rel => exact ⟨m + 1, by omega, by go_num, by rw [← HZE.out]; exact HBN, HGN⟩
            case measure => simp [intOf]; omega
        · have hme : m = l.ts.length := by omega
          subst hme
          have HBE := HBT.out
          rw [List.take_length] at HBE
          obtain ⟨B, b, hbx, hrow⟩ := HBE
          have v0 := (cell_of_block hbx 0).1
          have v1 := (cell_of_block hbx 1).1
          have HPR : Hid (PR wr V.heap.size wr.heap.size (.slice A3 l.ds.length c3) (.slice B l.ts.length b) l) := Lib.hid ⟨M, A3, c3, B, b, rfl, rfl, by have := HSZ3.out; have := HSZ5.out; omega, HMW.out, fun g hg => by have := HDB.out g hg; have := HSZ5.out; omega,
            own_of_heap HDS.out fun g hg => HGR.out.block g (by have := HDB.out g hg; have := HPW.out; omega) (fun e => by have := HDB.out g hg; have := HSZ5.out; omega), RowU.of hrow⟩
          have hal7 : Below wr.heap.size wr (wr.alloc (.cells #[.slice A3 l.ds.length c3, .slice B l.ts.length b] 58)) := (Below.refl _ _).alloc (Nat.le_refl _) _
          have hn7 := heap_alloc_new wr (.cells #[.slice A3 l.ds.length c3, .slice B l.ts.length b] 58)
          have HP7 : Hid (PR (wr.alloc (.cells #[.slice A3 l.ds.length c3, .slice B l.ts.length b] 58)) V.heap.size wr.heap.size (.slice A3 l.ds.length c3) (.slice B l.ts.length b) l) := Lib.hid (stay_PR _ _ _ _ _ _ _ HPR.out hal7.size fun g _ h9 => hal7.block g h9)
          have HB7 := Lib.hid (bthen HB.out (bthen HVr.out hal7))
          have HV7 := Lib.hid (bthen HVr.out hal7)
          have HS7 := Lib.hid hal7.size
          have HN7 := Lib.hid hn7
          clear hal7 hn7 hbx hrow
          go_wp2_with (at_builtin; refine wpList_append_layer stay_PR (ys := ys) (S0 := V.heap.size) (E0 := wr.heap.size) (l := l) (lo := w.heap.size) (vd := .slice A3 l.ds.length c3) (vt := .slice B l.ts.length b) (by rfl) (.tmp 46) (.tmp 48) (by rfl) (by rfl) (by rfl) HB.out.size HXL.out HP7.out HVr.out.size HS7.out rfl rfl HN7.out ⟨V, Nat.le_refl _, HV7.out, HROW.out⟩ (by rw [HYS.out]) ?_; intro A8 c8 w8 hr8 hg8; have HR8 := Lib.hid hr8; have HB8 : Hid (Below w.heap.size w w8) := Lib.hid (HB7.out.grown hg8 (Nat.le_trans HB.out.size (Nat.le_trans HVr.out.size HS7.out)) (fun g e => (HROW.out.lt g e).1)); clear hr8 hg8)
          go_roundw
          case rel => exact ⟨k + 1, ys, A8, c8, by omega, rfl, by go_num, HR8, HB8.out, HYE⟩
          case measure => simp [intOf]; omega
    · have hke : k = c.length := by omega
      subst hke
      have HE : Hid (xs = c) := Lib.hid (by rw [HX.out, List.take_length])
      go_wp2
      go_ret
      rw [← HE.out]
      exact ⟨_, _, rfl, HROW.out, hb⟩
end Go.Proofs.YtiahmfpfimmbgaaGreatDoor

/-! What the reference hands back is only read; the reference's CtxTerms. -/
namespace Go.Proofs.YtiahmfpfimmbgaaGreatDoor
open Go Go.RowKit Go.ChangeShapes Go.WideShapes Go.ChangeAt Go.Deep

/-- It may be read. -/
def RdO {α : Type} (L : Lay α) (w : World) (A : Option Addr) (xs : List α) : Prop := L.Rd w A xs
/-- It may be read, and lay there when the heap was hi long. -/
def RdB {α : Type} (L : Lay α) (hi : Nat) (w : World) (A : Option Addr) (xs : List α) : Prop := hi ≤ w.heap.size ∧ L.Sl w (fun b => b < hi) A xs
section
variable {α : Type} {L : Lay α} {w w' : World} {hi : Nat} {A : Option Addr} {xs : List α}
theorem RdO.cp_of (h : RdO L w A xs) : RdB L w.heap.size w A xs := ⟨Nat.le_refl _, h⟩
theorem RdO.nil (L : Lay α) (w : World) (A : Option Addr) : RdO L w A [] := by unfold RdO; exact Lay.Sl.nil _ _ _ _
theorem RdB.cp_rd (h : RdB L hi w A xs) : L.Rd w A xs := h.2.mono fun _ h9 => Nat.lt_of_lt_of_le h9 h.1
end
theorem RowP.map {P P' : LyF} (hP : ∀ w S E vd vt l, P w S E vd vt l → P' w S E vd vt l) {lo : Nat} {w : World} {v : Value} {ls : List Ly} (h : RowP P lo w v ls) : RowP P' lo w v ls := by
  obtain ⟨cs, h1, S, E, Vd, Vt, h2, h3⟩ := h
  exact ⟨cs, h1, S, E, Vd, Vt, fun k l hl => by
    obtain ⟨g1, g2, g3, g6, g7⟩ := h2 k l hl
    exact ⟨g1, g2, g3, g6, hP _ _ _ _ _ _ g7⟩, h3⟩
theorem RowP.rdR {lo c : Nat} {w : World} {A : Option Addr} {ls : List Ly} (h : RowP PR lo w (.slice A ls.length c) ls) : Lay.layer.Rd w A ls := TrG.cp_rd (RowP.cp_of (RowP.map (fun _ _ _ _ _ _ => PR.pp) h))
theorem RowP.cap {P : LyF} {lo c n : Nat} {w : World} {A : Option Addr} {ls : List Ly} (h : RowP P lo w (.slice A n c) ls) : n = ls.length ∧ ls.length ≤ c := by
  obtain ⟨A', c', e, hl⟩ := h.form
  injection e with e1 e2 e3
  exact ⟨e2, by omega⟩
end Go.Proofs.YtiahmfpfimmbgaaGreatDoor

/-! Changed contexts as answers: comparisons, marks; CtxPush. -/
namespace Go.Proofs.YtiahmfpfimmbgaaGreatDoor
open Go Go.RowKit Go.ChangeShapes Go.WideShapes Go.ChangeAt Go.Deep

def ctxPush (c : List Ly) : List Ly × Bool := ctxCh c (c ++ [⟨[], []⟩])
/-- Layers and a yes or no are handed back that may be read. -/
def RetRd2 (r : List Ly × Bool) (w : World) (e : Ending) (w' : World) : Prop := ∃ A c, e = .returned (.tuple #[.slice A r.1.length c, .bool r.2]) ∧ r.1.length ≤ c ∧ RdO Lay.layer w' A r.1 ∧ Below w.heap.size w w'
set_option maxRecDepth 100000 in
set_option maxHeartbeats 2000000 in
theorem l10Now_any (c x : List Ly) (A B : Option Addr) (q b : Nat) (w : World) (h : Lay.layer.Rd w A c) (h' : Lay.layer.Rd w B x) (hb : x.length ≤ b) (hl : c.length ≤ 1048576) (ho : ∀ l ∈ c, okL2 l) (hx : okC x) :
    Calls Tryz.prog 60 #[.slice A c.length q, .slice B x.length b] w (RetRd2 (if ctxOk x = true then (x, true) else (c, false)) w) := by
  have HO := Lib.hid (specCtxOk_any B b x w h' hb hx)
  have HCP := Lib.hid (fun (z : World) (hz : Lay.layer.Rd z A c) => l10Copy_any A q c z hz hl ho)
  obtain ⟨r, hr⟩ : ∃ r, r = ctxOk x := ⟨_, rfl⟩
  rw [← hr] at HO ⊢
  have H := Lib.hid h
  have H' := Lib.hid h'
  have HBB := Lib.hid hb
  obtain ⟨s9, hs9⟩ : ∃ s9, s9 = if r = true then (x, true) else (c, false) := ⟨_, rfl⟩
  have HS9 := Lib.hid hs9
  rw [← hs9]
  clear hr h h' hb ho hx hs9
  go_enter Tryz.func60, Tryz.ntmps60
  go_wp2_with fail
  refine HO.out.mono ?_
  rintro e w2 ⟨rfl, hb2⟩
  have HB2 := Lib.hid hb2
  clear hb2
  cases r
  · have HLC := Lib.hid (HCP.out w2 (H.out.up HB2.out))
    go_wp2_with fail
    refine HLC.out.mono ?_
    rintro e w3 ⟨A3, c3, rfl, ho, hb3⟩
    have HB3 := Lib.hid (bthen HB2.out hb3)
    have HO3 := Lib.hid ho
    clear ho hb3
    go_wp2
    refine bodyPost_ret (v := .tuple #[.slice A3 c.length c3, .bool false]) (by simp [results, Tryz.results60, go_sem]) rfl ?_
    rw [show s9 = (c, false) from HS9.out]
    exact ⟨A3, c3, rfl, HO3.out.cap.2, HO3.out.rdR, HB3.out⟩
  · go_wp2
    refine bodyPost_ret (v := .tuple #[.slice B x.length b, .bool true]) (by simp [results, Tryz.results60, go_sem]) rfl ?_
    rw [show s9 = (x, true) from HS9.out]
    exact ⟨B, b, rfl, HBB.out, H'.out.up HB2.out, HB2.out⟩
theorem pr_none (w : World) : PR w w.heap.size w.heap.size (.slice none 0 0) (.slice none 0 0) ⟨[], []⟩ :=
  ⟨w.heap.size, none, 0, none, 0, rfl, rfl, Nat.le_refl _, Nat.le_refl _, fun g hg => (by cases hg), World.ownsRow_nil _ _ _ _, RowU.of (RowTr.nil _ _)⟩
set_option maxRecDepth 100000 in
set_option maxHeartbeats 4000000 in
theorem specCtxPush_c (c : List Ly) (A : Option Addr) (q : Nat) (w : World) (h : Lay.layer.Rd w A c) (hq : c.length ≤ q) (hs : okC c) :
    Calls Tryz.prog 21 #[.slice A c.length q] w (RetRd2 (ctxPush c) w) := by
  have hc := hs
  have HO := Lib.hid (specCtxOk_any A q c w h hq hc)
  have HCP := Lib.hid (fun (z : World) (hz : Lay.layer.Rd z A c) => l10Copy_any A q c z hz hc.len (okC_l2 hs))
  obtain ⟨r, hr⟩ : ∃ r, r = ctxOk c := ⟨_, rfl⟩
  rw [← hr] at HO
  obtain ⟨x, hx⟩ : ∃ x, x = c ++ [(⟨[], []⟩ : Ly)] := ⟨_, rfl⟩
  have HXX := Lib.hid hx
  have HX : Hid (ctxPush c = if r = true then (if ctxOk x = true then (x, true) else (c, false)) else ([], false)) := Lib.hid (by rw [hr, hx]; rfl)
  have HOX : Hid (r = true → okC x) := Lib.hid (fun e => by rw [hx]; exact hc.push (by rw [← hr]; exact e))
  have HN := Lib.hid (fun (B : Option Addr) (b : Nat) (z : World) (hz : Lay.layer.Rd z A c) (hz' : Lay.layer.Rd z B x) (hb : x.length ≤ b) (hr : r = true) => l10Now_any c x A B q b z hz hz' hb hc.len (okC_l2 hs) (HOX.out hr))
  have hcl := hc.len
  have H := Lib.hid h
  clear hc hr hs h hx
  go_enter Tryz.func21, Tryz.ntmps21
  go_wp2_with fail
  refine HO.out.mono ?_
  rintro e w2 ⟨rfl, hb2⟩
  have HB2 := Lib.hid hb2
  cases r
  · have hal := hb2.alloc hb2.size (.cells #[] 58)
    have HAL := Lib.hid hal
    clear hal hb2
    go_wp2
    refine bodyPost_ret (v := .tuple #[.slice (some ⟨w2.heap.size, 0, none⟩) 0 0, .bool false]) (by simp [results, Tryz.results21, go_sem]) rfl ?_
    rw [show ctxPush c = ([], false) from by rw [HX.out]; rfl]
    exact ⟨_, _, rfl, Nat.zero_le _, RdO.nil _ _ _, HAL.out⟩
  · have HLC := Lib.hid (HCP.out w2 (H.out.up HB2.out))
    clear hb2
    go_wp2_with fail
    refine HLC.out.mono ?_
    rintro e w3 ⟨A3, c3, rfl, ho, hb3⟩
    have HB3 := Lib.hid (bthen HB2.out hb3)
    have HO3 := Lib.hid ho
    have hal : Below w3.heap.size w3 (w3.alloc (.cells #[.slice none 0 0, .slice none 0 0] 58)) := (Below.refl _ _).alloc (Nat.le_refl _) _
    have hnb := heap_alloc_new w3 (.cells #[.slice none 0 0, .slice none 0 0] 58)
    have HPN : Hid (PR (w3.alloc (.cells #[.slice none 0 0, .slice none 0 0] 58)) w3.heap.size w3.heap.size (.slice none 0 0) (.slice none 0 0) ⟨[], []⟩) := Lib.hid (stay_PR _ _ _ _ _ _ _ (pr_none w3) hal.size fun g _ h9 => hal.block g h9)
    have HNB := Lib.hid hnb
    have HAL := Lib.hid hal
    have hsz := hal.size
    have hlo := hb3.size
    clear ho hb3 hal hnb HLC
    go_wp2_with (at_builtin; refine wpList_append_layer stay_PR (ys := x) (S0 := w3.heap.size) (E0 := w3.heap.size) (l := ⟨[], []⟩) (lo := w2.heap.size) (vd := .slice none 0 0) (vt := .slice none 0 0) (by rfl) (.tmp 10) (.tmp 12) (by rfl) (by rfl) (by rfl) hlo hcl HPN.out (Nat.le_refl _) hsz rfl rfl HNB.out ⟨w3, Nat.le_refl _, HAL.out, HO3.out⟩ HXX.out ?_; intro A8 c8 w8 hr8 hg8; have HR8 := Lib.hid hr8; have HB8 : Hid (Below w.heap.size w w8) := Lib.hid ((bthen HB3.out HAL.out).grown hg8 (Nat.le_trans HB3.out.size hsz) (fun g e => Nat.le_trans HB2.out.size (HO3.out.lt g e).1)); clear hr8 hg8 hsz hlo)
    refine (HN.out A8 c8 w8 (H.out.up HB8.out) HR8.out.rdR HR8.out.cap.2 trivial).mono ?_
    rintro e w9 ⟨A9, c9, rfl, hc9, hr9, hb9⟩
    have HRR := Lib.hid (And.intro hc9 (And.intro hr9 (bthen HB8.out hb9)))
    clear hc9 hr9 hb9
    have HXE : Hid (ctxPush c = if ctxOk x = true then (x, true) else (c, false)) := Lib.hid (by rw [HX.out]; rfl)
    clear HX
    generalize (if ctxOk x = true then (x, true) else (c, false)) = s9 at *
    go_wp2
    refine bodyPost_ret (v := .tuple #[.slice A9 s9.1.length c9, .bool s9.2]) (by simp [results, Tryz.results21, go_sem]) rfl ?_
    rw [HXE.out]
    exact ⟨A9, c9, rfl, HRR.out.1, HRR.out.2.1, HRR.out.2.2⟩
end Go.Proofs.YtiahmfpfimmbgaaGreatDoor

/-! CtxName and CtxAssert, the program's. -/
namespace Go.Proofs.YtiahmfpfimmbgaaGreatDoor
open Go Go.RowKit Go.ChangeShapes Go.WideShapes Go.ChangeAt Go.Deep

def ctxName (c : List Ly) (d : D) : List Ly × Bool := ctxCh c (addD c d)
def ctxAssert (c : List Ly) (t : T) : List Ly × Bool := ctxCh c (addT c t)
def smD (d : D) : Prop := d.name.size ≤ 1048576 ∧ okInt d.wide
theorem addD_app (xs : List Ly) (l : Ly) (d : D) : addD (xs ++ [l]) d = xs ++ [⟨l.ds ++ [d], l.ts⟩] := onLast_app _ xs l
theorem addT_app (xs : List Ly) (l : Ly) (t : T) : addT (xs ++ [l]) t = xs ++ [⟨l.ds, l.ts ++ [t]⟩] := onLast_app _ xs l
theorem okC_addD9 {c : List Ly} {d : D} (h : okC c) (hk : ctxOk c = true) (hd : smD d) : okC (addD c d) := by
  obtain ⟨xs, l, rfl⟩ := last_of (ctxOk_parts hk).1
  rw [addD_app]
  exact h.addD hk (by have := hd.1; omega)
theorem okC_addT9 {c : List Ly} {t : T} (h : okC c) (hk : ctxOk c = true) (ht : T.All okT3 t) : okC (addT c t) := by
  obtain ⟨xs, l, rfl⟩ := last_of (ctxOk_parts hk).1
  rw [addT_app]
  exact h.addT hk ht
theorem RetCh.low {r : List Ly × Bool} {w w0 : World} {e : Ending} {w' : World} (h : RetCh r w0 e w') (hb : Below w.heap.size w w0) : RetCh r w e w' := by
  obtain ⟨A, c, h1, h2, h3, h4⟩ := h
  exact ⟨A, c, h1, h2, h3.low hb.size, bthen hb h4⟩
end Go.Proofs.YtiahmfpfimmbgaaGreatDoor
