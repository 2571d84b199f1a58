/- Marks of terms and layers. Marked declarations are held. Contexts as arguments of the exact laws; CtxDecls. Terms whose rows lie apart from each other: trees. No program is named here. A row of trees of the call's own that grows. The program's copyTerm. -/
import Derived.Test.YtiahmfpfimmbgaaGreatDoorJExCtxAssert0
import Derived.Test.YtiahmfpfimmbgaaGreatDoorJExCtxAssert3
import Derived.Test.YtiahmfpfimmbgaaGreatDoorJExCtxAssert8
import Derived.Test.YtiahmfpfimmbgaaGreatDoorJExCtxAssert9
/-! Marks of terms and layers. -/
namespace Go.Proofs.YtiahmfpfimmbgaaGreatDoor
open Go Go.RowKit Go.ChangeShapes Go.WideShapes Go.ChangeAt Go.Deep

/-- The kids of the term t lie at A, and theirs below them; all may be written. -/
inductive ShT (w : World) (F : Nat → Prop) : T → Option Addr → Prop
  | mk (t : T) (A : Option Addr) (Ak : Nat → Option Addr) (ck : Nat → Nat)
      (h : 0 < t.kids.length → ∃ ad, A = some ad ∧ F ad.block ∧ ∀ k, k < t.kids.length → (∃ o, w.cell? (ad.add (k * 5)) = some (.int .i64 o)) ∧ (∃ o, w.cell? (ad.add (k * 5 + 1)) = some (.int .i64 o)) ∧ (∃ o, w.cell? (ad.add (k * 5 + 2)) = some (.int .i64 o)) ∧ (∃ s, w.cell? (ad.add (k * 5 + 3)) = some (.string s)) ∧
        (∀ x, t.kids[k]? = some x → w.cell? (ad.add (k * 5 + 4)) = some (.slice (Ak k) x.kids.length (ck k))) ∧ ∀ j, w.frozen? (ad.add j) = false)
      (hk : ∀ k x, t.kids[k]? = some x → ShT w F x (Ak k)) : ShT w F t A
theorem ShT.dab {w w' : World} {F G : Nat → Prop} {t : T} {A : Option Addr} (h : ShT w F t A) (hd : Dab G w w') : ShT w' F t A := by
  induction h with
  | mk t A Ak ck h hk ih =>
    refine .mk t A Ak ck (fun h0 => ?_) ih
    obtain ⟨ad, e, hf, hc⟩ := h h0
    refine ⟨ad, e, hf, fun k hlt => ?_⟩
    obtain ⟨⟨o0, h0⟩, ⟨o1, h1⟩, ⟨o2, h2⟩, ⟨s3, h3⟩, h4, hfz⟩ := hc k hlt
    have hlb : ad.block < w.heap.size := by have := World.block_lt_of_cell? w _ h0; rwa [block_of_add] at this
    obtain ⟨v0, g0, q0⟩ := hd.kin _ _ h0
    obtain ⟨b0, rfl⟩ := q0.ofInt
    obtain ⟨v1, g1, q1⟩ := hd.kin _ _ h1
    obtain ⟨b1, rfl⟩ := q1.ofInt
    obtain ⟨v2, g2, q2⟩ := hd.kin _ _ h2
    obtain ⟨b2, rfl⟩ := q2.ofInt
    obtain ⟨v3, g3, q3⟩ := hd.kin _ _ h3
    obtain ⟨b3, rfl⟩ := q3.ofStr
    refine ⟨⟨_, g0⟩, ⟨_, g1⟩, ⟨_, g2⟩, ⟨_, g3⟩, fun x hx => ?_, fun j => (hd.frz _ (by rw [block_of_add]; exact hlb)).trans (hfz j)⟩
    obtain ⟨v4, g4, q4⟩ := hd.kin _ _ (h4 x hx)
    rw [q4.ofSlice] at g4
    exact g4
theorem ShT.of {w : World} {F : Nat → Prop} (hF : ∀ b, F b → ∀ o, w.frozen? ⟨b, o, none⟩ = false) (t : T) : ∀ (A : Option Addr), Lay.term.Sl w F A t.kids → ShT w F t A := by
  refine T.ind (p := fun t => ∀ (A : Option Addr), Lay.term.Sl w F A t.kids → ShT w F t A) (fun t ih A h => ?_) t
  have hch : ∀ k, ∃ p : Option Addr × Nat, ∀ x, t.kids[k]? = some x → (∀ ad, A = some ad → w.cell? (ad.add (k * 5 + 4)) = some (.slice p.1 x.kids.length p.2)) ∧ Lay.term.Sl w F p.1 x.kids := fun k => by
    by_cases hk : k < t.kids.length
    · obtain ⟨ad, e, hf, hc⟩ := h (by omega)
      obtain ⟨vs, hr, hcell⟩ := hc k t.kids[k] (List.getElem?_eq_getElem hk)
      obtain ⟨A', c', rfl, _, hs⟩ := TermR.form hr
      refine ⟨(A', c'), fun x hx => ?_⟩
      rw [List.getElem?_eq_getElem hk] at hx
      injection hx with hx
      subst hx
      refine ⟨fun ad' e' => ?_, hs⟩
      rw [e] at e'; injection e' with e'; subst e'
      exact hcell 4 _ rfl
    · exact ⟨(none, 0), fun x hx => by rw [List.getElem?_eq_none (by omega)] at hx; cases hx⟩
  obtain ⟨f, hf⟩ := Classical.axiomOfChoice hch
  refine .mk t A (fun k => (f k).1) (fun k => (f k).2) (fun h0 => ?_) (fun k x hx => ih x (List.mem_of_getElem? hx) _ (hf k x hx).2)
  obtain ⟨ad, e, hfb, hc⟩ := h h0
  refine ⟨ad, e, hfb, fun k hlt => ?_⟩
  obtain ⟨vs, hr, hcell⟩ := hc k t.kids[k] (List.getElem?_eq_getElem hlt)
  obtain ⟨A', c', rfl, _, _⟩ := TermR.form hr
  refine ⟨⟨_, hcell 0 _ rfl⟩, ⟨_, hcell 1 _ rfl⟩, ⟨_, hcell 2 _ rfl⟩, ⟨_, hcell 3 _ rfl⟩, fun x hx => (hf k x hx).1 ad e, fun j => ?_⟩
  have := hF _ hfb (ad.add j).off
  rw [← this]
  unfold World.frozen?
  rw [block_of_add]
theorem sizeL_take (ks : List T) (k : Nat) (h : k < ks.length) : T.sizeL (ks.take (k + 1)) = T.sizeL (ks.take k) + (1 + T.sizeL ks[k].kids) := by
  induction ks generalizing k with
  | nil => simp at h
  | cons x xs ih =>
    obtain ⟨o, a, b, n, ks⟩ := x
    cases k with
    | zero => simp [T.sizeL, T.size, T.kids]
    | succ k =>
      have := ih k (by simpa using h)
      simp only [List.take_succ_cons, T.sizeL, List.getElem_cons_succ] at this ⊢
      omega
theorem sizeL_take_le (ks : List T) (k : Nat) : T.sizeL (ks.take k) ≤ T.sizeL ks := by
  induction ks generalizing k with
  | nil => simp
  | cons x xs ih =>
    cases k with
    | zero => simp [T.sizeL]
    | succ k => simp only [List.take_succ_cons, T.sizeL]; have := ih k; omega
theorem ad_f (ad : Addr) (k n j : Nat) (hj : 0 < j) : (⟨(ad.add (k * n)).block, (ad.add (k * n)).off + j, none⟩ : Addr) = ad.add (k * n + j) := by
  rw [← add_of_add]
  show _ = (if j = 0 then _ else _)
  rw [if_neg (by omega)]
/-- What the mark of a row of terms is asked. -/
def MarkTC (t : T) : Prop := ∀ (A : Option Addr) (c : Nat) (k0 : Int) (F : Nat → Prop) (w : World), ShT w F t A → 1 ≤ k0 → k0 + 4 * (T.sizeL t.kids : Int) ≤ 1000000000 → t.kids.length ≤ 1048576 →
  Calls Tryz.prog 19 #[.slice A t.kids.length c, .int .i64 k0] w fun e w' => e = .returned (.int .i64 (k0 + 4 * (T.sizeL t.kids : Int))) ∧ Dab F w w'
set_option maxRecDepth 100000 in
set_option maxHeartbeats 4000000 in
theorem markTermS_any (t : T) (ho : T.All okT2 t) : MarkTC t := by
  revert ho
  refine T.ind (p := fun x => T.All okT2 x → MarkTC x) (fun x ih ho => ?_) t
  have ihk : ∀ k ∈ x.kids, MarkTC k ∧ k.kids.length ≤ 1048576 := fun k hk => ⟨ih k hk (ho.kid k hk), (ho.kid k hk).here.1⟩
  clear ih ho
  intro A c k0 F w h h0 h1 hn
  have H := Lib.hid h
  have HIK := Lib.hid ihk
  clear h ihk
  go_enter Tryz.func19, Tryz.ntmps19
  go_wp2
  go_loopw [1, 5] (fun kk i wr => ∃ (j : Nat) (S : Int), j ≤ x.kids.length ∧ i = .int .i64 j ∧ kk = .int .i64 S ∧ Hid (S = k0 + 4 * (T.sizeL (x.kids.take j) : Int)) ∧ 1 ≤ S ∧ Dab F w wr) (fun _ i _ => x.kids.length - (intOf i).toNat)
  case atStart => exact ⟨0, k0, Nat.zero_le _, rfl, rfl, Lib.hid (by simp [T.sizeL]), h0, Dab.refl _ _⟩
  case round =>
    obtain ⟨j, S, hj, rfl, rfl, HSS, S0, hd⟩ := hrel
    have HD := Lib.hid hd
    have HSH := Lib.hid (H.out.dab hd)
    clear hd
    by_cases hlt : j < x.kids.length
    · have hj2 : (j : Int) < x.kids.length := by omega
      have HST := Lib.hid (sizeL_take x.kids j hlt)
      have hle : S + 4 * (1 + (T.sizeL x.kids[j].kids : Int)) ≤ 1000000000 := by
        have h9 := sizeL_take_le x.kids (j + 1)
        rw [HST.out] at h9
        have := HSS.out
        omega
      have hsh := HSH.out
      cases hsh with
      | mk _ _ Ak ck hc hk =>
      obtain ⟨ad, rfl, hf, hcells⟩ := hc (by omega)
      obtain ⟨⟨o0, q0⟩, ⟨o1, q1⟩, ⟨o2, q2⟩, ⟨s3, q3⟩, q4, hfz⟩ := hcells j hlt
      have q4 := q4 _ (List.getElem?_eq_getElem hlt)
      have HSK := Lib.hid (hk j _ (List.getElem?_eq_getElem hlt))
      have z0 := hfz (j * 5)
      have z1 := hfz (j * 5 + 1)
      have z2 := hfz (j * 5 + 2)
      have z3 := hfz (j * 5 + 3)
      clear hcells hc hk hfz
      have n01 : ad.add (j * 5) ≠ ad.add (j * 5 + 1) := add_ne (by omega)
      have n02 : ad.add (j * 5) ≠ ad.add (j * 5 + 2) := add_ne (by omega)
      have n12 : ad.add (j * 5 + 1) ≠ ad.add (j * 5 + 2) := add_ne (by omega)
      have r1 : (wr.setCell (ad.add (j * 5)) (.int .i64 S)).cell? (ad.add (j * 5 + 1)) = some (.int .i64 o1) := (World.cell?_setCell_other _ _ _ _ n01).trans q1
      have f1 : (wr.setCell (ad.add (j * 5)) (.int .i64 S)).frozen? (ad.add (j * 5 + 1)) = false := (World.frozen?_setCell _ _ _ _).trans z1
      have r2 : ((wr.setCell (ad.add (j * 5)) (.int .i64 S)).setCell (ad.add (j * 5 + 1)) (.int .i64 (S + 1))).cell? (ad.add (j * 5 + 2)) = some (.int .i64 o2) := (World.cell?_setCell_other _ _ _ _ n12).trans ((World.cell?_setCell_other _ _ _ _ n02).trans q2)
      have f2 : ((wr.setCell (ad.add (j * 5)) (.int .i64 S)).setCell (ad.add (j * 5 + 1)) (.int .i64 (S + 1))).frozen? (ad.add (j * 5 + 2)) = false := (World.frozen?_setCell _ _ _ _).trans ((World.frozen?_setCell _ _ _ _).trans z2)
      have hd3 : Dab F wr (((wr.setCell (ad.add (j * 5)) (.int .i64 S)).setCell (ad.add (j * 5 + 1)) (.int .i64 (S + 1))).setCell (ad.add (j * 5 + 2)) (.int .i64 (S + 1 + 1))) :=
        ((Dab.set (by rw [block_of_add]; exact hf) q0 (.int _ _)).trans (Dab.set (by rw [block_of_add]; exact hf) r1 (.int _ _))).trans (Dab.set (by rw [block_of_add]; exact hf) r2 (.int _ _))
      have HD3 := Lib.hid hd3
      have HF := Lib.hid hf
      obtain ⟨v3, c3, k3⟩ := hd3.kin _ _ q3
      obtain ⟨b3, rfl⟩ := k3.ofStr
      obtain ⟨v4, c4, k4⟩ := hd3.kin _ _ q4
      rw [k4.ofSlice] at c4
      have y3 := (hd3.frz _ (World.block_lt_of_cell? wr _ q3)).trans z3
      have HC3 := Lib.hid c3
      have HC4 := Lib.hid c4
      have HY3 := Lib.hid y3
      clear n01 n02 n12 hd3 hf c3 c4 y3 k3 k4 q1 q2 q3 q4 z1 z2 z3
      have e1 := ad_f ad j 5 1 (by omega)
      have e2 := ad_f ad j 5 2 (by omega)
      have e3 := ad_f ad j 5 3 (by omega)
      have e4 := ad_f ad j 5 4 (by omega)
      rw [← e1] at r1 f1 r2 f2
      rw [← e2] at r2 f2
      rw [← e1, ← e2] at HD3 HC3 HC4 HY3
      rw [← e3] at HC3 HY3
      rw [← e4] at HC4
      clear e1 e2 e3 e4
      go_wp2_with fail
      refine (markText_any (S + 1 + 1 + 1) _ (by omega) (by omega)).mono ?_
      rintro e w2 ⟨rfl, hb2⟩
      have e3 := (hb2.cell (World.block_lt_of_cell? _ _ HC3.out)).trans HC3.out
      have g3 := (hb2.frozen (World.block_lt_of_cell? _ _ HC3.out)).trans HY3.out
      have e4 := (hb2.cell (World.block_lt_of_cell? _ _ HC4.out)).trans HC4.out
      obtain ⟨t9, ht9⟩ : ∃ t9, t9 = markT (S + 1 + 1 + 1) := ⟨_, rfl⟩
      rw [← ht9]
      have n34 : (⟨(ad.add (j * 5)).block, (ad.add (j * 5)).off + 3, none⟩ : Addr) ≠ ⟨(ad.add (j * 5)).block, (ad.add (j * 5)).off + 4, none⟩ := by
        intro e9; injection e9 with _ e9 _; omega
      have s4 : (w2.setCell ⟨(ad.add (j * 5)).block, (ad.add (j * 5)).off + 3, none⟩ (.string t9)).cell? ⟨(ad.add (j * 5)).block, (ad.add (j * 5)).off + 4, none⟩ = _ := (World.cell?_setCell_other _ _ _ _ n34).trans e4
      have HD4 := Lib.hid ((HD3.out.trans (Dab.of hb2)).trans (Dab.set (F := F) (p := ⟨(ad.add (j * 5)).block, (ad.add (j * 5)).off + 3, none⟩) (u := .string t9) (show F (ad.add (j * 5)).block by rw [block_of_add]; exact HF.out) e3 (.str _ _)))
      have HK4 := Lib.hid (HSK.out.dab HD4.out)
      obtain ⟨hmc, hkl⟩ := HIK.out _ (List.getElem_mem hlt)
      have HMC := Lib.hid (hmc (Ak j) (ck j) (S + 1 + 1 + 1 + 1) F _ HK4.out (by omega) (by omega) hkl)
      clear e4 n34 ht9 hb2 hmc q0 z0 r1 f1 r2 f2
      go_wp2_with fail
      refine HMC.out.mono ?_
      rintro e w5 ⟨rfl, hd5⟩
      have HD5 := Lib.hid ((HD.out.trans HD4.out).trans hd5)
      clear hd5 e3 g3 s4 HMC
      go_wp2
      go_roundw
      case rel => exact ⟨j + 1, S + 1 + 1 + 1 + 1 + 4 * (T.sizeL x.kids[j].kids : Int), by omega, by go_num, rfl, Lib.hid (by rw [HST.out, HSS.out]; push_cast; omega), by omega, HD5.out⟩
      case measure => simp [intOf]; omega
    · have hje : j = x.kids.length := by omega
      subst hje
      have HE : Hid (S = k0 + 4 * (T.sizeL x.kids : Int)) := Lib.hid (by rw [HSS.out, List.take_length])
      go_wp2
      go_ret
      exact ⟨ret_int HE.out, HD.out⟩
/-- The layers lie at A, and all that they lead to may be written. -/
def LyAt (w : World) (F : Nat → Prop) (A : Option Addr) (c : List Ly) : Prop :=
  0 < c.length → ∃ ad, A = some ad ∧ ∀ k (hk : k < c.length), ∃ A1 c1 A2 c2, w.cell? (ad.add (k * 2)) = some (.slice A1 c[k].ds.length c1) ∧ w.cell? ⟨(ad.add (k * 2)).block, (ad.add (k * 2)).off + 1, none⟩ = some (.slice A2 c[k].ts.length c2) ∧
    DeclsAt w F A1 c[k].ds.length ∧ ShT w F (.mk 0 0 0 ⟨#[]⟩ c[k].ts) A2
theorem LyAt.dab {w w' : World} {F G : Nat → Prop} {A : Option Addr} {c : List Ly} (h : LyAt w F A c) (hd : Dab G w w') : LyAt w' F A c := fun h0 => by
  obtain ⟨ad, e, hc⟩ := h h0
  refine ⟨ad, e, fun k hk => ?_⟩
  obtain ⟨A1, c1, A2, c2, e1, e2, h1, h2⟩ := hc k hk
  obtain ⟨v1, g1, k1⟩ := hd.kin _ _ e1
  obtain ⟨v2, g2, k2⟩ := hd.kin _ _ e2
  rw [k1.ofSlice] at g1
  rw [k2.ofSlice] at g2
  exact ⟨A1, c1, A2, c2, g1, g2, h1.dab hd, h2.dab hd⟩
theorem LyAt.of {w : World} {F : Nat → Prop} {A : Option Addr} {c : List Ly} (h : Lay.layer.Sl w F A c) (hF : ∀ b, F b → ∀ o, w.frozen? ⟨b, o, none⟩ = false) : LyAt w F A c := fun h0 => by
  obtain ⟨ad, _, _, _, _, e, _⟩ := h.at_layer h0
  refine ⟨ad, e, fun k hk => ?_⟩
  obtain ⟨ad', A1, c1, A2, c2, e', _, e1, e2, _, _, h1, h2⟩ := h.at_layer hk
  rw [e] at e'; injection e' with e'; subst e'
  exact ⟨A1, c1, A2, c2, e1, e2, DeclsAt.of (G := F) h1 fun b hb => ⟨hb, hF b hb⟩, ShT.of hF _ _ h2⟩
/-- How many marks the layers take. -/
def mwL : List Ly → Nat
  | [] => 0
  | l :: ls => 2 * l.ds.length + 4 * T.sizeL l.ts + mwL ls
theorem mwL_take (c : List Ly) (k : Nat) (h : k < c.length) : mwL (c.take (k + 1)) = mwL (c.take k) + (2 * c[k].ds.length + 4 * T.sizeL c[k].ts) := by
  induction c generalizing k with
  | nil => simp at h
  | cons x xs ih =>
    cases k with
    | zero => simp [mwL]
    | succ k =>
      have := ih k (by simpa using h)
      simp only [List.take_succ_cons, mwL, List.getElem_cons_succ] at this ⊢
      omega
theorem mwL_take_le (c : List Ly) (k : Nat) : mwL (c.take k) ≤ mwL c := by
  induction c generalizing k with
  | nil => simp
  | cons x xs ih =>
    cases k with
    | zero => simp [mwL]
    | succ k => simp only [List.take_succ_cons, mwL]; have := ih k; omega
set_option maxRecDepth 100000 in
set_option maxHeartbeats 4000000 in
theorem markLayerS_any (c : List Ly) (hc : ∀ l ∈ c, okL2 l) (A : Option Addr) (q : Nat) (k0 : Int) (F : Nat → Prop) (w : World) (h : LyAt w F A c) (h0 : 1 ≤ k0) (h1 : k0 + (mwL c : Int) ≤ 1000000000) (hn : c.length ≤ 1048576) :
    Calls Tryz.prog 18 #[.slice A c.length q, .int .i64 k0] w fun e w' => e = .returned (.int .i64 (k0 + (mwL c : Int))) ∧ Dab F w w' := by
  have H := Lib.hid h
  have HC := Lib.hid hc
  clear h hc
  go_enter Tryz.func18, Tryz.ntmps18
  go_wp2
  go_loopw [1, 5] (fun kk i wr => ∃ (j : Nat) (S : Int), j ≤ c.length ∧ i = .int .i64 j ∧ kk = .int .i64 S ∧ Hid (S = k0 + (mwL (c.take j) : Int)) ∧ 1 ≤ S ∧ Dab F w wr) (fun _ i _ => c.length - (intOf i).toNat)
  case atStart => exact ⟨0, k0, Nat.zero_le _, rfl, rfl, Lib.hid (by simp [mwL]), h0, Dab.refl _ _⟩
  case round =>
    obtain ⟨j, S, hj, rfl, rfl, HSS, S0, hd⟩ := hrel
    have HD := Lib.hid hd
    have HSH := H.out.dab hd
    clear hd
    by_cases hlt : j < c.length
    · have hj2 : (j : Int) < c.length := by omega
      have HST := Lib.hid (mwL_take c j hlt)
      have hle : S + (2 * (c[j].ds.length : Int) + 4 * (T.sizeL c[j].ts : Int)) ≤ 1000000000 := by
        have h9 := mwL_take_le c (j + 1)
        rw [HST.out] at h9
        have := HSS.out
        omega
      obtain ⟨hol1, hol2, hol3⟩ := HC.out _ (List.getElem_mem hlt)
      have HLT := Lib.hid hol3
      obtain ⟨ad, rfl, hcells⟩ := HSH (by omega)
      obtain ⟨A1, c1, A2, c2, e1, e2, hD, hT⟩ := hcells j hlt
      have HDD := Lib.hid (markDeclS_at A1 c1 c[j].ds.length S F wr hD hol1 S0 (by omega))
      have HT := Lib.hid hT
      have HE2 := Lib.hid e2
      clear hcells hD hT hol3
      go_wp2_with fail
      refine HDD.out.mono ?_
      rintro e w2 ⟨rfl, hd2, _⟩
      have HD2 := Lib.hid (HD.out.trans hd2)
      obtain ⟨v2, g2, k2⟩ := hd2.kin _ _ HE2.out
      rw [k2.ofSlice] at g2
      have HMT := Lib.hid (markTermS_any (.mk 0 0 0 ⟨#[]⟩ c[j].ts) (.mk _ ⟨hol2, by show (0 : Nat) ≤ 1048576; omega⟩ (fun k hk => HLT.out k hk)) A2 c2 (S + 2 * (c[j].ds.length : Int)) F w2 (HT.out.dab hd2) (by omega) (by show S + 2 * (c[j].ds.length : Int) + 4 * (T.sizeL c[j].ts : Int) ≤ 1000000000; omega) hol2)
      clear hd2 k2 e1 e2
      go_wp2_with fail
      refine HMT.out.mono ?_
      rintro e w3 ⟨rfl, hd3⟩
      have HD3 := Lib.hid (HD2.out.trans hd3)
      clear hd3
      go_wp2
      go_roundw
      case rel => exact ⟨j + 1, S + 2 * (c[j].ds.length : Int) + 4 * (T.sizeL c[j].ts : Int), by omega, by go_num, rfl, Lib.hid (by rw [HST.out, HSS.out]; push_cast; omega), by omega, HD3.out⟩
      case measure => simp [intOf]; omega
    · have hje : j = c.length := by omega
      subst hje
      have HE : Hid (S = k0 + (mwL c : Int)) := Lib.hid (by rw [HSS.out, List.take_length])
      go_wp2
      go_ret
      exact ⟨ret_int HE.out, HD.out⟩
theorem sizeL_w : ∀ (ts : List T), T.sizeL ts ≤ T.wl ts
  | [] => by simp [T.sizeL, T.wl]
  | .mk o a b n ks :: ts => by
    have h1 := sizeL_w ts
    have h2 := sizeL_w ks
    simp only [T.sizeL, T.size, T.wl, T.w]
    omega
theorem mwL_w : ∀ (c : List Ly), mwL c ≤ 4 * wsum Ly.w c
  | [] => by simp [mwL, wsum]
  | l :: c => by
    have h1 := mwL_w c
    have h2 := sizeL_w l.ts
    rw [T.wl_eq] at h2
    simp only [mwL, wsum, Ly.w]
    omega
end Go.Proofs.YtiahmfpfimmbgaaGreatDoor

/-! Marked declarations are held. -/
namespace Go.Proofs.YtiahmfpfimmbgaaGreatDoor
open Go Go.RowKit Go.ChangeShapes Go.WideShapes Go.ChangeAt Go.Deep

set_option maxRecDepth 100000 in
set_option maxHeartbeats 4000000 in
theorem heldDeclS_any (A : Option Addr) (c n : Nat) (k0 : Int) (F : Nat → Prop) (w : World) (h : Lay.decl.Sl w F A (upD n k0)) (hF : ∀ b, F b → b < w.heap.size) (hn : n ≤ 1048576) (h0 : 1 ≤ k0) (h1 : k0 ≤ 1000000000) :
    Calls Tryz.prog 63 #[.slice A n c, .int .i64 k0] w fun e w' => e = .returned (.int .i64 (k0 + (2 * n : Nat))) ∧ Below w.heap.size w w' := by
  have H := Lib.hid h
  clear h
  go_enter Tryz.func63, Tryz.ntmps63
  go_wp2
  go_loopw [1, 5] (fun kk i wr => ∃ (j : Nat) (T : Int), j ≤ n ∧ i = .int .i64 j ∧ kk = .int .i64 T ∧ Hid (T = k0 + 2 * (j : Int)) ∧ 1 ≤ T ∧ T ≤ 1000000000 + 2 * j ∧ Below w.heap.size w wr) (fun _ i _ => n - (intOf i).toNat)
  case atStart => exact ⟨0, k0, Nat.zero_le _, rfl, rfl, Lib.hid (by simp), h0, by omega, Below.refl _ _⟩
  case round =>
    obtain ⟨j, T, hj, rfl, rfl, HTT, T0, T1, hb⟩ := hrel
    by_cases hlt : j < n
    · have hj2 : (j : Int) < n := by omega
      have hju : j < (upD n k0).length := by rw [upD_len]; exact hlt
      obtain ⟨ad, hA, hf, c1, c2⟩ := (H.out.below hb hF).at_decl hju
      rw [upD_get] at c1 c2
      dsimp only at c1 c2
      rw [← HTT.out] at c1 c2
      subst hA
      have HMK := Lib.hid (fun z => markText_any T z T0 (by omega))
      obtain ⟨t9, ht9⟩ : ∃ t9, t9 = markT T := ⟨_, rfl⟩
      have HC : Hid (∀ z, Calls Tryz.prog 59 #[.int .i64 T] z fun e w' => e = .returned (.string t9) ∧ Below z.heap.size z w') := Lib.hid (fun z => by
        rw [ht9]; exact HMK.out z)
      rw [← ht9] at c1
      have g9 : (!(t9.toList == t9.toList)) = false := by simp
      have d1 := Later.cell c1
      have HC2 := Lib.hid c2
      clear ht9 HMK c1 c2
      go_wp2
      refine wp_region_later (by kernel_rfl) (by kernel_rfl) ?_
      repeat (go_big_quiet_step ((go_at_call 59; exact later_of_below (HC.out _))))
      refine wpQuiet_nil ?_
      rintro _ ⟨y, rfl⟩
      obtain ⟨W1, hy⟩ := y
      dsimp only
      have hb2 := bthen hb hy
      have e2 := (hy.cell (World.block_lt_of_cell? _ _ HC2.out)).trans HC2.out
      have gT : (T + 1 != T + 1) = false := by simp
      clear hy d1
      go_wp2
      go_roundw
      case rel => exact ⟨j + 1, T + 1 + 1, by omega, by go_num, by go_num, Lib.hid (by have := HTT.out; push_cast; omega), by omega, by omega, hb2⟩
      case measure => simp [intOf]; omega
    · have hje : j = n := by omega
      subst hje
      go_wp2
      go_ret
      exact ⟨ret_int (by rw [HTT.out]; push_cast; rfl), hb⟩
end Go.Proofs.YtiahmfpfimmbgaaGreatDoor

/-! Contexts as arguments of the exact laws; CtxDecls. -/
namespace Go.Proofs.YtiahmfpfimmbgaaGreatDoor
open Go Go.RowKit Go.ChangeShapes Go.WideShapes Go.ChangeAt Go.Deep

def wtL (c : List Ly) : Nat := c.length + wsum Ly.w c
/-- What is asked of the layers that the law has measured. -/
def smLayers (c : List Ly) : Prop := c.length ≤ 1048576 ∧ (∀ l ∈ c, okL2 l) ∧ mwL c ≤ 4194304 ∧ okC c
theorem smLayers_of {c : List Ly} (h : okLs c) (hw : wtL c ≤ 1048576) : smLayers c := by
  unfold wtL at hw
  obtain ⟨h1, h2⟩ := Ly.smallS hw
  exact ⟨h1, h2, by have := mwL_w c; omega, okC_of h hw⟩
theorem szLayers_u (xs : List Ly) (A : Option Addr) (c : Nat) (left : Int) (w : World) (h : Lay.layer.Rd w A xs) (ok : okLs xs) (h0 : 0 ≤ left) (h1 : left ≤ 1048576) :
    Calls Tryz.prog 12 #[.slice A xs.length c, .int .i64 left] w (RetZ (szRes left (wtL xs)) w) :=
  szLayerS_any A c xs left _ w h (fun _ h => h) ok.2 (by have := ok.1; unfold maxLen at this; omega) h0 h1
theorem toLayers_u (xs : List Ly) (A : Option Addr) (c : Nat) (w : World) (h : Lay.layer.Rd w A xs) (hs : smLayers xs) :
    Calls Tryz.prog 14 #[.slice A xs.length c] w (RetO Lay.layer w xs) := toLayerS_any A c xs _ w h (fun _ h => h) hs.1 hs.2.1
theorem eqLayers_u (xs : List Ly) (A B : Option Addr) (c d : Nat) (w : World) (h : Lay.layer.Rd w A xs) (h' : Lay.layer.Rd w B xs) (hs : smLayers xs) :
    Calls Tryz.prog 17 #[.slice A xs.length c, .slice B xs.length d] w (RetB w true) := by
  have := eqLayerS_any A B c d xs xs _ _ w h h' (fun _ h => h) (fun _ h => h) hs.1 hs.1 hs.2.1 hs.2.1
  rw [allSame_self Ly.same_self] at this
  exact this
theorem markLayers_u (c : List Ly) (A : Option Addr) (q lo hi : Nat) (k0 : Int) (w : World) (h : Lay.layer.Sl w (Cp lo hi w) A c) (hs : smLayers c) (h0 : 1 ≤ k0) (h1 : k0 ≤ 500000000) :
    Calls Tryz.prog 18 #[.slice A c.length q, .int .i64 k0] w fun e w' => e = .returned (.int .i64 (k0 + (mwL c : Nat))) ∧ Dab (Rng lo hi) w w' ∧ True :=
  (markLayerS_any c hs.2.1 A q k0 _ w (LyAt.of h fun _ h => h.2.2.2) h0 (by have := hs.2.2.1; omega) hs.1).mono fun _ _ ⟨h, h'⟩ => ⟨h, h'.rng, trivial⟩
theorem Lay.Sl.decl_own {lo c : Nat} {w : World} {A : Option Addr} {xs : List D} (h : w.ownsRow lo 39 2 (.slice A xs.length c) xs.length (xs.flatMap dcells)) : Lay.decl.Sl w (Own lo w) A xs :=
  OwnL.own (L := Lay.decl) (e := 39) ⟨xs.flatMap dcells, h, fun i x hx => ⟨dcells x, rfl, fun j u hu => by
    have hk : i < xs.length := (List.getElem?_eq_some_iff.1 hx).1
    have hj : j < 2 := by have := (List.getElem?_eq_some_iff.1 hu).1; simpa [dcells] using this
    show (xs.flatMap dcells)[i * 2 + j]? = _
    rw [dcells_get xs i j hk hj, (List.getElem?_eq_some_iff.1 hx).2]; exact hu⟩⟩
theorem OwnR.decl_own {lo c : Nat} {w : World} {A : Option Addr} {xs : List D} (h : OwnR Lay.decl 39 w lo (.slice A xs.length c) xs) : Lay.decl.Sl w (Own lo w) A xs := by
  obtain ⟨cs, h1, h2⟩ := h
  refine OwnL.own (L := Lay.decl) (e := 39) ⟨cs, h1, fun i x hx => ?_⟩
  obtain ⟨vs, hr, hu⟩ := h2 i x hx
  exact ⟨vs, hr, hu⟩
end Go.Proofs.YtiahmfpfimmbgaaGreatDoor

/-! Terms whose rows lie apart from each other: trees. No program is named here. -/
namespace Go.Proofs.YtiahmfpfimmbgaaGreatDoor
open Go Go.RowKit

/-- The cells of a term whose kids lie at A. -/
def tcells (x : T) (A : Option Addr) (c : Nat) : List Value := [.int .i64 x.op, .int .i64 x.a, .int .i64 x.b, .string x.name, .slice A x.kids.length c]
/-- The kids of t lie at A; theirs lie in blocks of their own, each kid's apart from the others' and from A's. -/
inductive TrT (w : World) : (Nat → Prop) → T → Option Addr → Prop
  | mk (F : Nat → Prop) (t : T) (A : Option Addr) (Ak : Nat → Option Addr) (ck : Nat → Nat) (Fk : Nat → Nat → Prop)
      (h : 0 < t.kids.length → ∃ ad, A = some ad ∧ F ad.block ∧ ∀ k x, t.kids[k]? = some x → ¬ Fk k ad.block ∧ x.kids.length ≤ ck k ∧ ∀ j u, (tcells x (Ak k) (ck k))[j]? = some u → w.cell? (ad.add (k * 5 + j)) = some u)
      (hs : ∀ k x, t.kids[k]? = some x → ∀ b, Fk k b → F b)
      (hd : ∀ i j, i ≠ j → i < t.kids.length → j < t.kids.length → ∀ b, Fk i b → ¬ Fk j b)
      (hk : ∀ k x, t.kids[k]? = some x → TrT w (Fk k) x (Ak k)) : TrT w F t A
theorem TrT.mono {w : World} {F G : Nat → Prop} {t : T} {A : Option Addr} (h : TrT w F t A) (hFG : ∀ b, F b → G b) : TrT w G t A := by
  cases h with
  | mk _ _ _ Ak ck Fk h hs hd hk =>
    refine .mk G t A Ak ck Fk (fun h0 => ?_) (fun k x hx b hb => hFG b (hs k x hx b hb)) hd hk
    obtain ⟨ad, e, hf, hc⟩ := h h0
    exact ⟨ad, e, hFG _ hf, hc⟩
theorem TrT.keep {w w' : World} {F : Nat → Prop} {t : T} {A : Option Addr} (h : TrT w F t A) (hk : ∀ b, F b → w'.heap[b]? = w.heap[b]?) : TrT w' F t A := by
  revert hk
  induction h with
  | mk F t A Ak ck Fk h hs hd hk ih =>
    intro hkp
    refine .mk F t A Ak ck Fk (fun h0 => ?_) hs hd (fun k x hx => ih k x hx fun b hb => hkp b (hs k x hx b hb))
    obtain ⟨ad, e, hf, hc⟩ := h h0
    refine ⟨ad, e, hf, fun k x hx => ?_⟩
    obtain ⟨h1, h2, h3⟩ := hc k x hx
    exact ⟨h1, h2, fun j u hu => (World.cell?_of_block (w := w) (by rw [block_of_add]; exact hkp _ hf)).trans (h3 j u hu)⟩
theorem TrT.sl {w : World} {F : Nat → Prop} {t : T} {A : Option Addr} (h : TrT w F t A) : Lay.term.Sl w F A t.kids := by
  induction h with
  | mk F t A Ak ck Fk h hs hd hk ih =>
    intro h0
    obtain ⟨ad, e, hf, hc⟩ := h h0
    refine ⟨ad, e, hf, fun k x hx => ?_⟩
    obtain ⟨h1, h2, h3⟩ := hc k x hx
    exact ⟨tcells x (Ak k) (ck k), TermR.of h2 ((ih k x hx).mono (hs k x hx)), h3⟩
theorem TrT.root {w : World} {F : Nat → Prop} {t t' : T} {A : Option Addr} (h : TrT w F t A) (e : t'.kids = t.kids) : TrT w F t' A := by
  cases h with
  | mk _ _ _ Ak ck Fk h hs hd hk =>
    refine .mk F t' A Ak ck Fk ?_ ?_ ?_ ?_
    · rw [e]; exact h
    · rw [e]; exact hs
    · rw [e]; exact hd
    · rw [e]; exact hk
/-- A row of terms, a tree each. -/
def TrS (w : World) (F : Nat → Prop) (A : Option Addr) (ts : List T) : Prop := TrT w F (.mk 0 0 0 ⟨#[]⟩ ts) A
mutual
/-- Marked terms: the marks from k on. -/
def upT : T → Int → T
  | .mk _ _ _ _ ks, k => .mk k (k + 1) (k + 2) (markT (k + 3)) (upTL ks (k + 4))
def upTL : List T → Int → List T
  | [], _ => []
  | t :: ts, k => upT t k :: upTL ts (k + 4 * (T.size t : Int))
end
theorem upTL_len : ∀ (ts : List T) (k : Int), (upTL ts k).length = ts.length
  | [], _ => rfl
  | t :: ts, k => by simp [upTL, upTL_len ts]
theorem upTL_get : ∀ (ts : List T) (k : Int) (i : Nat) (x : T), ts[i]? = some x → (upTL ts k)[i]? = some (upT x (k + 4 * (T.sizeL (ts.take i) : Int)))
  | [], _, i, x, h => by simp at h
  | t :: ts, k, 0, x, h => by
    simp at h
    subst h
    simp [upTL, T.sizeL]
  | t :: ts, k, i + 1, x, h => by
    have := upTL_get ts (k + 4 * (T.size t : Int)) i x (by simpa using h)
    simp only [upTL, List.getElem?_cons_succ, List.take_succ_cons, T.sizeL]
    rw [this]
    congr 2
    push_cast
    omega
end Go.Proofs.YtiahmfpfimmbgaaGreatDoor

/-! A row of trees of the call's own that grows. -/
namespace Go.Proofs.YtiahmfpfimmbgaaGreatDoor
open Go Go.RowKit

/-- A block of the call's own that may be written. -/
def OwnB9 (lo : Nat) (w : World) (b : Nat) : Prop := lo ≤ b ∧ b < w.heap.size ∧ (∀ o, w.frozen? ⟨b, o, none⟩ = false) ∧ ∃ cs, w.heap[b]? = some (.cells cs 48 (0, 0))
/-- The row v holds the terms ts, each a tree in blocks of its own. -/
def RowTr (lo : Nat) (w : World) (v : Value) (ts : List T) : Prop :=
  ∃ cs, w.ownsRow lo 48 5 v ts.length cs ∧ ∃ (Ak : Nat → Option Addr) (ck : Nat → Nat) (Fk : Nat → Nat → Prop),
    (∀ k x, ts[k]? = some x → (∀ j u, (tcells x (Ak k) (ck k))[j]? = some u → cs[k * 5 + j]? = some u) ∧ x.kids.length ≤ ck k ∧ TrT w (Fk k) x (Ak k)) ∧
    (∀ k b, k < ts.length → Fk k b → OwnB9 lo w b ∧ v.ownBlock ≠ some b) ∧ (∀ i j, i ≠ j → i < ts.length → j < ts.length → ∀ b, Fk i b → ¬ Fk j b)
theorem RowTr.nil (w : World) (lo : Nat) : RowTr lo w (.slice none ([] : List T).length 0) [] :=
  ⟨[], World.ownsRow_nil _ _ _ _, fun _ => none, fun _ => 0, fun _ _ => False, fun k x h => by simp at h, fun k b h => by simp at h, fun i j _ h => by simp at h⟩
theorem OwnB9.up {lo : Nat} {w w' : World} {b : Nat} (h : OwnB9 lo w b) (hs : w.heap.size ≤ w'.heap.size) (hb : w'.heap[b]? = w.heap[b]?) : OwnB9 lo w' b :=
  ⟨h.1, Nat.lt_of_lt_of_le h.2.1 hs, fun o => (World.frozen?_of_block (a := ⟨b, o, none⟩) hb).trans (h.2.2.1 o), by obtain ⟨cs, hc⟩ := h.2.2.2; exact ⟨cs, hb.trans hc⟩⟩
theorem RowTr.keep {lo : Nat} {w w' : World} {v : Value} {ts : List T} (h : RowTr lo w v ts) (hs : w.heap.size ≤ w'.heap.size) (hb : ∀ b, lo ≤ b → b < w.heap.size → w'.heap[b]? = w.heap[b]?) : RowTr lo w' v ts := by
  obtain ⟨cs, h1, Ak, ck, Fk, h2, h3, h4⟩ := h
  refine ⟨cs, own_of_heap h1 fun g hg => hb g (h1.lt g hg).1 (h1.lt g hg).2, Ak, ck, Fk, fun k x hx => ?_, fun k b hk hf => ?_, h4⟩
  · obtain ⟨g1, g2, g3⟩ := h2 k x hx
    exact ⟨g1, g2, g3.keep fun b hf => by
      have h9 := (h3 k b (List.getElem?_eq_some_iff.1 hx).1 hf).1
      exact hb b h9.1 h9.2.1⟩
  · obtain ⟨g1, g2⟩ := h3 k b hk hf
    exact ⟨g1.up hs (hb b g1.1 g1.2.1), g2⟩
theorem RowTr.up {lo : Nat} {w w' : World} {v : Value} {ts : List T} (h : RowTr lo w v ts) (hb : Below w.heap.size w w') : RowTr lo w' v ts := h.keep hb.size fun b _ h9 => hb.block b h9
/-- A cell of a block below lo or of no row's is written. -/
theorem RowTr.far {lo : Nat} {w : World} {v : Value} {ts : List T} (h : RowTr lo w v ts) (p : Addr) (u : Value) (hp : p.block < lo) : RowTr lo (w.setCell p u) v ts :=
  h.keep (by rw [size_setCell]; exact Nat.le_refl _) fun b hb _ => Below.heap_setCell w p u b (fun e => by omega)
theorem RowTr.form {lo : Nat} {w : World} {v : Value} {ts : List T} (h : RowTr lo w v ts) : ∃ A c, v = .slice A ts.length c ∧ ts.length ≤ c := by
  obtain ⟨cs, h1, _⟩ := h
  rcases h1.2 with ⟨e1, e2⟩ | ⟨g, cap, cur, e1, _, _, h3, _⟩
  · exact ⟨none, 0, by rw [e1, e2], by rw [e2]; exact Nat.le_refl _⟩
  · exact ⟨_, cap, e1, h3⟩
/-- The row is a tree. -/
theorem RowTr.tree {lo : Nat} {w : World} {A : Option Addr} {c : Nat} {ts : List T} (h : RowTr lo w (.slice A ts.length c) ts) : TrS w (OwnB9 lo w) A ts := by
  obtain ⟨cs, h1, Ak, ck, Fk, h2, h3, h4⟩ := h
  refine .mk _ _ A Ak ck Fk (fun h0 => ?_) (fun k x hx b hf => (h3 k b (List.getElem?_eq_some_iff.1 hx).1 hf).1) h4 (fun k x hx => (h2 k x hx).2.2)
  have h0 : 0 < ts.length := h0
  have hcs : cs.length = ts.length * 5 := h1.1
  rcases h1.2 with ⟨e1, e2⟩ | ⟨g, cap, cur, e1, hlo, hg, hn, hm, hsz, htk⟩
  · omega
  · injection e1 with e1 e2 e3
    subst e1
    refine ⟨_, rfl, ⟨hlo, (Array.getElem?_eq_some_iff.1 hg).1, fun o => ?_, _, hg⟩, fun k x hx => ?_⟩
    · exact World.ownsRow.frozenAt (g := g) (cap := c) ⟨h1.1, h1.2⟩ o
    · obtain ⟨g1, g2, g3⟩ := h2 k x hx
      have hkl : k < ts.length := (List.getElem?_eq_some_iff.1 hx).1
      refine ⟨fun hf => (h3 k g hkl hf).2 rfl, g2, fun j u hu => ?_⟩
      have h9 := g1 j u hu
      have hj : k * 5 + j < cs.length := (List.getElem?_eq_some_iff.1 h9).1
      have ea : (⟨g, 0, none⟩ : Addr).add (k * 5 + j) = ⟨g, k * 5 + j, none⟩ := by
        unfold Addr.add
        split
        · rename_i e; rw [e]
        · simp
      rw [ea, World.ownsRow.cellAt (g := g) (cap := c) ⟨h1.1, h1.2⟩ _ (by omega)]
      exact h9
theorem tcells_one (x : T) (A : Option Addr) (c : Nat) : ∀ u ∈ tcells x A c, u.oneCell' = true := by
  intro u hu
  simp [tcells] at hu
  rcases hu with rfl | rfl | rfl | rfl | rfl <;> rfl
/-- append of one term, a tree in blocks that are new, laid in a block of its own. -/
theorem run_append_tree {w : World} {lo mid b : Nat} {A A9 : Option Addr} {c c9 d : Nat} {ts ys : List T} {x : T} {ty e' : TypeId} (h : RowTr lo w (.slice A ts.length c) ts) (hmid : ∀ k, k < ts.length → True) (hlo : lo ≤ w.heap.size) (hn : ts.length ≤ 2000000)
    (hx : TrS w (fun g => mid ≤ g ∧ OwnB9 lo w g) A9 x.kids) (hc9 : x.kids.length ≤ c9) (hb : w.heap[b]? = some (.cells (tcells x A9 c9).toArray e' (0, 0)))
    (hnew : ∀ g, mid ≤ g → (Value.slice A ts.length c).ownBlock ≠ some g) (hold : ∃ w0 : World, w0.heap.size ≤ mid ∧ Below w0.heap.size w0 w ∧ RowTr lo w0 (.slice A ts.length c) ts) (hy : ys = ts ++ [x]) :
    ∃ A' c' w', (Builtin.append_ #[24, 24] ty #[.slice A ts.length c, .slice (some ⟨b, 0, none⟩) 1 d]).run Tryz.prog w = .ok (.slice A' ys.length c') w' ∧ RowTr lo w' (.slice A' ys.length c') ys ∧ w.grownBy w' (Value.slice A ts.length c).ownBlock ∧
      ((Value.slice A' ys.length c').ownBlock = (Value.slice A ts.length c).ownBlock ∨ ∃ g, (Value.slice A' ys.length c').ownBlock = some g ∧ w.heap.size ≤ g) := by
  obtain ⟨i0, hi0, hz0, hz1, hz2⟩ := info_parts term_info
  obtain ⟨w0, hw0, hbw, cs, h1, Ak, ck, Fk, h2, h3, h4⟩ := hold
  have h1w : w.ownsRow lo 48 5 (.slice A ts.length c) ts.length cs := own_below h1 hbw (Nat.le_refl _)
  have hl : ts.length + 1 = ys.length := by rw [hy]; simp
  have hsrc : Src w 5 (some ⟨b, 0, none⟩) 1 (tcells x A9 c9) := by
    have := src_block (m := 1) (size := 5) hb rfl
    simpa using this
  have hbb : ys.length * 64 ≤ 140737488355328 := by omega
  obtain ⟨A', c', w', hrun, ho', hg', hbk⟩ := run_append_src_at (P := Tryz.prog) w lo 24 ty 48 i0 _ 5 64 Tryz.underlying24 hi0 hz0 hz1 hz2 rfl (by omega) _ ts.length cs h1w (some ⟨b, 0, none⟩) 1 d (tcells x A9 c9) hsrc (tcells_one x A9 c9) ys.length hl (by unfold maxLen; omega) hbb hlo (fun e => by cases e)
  refine ⟨A', c', w', hrun, ⟨cs ++ tcells x A9 c9, ho', fun k => if k = ts.length then A9 else Ak k, fun k => if k = ts.length then c9 else ck k, fun k => if k = ts.length then (fun g => mid ≤ g ∧ OwnB9 lo w g) else Fk k, fun k y hky => ?_, fun k g hk hf => ?_, fun i j hij hi hj g hf => ?_⟩, hg', hbk⟩
  · have hcl : cs.length = ts.length * 5 := h1.1
    rw [hy] at hky
    by_cases hk : k = ts.length
    · subst hk
      rw [List.getElem?_append_right (Nat.le_refl _), Nat.sub_self] at hky
      simp at hky
      subst hky
      simp only [if_true]
      refine ⟨fun j u hu => ?_, hc9, TrT.root (TrT.keep hx fun g hg => hg'.block g hg.2.2.1 (fun e9 => hnew g hg.1 e9.symm)) rfl⟩
      rw [List.getElem?_append_right (by omega), show ts.length * 5 + j - cs.length = j by omega]
      exact hu
    · have hkl : k < ts.length := by
        have := (List.getElem?_eq_some_iff.1 hky).1
        simp at this
        omega
      rw [List.getElem?_append_left hkl] at hky
      obtain ⟨g1, g2, g3⟩ := h2 k y hky
      simp only [if_neg hk]
      refine ⟨fun j u hu => ?_, g2, g3.keep fun g hf => ?_⟩
      · have h9 := g1 j u hu
        rw [List.getElem?_append_left (List.getElem?_eq_some_iff.1 h9).1]
        exact h9
      · obtain ⟨o1, o2⟩ := h3 k g hkl hf
        exact (hg'.block g (Nat.lt_of_lt_of_le o1.2.1 hbw.size) (fun e9 => o2 e9.symm)).trans (hbw.block g o1.2.1)
  · have hne : ∀ g, g < w.heap.size → (Value.slice A ts.length c).ownBlock ≠ some g → (Value.slice A' ys.length c').ownBlock ≠ some g := fun g h5 h6 h7 => by
      rcases hbk with e | ⟨g2, e, hg2⟩
      · exact h6 (e ▸ h7)
      · rw [e] at h7; injection h7 with h7; omega
    by_cases hkt : k = ts.length
    · simp only [if_pos hkt] at hf
      exact ⟨hf.2.up hg'.size (hg'.block g hf.2.2.1 (fun e9 => hnew g hf.1 e9.symm)), hne g hf.2.2.1 (hnew g hf.1)⟩
    · simp only [if_neg hkt] at hf
      obtain ⟨o1, o2⟩ := h3 k g (by omega) hf
      have o3 := o1.up hbw.size (hbw.block g o1.2.1)
      exact ⟨o3.up hg'.size (hg'.block g o3.2.1 (fun e9 => o2 e9.symm)), hne g o3.2.1 o2⟩
  · by_cases hit : i = ts.length
    · have hjt : j ≠ ts.length := fun e => hij (hit.trans e.symm)
      simp only [if_pos hit] at hf
      simp only [if_neg hjt]
      intro hf2
      have := (h3 j g (by omega) hf2).1.2.1
      have := hf.1
      omega
    · simp only [if_neg hit] at hf
      by_cases hjt : j = ts.length
      · simp only [if_pos hjt]
        intro hf2
        have := (h3 i g (by omega) hf).1.2.1
        have := hf2.1
        omega
      · simp only [if_neg hjt]
        exact h4 i j hij (by omega) (by omega) g hf
end Go.Proofs.YtiahmfpfimmbgaaGreatDoor

/-! The program's copyTerm. -/
namespace Go.Proofs.YtiahmfpfimmbgaaGreatDoor
open Go Go.RowKit

theorem OwnB9.le {lo lo' : Nat} {w : World} {b : Nat} (h : OwnB9 lo w b) (hl : lo' ≤ lo) : OwnB9 lo' w b := ⟨Nat.le_trans hl h.1, h.2⟩
theorem TrS.up {w w' : World} {F : Nat → Prop} {A : Option Addr} {ts : List T} {mid lo : Nat} (h : TrS w (fun g => mid ≤ g ∧ OwnB9 lo w g) A ts) (hb : Below w.heap.size w w') : TrS w' (fun g => mid ≤ g ∧ OwnB9 lo w' g) A ts :=
  (TrT.keep h fun b hf => hb.block b hf.2.2.1).mono fun b hf => ⟨hf.1, hf.2.up hb.size (hb.block b hf.2.2.1)⟩
/-- A term by value, its kids a tree in new blocks. -/
def Fact.treeV (lo mid : Nat) (x : T) : Fact :=
  .of (fun v z => ∃ A c, v = .agg (tcells x A c).toArray ∧ x.kids.length ≤ c ∧ TrS z (fun g => mid ≤ g ∧ OwnB9 lo z g) A x.kids) fun _ z z' ⟨A, c, h1, h2, h3⟩ hb => ⟨A, c, h1, h2, TrS.up (F := fun _ => True) h3 hb⟩
/-- .. in a block of its own. -/
def Fact.treeL (lo mid : Nat) (x : T) : Fact :=
  .of (fun v z => ∃ b A c, v = .slice (some ⟨b, 0, none⟩) 1 1 ∧ z.heap[b]? = some (.cells (tcells x A c).toArray 48 (0, 0)) ∧ x.kids.length ≤ c ∧ TrS z (fun g => mid ≤ g ∧ OwnB9 lo z g) A x.kids) fun _ z z' ⟨b, A, c, h1, h2, h3, h4⟩ hb => ⟨b, A, c, h1, (hb.block b (lt_of_block h2)).trans h2, h3, TrS.up (F := fun _ => True) h4 hb⟩
def Fact.rowT (lo : Nat) (W : World) (v0 : Value) (ys : List T) : Fact :=
  .of (fun v z => ∃ A c, v = .slice A ys.length c ∧ RowTr lo z (.slice A ys.length c) ys ∧ W.grownBy z v0.ownBlock) fun _ z z' ⟨A, c, h1, h2, h3⟩ hb => ⟨A, c, h1, h2.up hb, grown_below h3 hb⟩
/-- The box of a term that is being copied: its row has grown. -/
def BoxT (lo p : Nat) (x : T) (z : World) (ts : List T) : Prop :=
  ∃ A c, z.heap[p]? = some (.cells #[.int .i64 x.op, .int .i64 x.a, .int .i64 x.b, .string x.name, .slice A ts.length c] 48 (0, 0)) ∧ RowTr lo z (.slice A ts.length c) ts
def Fact.boxT (lo base p : Nat) (W : World) (x : T) (ts : List T) (r : Nat) : Fact :=
  .of (fun _ z => BoxT lo p x z ts ∧ Below base W z ∧ base ≤ z.heap.size ∧ z.heap[r]? = W.heap[r]? ∧ r < z.heap.size) fun _ z z' ⟨⟨A, c, h1, h2⟩, h3, h4, h5, h6⟩ hb => ⟨⟨A, c, (hb.block p (lt_of_block h1)).trans h1, h2.up hb⟩, h3.trans (hb.mono h4), Nat.le_trans h4 hb.size, (hb.block r h6).trans h5, Nat.lt_of_lt_of_le h6 hb.size⟩
theorem RowTr.lt {lo : Nat} {w : World} {v : Value} {ts : List T} (h : RowTr lo w v ts) : ∀ g, v.ownBlock = some g → lo ≤ g ∧ g < w.heap.size := by
  obtain ⟨cs, h1, _⟩ := h
  exact fun g hg => h1.lt g hg
theorem wpList_append_tree {Q' : Exit → Act → World → Prop} {ops : Array Oper} {rest : List Oper} {o : Oper} {a : Act} {w : World} {lo mid b : Nat} {A A9 : Option Addr} {c c9 : Nat} {ts ys : List T} {x : T} {e' : TypeId} (hgd : o.guard = none) (s y : Operand)
    (ho : o.op = .call { callee := .builtin .append, args := #[s, y], argTypes := #[24, 24] }) (hs : a.eval s = .slice A ts.length c) (hyv : a.eval y = .slice (some ⟨b, 0, none⟩) 1 1)
    (h : RowTr lo w (.slice A ts.length c) ts) (hlo : lo ≤ w.heap.size) (hn : ts.length ≤ 2000000)
    (hx : TrS w (fun g => mid ≤ g ∧ OwnB9 lo w g) A9 x.kids) (hc9 : x.kids.length ≤ c9) (hb : w.heap[b]? = some (.cells (tcells x A9 c9).toArray e' (0, 0)))
    (hnew : ∀ g, mid ≤ g → (Value.slice A ts.length c).ownBlock ≠ some g) (hold : ∃ w0 : World, w0.heap.size ≤ mid ∧ Below w0.heap.size w0 w ∧ RowTr lo w0 (.slice A ts.length c) ts) (hy : ys = ts ++ [x])
    (hk : ∀ A' c' w', RowTr lo w' (.slice A' ys.length c') ys → w.grownBy w' (Value.slice A ts.length c).ownBlock → wpList Tryz.prog ops Q' rest (a.put o.dst (.slice A' ys.length c')) w') :
    wpList Tryz.prog ops Q' (o :: rest) a w := by
  obtain ⟨A', c', w', hrun, h2, h3, _⟩ := run_append_tree (d := 1) (ty := o.type) h (fun _ _ => trivial) hlo hn hx hc9 hb hnew hold hy
  refine wpList_plain hgd fun _ hK => ?_
  unfold Oper.wp execOp
  simp only [ho, resolve, invoke, builtin, Sem.run_bind, Sem.run_pure, Result.andThen_ok, List.map_toArray, List.map_cons, List.map_nil, hs, hyv, hrun]
  exact hK _ _ (hk A' c' w' h2 h3)
/-- What the program's copyTerm is asked. -/
def RetTree (x : T) (w : World) (e : Ending) (w' : World) : Prop := ∃ A c, e = .returned (.agg (tcells x A c).toArray) ∧ x.kids.length ≤ c ∧ TrS w' (OwnB9 w.heap.size w') A x.kids ∧ Below w.heap.size w w'
def CopyT (x : T) : Prop := ∀ (A : Option Addr) (c : Nat) (F : Nat → Prop) (w : World), Lay.term.Sl w F A x.kids → (∀ b, F b → b < w.heap.size) →
  Calls Tryz.prog 94 #[.agg #[.int .i64 x.op, .int .i64 x.a, .int .i64 x.b, .string x.name, .slice A x.kids.length c]] w (RetTree x w)
set_option maxRecDepth 100000 in
set_option maxHeartbeats 8000000 in
theorem copyTerm_any (t : T) (ho : T.All okT2 t) : CopyT t := by
  revert ho
  refine T.ind (p := fun x => T.All okT2 x → CopyT x) (fun x ih ho => ?_) t
  obtain ⟨hkl, _⟩ := ho.here
  have ihk : ∀ k ∈ x.kids, CopyT k := fun k hk => ih k hk (ho.kid k hk)
  clear ih ho
  intro A c F w h hF
  have HIK := Lib.hid ihk
  clear ihk
  have hal : Below w.heap.size w ((w.alloc (.cells #[.int .i64 x.op, .int .i64 x.a, .int .i64 x.b, .string x.name, .slice none 0 0] 48)).alloc (.cells #[.int .i64 0, .int .i64 0, .int .i64 0, .string ⟨#[]⟩, .slice none 0 0] 48)) := ((Below.refl w.heap.size w).alloc (Nat.le_refl _) (.cells #[.int .i64 x.op, .int .i64 x.a, .int .i64 x.b, .string x.name, .slice none 0 0] 48)).alloc (by simp) (.cells #[.int .i64 0, .int .i64 0, .int .i64 0, .string ⟨#[]⟩, .slice none 0 0] 48)
  have hsz1 : (w.alloc (.cells #[.int .i64 x.op, .int .i64 x.a, .int .i64 x.b, .string x.name, .slice none 0 0] 48)).heap.size = w.heap.size + 1 := by simp
  have hsz2 : ((w.alloc (.cells #[.int .i64 x.op, .int .i64 x.a, .int .i64 x.b, .string x.name, .slice none 0 0] 48)).alloc (.cells #[.int .i64 0, .int .i64 0, .int .i64 0, .string ⟨#[]⟩, .slice none 0 0] 48)).heap.size = w.heap.size + 2 := by simp
  have hres := heap_alloc_new (w.alloc (.cells #[.int .i64 x.op, .int .i64 x.a, .int .i64 x.b, .string x.name, .slice none 0 0] 48)) (.cells #[.int .i64 0, .int .i64 0, .int .i64 0, .string ⟨#[]⟩, .slice none 0 0] 48)
  rw [hsz1] at hres
  have hbox : ((w.alloc (.cells #[.int .i64 x.op, .int .i64 x.a, .int .i64 x.b, .string x.name, .slice none 0 0] 48)).alloc (.cells #[.int .i64 0, .int .i64 0, .int .i64 0, .string ⟨#[]⟩, .slice none 0 0] 48)).heap[w.heap.size]? = some (.cells #[.int .i64 x.op, .int .i64 x.a, .int .i64 x.b, .string x.name, .slice none 0 0] 48 (0, 0)) := (((Below.refl (w.alloc (.cells #[.int .i64 x.op, .int .i64 x.a, .int .i64 x.b, .string x.name, .slice none 0 0] 48)).heap.size (w.alloc (.cells #[.int .i64 x.op, .int .i64 x.a, .int .i64 x.b, .string x.name, .slice none 0 0] 48))).alloc (Nat.le_refl _) (.cells #[.int .i64 0, .int .i64 0, .int .i64 0, .string ⟨#[]⟩, .slice none 0 0] 48)).block _ (by rw [hsz1]; omega)).trans (heap_alloc_new w (.cells #[.int .i64 x.op, .int .i64 x.a, .int .i64 x.b, .string x.name, .slice none 0 0] 48))
  have H := Lib.hid h
  have HF := Lib.hid hF
  clear h hF hsz1
  go_enter Tryz.func94, Tryz.ntmps94
  go_wp2
  generalize (w.alloc (.cells #[.int .i64 x.op, .int .i64 x.a, .int .i64 x.b, .string x.name, .slice none 0 0] 48)).alloc (.cells #[.int .i64 0, .int .i64 0, .int .i64 0, .string ⟨#[]⟩, .slice none 0 0] 48) = W at *
  obtain ⟨p, hp⟩ : ∃ p, p = w.heap.size := ⟨_, rfl⟩
  rw [← hp] at hbox hres hsz2 hal ⊢
  have HP := Lib.hid hp
  clear hp
  go_loopw [11] (fun i wr => ∃ k : Nat, k ≤ x.kids.length ∧ i = .int .i64 k ∧ BoxT (p + 2) p x wr (x.kids.take k) ∧ wr.heap[p + 1]? = some (.cells #[.int .i64 0, .int .i64 0, .int .i64 0, .string ⟨#[]⟩, .slice none 0 0] 48 (0, 0)) ∧ Below p w wr ∧ p + 2 ≤ wr.heap.size) (fun i _ => x.kids.length - (intOf i).toNat)
  case atStart => exact ⟨0, Nat.zero_le _, rfl, ⟨none, 0, hbox, RowTr.nil _ _⟩, hres, hal, by omega⟩
  case round =>
    obtain ⟨k, hk, rfl, hbt, hrs, hb, hlo⟩ := hrel
    by_cases hlt : k < x.kids.length
    · have hk1 : (k : Int) < x.kids.length := by omega
      obtain ⟨B, b, hbx, hrow⟩ := hbt
      have hbw : Below w.heap.size w wr := by rw [← HP.out]; exact hb
      obtain ⟨ad, A1, c1, rfl, hf, e1, e2, e3, e4, e5, hcc, hkk⟩ := (H.out.below hbw HF.out).at_term hlt
      have hal2 : Below wr.heap.size wr (wr.alloc (.cells #[.int .i64 x.kids[k].op, .int .i64 x.kids[k].a, .int .i64 x.kids[k].b, .string x.kids[k].name, .slice A1 x.kids[k].kids.length c1] 48)) := (Below.refl _ _).alloc (Nat.le_refl _) _
      have hk5 := heap_alloc_new wr (.cells #[.int .i64 x.kids[k].op, .int .i64 x.kids[k].a, .int .i64 x.kids[k].b, .string x.kids[k].name, .slice A1 x.kids[k].kids.length c1] 48)
      obtain ⟨ys, hys⟩ : ∃ ys, ys = x.kids.take k ++ [x.kids[k]] := ⟨_, rfl⟩
      have HYE : Hid (ys = x.kids.take (k + 1)) := Lib.hid (by rw [hys, List.take_succ_eq_append_getElem hlt])
      have HYS := Lib.hid hys
      have hxl : (x.kids.take k).length ≤ 2000000 := by rw [List.length_take]; omega
      generalize x.kids.take k = ts at *
      have hKK := hkk.below hal2 (fun g hg => Nat.lt_of_lt_of_le (HF.out g hg) hbw.size)
      have HCP := Lib.hid (HIK.out _ (List.getElem_mem hlt) A1 c1 F)
      have HRW := Lib.hid (hrow.up hal2)
      have HBX := Lib.hid ((hal2.block _ (lt_of_block hbx)).trans hbx)
      have HRS := Lib.hid ((hal2.block _ (lt_of_block hrs)).trans hrs)
      have HB := Lib.hid (hb.trans (hal2.mono (by omega)))
      have HLO : Hid (p + 2 ≤ (wr.alloc (.cells #[.int .i64 x.kids[k].op, .int .i64 x.kids[k].a, .int .i64 x.kids[k].b, .string x.kids[k].name, .slice A1 x.kids[k].kids.length c1] 48)).heap.size) := Lib.hid (Nat.le_trans hlo hal2.size)
      have HKK := Lib.hid hKK
      have HFL : Hid (∀ g, F g → g < (wr.alloc (.cells #[.int .i64 x.kids[k].op, .int .i64 x.kids[k].a, .int .i64 x.kids[k].b, .string x.kids[k].name, .slice A1 x.kids[k].kids.length c1] 48)).heap.size) := Lib.hid (fun g hg => Nat.lt_of_lt_of_le (HF.out g hg) (Nat.le_trans hbw.size hal2.size))
      have z0 := Later.cell (cell_of_block HBX.out 4).1
      have y0 := Later.cell (cell_of_block hk5 0).1
      have y1 := Later.cell (cell_of_block hk5 1).1
      have y2 := Later.cell (cell_of_block hk5 2).1
      have y3 := Later.cell (cell_of_block hk5 3).1
      have y4 := Later.cell (cell_of_block hk5 4).1
      clear hys hkk hKK hal2 hk5 hrow hbx hrs hb hbw
      go_wp2
      generalize wr.alloc (.cells #[.int .i64 x.kids[k].op, .int .i64 x.kids[k].a, .int .i64 x.kids[k].b, .string x.kids[k].name, .slice A1 x.kids[k].kids.length c1] 48) = W1 at *
      generalize wr.heap.size = bx at *
      refine wp_region_shares [[], [(0, 15)], [], [(2, 17)], [(3, 18)], [(1, 16), (4, 19)], [], [(6, 21), (5, 20)]]
        [.eq (.pointer (some ⟨p, 4, none⟩)), .eq (.slice B ts.length b), .eq (.agg #[.int .i64 x.kids[k].op, .int .i64 x.kids[k].a, .int .i64 x.kids[k].b, .string x.kids[k].name, .slice A1 x.kids[k].kids.length c1]), Fact.treeV (p + 2) W1.heap.size x.kids[k], Fact.treeL (p + 2) W1.heap.size x.kids[k], Fact.rowT (p + 2) W1 (.slice B ts.length b) ys, .eq (.pointer (some ⟨p, 4, none⟩)), Fact.boxT (p + 2) p p W1 x ys (p + 1)]
        [5, 7] [5, 7] [6, 7] [7] [(0, 15), (1, 16), (2, 17), (3, 18), (4, 19), (5, 20), (6, 21)] (by kernel_rfl) (by kernel_rfl) (by kernel_rfl) (by kernel_rfl)
        ⟨?_, ?_, ?_, ?_, ?_, ?_, ?_, ?_, trivial⟩ ?_
      · intro vals z hC hF
        simp only [putsD, Act.put, List.setIfInBounds_toArray, List.set_cons_zero, List.set_cons_succ]
        go_wp2
        exact ⟨rfl, rfl, .inr (Below.refl _ _), .inr (.inl (by simp))⟩
      · intro vals z hC hF
        have hC := hC.resolve_left (by simp)
        have hsz := hC.size
        have e1 : z.cell? _ = _ := z0 ⟨z, hC⟩
        simp only [factsD, List.getD_cons_zero, List.getD_cons_succ, Fact.eq, Fact.row, Fact.lit, Fact.lit0, Fact.of, and_true, Fact.treeV, Fact.treeL, Fact.rowT, Fact.boxT] at hF
        simp only [putsD, Act.put, List.setIfInBounds_toArray, List.set_cons_zero, List.set_cons_succ]
        simp only [hF]
        go_wp2
        exact ⟨rfl, rfl, .inr (Below.refl _ _), .inr (.inl (by simp))⟩
      · intro vals z hC hF
        have hC := hC.resolve_left (by simp)
        have hsz := hC.size
        have e1 : z.cell? _ = _ := y0 ⟨z, hC⟩
        have e2 : z.cell? _ = _ := y1 ⟨z, hC⟩
        have e3 : z.cell? _ = _ := y2 ⟨z, hC⟩
        have e4 : z.cell? _ = _ := y3 ⟨z, hC⟩
        have e5 : z.cell? _ = _ := y4 ⟨z, hC⟩
        simp only [putsD, Act.put, List.setIfInBounds_toArray, List.set_cons_zero, List.set_cons_succ]
        go_wp2
        exact ⟨rfl, rfl, .inr (Below.refl _ _), .inr (.inl (by simp))⟩
      · intro vals z hC hF
        have hC := hC.resolve_left (by simp)
        have hsz := hC.size
        simp only [factsD, List.getD_cons_zero, List.getD_cons_succ, Fact.eq, Fact.row, Fact.lit, Fact.lit0, Fact.of, and_true, Fact.treeV, Fact.treeL, Fact.rowT, Fact.boxT] at hF
        have e1 := hF
        simp only [putsD, Act.put, List.setIfInBounds_toArray, List.set_cons_zero, List.set_cons_succ]
        simp only [e1]
        have HC9 := Lib.hid (HCP.out z (HKK.out.below hC HFL.out) (fun g hg => Nat.lt_of_lt_of_le (HFL.out g hg) hsz))
        go_wp2_with fail
        refine HC9.out.mono ?_
        rintro e w9 ⟨A9, c9, rfl, hc9, ht9, hb9⟩
        have HT9 : Hid (TrS w9 (fun g => W1.heap.size ≤ g ∧ OwnB9 (p + 2) w9 g) A9 x.kids[k].kids) := Lib.hid (TrT.mono ht9 fun g hg => ⟨Nat.le_trans hsz hg.1, hg.le (Nat.le_trans HLO.out hsz)⟩)
        clear ht9
        go_wp2
        exact ⟨rfl, ⟨A9, c9, rfl, hc9, HT9.out⟩, .inr hb9, .inr (.inl (by simp))⟩
      · intro vals z hC hF
        have hC := hC.resolve_left (by simp)
        have hsz := hC.size
        simp only [factsD, List.getD_cons_zero, List.getD_cons_succ, Fact.eq, Fact.row, Fact.lit, Fact.lit0, Fact.of, and_true, Fact.treeV, Fact.treeL, Fact.rowT, Fact.boxT] at hF
        obtain ⟨A9, c9, e1, hc9, ht9⟩ := hF
        have e1 : vals 3 = .agg #[.int .i64 x.kids[k].op, .int .i64 x.kids[k].a, .int .i64 x.kids[k].b, .string x.kids[k].name, .slice A9 x.kids[k].kids.length c9] := e1
        simp only [putsD, Act.put, List.setIfInBounds_toArray, List.set_cons_zero, List.set_cons_succ]
        simp only [e1]
        have hal9 : Below z.heap.size z (z.alloc (.cells (tcells x.kids[k] A9 c9).toArray 48)) := (Below.refl _ _).alloc (Nat.le_refl _) _
        go_wp2
        exact ⟨rfl, ⟨_, A9, c9, rfl, heap_alloc_new _ _, hc9, TrS.up (F := fun _ => True) ht9 hal9⟩, .inr hal9, .inr (.inl (by simp))⟩
      · intro vals z hC hF
        have hC := hC.resolve_left (by simp)
        have hsz := hC.size
        simp only [factsD, List.getD_cons_zero, List.getD_cons_succ, Fact.eq, Fact.row, Fact.lit, Fact.lit0, Fact.of, and_true, Fact.treeV, Fact.treeL, Fact.rowT, Fact.boxT] at hF
        obtain ⟨e5, b5, A9, c9, e7, hb5, hc9, ht9⟩ := hF
        have hrz := HRW.out.up hC
        simp only [putsD, Act.put, List.setIfInBounds_toArray, List.set_cons_zero, List.set_cons_succ]
        simp only [e5, e7]
        refine wpList_append_tree (ys := ys) (by rfl) (.tmp 16) (.tmp 19) (by rfl) (by rfl) (by rfl) hrz (Nat.le_trans HLO.out hsz) hxl ht9 hc9 hb5 (fun g hg e9 => by have := (HRW.out.lt g e9).2; omega) ⟨W1, Nat.le_refl _, hC, HRW.out⟩ HYS.out ?_
        intro A8 c8 w8 hown8 hg8
        exact ⟨rfl, ⟨A8, c8, rfl, hown8, below_grown hC hg8⟩, .inl (by simp), .inl (by simp)⟩
      · intro vals z hC hF
        simp only [putsD, Act.put, List.setIfInBounds_toArray, List.set_cons_zero, List.set_cons_succ]
        go_wp2
        exact ⟨rfl, rfl, .inr (Below.refl _ _), .inr (.inl (by simp))⟩
      · intro vals z hC hF
        simp only [factsD, List.getD_cons_zero, List.getD_cons_succ, Fact.eq, Fact.row, Fact.lit, Fact.lit0, Fact.of, and_true, Fact.treeV, Fact.treeL, Fact.rowT, Fact.boxT] at hF
        obtain ⟨e11, A8, c8, e8, hown8, hg8⟩ := hF
        have hpx := (hg8.block p (lt_of_block HBX.out) (fun e => by have := (HRW.out.lt p e.symm).1; omega)).trans HBX.out
        have x1 := (cell_of_block hpx 4).1
        have x2 := (cell_of_block hpx 4).2
        have HRF := Lib.hid (hown8.far ⟨p, 4, none⟩ (.slice A8 ys.length c8) (by show p < p + 2; omega))
        have HPX := Lib.hid (heap_set_same z p 4 (.slice A8 ys.length c8) _ _ hpx)
        have HBL : Hid (Below p W1 (z.setCell ⟨p, 4, none⟩ (.slice A8 ys.length c8))) := Lib.hid (below_set9 ((Below.refl p W1).grown hg8 (by have := HLO.out; omega) (fun g hg => by have := (HRW.out.lt g hg).1; omega)) (Nat.le_refl p) _)
        have HRR := Lib.hid ((Below.heap_setCell z ⟨p, 4, none⟩ (.slice A8 ys.length c8) (p + 1) (by show p + 1 ≠ p; omega)).trans (hg8.block (p + 1) (lt_of_block HRS.out) (fun e => by have := (HRW.out.lt (p + 1) e.symm).1; omega)))
        have HSZ := Lib.hid hg8.size
        clear hpx
        simp only [putsD, Act.put, List.setIfInBounds_toArray, List.set_cons_zero, List.set_cons_succ]
        simp only [e11, e8]
        go_wp2
        exact ⟨rfl, ⟨⟨A8, c8, HPX.out, HRF.out⟩, HBL.out, by rw [size_setCell]; have := HLO.out; have := HSZ.out; omega, HRR.out, by rw [size_setCell]; have := HLO.out; have := HSZ.out; omega⟩, .inl (by simp), .inl (by simp)⟩
      · intro vals z hF
        simp only [facts, List.getD_cons_zero, List.getD_cons_succ, Fact.eq, Fact.row, Fact.lit, Fact.lit0, Fact.of, and_true, Fact.treeV, Fact.treeL, Fact.rowT, Fact.boxT] at hF
        obtain ⟨hbt, hB9, hsz9, hr9, hlr9⟩ := hF
        simp only [putsD, Act.put, List.setIfInBounds_toArray, List.set_cons_zero, List.set_cons_succ]
        have hb9 := HB.out.trans hB9
        have hrs9 := hr9.trans HRS.out
        clear hB9 hr9 z0 y0 y1 y2 y3 y4
        go_wp2
        go_roundw
        case rel => exact ⟨k + 1, by omega, by go_num, by rw [← HYE.out]; exact hbt, hrs9, hb9, by omega⟩
        case measure => simp [intOf]; omega
    · have hke : k = x.kids.length := by omega
      subst hke
      rw [List.take_length] at hbt
      obtain ⟨B, b, hbx, hrow⟩ := hbt
      have v0 := (cell_of_block hbx 0).1
      have v1 := (cell_of_block hbx 1).1
      have v2 := (cell_of_block hbx 2).1
      have v3 := (cell_of_block hbx 3).1
      have v4 := (cell_of_block hbx 4).1
      have r0 := (cell_of_block hrs 0).1
      have r1 := (cell_of_block hrs 1).1
      have r2 := (cell_of_block hrs 2).1
      have r3 := (cell_of_block hrs 3).1
      have r4 := (cell_of_block hrs 4).1
      have f0 := (cell_of_block hrs 0).2
      have f1 := (cell_of_block hrs 1).2
      have f2 := (cell_of_block hrs 2).2
      have f3 := (cell_of_block hrs 3).2
      have f4 := (cell_of_block hrs 4).2
      have s0 := heap_set_same wr (p + 1) 0 (.int .i64 x.op) _ _ hrs
      have s1 := heap_set_same _ (p + 1) 1 (.int .i64 x.a) _ _ s0
      have s2 := heap_set_same _ (p + 1) 2 (.int .i64 x.b) _ _ s1
      have s3 := heap_set_same _ (p + 1) 3 (.string x.name) _ _ s2
      have s4 := heap_set_same _ (p + 1) 4 (.slice B x.kids.length b) _ _ s3
      have hp1 : p + 1 < p + 2 := by omega
      have HRW := Lib.hid (((((hrow.far ⟨p + 1, 0, none⟩ (.int .i64 x.op) hp1).far ⟨p + 1, 1, none⟩ (.int .i64 x.a) hp1).far ⟨p + 1, 2, none⟩ (.int .i64 x.b) hp1).far ⟨p + 1, 3, none⟩ (.string x.name) hp1).far ⟨p + 1, 4, none⟩ (.slice B x.kids.length b) hp1)
      have hp2 : p ≤ p + 1 := by omega
      have HBL := Lib.hid (below_set9 (below_set9 (below_set9 (below_set9 (below_set9 hb (p := ⟨p + 1, 0, none⟩) hp2 (.int .i64 x.op)) (p := ⟨p + 1, 1, none⟩) hp2 (.int .i64 x.a)) (p := ⟨p + 1, 2, none⟩) hp2 (.int .i64 x.b)) (p := ⟨p + 1, 3, none⟩) hp2 (.string x.name)) (p := ⟨p + 1, 4, none⟩) hp2 (.slice B x.kids.length b))
      have HS4 := Lib.hid s4
      have hcap : x.kids.length ≤ b := by
        obtain ⟨A8, c8, e8, h8⟩ := hrow.form
        injection e8 with _ _ e8
        omega
      clear s0 s1 s2 s3 s4 hp1 hp2 hrow hbx hb
      go_wp2
      generalize (((((wr.setCell ⟨p + 1, 0, none⟩ (.int .i64 x.op)).setCell ⟨p + 1, 1, none⟩ (.int .i64 x.a)).setCell ⟨p + 1, 2, none⟩ (.int .i64 x.b)).setCell ⟨p + 1, 3, none⟩ (.string x.name)).setCell ⟨p + 1, 4, none⟩ (.slice B x.kids.length b)) = W5 at *
      have k0 := (cell_of_block HS4.out 0).1
      have k1 := (cell_of_block HS4.out 1).1
      have k2 := (cell_of_block HS4.out 2).1
      have k3 := (cell_of_block HS4.out 3).1
      have k4 := (cell_of_block HS4.out 4).1
      simp at k0 k1 k2 k3 k4
      refine bodyPost_ret (v := .agg #[.int .i64 x.op, .int .i64 x.a, .int .i64 x.b, .string x.name, .slice B x.kids.length b]) (by simp [results, Tryz.results94, go_sem, k0, k1, k2, k3, k4]) rfl ?_
      refine ⟨B, b, rfl, hcap, TrT.mono (RowTr.tree HRW.out) (fun g hg => hg.le (by rw [← HP.out]; omega)), by rw [← HP.out]; exact HBL.out⟩
end Go.Proofs.YtiahmfpfimmbgaaGreatDoor
