/- FnExactCtxDecls: the program's CtxDecls answers, for any context, what the reference's answers, in memory of its own. -/
import Derived.Test.YthcmflhhpgmfaaaGreatDoorRows
import Derived.Test.YthcmflhhpgmfaaaGreatDoorTie
import Derived.Test.YthcmflhhpgmfaaaGreatDoorCards
import Derived.ProofKit
import Derived.OpenShut
import Derived.LaidMore
import Derived.Lay
import Derived.LaidOnce
import Derived.SevenTiedAt
import Derived.Stop.Joined
import Derived.Test.YthcmflhhpgmfaaaGreatDoorJExCtxDecls0
import Derived.Test.YthcmflhhpgmfaaaGreatDoorJExCtxDecls9
/-! Marks of terms and layers. -/
namespace Go.Proofs.YthcmflhhpgmfaaaGreatDoor
open Go Go.RowKit Go.ChangeShapes Go.WideShapes Go.ChangeAt Go.Deep

/-- The kids of the term t lie at A, and theirs below them; all may be written. -/
inductive ShT (w : World) (F : Nat → Prop) : T → Option Addr → Prop
  | mk (t : T) (A : Option Addr) (Ak : Nat → Option Addr) (ck : Nat → Nat)
      (h : 0 < t.kids.length → ∃ ad, A = some ad ∧ F ad.block ∧ ∀ k, k < t.kids.length → (∃ o, w.cell? (ad.add (k * 5)) = some (.int .i64 o)) ∧ (∃ o, w.cell? (ad.add (k * 5 + 1)) = some (.int .i64 o)) ∧ (∃ o, w.cell? (ad.add (k * 5 + 2)) = some (.int .i64 o)) ∧ (∃ s, w.cell? (ad.add (k * 5 + 3)) = some (.string s)) ∧
        (∀ x, t.kids[k]? = some x → w.cell? (ad.add (k * 5 + 4)) = some (.slice (Ak k) x.kids.length (ck k))) ∧ ∀ j, w.frozen? (ad.add j) = false)
      (hk : ∀ k x, t.kids[k]? = some x → ShT w F x (Ak k)) : ShT w F t A
theorem ShT.dab {w w' : World} {F G : Nat → Prop} {t : T} {A : Option Addr} (h : ShT w F t A) (hd : Dab G w w') : ShT w' F t A := by
  induction h with
  | mk t A Ak ck h hk ih =>
    refine .mk t A Ak ck (fun h0 => ?_) ih
    obtain ⟨ad, e, hf, hc⟩ := h h0
    refine ⟨ad, e, hf, fun k hlt => ?_⟩
    obtain ⟨⟨o0, h0⟩, ⟨o1, h1⟩, ⟨o2, h2⟩, ⟨s3, h3⟩, h4, hfz⟩ := hc k hlt
    have hlb : ad.block < w.heap.size := by have := World.block_lt_of_cell? w _ h0; rwa [block_of_add] at this
    obtain ⟨v0, g0, q0⟩ := hd.kin _ _ h0
    obtain ⟨b0, rfl⟩ := q0.ofInt
    obtain ⟨v1, g1, q1⟩ := hd.kin _ _ h1
    obtain ⟨b1, rfl⟩ := q1.ofInt
    obtain ⟨v2, g2, q2⟩ := hd.kin _ _ h2
    obtain ⟨b2, rfl⟩ := q2.ofInt
    obtain ⟨v3, g3, q3⟩ := hd.kin _ _ h3
    obtain ⟨b3, rfl⟩ := q3.ofStr
    refine ⟨⟨_, g0⟩, ⟨_, g1⟩, ⟨_, g2⟩, ⟨_, g3⟩, fun x hx => ?_, fun j => (hd.frz _ (by rw [block_of_add]; exact hlb)).trans (hfz j)⟩
    obtain ⟨v4, g4, q4⟩ := hd.kin _ _ (h4 x hx)
    rw [q4.ofSlice] at g4
    exact g4
theorem ShT.of {w : World} {F : Nat → Prop} (hF : ∀ b, F b → ∀ o, w.frozen? ⟨b, o, none⟩ = false) (t : T) : ∀ (A : Option Addr), Lay.term.Sl w F A t.kids → ShT w F t A := by
  refine T.ind (p := fun t => ∀ (A : Option Addr), Lay.term.Sl w F A t.kids → ShT w F t A) (fun t ih A h => ?_) t
  have hch : ∀ k, ∃ p : Option Addr × Nat, ∀ x, t.kids[k]? = some x → (∀ ad, A = some ad → w.cell? (ad.add (k * 5 + 4)) = some (.slice p.1 x.kids.length p.2)) ∧ Lay.term.Sl w F p.1 x.kids := fun k => by
    by_cases hk : k < t.kids.length
    · obtain ⟨ad, e, hf, hc⟩ := h (by omega)
      obtain ⟨vs, hr, hcell⟩ := hc k t.kids[k] (List.getElem?_eq_getElem hk)
      obtain ⟨A', c', rfl, _, hs⟩ := TermR.form hr
      refine ⟨(A', c'), fun x hx => ?_⟩
      rw [List.getElem?_eq_getElem hk] at hx
      injection hx with hx
      subst hx
      refine ⟨fun ad' e' => ?_, hs⟩
      rw [e] at e'; injection e' with e'; subst e'
      exact hcell 4 _ rfl
    · exact ⟨(none, 0), fun x hx => by rw [List.getElem?_eq_none (by omega)] at hx; cases hx⟩
  obtain ⟨f, hf⟩ := Classical.axiomOfChoice hch
  refine .mk t A (fun k => (f k).1) (fun k => (f k).2) (fun h0 => ?_) (fun k x hx => ih x (List.mem_of_getElem? hx) _ (hf k x hx).2)
  obtain ⟨ad, e, hfb, hc⟩ := h h0
  refine ⟨ad, e, hfb, fun k hlt => ?_⟩
  obtain ⟨vs, hr, hcell⟩ := hc k t.kids[k] (List.getElem?_eq_getElem hlt)
  obtain ⟨A', c', rfl, _, _⟩ := TermR.form hr
  refine ⟨⟨_, hcell 0 _ rfl⟩, ⟨_, hcell 1 _ rfl⟩, ⟨_, hcell 2 _ rfl⟩, ⟨_, hcell 3 _ rfl⟩, fun x hx => (hf k x hx).1 ad e, fun j => ?_⟩
  have := hF _ hfb (ad.add j).off
  rw [← this]
  unfold World.frozen?
  rw [block_of_add]
theorem sizeL_take (ks : List T) (k : Nat) (h : k < ks.length) : T.sizeL (ks.take (k + 1)) = T.sizeL (ks.take k) + (1 + T.sizeL ks[k].kids) := by
  induction ks generalizing k with
  | nil => simp at h
  | cons x xs ih =>
    obtain ⟨o, a, b, n, ks⟩ := x
    cases k with
    | zero => simp [T.sizeL, T.size, T.kids]
    | succ k =>
      have := ih k (by simpa using h)
      simp only [List.take_succ_cons, T.sizeL, List.getElem_cons_succ] at this ⊢
      omega
theorem sizeL_take_le (ks : List T) (k : Nat) : T.sizeL (ks.take k) ≤ T.sizeL ks := by
  induction ks generalizing k with
  | nil => simp
  | cons x xs ih =>
    cases k with
    | zero => simp [T.sizeL]
    | succ k => simp only [List.take_succ_cons, T.sizeL]; have := ih k; omega
theorem ad_f (ad : Addr) (k n j : Nat) (hj : 0 < j) : (⟨(ad.add (k * n)).block, (ad.add (k * n)).off + j, none⟩ : Addr) = ad.add (k * n + j) := by
  rw [← add_of_add]
  show _ = (if j = 0 then _ else _)
  rw [if_neg (by omega)]
/-- What the mark of a row of terms is asked. -/
def MarkTC (t : T) : Prop := ∀ (A : Option Addr) (c : Nat) (k0 : Int) (F : Nat → Prop) (w : World), ShT w F t A → 1 ≤ k0 → k0 + 4 * (T.sizeL t.kids : Int) ≤ 1000000000 → t.kids.length ≤ 1048576 →
  Calls Tryz.prog 24 #[.slice A t.kids.length c, .int .i64 k0] w fun e w' => e = .returned (.int .i64 (k0 + 4 * (T.sizeL t.kids : Int))) ∧ Dab F w w'
set_option maxRecDepth 100000 in
set_option maxHeartbeats 4000000 in
theorem markTermS_any (t : T) (ho : T.All okT2 t) : MarkTC t := by
  revert ho
  refine T.ind (p := fun x => T.All okT2 x → MarkTC x) (fun x ih ho => ?_) t
  have ihk : ∀ k ∈ x.kids, MarkTC k ∧ k.kids.length ≤ 1048576 := fun k hk => ⟨ih k hk (ho.kid k hk), (ho.kid k hk).here.1⟩
  clear ih ho
  intro A c k0 F w h h0 h1 hn
  have H := Lib.hid h
  have HIK := Lib.hid ihk
  clear h ihk
  go_enter Tryz.func24, Tryz.ntmps24
  go_wp2
  go_loopw [1, 5] (fun kk i wr => ∃ (j : Nat) (S : Int), j ≤ x.kids.length ∧ i = .int .i64 j ∧ kk = .int .i64 S ∧ Hid (S = k0 + 4 * (T.sizeL (x.kids.take j) : Int)) ∧ 1 ≤ S ∧ Dab F w wr) (fun _ i _ => x.kids.length - (intOf i).toNat)
  case atStart => exact ⟨0, k0, Nat.zero_le _, rfl, rfl, Lib.hid (by simp [T.sizeL]), h0, Dab.refl _ _⟩
  case round =>
    obtain ⟨j, S, hj, rfl, rfl, HSS, S0, hd⟩ := hrel
    have HD := Lib.hid hd
    have HSH := Lib.hid (H.out.dab hd)
    clear hd
    by_cases hlt : j < x.kids.length
    · have hj2 : (j : Int) < x.kids.length := by omega
      have HST := Lib.hid (sizeL_take x.kids j hlt)
      have hle : S + 4 * (1 + (T.sizeL x.kids[j].kids : Int)) ≤ 1000000000 := by
        have h9 := sizeL_take_le x.kids (j + 1)
        rw [HST.out] at h9
        have := HSS.out
        omega
      have hsh := HSH.out
      cases hsh with
      | mk _ _ Ak ck hc hk =>
      obtain ⟨ad, rfl, hf, hcells⟩ := hc (by omega)
      obtain ⟨⟨o0, q0⟩, ⟨o1, q1⟩, ⟨o2, q2⟩, ⟨s3, q3⟩, q4, hfz⟩ := hcells j hlt
      have q4 := q4 _ (List.getElem?_eq_getElem hlt)
      have HSK := Lib.hid (hk j _ (List.getElem?_eq_getElem hlt))
      have z0 := hfz (j * 5)
      have z1 := hfz (j * 5 + 1)
      have z2 := hfz (j * 5 + 2)
      have z3 := hfz (j * 5 + 3)
      clear hcells hc hk hfz
      have n01 : ad.add (j * 5) ≠ ad.add (j * 5 + 1) := add_ne (by omega)
      have n02 : ad.add (j * 5) ≠ ad.add (j * 5 + 2) := add_ne (by omega)
      have n12 : ad.add (j * 5 + 1) ≠ ad.add (j * 5 + 2) := add_ne (by omega)
      have r1 : (wr.setCell (ad.add (j * 5)) (.int .i64 S)).cell? (ad.add (j * 5 + 1)) = some (.int .i64 o1) := (World.cell?_setCell_other _ _ _ _ n01).trans q1
      have f1 : (wr.setCell (ad.add (j * 5)) (.int .i64 S)).frozen? (ad.add (j * 5 + 1)) = false := (World.frozen?_setCell _ _ _ _).trans z1
      have r2 : ((wr.setCell (ad.add (j * 5)) (.int .i64 S)).setCell (ad.add (j * 5 + 1)) (.int .i64 (S + 1))).cell? (ad.add (j * 5 + 2)) = some (.int .i64 o2) := (World.cell?_setCell_other _ _ _ _ n12).trans ((World.cell?_setCell_other _ _ _ _ n02).trans q2)
      have f2 : ((wr.setCell (ad.add (j * 5)) (.int .i64 S)).setCell (ad.add (j * 5 + 1)) (.int .i64 (S + 1))).frozen? (ad.add (j * 5 + 2)) = false := (World.frozen?_setCell _ _ _ _).trans ((World.frozen?_setCell _ _ _ _).trans z2)
      have hd3 : Dab F wr (((wr.setCell (ad.add (j * 5)) (.int .i64 S)).setCell (ad.add (j * 5 + 1)) (.int .i64 (S + 1))).setCell (ad.add (j * 5 + 2)) (.int .i64 (S + 1 + 1))) :=
        ((Dab.set (by rw [block_of_add]; exact hf) q0 (.int _ _)).trans (Dab.set (by rw [block_of_add]; exact hf) r1 (.int _ _))).trans (Dab.set (by rw [block_of_add]; exact hf) r2 (.int _ _))
      have HD3 := Lib.hid hd3
      have HF := Lib.hid hf
      obtain ⟨v3, c3, k3⟩ := hd3.kin _ _ q3
      obtain ⟨b3, rfl⟩ := k3.ofStr
      obtain ⟨v4, c4, k4⟩ := hd3.kin _ _ q4
      rw [k4.ofSlice] at c4
      have y3 := (hd3.frz _ (World.block_lt_of_cell? wr _ q3)).trans z3
      have HC3 := Lib.hid c3
      have HC4 := Lib.hid c4
      have HY3 := Lib.hid y3
      clear n01 n02 n12 hd3 hf c3 c4 y3 k3 k4 q1 q2 q3 q4 z1 z2 z3
      have e1 := ad_f ad j 5 1 (by omega)
      have e2 := ad_f ad j 5 2 (by omega)
      have e3 := ad_f ad j 5 3 (by omega)
      have e4 := ad_f ad j 5 4 (by omega)
      rw [← e1] at r1 f1 r2 f2
      rw [← e2] at r2 f2
      rw [← e1, ← e2] at HD3 HC3 HC4 HY3
      rw [← e3] at HC3 HY3
      rw [← e4] at HC4
      clear e1 e2 e3 e4
      go_wp2_with fail
      refine (markText_any (S + 1 + 1 + 1) _ (by omega) (by omega)).mono ?_
      rintro e w2 ⟨rfl, hb2⟩
      have e3 := (hb2.cell (World.block_lt_of_cell? _ _ HC3.out)).trans HC3.out
      have g3 := (hb2.frozen (World.block_lt_of_cell? _ _ HC3.out)).trans HY3.out
      have e4 := (hb2.cell (World.block_lt_of_cell? _ _ HC4.out)).trans HC4.out
      obtain ⟨t9, ht9⟩ : ∃ t9, t9 = markT (S + 1 + 1 + 1) := ⟨_, rfl⟩
      rw [← ht9]
      have n34 : (⟨(ad.add (j * 5)).block, (ad.add (j * 5)).off + 3, none⟩ : Addr) ≠ ⟨(ad.add (j * 5)).block, (ad.add (j * 5)).off + 4, none⟩ := by
        intro e9; injection e9 with _ e9 _; omega
      have s4 : (w2.setCell ⟨(ad.add (j * 5)).block, (ad.add (j * 5)).off + 3, none⟩ (.string t9)).cell? ⟨(ad.add (j * 5)).block, (ad.add (j * 5)).off + 4, none⟩ = _ := (World.cell?_setCell_other _ _ _ _ n34).trans e4
      have HD4 := Lib.hid ((HD3.out.trans (Dab.of hb2)).trans (Dab.set (F := F) (p := ⟨(ad.add (j * 5)).block, (ad.add (j * 5)).off + 3, none⟩) (u := .string t9) (show F (ad.add (j * 5)).block by rw [block_of_add]; exact HF.out) e3 (.str _ _)))
      have HK4 := Lib.hid (HSK.out.dab HD4.out)
      obtain ⟨hmc, hkl⟩ := HIK.out _ (List.getElem_mem hlt)
      have HMC := Lib.hid (hmc (Ak j) (ck j) (S + 1 + 1 + 1 + 1) F _ HK4.out (by omega) (by omega) hkl)
      clear e4 n34 ht9 hb2 hmc q0 z0 r1 f1 r2 f2
      go_wp2_with fail
      refine HMC.out.mono ?_
      rintro e w5 ⟨rfl, hd5⟩
      have HD5 := Lib.hid ((HD.out.trans HD4.out).trans hd5)
      clear hd5 e3 g3 s4 HMC
      go_wp2
      go_roundw
      case rel => exact ⟨j + 1, S + 1 + 1 + 1 + 1 + 4 * (T.sizeL x.kids[j].kids : Int), by omega, by go_num, rfl, Lib.hid (by rw [HST.out, HSS.out]; push_cast; omega), by omega, HD5.out⟩
      case measure => simp [intOf]; omega
    · have hje : j = x.kids.length := by omega
      subst hje
      have HE : Hid (S = k0 + 4 * (T.sizeL x.kids : Int)) := Lib.hid (by rw [HSS.out, List.take_length])
      go_wp2
      go_ret
      exact ⟨ret_int HE.out, HD.out⟩
/-- The layers lie at A, and all that they lead to may be written. -/
def LyAt (w : World) (F : Nat → Prop) (A : Option Addr) (c : List Ly) : Prop :=
  0 < c.length → ∃ ad, A = some ad ∧ ∀ k (hk : k < c.length), ∃ A1 c1 A2 c2, w.cell? (ad.add (k * 2)) = some (.slice A1 c[k].ds.length c1) ∧ w.cell? ⟨(ad.add (k * 2)).block, (ad.add (k * 2)).off + 1, none⟩ = some (.slice A2 c[k].ts.length c2) ∧
    DeclsAt w F A1 c[k].ds.length ∧ ShT w F (.mk 0 0 0 ⟨#[]⟩ c[k].ts) A2
theorem LyAt.dab {w w' : World} {F G : Nat → Prop} {A : Option Addr} {c : List Ly} (h : LyAt w F A c) (hd : Dab G w w') : LyAt w' F A c := fun h0 => by
  obtain ⟨ad, e, hc⟩ := h h0
  refine ⟨ad, e, fun k hk => ?_⟩
  obtain ⟨A1, c1, A2, c2, e1, e2, h1, h2⟩ := hc k hk
  obtain ⟨v1, g1, k1⟩ := hd.kin _ _ e1
  obtain ⟨v2, g2, k2⟩ := hd.kin _ _ e2
  rw [k1.ofSlice] at g1
  rw [k2.ofSlice] at g2
  exact ⟨A1, c1, A2, c2, g1, g2, h1.dab hd, h2.dab hd⟩
theorem LyAt.of {w : World} {F : Nat → Prop} {A : Option Addr} {c : List Ly} (h : Lay.layer.Sl w F A c) (hF : ∀ b, F b → ∀ o, w.frozen? ⟨b, o, none⟩ = false) : LyAt w F A c := fun h0 => by
  obtain ⟨ad, _, _, _, _, e, _⟩ := h.at_layer h0
  refine ⟨ad, e, fun k hk => ?_⟩
  obtain ⟨ad', A1, c1, A2, c2, e', _, e1, e2, _, _, h1, h2⟩ := h.at_layer hk
  rw [e] at e'; injection e' with e'; subst e'
  exact ⟨A1, c1, A2, c2, e1, e2, DeclsAt.of (G := F) h1 fun b hb => ⟨hb, hF b hb⟩, ShT.of hF _ _ h2⟩
/-- How many marks the layers take. -/
def mwL : List Ly → Nat
  | [] => 0
  | l :: ls => 2 * l.ds.length + 4 * T.sizeL l.ts + mwL ls
theorem mwL_take (c : List Ly) (k : Nat) (h : k < c.length) : mwL (c.take (k + 1)) = mwL (c.take k) + (2 * c[k].ds.length + 4 * T.sizeL c[k].ts) := by
  induction c generalizing k with
  | nil => simp at h
  | cons x xs ih =>
    cases k with
    | zero => simp [mwL]
    | succ k =>
      have := ih k (by simpa using h)
      simp only [List.take_succ_cons, mwL, List.getElem_cons_succ] at this ⊢
      omega
theorem mwL_take_le (c : List Ly) (k : Nat) : mwL (c.take k) ≤ mwL c := by
  induction c generalizing k with
  | nil => simp
  | cons x xs ih =>
    cases k with
    | zero => simp [mwL]
    | succ k => simp only [List.take_succ_cons, mwL]; have := ih k; omega
set_option maxRecDepth 100000 in
set_option maxHeartbeats 4000000 in
theorem markLayerS_any (c : List Ly) (hc : ∀ l ∈ c, okL2 l) (A : Option Addr) (q : Nat) (k0 : Int) (F : Nat → Prop) (w : World) (h : LyAt w F A c) (h0 : 1 ≤ k0) (h1 : k0 + (mwL c : Int) ≤ 1000000000) (hn : c.length ≤ 1048576) :
    Calls Tryz.prog 18 #[.slice A c.length q, .int .i64 k0] w fun e w' => e = .returned (.int .i64 (k0 + (mwL c : Int))) ∧ Dab F w w' := by
  have H := Lib.hid h
  have HC := Lib.hid hc
  clear h hc
  go_enter Tryz.func18, Tryz.ntmps18
  go_wp2
  go_loopw [1, 5] (fun kk i wr => ∃ (j : Nat) (S : Int), j ≤ c.length ∧ i = .int .i64 j ∧ kk = .int .i64 S ∧ Hid (S = k0 + (mwL (c.take j) : Int)) ∧ 1 ≤ S ∧ Dab F w wr) (fun _ i _ => c.length - (intOf i).toNat)
  case atStart => exact ⟨0, k0, Nat.zero_le _, rfl, rfl, Lib.hid (by simp [mwL]), h0, Dab.refl _ _⟩
  case round =>
    obtain ⟨j, S, hj, rfl, rfl, HSS, S0, hd⟩ := hrel
    have HD := Lib.hid hd
    have HSH := H.out.dab hd
    clear hd
    by_cases hlt : j < c.length
    · have hj2 : (j : Int) < c.length := by omega
      have HST := Lib.hid (mwL_take c j hlt)
      have hle : S + (2 * (c[j].ds.length : Int) + 4 * (T.sizeL c[j].ts : Int)) ≤ 1000000000 := by
        have h9 := mwL_take_le c (j + 1)
        rw [HST.out] at h9
        have := HSS.out
        omega
      obtain ⟨hol1, hol2, hol3⟩ := HC.out _ (List.getElem_mem hlt)
      have HLT := Lib.hid hol3
      obtain ⟨ad, rfl, hcells⟩ := HSH (by omega)
      obtain ⟨A1, c1, A2, c2, e1, e2, hD, hT⟩ := hcells j hlt
      have HDD := Lib.hid (markDeclS_at A1 c1 c[j].ds.length S F wr hD hol1 S0 (by omega))
      have HT := Lib.hid hT
      have HE2 := Lib.hid e2
      clear hcells hD hT hol3
      go_wp2_with fail
      refine HDD.out.mono ?_
      rintro e w2 ⟨rfl, hd2, _⟩
      have HD2 := Lib.hid (HD.out.trans hd2)
      obtain ⟨v2, g2, k2⟩ := hd2.kin _ _ HE2.out
      rw [k2.ofSlice] at g2
      have HMT := Lib.hid (markTermS_any (.mk 0 0 0 ⟨#[]⟩ c[j].ts) (.mk _ ⟨hol2, by show (0 : Nat) ≤ 1048576; omega⟩ (fun k hk => HLT.out k hk)) A2 c2 (S + 2 * (c[j].ds.length : Int)) F w2 (HT.out.dab hd2) (by omega) (by show S + 2 * (c[j].ds.length : Int) + 4 * (T.sizeL c[j].ts : Int) ≤ 1000000000; omega) hol2)
      clear hd2 k2 e1 e2
      go_wp2_with fail
      refine HMT.out.mono ?_
      rintro e w3 ⟨rfl, hd3⟩
      have HD3 := Lib.hid (HD2.out.trans hd3)
      clear hd3
      go_wp2
      go_roundw
      case rel => exact ⟨j + 1, S + 2 * (c[j].ds.length : Int) + 4 * (T.sizeL c[j].ts : Int), by omega, by go_num, rfl, Lib.hid (by rw [HST.out, HSS.out]; push_cast; omega), by omega, HD3.out⟩
      case measure => simp [intOf]; omega
    · have hje : j = c.length := by omega
      subst hje
      have HE : Hid (S = k0 + (mwL c : Int)) := Lib.hid (by rw [HSS.out, List.take_length])
      go_wp2
      go_ret
      exact ⟨ret_int HE.out, HD.out⟩
theorem sizeL_w : ∀ (ts : List T), T.sizeL ts ≤ T.wl ts
  | [] => by simp [T.sizeL, T.wl]
  | .mk o a b n ks :: ts => by
    have h1 := sizeL_w ts
    have h2 := sizeL_w ks
    simp only [T.sizeL, T.size, T.wl, T.w]
    omega
theorem mwL_w : ∀ (c : List Ly), mwL c ≤ 4 * wsum Ly.w c
  | [] => by simp [mwL, wsum]
  | l :: c => by
    have h1 := mwL_w c
    have h2 := sizeL_w l.ts
    rw [T.wl_eq] at h2
    simp only [mwL, wsum, Ly.w]
    omega
end Go.Proofs.YthcmflhhpgmfaaaGreatDoor

/-! Marked declarations are held. -/
namespace Go.Proofs.YthcmflhhpgmfaaaGreatDoor
open Go Go.RowKit Go.ChangeShapes Go.WideShapes Go.ChangeAt Go.Deep

set_option maxRecDepth 100000 in
set_option maxHeartbeats 4000000 in
theorem heldDeclS_any (A : Option Addr) (c n : Nat) (k0 : Int) (F : Nat → Prop) (w : World) (h : Lay.decl.Sl w F A (upD n k0)) (hF : ∀ b, F b → b < w.heap.size) (hn : n ≤ 1048576) (h0 : 1 ≤ k0) (h1 : k0 ≤ 1000000000) :
    Calls Tryz.prog 20 #[.slice A n c, .int .i64 k0] w fun e w' => e = .returned (.int .i64 (k0 + (2 * n : Nat))) ∧ Below w.heap.size w w' := by
  have H := Lib.hid h
  clear h
  go_enter Tryz.func20, Tryz.ntmps20
  go_wp2
  go_loopw [1, 5] (fun kk i wr => ∃ (j : Nat) (T : Int), j ≤ n ∧ i = .int .i64 j ∧ kk = .int .i64 T ∧ Hid (T = k0 + 2 * (j : Int)) ∧ 1 ≤ T ∧ T ≤ 1000000000 + 2 * j ∧ Below w.heap.size w wr) (fun _ i _ => n - (intOf i).toNat)
  case atStart => exact ⟨0, k0, Nat.zero_le _, rfl, rfl, Lib.hid (by simp), h0, by omega, Below.refl _ _⟩
  case round =>
    obtain ⟨j, T, hj, rfl, rfl, HTT, T0, T1, hb⟩ := hrel
    by_cases hlt : j < n
    · have hj2 : (j : Int) < n := by omega
      have hju : j < (upD n k0).length := by rw [upD_len]; exact hlt
      obtain ⟨ad, hA, hf, c1, c2⟩ := (H.out.below hb hF).at_decl hju
      rw [upD_get] at c1 c2
      dsimp only at c1 c2
      rw [← HTT.out] at c1 c2
      subst hA
      have HMK := Lib.hid (fun z => markText_any T z T0 (by omega))
      obtain ⟨t9, ht9⟩ : ∃ t9, t9 = markT T := ⟨_, rfl⟩
      have HC : Hid (∀ z, Calls Tryz.prog 51 #[.int .i64 T] z fun e w' => e = .returned (.string t9) ∧ Below z.heap.size z w') := Lib.hid (fun z => by
        rw [ht9]; exact HMK.out z)
      rw [← ht9] at c1
      have g9 : (!(t9.toList == t9.toList)) = false := by simp
      have d1 := Later.cell c1
      have HC2 := Lib.hid c2
      clear ht9 HMK c1 c2
      go_wp2
      refine wp_region_later (by kernel_rfl) (by kernel_rfl) ?_
      repeat (go_big_quiet_step ((go_at_call 51; exact later_of_below (HC.out _))))
      refine wpQuiet_nil ?_
      rintro _ ⟨y, rfl⟩
      obtain ⟨W1, hy⟩ := y
      dsimp only
      have hb2 := bthen hb hy
      have e2 := (hy.cell (World.block_lt_of_cell? _ _ HC2.out)).trans HC2.out
      have gT : (T + 1 != T + 1) = false := by simp
      clear hy d1
      go_wp2
      go_roundw
      case rel => exact ⟨j + 1, T + 1 + 1, by omega, by go_num, by go_num, Lib.hid (by have := HTT.out; push_cast; omega), by omega, by omega, hb2⟩
      case measure => simp [intOf]; omega
    · have hje : j = n := by omega
      subst hje
      go_wp2
      go_ret
      exact ⟨ret_int (by rw [HTT.out]; push_cast; rfl), hb⟩
theorem heldDecls_u (n : Nat) (A : Option Addr) (c : Nat) (k0 : Int) (w : World) (h : Lay.decl.Rd w A (upD n k0)) (hn : n ≤ 1048576) (h0 : 1 ≤ k0) (h1 : k0 ≤ 500000000) :
    Calls Tryz.prog 20 #[.slice A n c, .int .i64 k0] w (RetZ (k0 + (2 * n : Nat)) w) := heldDeclS_any A c n k0 _ w h (fun _ h => h) hn h0 (by omega)
end Go.Proofs.YthcmflhhpgmfaaaGreatDoor

/-! Contexts as arguments of the exact laws; CtxDecls. -/
namespace Go.Proofs.YthcmflhhpgmfaaaGreatDoor
open Go Go.RowKit Go.ChangeShapes Go.WideShapes Go.ChangeAt Go.Deep

def wtL (c : List Ly) : Nat := c.length + wsum Ly.w c
/-- What is asked of the layers that the law has measured. -/
def smLayers (c : List Ly) : Prop := c.length ≤ 1048576 ∧ (∀ l ∈ c, okL2 l) ∧ mwL c ≤ 4194304 ∧ okC c
theorem smLayers_of {c : List Ly} (h : okLs c) (hw : wtL c ≤ 1048576) : smLayers c := by
  unfold wtL at hw
  obtain ⟨h1, h2⟩ := Ly.smallS hw
  exact ⟨h1, h2, by have := mwL_w c; omega, okC_of h hw⟩
theorem szLayers_u (xs : List Ly) (A : Option Addr) (c : Nat) (left : Int) (w : World) (h : Lay.layer.Rd w A xs) (ok : okLs xs) (h0 : 0 ≤ left) (h1 : left ≤ 1048576) :
    Calls Tryz.prog 10 #[.slice A xs.length c, .int .i64 left] w (RetZ (szRes left (wtL xs)) w) :=
  szLayerS_any A c xs left _ w h (fun _ h => h) ok.2 (by have := ok.1; unfold maxLen at this; omega) h0 h1
theorem toLayers_u (xs : List Ly) (A : Option Addr) (c : Nat) (w : World) (h : Lay.layer.Rd w A xs) (hs : smLayers xs) :
    Calls Tryz.prog 12 #[.slice A xs.length c] w (RetO Lay.layer w xs) := toLayerS_any A c xs _ w h (fun _ h => h) hs.1 hs.2.1
theorem eqLayers_u (xs : List Ly) (A B : Option Addr) (c d : Nat) (w : World) (h : Lay.layer.Rd w A xs) (h' : Lay.layer.Rd w B xs) (hs : smLayers xs) :
    Calls Tryz.prog 14 #[.slice A xs.length c, .slice B xs.length d] w (RetB w true) := by
  have := eqLayerS_any A B c d xs xs _ _ w h h' (fun _ h => h) (fun _ h => h) hs.1 hs.1 hs.2.1 hs.2.1
  rw [allSame_self Ly.same_self] at this
  exact this
theorem markLayers_u (c : List Ly) (A : Option Addr) (q lo hi : Nat) (k0 : Int) (w : World) (h : Lay.layer.Sl w (Cp lo hi w) A c) (hs : smLayers c) (h0 : 1 ≤ k0) (h1 : k0 ≤ 500000000) :
    Calls Tryz.prog 18 #[.slice A c.length q, .int .i64 k0] w fun e w' => e = .returned (.int .i64 (k0 + (mwL c : Nat))) ∧ Dab (Rng lo hi) w w' ∧ True :=
  (markLayerS_any c hs.2.1 A q k0 _ w (LyAt.of h fun _ h => h.2.2.2) h0 (by have := hs.2.2.1; omega) hs.1).mono fun _ _ ⟨h, h'⟩ => ⟨h, h'.rng, trivial⟩
/-- All declarations of a right context. -/
def ctxDecls (c : List Ly) : List D := if ctxOk c = true then dsAll c else []
theorem ctxDecls_len {c : List Ly} (h : okC c) : (ctxDecls c).length ≤ 1048576 := by
  unfold ctxDecls
  split
  · exact h.ds
  · simp
theorem Lay.Sl.decl_own {lo c : Nat} {w : World} {A : Option Addr} {xs : List D} (h : w.ownsRow lo 44 2 (.slice A xs.length c) xs.length (xs.flatMap dcells)) : Lay.decl.Sl w (Own lo w) A xs :=
  OwnL.own (L := Lay.decl) (e := 44) ⟨xs.flatMap dcells, h, fun i x hx => ⟨dcells x, rfl, fun j u hu => by
    have hk : i < xs.length := (List.getElem?_eq_some_iff.1 hx).1
    have hj : j < 2 := by have := (List.getElem?_eq_some_iff.1 hu).1; simpa [dcells] using this
    show (xs.flatMap dcells)[i * 2 + j]? = _
    rw [dcells_get xs i j hk hj, (List.getElem?_eq_some_iff.1 hx).2]; exact hu⟩⟩
theorem OwnR.decl_own {lo c : Nat} {w : World} {A : Option Addr} {xs : List D} (h : OwnR Lay.decl 44 w lo (.slice A xs.length c) xs) : Lay.decl.Sl w (Own lo w) A xs := by
  obtain ⟨cs, h1, h2⟩ := h
  refine OwnL.own (L := Lay.decl) (e := 44) ⟨cs, h1, fun i x hx => ?_⟩
  obtain ⟨vs, hr, hu⟩ := h2 i x hx
  exact ⟨vs, hr, hu⟩
theorem retO_nilD (w w' : World) (h : Below w.heap.size w w') (n : Nat) : RetO Lay.decl w [] (.returned (.slice none 0 n)) w' := ⟨none, n, rfl, Nat.zero_le _, .nil _ _ _ _, h⟩
set_option maxRecDepth 100000 in
set_option maxHeartbeats 2000000 in
theorem implCtxDecls_u (c : List Ly) (A : Option Addr) (q : Nat) (w : World) (h : Lay.layer.Rd w A c) (_ : c.length ≤ q) (hs : smLayers c) :
    Calls Tryz.prog 16 #[.slice A c.length q] w (RetO Lay.decl w (ctxDecls c)) := by
  have hc := hs.2.2.2
  have HF := Lib.hid (flat_any A q c w h hc.len hc.ds hc.ts)
  have HC := Lib.hid hc
  obtain ⟨r, hr⟩ : ∃ r, r = ctxOk c := ⟨_, rfl⟩
  have HX : Hid (ctxDecls c = if r = true then dsAll c else []) := Lib.hid (by rw [hr]; rfl)
  have HR := Lib.hid hr
  clear hc hr hs
  go_enter Tryz.func16, Tryz.ntmps16
  go_wp2_with fail
  refine HF.out.mono ?_
  rintro e w1 ⟨rfl, hs, hb⟩
  have HO := Lib.hid (stackOk_any w.heap.size w.heap.size c w1 hs HC.out)
  rw [← HR.out] at HO
  have HS := Lib.hid hs
  clear hs
  go_wp2_with fail
  refine HO.out.mono ?_
  rintro e w2 ⟨rfl, hb2⟩
  have hb9 := bthen hb hb2
  cases r
  · go_wp2
    go_ret
    rw [HX.out]
    exact retO_nilD _ _ hb9 _
  · obtain ⟨A1, A2, A3, c1, c2, c3, hS⟩ := HS.out.up hb2
    have v0 := (cell_of_block hS.box 0).1
    go_wp2
    go_ret
    rw [HX.out]
    exact ⟨A1, c1, rfl, OwnL.capl hS.ds, OwnR.decl_own hS.ds, hb9⟩
set_option maxRecDepth 100000 in
set_option maxHeartbeats 2000000 in
theorem specCtxDecls_u (c : List Ly) (A : Option Addr) (q : Nat) (w : World) (h : Lay.layer.Rd w A c) (hq : c.length ≤ q) (hs : smLayers c) :
    Calls Tryz.prog 15 #[.slice A c.length q] w (RetO Lay.decl w (ctxDecls c)) := by
  have hc := hs.2.2.2
  have HO := Lib.hid (specCtxOk_any A q c w h hq hc)
  have HL := Lib.hid (fun (z : World) (hz : Lay.layer.Rd z A c) => l10Decls_any A q c z hz hc.len hc.ds)
  obtain ⟨r, hr⟩ : ∃ r, r = ctxOk c := ⟨_, rfl⟩
  rw [← hr] at HO
  have HX : Hid (ctxDecls c = if r = true then dsAll c else []) := Lib.hid (by rw [hr]; rfl)
  have H := Lib.hid h
  clear hc hr hs h
  go_enter Tryz.func15, Tryz.ntmps15
  go_wp2_with fail
  refine HO.out.mono ?_
  rintro e w2 ⟨rfl, hb2⟩
  cases r
  · have hal := hb2.alloc hb2.size (.cells #[] 44)
    have HAL := Lib.hid hal
    clear hal
    go_wp2
    go_ret
    rw [HX.out]
    exact ⟨_, _, rfl, Nat.zero_le _, .nil _ _ _ _, HAL.out⟩
  · have HLC := Lib.hid (HL.out w2 (H.out.up hb2))
    go_wp2_with fail
    refine HLC.out.mono ?_
    rintro e w3 ⟨A3, c3, rfl, ho, hb3⟩
    have HO3 := Lib.hid ho
    have HB3 := Lib.hid (bthen hb2 hb3)
    have HSZ := Lib.hid hb2.size
    clear ho hb3
    go_wp2
    go_ret
    rw [HX.out]
    exact ⟨A3, c3, rfl, HO3.out.cap.2, Lay.Sl.mono (Lay.Sl.decl_own HO3.out) (fun b hb9 => ⟨Nat.le_trans HSZ.out hb9.1, hb9.2⟩), HB3.out⟩
end Go.Proofs.YthcmflhhpgmfaaaGreatDoor

/-! What the rows list of the library's variables: tables that the proofs do not read. -/
namespace Go.Proofs.YthcmflhhpgmfaaaGreatDoor
open Go

theorem dr_own : ownKnob Tryz.prog.godebug = none := by kernel_rfl
abbrev laidU : List (String × DataW Unit) := [("unicode/utf8.acceptRanges", Rows.laid_unicode_utf8_acceptRanges), ("unicode/utf8.first", Rows.laid_unicode_utf8_first)]
end Go.Proofs.YthcmflhhpgmfaaaGreatDoor

/-! FnExactCtxDecls: the program's CtxDecls answers, for any context, what the reference's answers, in memory of its own. -/
namespace Go.Proofs.YthcmflhhpgmfaaaGreatDoor
open Go Go.RowKit Go.ChangeShapes Go.WideShapes Go.ChangeAt Go.Deep

set_option maxRecDepth 100000 in
set_option maxHeartbeats 4000000 in
theorem fnExactCtxDecls_walk (W : World) {Ap0a : Option Addr} {cp0a : Nat} {x0 : List Ly} (_ : x0.length ≤ cp0a) (ok0 : okLs x0) (hp0a : Lay.layer.Rd W Ap0a x0) :
    Calls Tryz.prog 4 #[.slice Ap0a x0.length cp0a] W (LawC W) := by
  have HW0 : Hid (Below W.heap.size W W) := Lib.hid (Below.refl _ _)
  have Hp0a := hp0a
  clear hp0a
  have OK0 := Lib.hid ok0
  clear ok0
  go_enter Tryz.func4, Tryz.ntmps4
  have hb : Below W.heap.size W W := Below.refl _ _
  go_wp2_with fail
  refine (szLayers_u x0 Ap0a cp0a 1048576 _ (Hp0a.up hb) OK0.out (by omega) (by omega)).mono ?_
  rintro e u1 ⟨rfl, hbu1⟩
  have hb := bthen hb hbu1
  clear hbu1
  by_cases hbig0 : (1048576 : Int) < (wtL x0 : Nat)
  · have HSZ := Lib.hid (szRes_lt hbig0)
    clear hbig0
    rw [HSZ.out]
    go_wp2
    go_ret
    exact ⟨rfl, bthen HW0.out hb⟩
  have SM0 : Hid (smLayers x0) := Lib.hid (smLayers_of OK0.out (by omega))
  have HSZ0 := Lib.hid (szRes_ge hbig0)
  rw [HSZ0.out]
  have hln9 : (0 : Int) ≤ (1048576 - (wtL x0 : Nat)) := by omega
  clear hbig0
  generalize hr9 : ctxDecls x0 = r9 at *
  have HR9 := Lib.hid hr9
  clear hr9
  have HRS0 := Lib.hid (show r9.length ≤ 1048576 by rw [← HR9.out]; exact ctxDecls_len SM0.out.2.2.2)
  go_wp2_with fail
  refine (toLayers_u x0 Ap0a cp0a _ (Hp0a.up hb) SM0.out).mono ?_
  rintro e u2 ⟨Aq0a, cq0a, rfl, hcq0a, sq0a, hbq0⟩
  have hb := bthen hb hbq0
  clear hbq0
  go_wp2_with fail
  refine (specCtxDecls_u x0 Aq0a cq0a _ (sq0a.own_rd) hcq0a SM0.out).mono ?_
  rw [HR9.out]
  rintro e u3 ⟨Aw0a, cw0a, rfl, hcw0a, sw0a, hb9⟩
  clear sq0a
  have hb := bthen hb hb9
  clear hb9
  have Rw0a := sw0a.cp_of
  clear sw0a
  go_wp2_with fail
  have z0 : W.heap.size ≤ u3.heap.size := hb.size
  have hs : Below u3.heap.size u3 u3 := Below.refl _ _
  refine (toLayers_u x0 Ap0a cp0a _ (Hp0a.up hb) SM0.out).mono ?_
  rintro e u4 ⟨Ak0a, ck0a, rfl, hck0a, sk0a, hbk0⟩
  have hb := bthen hb hbk0
  have hs := bthen hs hbk0
  have Rw0a := Rw0a.cp_up hbk0
  clear hbk0
  go_wp2_with fail
  have Rk0a := sk0a.cp_of
  clear sk0a
  have z1 : u3.heap.size ≤ u4.heap.size := hs.size
  clear hs
  have hs : Below u4.heap.size u4 u4 := Below.refl _ _
  refine (implCtxDecls_u x0 Ak0a ck0a _ (Rk0a.cp_rd) hck0a SM0.out).mono ?_
  rw [HR9.out]
  rintro e u5 ⟨Ag0a, cg0a, rfl, hcg0a, sg0a, hb9⟩
  have hb := bthen hb hb9
  have hs := bthen hs hb9
  have Rw0a := Rw0a.cp_up hb9
  have Rk0a := Rk0a.cp_up hb9
  clear hb9
  have Rg0a := sg0a.cp_of
  clear sg0a
  have z2 : u4.heap.size ≤ u5.heap.size := hs.size
  clear hs
  have hs : Below u5.heap.size u5 u5 := Below.refl _ _
  go_wp2_with fail
  refine (eqDecls_u r9 Ag0a Aw0a cg0a cw0a _ Rg0a.cp_rd Rw0a.cp_rd HRS0.out).mono ?_
  rintro e u6 ⟨rfl, hb9⟩
  have hb := bthen hb hb9
  have hs := bthen hs hb9
  have Rw0a := Rw0a.cp_up hb9
  have Rk0a := Rk0a.cp_up hb9
  have Rg0a := Rg0a.cp_up hb9
  clear hb9
  go_wp2_with fail
  refine (toLayers_u x0 Ap0a cp0a _ (Hp0a.up hb) SM0.out).mono ?_
  rintro e u7 ⟨Ay0a, cy0a, rfl, hcy0a, sy0a, hby0⟩
  have hb := bthen hb hby0
  have hs := bthen hs hby0
  have Rw0a := Rw0a.cp_up hby0
  have Rk0a := Rk0a.cp_up hby0
  have Rg0a := Rg0a.cp_up hby0
  clear hby0
  go_wp2_with fail
  refine (eqLayers_u x0 Ak0a Ay0a ck0a cy0a _ Rk0a.cp_rd sy0a.own_rd SM0.out).mono ?_
  rintro e u8 ⟨rfl, hb9⟩
  clear sy0a
  have hb := bthen hb hb9
  have hs := bthen hs hb9
  have Rw0a := Rw0a.cp_up hb9
  have Rk0a := Rk0a.cp_up hb9
  have Rg0a := Rg0a.cp_up hb9
  clear hb9
  go_wp2_with fail
  refine (markLayers_u x0 Ak0a ck0a _ _ 1 _ Rk0a SM0.out (by omega) (by omega)).mono ?_
  rintro e u9 ⟨rfl, hd, _⟩
  clear hs
  have Rw0a := Rw0a.cp_dab hd (by intro b h1 h2 h3; have := h3.1; have := h3.2; omega)
  clear Rk0a
  have Rg0a := Rg0a.cp_dab hd (by intro b h1 h2 h3; have := h3.1; have := h3.2; omega)
  have hb := below_rng hb hd hb.size (by omega)
  clear hd
  obtain ⟨k9_1, hk9, hk9a, hk9b⟩ : ∃ k9 : Int, k9 = 1 + (mwL x0 : Nat) ∧ 1 ≤ k9 ∧ k9 ≤ 10000000 := ⟨_, rfl, by omega, by have := SM0.out.2.2.1; omega⟩
  rw [← hk9]
  clear hk9
  go_wp2_with fail
  refine (eqDecls_u r9 Ag0a Aw0a cg0a cw0a _ Rg0a.cp_rd Rw0a.cp_rd HRS0.out).mono ?_
  rintro e u10 ⟨rfl, hb9⟩
  have hb := bthen hb hb9
  have Rw0a := Rw0a.cp_up hb9
  have Rg0a := Rg0a.cp_up hb9
  clear hb9
  go_wp2_with fail
  refine (markDecls_u r9 Ag0a cg0a _ _ 1 _ Rg0a HRS0.out (by omega) (by omega)).mono ?_
  rintro e u11 ⟨rfl, hd, RM0⟩
  have Rw0a := Rw0a.cp_dab hd (by intro b h1 h2 h3; have := h3.1; have := h3.2; omega)
  clear Rg0a
  have hb := below_rng hb hd hb.size (by omega)
  clear hd
  obtain ⟨m9, hm9, hm9a⟩ : ∃ m9 : Int, m9 = 1 + (2 * r9.length : Nat) ∧ 0 ≤ m9 := ⟨_, rfl, by omega⟩
  rw [← hm9]
  have HM9 := Lib.hid hm9
  have hmm9 : (m9 != m9) = false := by simp
  clear hm9
  go_wp2_with fail
  refine (heldDecls_u r9.length Ag0a cg0a 1 _ RM0.cp_rd HRS0.out (by omega) (by omega)).mono ?_
  rw [← HM9.out]
  rintro e u12 ⟨rfl, hb9⟩
  have hb := bthen hb hb9
  have Rw0a := Rw0a.cp_up hb9
  have RM0 := RM0.cp_up hb9
  clear hb9
  go_wp2_with fail
  refine (toLayers_u x0 Ap0a cp0a _ (Hp0a.up hb) SM0.out).mono ?_
  rintro e u13 ⟨Az0a, cz0a, rfl, hcz0a, sz0a, hbz0⟩
  have hb := bthen hb hbz0
  have Rw0a := Rw0a.cp_up hbz0
  have RM0 := RM0.cp_up hbz0
  clear hbz0
  go_wp2_with fail
  refine (implCtxDecls_u x0 Az0a cz0a _ (sz0a.own_rd) hcz0a SM0.out).mono ?_
  rw [HR9.out]
  rintro e u14 ⟨Ah0a, ch0a, rfl, hch0a, sh0a, hb9⟩
  clear sz0a
  have hb := bthen hb hb9
  have Rw0a := Rw0a.cp_up hb9
  have RM0 := RM0.cp_up hb9
  clear hb9
  have Rh0a := sh0a.cp_of
  clear sh0a
  go_wp2_with fail
  refine (eqDecls_u r9 Ah0a Aw0a ch0a cw0a _ Rh0a.cp_rd Rw0a.cp_rd HRS0.out).mono ?_
  rintro e u15 ⟨rfl, hb9⟩
  have hb := bthen hb hb9
  have Rw0a := Rw0a.cp_up hb9
  have RM0 := RM0.cp_up hb9
  have Rh0a := Rh0a.cp_up hb9
  clear hb9
  go_wp2_with fail
  refine (heldDecls_u r9.length Ag0a cg0a 1 _ RM0.cp_rd HRS0.out (by omega) (by omega)).mono ?_
  rw [← HM9.out]
  rintro e u16 ⟨rfl, hb9⟩
  have hb := bthen hb hb9
  have Rw0a := Rw0a.cp_up hb9
  have RM0 := RM0.cp_up hb9
  have Rh0a := Rh0a.cp_up hb9
  clear hb9
  go_wp2
  go_ret
  exact ⟨rfl, bthen HW0.out hb⟩

set_option maxRecDepth 100000 in
theorem fnExactCtxDecls_lifted (os : Os) (started : os.Started) (H : Type) (enc : TypeId × Value → H) :
    ReturnsInHanded {} Tryz.checked os 4 .any (fun w args => (Rows.fnExactCtxDeclsSpec.pre enc Tryz.prog Tryz.f4 [] false w args ∧ laidMetH Tryz.prog laidU w) ∧ sizedMet enc Tryz.prog Tryz.f4 (OpenSpec.ofChange Rows.fnExactCtxDeclsSpec) false w args)
      (Rows.fnExactCtxDeclsSpec.post enc Tryz.prog Tryz.f4 false true false false) := by
  refine returnsInHanded_of_change_and (C := Tryz.checked) (X := fun w _ => laidMetH Tryz.prog laidU w) (fun _ _ _ hh h => h.of_heap hh) dr_own started (by kernel_rfl) Tryz.func4
    (ChangeSpec.witness_shaped (enc := enc) (C := Tryz.checked) (os := os) (X := fun w _ => laidMetH Tryz.prog laidU w) false (World.laidAll Tryz.prog os laidU) #[.slice none 0 0] 16 (World.laidAll_os _ _ _) (World.shaped_of_ZipB (by kernel_rfl) (by kernel_rfl)) (by kernel_rfl) (by kernel_rfl) (by kernel_rfl)
      (by rw [MakeChecks.laidMetH_plain _ _ _ (by kernel_rfl)]; exact laidMet_laidAll _ (by kernel_rfl) (by kernel_rfl))) ?_
  intro W base args ds gs before hval0 hW _ _ hL _
  have hval : ∀ (j : Nat) t v, Tryz.f4.params[j]? = some t → args[j]? = some v → Value.okWide Tryz.prog W .any base t v := hval0
  have hW' := hW
  obtain ⟨p, q, hA0, hV, rfl, hfz, hnd⟩ := hW
  have hA : DataW.TrodAll enc Tryz.prog W 0 (fun _ => true) true Tryz.f4.params.toList args.toList ds p := hA0
  rw [Tryz.params4] at hA hval
  obtain ⟨v0, vs0, d0, ds0, p0, q0, hargs, rfl, rfl, h0, r0⟩ := trodAll_cons hA
  obtain ⟨rfl, rfl, rfl⟩ := trodAll_nil r0
  obtain rfl : args = #[v0] := by cases args; simp_all
  obtain ⟨rfl, rfl⟩ := trodVars_none hV
  have k0 := h0
  have lt0 : ∀ x ∈ p0, x.block < W.heap.size := by obtain ⟨m, hm⟩ := k0; exact DataW.trod_lt m _ _ _ hm
  obtain ⟨A0, c0, x0, rfl, hc0, ok0, rd0⟩ := open_arg Tryz.underlying22 opens_layers (hval 0 22 v0 rfl rfl) h0
  clear hA0 hval0
  refine (fnExactCtxDecls_walk W hc0 ok0 rd0).mono fun e W' ⟨he, bel⟩ => ?_
  subst he
  exact ⟨_, rfl, _, _, _, [], _, [], hW', trodAll_mk1 (shut_bool Tryz.underlying4 _), (trodAll_cons_mk (Below.trod (by kernel_rfl) (by kernel_rfl) (of_decide_eq_true (by kernel_rfl)) k0 bel lt0) trodAll_mk0), rfl, bel.frame _, fun h => by cases h⟩

/-- The given row. -/
theorem fnExactCtxDecls_row : Rows.FnExactCtxDeclsSaid :=
  OpenClaim.holds_of_wide 4 Tryz.f4 rfl rfl rfl rfl rfl rfl rfl ⟨rfl, rfl, rfl, rfl, rfl⟩ rfl rfl rfl rfl rfl (by kernel_rfl) Tryz.func4 (by kernel_rfl)
    (of_decide_eq_true (by kernel_rfl)) (by unfold Func.isWrapper; first | (rw [if_pos (by decide +kernel)]; kernel_rfl) | (rw [if_neg (by decide +kernel)]; exact ⟨rfl, rfl⟩))
    (fun os started H enc _ => fnExactCtxDecls_lifted os started H enc)
/-- The given statement: the row, what it lists tied to the program's text. -/
theorem fnExactCtxDecls_holds : Rows.FnExactCtxDeclsCardSaid :=
  Claim7.holds_tied_plain_at .later [] [.data, .pinned] true Rows.fnExactCtxDeclsCard.stood.harness Rows.fnExactCtxDeclsCard.stood.looks
    fnExactCtxDecls_row (fun _ h => by cases h) (by kernel_rfl) (fun _ h => by cases h) fnExactCtxDecls_row_tie rfl ⟨rfl, rfl⟩ (by kernel_rfl) rfl
    (fun f fn hf hfn => by
      obtain rfl : f = 4 := Option.some.inj ((show Tryz.prog.funcNamed "loop.example/seedlip/laws.FnExactCtxDecls" = some 4 by kernel_rfl).symm.trans hf) |>.symm
      obtain rfl : fn = Tryz.f4 := (Option.some.inj (Tryz.func4.symm.trans hfn)).symm
      exact ⟨by kernel_rfl, fun j t ht => by
        rw [Tryz.params4] at ht
        have hm : t ∈ [22] := by simpa using Array.mem_of_getElem? ht
        have hall : ([22].all fun u => !Tryz.prog.wantsStandIn u) = true := by kernel_rfl
        exact (show Tryz.prog.wantsStandIn t = false by simpa using List.all_eq_true.1 hall t hm)⟩)
    (by kernel_rfl)
#print axioms fnExactCtxDecls_holds
end Go.Proofs.YthcmflhhpgmfaaaGreatDoor
