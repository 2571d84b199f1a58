/- FnExactBlastEnv: the program's BlastEnv answers, for any declarations and any inputs, what the reference's answers, in memory of its own. -/
import Derived.Ground.NamesProg
import Derived.Shelf.Strings.SlTrimAscii
import Derived.Test.YthcmflhhpgmfaaaDoorProg
import Derived.Test.YthcmflhhpgmfaaaDoorRows
import Derived.Test.YthcmflhhpgmfaaaDoorTie
import Derived.Test.YthcmflhhpgmfaaaDoorCards
import Derived.ProofKit
import Derived.OpenShut
import Derived.LaidMore
import Derived.Lay
import Derived.LaidOnce
import Derived.SevenTiedAt
import Derived.Stop.Joined
import Derived.Test.YthcmflhhpgmfaaaDoorJExBlastEnv0
/-! Declarations as arguments: sizes, copies, comparisons, marks. -/
namespace Go.Proofs.YthcmflhhpgmfaaaDoor
open Go Go.RowKit Go.ChangeShapes Go.WideShapes Go.ChangeAt Go.Deep

theorem opens_decls : Opens Tryd.prog 22 Lay.decl.slice (fun xs => xs.length ≤ maxLen ∧ ∀ x ∈ xs, okDecl x) :=
  Opens.slice Tryd.underlying22 (by kernel_rfl) (by decide) (Opens.decl Tryd.underlying49 (by kernel_rfl) Tryd.underlying3 (by kernel_rfl) Tryd.underlying9 (by kernel_rfl) rfl)
def wtD (xs : List D) : Nat := xs.length + wsum D.w xs
def okDs (xs : List D) : Prop := xs.length ≤ maxLen ∧ ∀ x ∈ xs, okDecl x
/-- Small enough for every count. -/
def smDecls (xs : List D) : Prop := xs.length ≤ 1048576 ∧ okNames xs ∧ ∀ d ∈ xs, okInt d.wide
theorem smDecls_of {xs : List D} (h : okDs xs) (hw : wtD xs ≤ 1048576) : smDecls xs := by
  unfold wtD at hw
  exact ⟨by omega, fun d hd => by have := (h.2 d hd).1; unfold maxLen at this; omega, fun d hd => (h.2 d hd).2⟩
theorem szDecls_u (xs : List D) (A : Option Addr) (c : Nat) (left : Int) (w : World) (h : Lay.decl.Rd w A xs) (ok : okDs xs) (h0 : 0 ≤ left) (h1 : left ≤ 1048576) :
    Calls Tryd.prog 6 #[.slice A xs.length c, .int .i64 left] w (RetZ (szRes left (wtD xs)) w) :=
  szDeclS_any A c xs left _ w h (fun _ h => h) (fun d hd => by have := (ok.2 d hd).1; unfold maxLen at this; omega) (by have := ok.1; unfold maxLen at this; omega) h0 h1
theorem toDecls_u (xs : List D) (A : Option Addr) (c : Nat) (w : World) (h : Lay.decl.Rd w A xs) (hs : smDecls xs) :
    Calls Tryd.prog 8 #[.slice A xs.length c] w (RetO Lay.decl w xs) := toDeclS_any A c xs _ w h (fun _ h => h) hs.1
theorem eqDecls_u (xs : List D) (A B : Option Addr) (c d : Nat) (w : World) (h : Lay.decl.Rd w A xs) (h' : Lay.decl.Rd w B xs) (hs : xs.length ≤ 1048576) :
    Calls Tryd.prog 12 #[.slice A xs.length c, .slice B xs.length d] w (RetB w true) := by
  have := eqDeclS_any A B c d xs xs _ _ w h h' (fun _ h => h) (fun _ h => h) hs hs
  rw [allSame_self D.same_self] at this
  exact this
def smBools (xs : List Bool) : Prop := xs.length ≤ 1048576 ∧ True
theorem smBools_of {xs : List Bool} (h : xs.length ≤ maxLen ∧ ∀ i ∈ xs, True) (hn : xs.length ≤ 1048576) : smBools xs := ⟨hn, trivial⟩
theorem opens_bools : Opens Tryd.prog 23 Lay.bool.slice (fun xs => xs.length ≤ maxLen ∧ ∀ x ∈ xs, True) := Opens.slice Tryd.underlying23 (by kernel_rfl) (by decide) (Opens.bool Tryd.underlying4)
set_option maxHeartbeats 400000 in
theorem toBoolO_any (A : Option Addr) (c : Nat) (xs : List Bool) (F : Nat → Prop) (w : World) (h : Lay.bool.Sl w F A xs) (hF : ∀ b, F b → b < w.heap.size) (hn : xs.length ≤ 1048576) :
    Calls Tryd.prog 9 #[.slice A xs.length c] w (RetO Lay.bool w xs) := by
  obtain ⟨i0, hi0, hz0, hz1, hz2⟩ := info_parts bool_info
  go_enter Tryd.func9, Tryd.ntmps9
  go_wp2_with (at_make; refine wpList_make_full w rfl _ _ 23 rfl w.heap.size 4 i0 _ 1 Tryd.underlying23 hi0 hz0 hz1 .i64 .i64 _ _ xs.length rfl rfl rfl rfl (by rw [hz2]; omega) (by unfold maxLen; omega) (Nat.le_refl _) ?_; intro w1 hown hg)
  have H1 := Lib.hid hg
  clear hg hi0 hz0 hz1 hz2
  have hb1 : Below w.heap.size w w1 := (Below.refl _ _).grown H1.out (Nat.le_refl _) (by simp)
  rw [show (madeCells (Value.bool false).cells (xs.length * 1)).toList = ((xs.take 0).map Value.bool ++ List.replicate (xs.length - 0) (.bool false)) from by
    rw [show (Value.bool false).cells = #[Value.bool false] from rfl, toList_madeCells_one]; simp] at hown
  go_loopw [4] (fun i wr => ∃ k : Nat, k ≤ xs.length ∧ i = .int .i64 k ∧ Below w.heap.size w wr ∧ wr.ownsRow w.heap.size 4 1 (.slice (some ⟨w.heap.size, 0, none⟩) xs.length xs.length) xs.length ((xs.take k).map Value.bool ++ List.replicate (xs.length - k) (.bool false)))
    (fun i _ => xs.length - (intOf i).toNat)
  case atStart => exact ⟨0, Nat.zero_le _, rfl, hb1, hown⟩
  case round =>
    obtain ⟨k, hk, rfl, hb, ho⟩ := hrel
    by_cases hlt : k < xs.length
    · obtain ⟨ad, rfl, hf, hc⟩ := h.at_bool hlt
      have hc' : wr.cell? (ad.add k) = some (.bool xs[k]) := (hb.cell (by rw [block_of_add]; exact hF _ hf)).trans hc
      have hst := ho.stored k (.bool xs[k])
      have hold : wr.cell? ⟨w.heap.size, k, none⟩ = _ := ho.cellAt k (by omega)
      have hfr : wr.frozen? ⟨w.heap.size, k, none⟩ = false := ho.frozenAt k
      go_wp2
      go_roundw
      case rel => exact ⟨k + 1, by omega, by go_num, hb.setCell (Nat.le_refl _) _, by rw [fill_set xs Value.bool _ k hlt] at hst; exact hst.1⟩
      case measure => simp [intOf]; omega
    · have : k = xs.length := by omega
      subst this
      go_wp2
      go_ret
      exact OwnB.ret (w := w) (by unfold OwnB; simpa using ho) hb

theorem toBools_u (xs : List Bool) (A : Option Addr) (c : Nat) (w : World) (h : Lay.bool.Rd w A xs) (hs : smBools xs) :
    Calls Tryd.prog 9 #[.slice A xs.length c] w (RetO Lay.bool w xs) := toBoolO_any A c xs _ w h (fun _ h => h) hs.1

/-- n declarations lie there, and may be written. -/
def DeclsAt (w : World) (F : Nat → Prop) (A : Option Addr) (n : Nat) : Prop :=
  0 < n → ∃ ad, A = some ad ∧ F ad.block ∧ ∀ k, k < n → (∃ s, w.cell? (ad.add (k * 2)) = some (.string s)) ∧ (∃ z, w.cell? (ad.add (k * 2 + 1)) = some (.int .i64 z)) ∧ w.frozen? (ad.add (k * 2)) = false ∧ w.frozen? (ad.add (k * 2 + 1)) = false
theorem DeclsAt.dab {w w' : World} {F G : Nat → Prop} {A : Option Addr} {n : Nat} (h : DeclsAt w F A n) (hd : Dab G w w') : DeclsAt w' F A n := fun hn => by
  obtain ⟨ad, e, hf, hc⟩ := h hn
  refine ⟨ad, e, hf, fun k hk => ?_⟩
  obtain ⟨⟨s, hs⟩, ⟨z, hz⟩, f0, f1⟩ := hc k hk
  obtain ⟨v, hv, hk'⟩ := hd.kin _ _ hs
  obtain ⟨b, rfl⟩ := hk'.ofStr
  obtain ⟨v, hv2, hk'⟩ := hd.kin _ _ hz
  obtain ⟨b2, rfl⟩ := hk'.ofInt
  exact ⟨⟨b, hv⟩, ⟨b2, hv2⟩, (hd.frz _ (World.block_lt_of_cell? w _ hs)).trans f0, (hd.frz _ (World.block_lt_of_cell? w _ hz)).trans f1⟩
theorem DeclsAt.of {w : World} {F G : Nat → Prop} {A : Option Addr} {xs : List D} (h : Lay.decl.Sl w F A xs) (hF : ∀ b, F b → G b ∧ ∀ o, w.frozen? ⟨b, o, none⟩ = false) : DeclsAt w G A xs.length := fun hn => by
  obtain ⟨ad, e, hf, hc⟩ := h hn
  have hfz : ∀ j, w.frozen? (ad.add j) = false := fun j => by
    have := (hF _ hf).2 (ad.add j).off
    rw [← this]
    unfold World.frozen?
    rw [block_of_add]
  refine ⟨ad, e, (hF _ hf).1, fun k hk => ?_⟩
  obtain ⟨vs, rfl, hcell⟩ := hc k xs[k] (List.getElem?_eq_getElem hk)
  exact ⟨⟨xs[k].name, by simpa [Lay.decl, Lay.flat] using hcell 0 _ rfl⟩, ⟨xs[k].wide, by simpa [Lay.decl, Lay.flat] using hcell 1 _ rfl⟩, hfz _, hfz _⟩
/-- Marked declarations. -/
def upD (n : Nat) (k0 : Int) : List D := (List.range n).map fun i : Nat => ⟨markT (k0 + 2 * (i : Int)), k0 + 2 * (i : Int) + 1⟩
theorem upD_len (n : Nat) (k0 : Int) : (upD n k0).length = n := by simp [upD]
theorem upD_get (n : Nat) (k0 : Int) (i : Nat) (h : i < (upD n k0).length) : (upD n k0)[i] = ⟨markT (k0 + 2 * (i : Int)), k0 + 2 * (i : Int) + 1⟩ := by simp [upD]
theorem ad_two (ad : Addr) (k : Nat) : (⟨(ad.add (k * 2)).block, (ad.add (k * 2)).off + 1, none⟩ : Addr) = ad.add (k * 2 + 1) := by
  rw [← add_of_add]
  show _ = (if (1 : Nat) = 0 then _ else _)
  rw [if_neg (by omega)]
def RetMkD (F : Nat → Prop) (A : Option Addr) (n : Nat) (k0 : Int) (w : World) (e : Ending) (w' : World) : Prop := e = .returned (.int .i64 (k0 + 2 * n)) ∧ Dab F w w' ∧ Lay.decl.Sl w' F A (upD n k0)
set_option maxRecDepth 100000 in
set_option maxHeartbeats 2000000 in
theorem markDeclS_sl (A : Option Addr) (c : Nat) (xs : List D) (k0 : Int) (F : Nat → Prop) (w : World) (h : Lay.decl.Sl w F A xs) (hfz : ∀ b, F b → ∀ o, w.frozen? ⟨b, o, none⟩ = false) (hn : xs.length ≤ 1048576) (h0 : 1 ≤ k0) (h1 : k0 ≤ 1000000000) :
    Calls Tryd.prog 14 #[.slice A xs.length c, .int .i64 k0] w (RetMkD F A xs.length k0 w) := by
  have H := Lib.hid (DeclsAt.of (G := F) h fun b hb => ⟨hb, hfz b hb⟩)
  clear h hfz
  generalize xs.length = n at *
  go_enter Tryd.func14, Tryd.ntmps14
  go_wp2
  go_loopw [1, 5] (fun kk i wr => ∃ (j : Nat) (T : Int), j ≤ n ∧ i = .int .i64 j ∧ kk = .int .i64 T ∧ Hid (T = k0 + 2 * (j : Int)) ∧ 1 ≤ T ∧ T ≤ 1000000000 + 2 * j ∧ Dab F w wr ∧ Hid (∀ ad, A = some ad → ∀ i, i < j → wr.cell? (ad.add (i * 2)) = some (.string (markT (k0 + 2 * (i : Int)))) ∧ wr.cell? (ad.add (i * 2 + 1)) = some (.int .i64 (k0 + 2 * (i : Int) + 1)))) (fun _ i _ => n - (intOf i).toNat)
  case atStart => exact ⟨0, k0, Nat.zero_le _, rfl, rfl, Lib.hid (by simp), h0, by omega, Dab.refl _ _, Lib.hid fun _ _ i hi => absurd hi (by omega)⟩
  case round =>
    obtain ⟨j, T, hj, rfl, rfl, HTT, T0, T1, hd, HS⟩ := hrel
    have HD := Lib.hid hd
    clear hd
    by_cases hlt : j < n
    · obtain ⟨ad, hA, hf, hc⟩ := H.out.dab HD.out (by omega)
      have HSA := Lib.hid (HS.out ad hA)
      subst hA
      obtain ⟨⟨s9, hs9⟩, ⟨z9, hz9⟩, f0, f1⟩ := hc j hlt
      have hj2 : (j : Int) < n := by omega
      have HF := Lib.hid hf
      have HC0 := Lib.hid hs9
      have HC1 := Lib.hid hz9
      clear hc hf
      go_wp2_with fail
      refine (markText_any T wr T0 (by omega)).mono ?_
      rintro e w2 ⟨rfl, hb2⟩
      have e0 := (hb2.cell (World.block_lt_of_cell? wr _ HC0.out)).trans HC0.out
      have e1 := (hb2.cell (World.block_lt_of_cell? wr _ HC1.out)).trans HC1.out
      have g0 := (hb2.frozen (World.block_lt_of_cell? wr _ HC0.out)).trans f0
      have g1 := (hb2.frozen (World.block_lt_of_cell? wr _ HC1.out)).trans f1
      obtain ⟨t9, ht9⟩ : ∃ t9, t9 = markT T := ⟨_, rfl⟩
      have HT9 := Lib.hid ht9
      rw [← ht9]
      have hne : ad.add (j * 2) ≠ ad.add (j * 2 + 1) := add_ne (by omega)
      have d1 : (w2.setCell (ad.add (j * 2)) (.string t9)).cell? (ad.add (j * 2 + 1)) = some (.int .i64 z9) := (World.cell?_setCell_other _ _ _ _ hne).trans e1
      have k1 : (w2.setCell (ad.add (j * 2)) (.string t9)).frozen? (ad.add (j * 2 + 1)) = false := (World.frozen?_setCell _ _ _ _).trans g1
      have HDD : Hid (Dab F w ((w2.setCell (ad.add (j * 2)) (.string t9)).setCell (ad.add (j * 2 + 1)) (.int .i64 (T + 1)))) := Lib.hid
        (((HD.out.trans (Dab.of hb2)).trans (Dab.set (by rw [block_of_add]; exact HF.out) e0 (.str _ _))).trans (Dab.set (by rw [block_of_add]; exact HF.out) d1 (.int _ _)))
      have HST : Hid (∀ i, i < j + 1 → ((w2.setCell (ad.add (j * 2)) (.string t9)).setCell (ad.add (j * 2 + 1)) (.int .i64 (T + 1))).cell? (ad.add (i * 2)) = some (.string (markT (k0 + 2 * (i : Int)))) ∧
          ((w2.setCell (ad.add (j * 2)) (.string t9)).setCell (ad.add (j * 2 + 1)) (.int .i64 (T + 1))).cell? (ad.add (i * 2 + 1)) = some (.int .i64 (k0 + 2 * (i : Int) + 1))) := Lib.hid fun i hi => by
        by_cases e : i = j
        · subst e
          exact ⟨(World.cell?_setCell_other _ _ _ _ hne.symm).trans ((World.cell?_setCell_same _ _ _ e0).trans (by rw [HT9.out, HTT.out])), (World.cell?_setCell_same _ _ _ d1).trans (by rw [HTT.out])⟩
        · obtain ⟨q0, q1⟩ := HSA.out i (by omega)
          have q0 := (hb2.cell (World.block_lt_of_cell? wr _ q0)).trans q0
          have q1 := (hb2.cell (World.block_lt_of_cell? wr _ q1)).trans q1
          exact ⟨(World.cell?_setCell_other _ _ _ _ (add_ne (by omega))).trans ((World.cell?_setCell_other _ _ _ _ (add_ne (by omega))).trans q0), (World.cell?_setCell_other _ _ _ _ (add_ne (by omega))).trans ((World.cell?_setCell_other _ _ _ _ (add_ne (by omega))).trans q1)⟩
      rw [← ad_two] at d1 k1 HDD HST
      clear ht9 hne e1 g1 hb2 hs9 hz9 f0 f1
      go_wp2
      go_roundw
      case rel => exact ⟨j + 1, T + 1 + 1, by omega, by go_num, by go_num, Lib.hid (by have := HTT.out; push_cast; omega), by omega, by omega, HDD.out, Lib.hid fun ad' e i hi => by injection e with e; subst e; exact HST.out i hi⟩
      case measure => simp [intOf]; omega
    · have : j = n := by omega
      subst this
      go_wp2
      go_ret
      refine ⟨ret_int HTT.out, HD.out, fun hpos => ?_⟩
      rw [upD_len] at hpos
      obtain ⟨ad, hA, hf, _⟩ := H.out.dab HD.out hpos
      refine ⟨ad, hA, hf, fun k x hx => ?_⟩
      have hk : k < (upD j k0).length := (List.getElem?_eq_some_iff.1 hx).1
      rw [List.getElem?_eq_getElem hk, upD_get] at hx
      injection hx with hx
      subst hx
      rw [upD_len] at hk
      obtain ⟨q0, q1⟩ := HS.out ad hA k hk
      refine ⟨[.string (markT (k0 + 2 * (k : Int))), .int .i64 (k0 + 2 * (k : Int) + 1)], rfl, fun i u hu => ?_⟩
      rcases i with _ | _ | i
      · injection hu with hu
        subst hu
        exact q0
      · injection hu with hu
        subst hu
        exact q1
      · simp at hu
def MkDs (A : Option Addr) (n lo hi : Nat) (k0 : Int) (w : World) (e : Ending) (w' : World) : Prop := e = .returned (.int .i64 (k0 + (2 * n : Nat))) ∧ Dab (Rng lo hi) w w' ∧ Lay.decl.Sl w' (Cp lo hi w') A (upD n k0)
theorem markDecls_u (xs : List D) (A : Option Addr) (c lo hi : Nat) (k0 : Int) (w : World) (h : Lay.decl.Sl w (Cp lo hi w) A xs) (hs : xs.length ≤ 1048576) (h0 : 1 ≤ k0) (h1 : k0 ≤ 500000000) :
    Calls Tryd.prog 14 #[.slice A xs.length c, .int .i64 k0] w (MkDs A xs.length lo hi k0 w) :=
  (markDeclS_sl A c xs k0 _ w h (fun _ h => h.2.2.2) hs h0 (by omega)).mono fun _ _ ⟨h, h', h2⟩ => ⟨h.trans (ret_int (by push_cast; rfl)), h'.rng, h2.cp_mk h'⟩
end Go.Proofs.YthcmflhhpgmfaaaDoor

/-! strings.Trim at the letters a to z, out of the kit's shelf of library contracts (laid by the kit's lay-plain tool). -/
namespace Go.Proofs.YthcmflhhpgmfaaaDoor
open Go Go.RowKit Go.Shelf

def lays160_ren : Go.Shelf.Ren := ⟨fun | 160 => 51 | 232 => 60 | 231 => 59 | 227 => 61 | 234 => 63 | 233 => 62 | 236 => 65 | 235 => 64 | 228 => 67 | 271 => 70 | 151 => 69 | 197 => 68 | 120 => 73 | 152 => 72 | 260 => 71 | 137 => 74 | 119 => 75 | 224 => 76 | 225 => 77 | 217 => 78 | 266 => 79 | n => n, fun | 9 => 9 | 4 => 4 | 3 => 3 | 5 => 5 | 117 => 84 | 116 => 83 | 0 => 0 | 124 => 87 | 21 => 21 | 105 => 90 | 46 => 95 | 119 => 94 | 139 => 98 | 138 => 97 | n => n, fun | 3 => 0 | 4 => 1 | n => n⟩
theorem lays160 : Go.Proofs.Lays.n160 Tryd.prog lays160_ren := {
  mixed := by kernel_rfl
  f119 := Tryd.func75.trans (congrArg some (by kernel_rfl))
  f120 := Tryd.func73.trans (congrArg some (by kernel_rfl))
  f137 := Tryd.func74.trans (congrArg some (by kernel_rfl))
  f151 := Tryd.func69.trans (congrArg some (by kernel_rfl))
  f152 := Tryd.func72.trans (congrArg some (by kernel_rfl))
  f160 := Tryd.func51.trans (congrArg some (by kernel_rfl))
  f197 := Tryd.func68.trans (congrArg some (by kernel_rfl))
  f217 := Tryd.func78.trans (congrArg some (by kernel_rfl))
  f224 := Tryd.func76.trans (congrArg some (by kernel_rfl))
  f225 := Tryd.func77.trans (congrArg some (by kernel_rfl))
  f227 := Tryd.func61.trans (congrArg some (by kernel_rfl))
  f228 := Tryd.func67.trans (congrArg some (by kernel_rfl))
  f231 := Tryd.func59.trans (congrArg some (by kernel_rfl))
  f232 := Tryd.func60.trans (congrArg some (by kernel_rfl))
  f233 := Tryd.func62.trans (congrArg some (by kernel_rfl))
  f234 := Tryd.func63.trans (congrArg some (by kernel_rfl))
  f235 := Tryd.func64.trans (congrArg some (by kernel_rfl))
  f236 := Tryd.func65.trans (congrArg some (by kernel_rfl))
  f260 := Tryd.func71.trans (congrArg some (by kernel_rfl))
  f266 := Tryd.func79.trans (congrArg some (by kernel_rfl))
  f271 := Tryd.func70.trans (congrArg some (by kernel_rfl))
  t0 := Tryd.underlying0
  a0 := Tryd.isAgg0
  z0 := Tryd.sizeOf0
  v0 := Tryd.zeroValue0
  t3 := Tryd.underlying3
  a3 := Tryd.isAgg3
  z3 := Tryd.sizeOf3
  v3 := Tryd.zeroValue3
  t4 := Tryd.underlying4
  a4 := Tryd.isAgg4
  z4 := Tryd.sizeOf4
  v4 := Tryd.zeroValue4
  t5 := Tryd.underlying5
  a5 := Tryd.isAgg5
  z5 := Tryd.sizeOf5
  v5 := Tryd.zeroValue5
  t9 := Tryd.underlying9
  a9 := Tryd.isAgg9
  z9 := Tryd.sizeOf9
  v9 := Tryd.zeroValue9
  t21 := Tryd.underlying21
  a21 := Tryd.isAgg21
  z21 := Tryd.sizeOf21
  v21 := Tryd.zeroValue21
  t46 := Tryd.underlying95
  a46 := Tryd.isAgg95
  z46 := Tryd.sizeOf95
  v46 := Tryd.zeroValue95
  t105 := Tryd.underlying90
  a105 := Tryd.isAgg90
  z105 := Tryd.sizeOf90
  v105 := Tryd.zeroValue90
  t116 := Tryd.underlying83
  a116 := Tryd.isAgg83
  z116 := Tryd.sizeOf83
  t117 := Tryd.underlying84
  a117 := Tryd.isAgg84
  z117 := Tryd.sizeOf84
  v117 := Tryd.zeroValue84
  t119 := Tryd.underlying94
  a119 := Tryd.isAgg94
  z119 := Tryd.sizeOf94
  t124 := Tryd.underlying87
  a124 := Tryd.isAgg87
  z124 := Tryd.sizeOf87
  v124 := Tryd.zeroValue87
  t138 := Tryd.underlying97
  a138 := Tryd.isAgg97
  z138 := Tryd.sizeOf97
  v138 := Tryd.zeroValue97
  t139 := Tryd.underlying98
  a139 := Tryd.isAgg98
  z139 := Tryd.sizeOf98
  v139 := Tryd.zeroValue98
  g3 := by kernel_rfl
  g4 := by kernel_rfl }

theorem dropWhile_all {α : Type} {p : α → Bool} : ∀ {l : List α}, (∀ x ∈ l.dropWhile p, p x = true) → l.dropWhile p = []
  | [], _ => rfl
  | x :: xs, h => by
    cases hx : p x
    · rw [List.dropWhile_cons_of_neg (by simp [hx])] at h
      exact absurd (h x (List.mem_cons_self ..)) (by simp [hx])
    · rw [List.dropWhile_cons_of_pos hx] at h ⊢
      exact dropWhile_all h
theorem dropWhile_nil {α : Type} {p : α → Bool} : ∀ {l : List α}, l.dropWhile p = [] → ∀ x ∈ l, p x = true
  | [], _, x, hx => by cases hx
  | y :: ys, h, x, hx => by
    cases hy : p y
    · rw [List.dropWhile_cons_of_neg (by simp [hy])] at h; cases h
    · rw [List.dropWhile_cons_of_pos hy] at h
      rcases List.mem_cons.1 hx with rfl | hx
      · exact hy
      · exact dropWhile_nil h x hx
theorem dropWhile_of {α : Type} {p : α → Bool} : ∀ {l : List α}, (∀ x ∈ l, p x = true) → l.dropWhile p = []
  | [], _ => rfl
  | x :: xs, h => by
    rw [List.dropWhile_cons_of_pos (h x (List.mem_cons_self ..))]
    exact dropWhile_of fun y hy => h y (List.mem_cons_of_mem _ hy)
theorem trimS_nil (l cs : List UInt8) : (Lib.trimS l cs).isEmpty = l.all (cs.contains ·) := by
  rw [Bool.eq_iff_iff, List.isEmpty_iff, List.all_eq_true]
  unfold Lib.trimS Lib.trimLeftS Lib.trimRightS
  constructor
  · intro h x hx
    have h1 : l.reverse.dropWhile (cs.contains ·) = [] := dropWhile_all fun y hy => dropWhile_nil h y (by simpa using hy)
    exact dropWhile_nil h1 x (by simpa using hx)
  · intro h
    rw [dropWhile_of (l := l.reverse) fun x hx => h x (by simpa using hx)]
    rfl
def azL : List UInt8 := [97, 98, 99, 100, 101, 102, 103, 104, 105, 106, 107, 108, 109, 110, 111, 112, 113, 114, 115, 116, 117, 118, 119, 120, 121, 122]
theorem az_letter (c : UInt8) : azL.contains c = letter c := by
  have h : ∀ n : Fin 256, azL.contains (UInt8.ofNat n.val) = letter (UInt8.ofNat n.val) := by decide +kernel
  have := h ⟨c.toNat, c.toNat_lt⟩
  simpa using this
/-- Trim at the letters: what is left is empty just if all are letters. -/
theorem trimAz_any (s : ByteArray) (w : World) (hs : s.size ≤ 9223372036854775807) :
    Calls Tryd.prog 51 #[.string s, .string ⟨#[97, 98, 99, 100, 101, 102, 103, 104, 105, 106, 107, 108, 109, 110, 111, 112, 113, 114, 115, 116, 117, 118, 119, 120, 121, 122]⟩] w
      fun e w' => ∃ r : ByteArray, e = .returned (.string r) ∧ r.toList.isEmpty = allLet s ∧ Below w.heap.size w w' := by
  have hcon := Any.strings_Trim_laid lays160 (by kernel_rfl) s ⟨#[97, 98, 99, 100, 101, 102, 103, 104, 105, 106, 107, 108, 109, 110, 111, 112, 113, 114, 115, 116, 117, 118, 119, 120, 121, 122]⟩ w hs (by decide) (ascii_of_all (by decide))
  refine hcon.mono fun e w' ⟨h1, h2⟩ => ⟨_, h1, ?_, h2⟩
  rw [Lib.toList_data]
  show (Lib.trimS s.data.toList azL).isEmpty = _
  rw [trimS_nil]
  unfold allLet
  exact congrArg (fun f => s.data.toList.all f) (funext az_letter)
end Go.Proofs.YthcmflhhpgmfaaaDoor

/-! The program's declarations: DeclOk, bitsOf, EnvOk. -/
namespace Go.Proofs.YthcmflhhpgmfaaaDoor
open Go Go.RowKit

set_option maxHeartbeats 1000000 in
/-- The closure: whether a declaration has the name of the one in block b. -/
theorem declOk1_any (y x : D) (b : Nat) (w : World) (hb : w.heap[b]? = some (.cells #[.string x.name, .int .i64 x.wide] 52 (0, 0))) :
    Calls Tryd.prog 53 #[.agg #[.string y.name, .int .i64 y.wide], .pointer (some ⟨b, 0, none⟩)] w (RetB w (y.name.toList == x.name.toList)) := by
  have hal : Below w.heap.size w (w.alloc (.cells #[.string y.name, .int .i64 y.wide] 52)) := (Below.refl _ _).alloc (Nat.le_refl _) _
  have c0 : w.cell? ⟨b, 0, none⟩ = some (.string x.name) := (cell_of_block hb 0).1
  have hlt := lt_of_block hb
  have HAL := Lib.hid hal
  obtain ⟨q, hq⟩ : ∃ q, q = (y.name.toList == x.name.toList) := ⟨_, rfl⟩
  rw [← hq]
  have g9 := hq.symm
  clear hal hb hq
  go_enter Tryd.func53, Tryd.ntmps53
  go_wp2
  go_ret
  exact ⟨rfl, HAL.out⟩
set_option maxHeartbeats 2000000 in
theorem indexName_any (A : Option Addr) (c : Nat) (xs : List D) (x : D) (b : Nat) (F : Nat → Prop) (w : World) (h : Lay.decl.Sl w F A xs) (hF : ∀ b, F b → b < w.heap.size) (hb : w.heap[b]? = some (.cells #[.string x.name, .int .i64 x.wide] 52 (0, 0))) (hn : xs.length ≤ 9223372036854775807) :
    Calls Tryd.prog 66 #[.slice A xs.length c, .func (.func 53) #[] #[.pointer (some ⟨b, 0, none⟩)]] w fun e w' => e = .returned (.int .i64 (fN 0 xs x.name)) ∧ Below w.heap.size w w' := by
  have HB := Lib.hid hb
  clear hb
  go_enter Tryd.func66, Tryd.ntmps66
  go_wp2
  go_loopw [8] (fun i wr => ∃ k : Nat, k ≤ xs.length ∧ i = .int .i64 k ∧ Below w.heap.size w wr ∧ Hid (fN 0 xs x.name = fN k (xs.drop k) x.name)) (fun i _ => xs.length - (intOf i).toNat)
  case atStart => exact ⟨0, Nat.zero_le _, rfl, Below.refl _ _, Lib.hid rfl⟩
  case round =>
    obtain ⟨k, hk, rfl, hbr, HT⟩ := hrel
    by_cases hlt : k < xs.length
    · obtain ⟨ad, rfl, hf, c1, c2⟩ := (h.below hbr hF).at_decl hlt
      have hk1 : (k : Int) < xs.length := by omega
      have HS := Lib.hid (fN_step xs k x.name hlt)
      have HC := Lib.hid (declOk1_any xs[k] x b wr ((hbr.block _ (lt_of_block HB.out)).trans HB.out))
      obtain ⟨q, hq⟩ : ∃ q, q = (xs[k].name.toList == x.name.toList) := ⟨_, rfl⟩
      have HQ := Lib.hid hq
      rw [← hq] at HC
      clear hq
      go_wp2_with fail
      refine HC.out.mono ?_
      rintro e w2 ⟨rfl, hb2⟩
      have hbq := bthen hbr hb2
      cases q
      · have HE : Hid (fN 0 xs x.name = fN (k + 1) (xs.drop (k + 1)) x.name) := Lib.hid (by rw [HT.out, HS.out, ← HQ.out]; rfl)
        go_wp2
        go_roundw
        case rel => exact ⟨k + 1, by omega, by go_num, hbq, HE⟩
        case measure => simp [intOf]; omega
      · have HE : Hid (fN 0 xs x.name = (k : Int)) := Lib.hid (by rw [HT.out, HS.out, ← HQ.out]; rfl)
        go_wp2
        go_ret
        exact ⟨ret_int (by rw [HE.out]), hbq⟩
    · have HE : Hid (fN 0 xs x.name = -1) := Lib.hid (by rw [HT.out, List.drop_of_length_le (by omega)]; rfl)
      have hke : k = xs.length := by omega
      subst hke
      go_wp2
      go_ret
      exact ⟨ret_int (by rw [HE.out]), hbr⟩
set_option maxHeartbeats 1000000 in
theorem hasName_any (A : Option Addr) (c : Nat) (xs : List D) (x : D) (b : Nat) (F : Nat → Prop) (w : World) (h : Lay.decl.Sl w F A xs) (hF : ∀ b, F b → b < w.heap.size) (hb : w.heap[b]? = some (.cells #[.string x.name, .int .i64 x.wide] 52 (0, 0))) (hn : xs.length ≤ 9223372036854775807) :
    Calls Tryd.prog 52 #[.slice A xs.length c, .func (.func 53) #[] #[.pointer (some ⟨b, 0, none⟩)]] w (RetB w (hasN xs x.name)) := by
  have HC := Lib.hid (indexName_any A c xs x b F w h hF hb hn)
  have HH := Lib.hid (fN_has 0 xs x.name)
  have HG := Lib.hid (fN_ge 0 xs x.name)
  obtain ⟨q, hq⟩ : ∃ q, q = fN 0 xs x.name := ⟨_, rfl⟩
  rw [← hq] at HC HH HG
  clear hq h hb
  by_cases hq0 : 0 ≤ q
  · have HE : Hid (hasN xs x.name = true) := Lib.hid (HH.out.1 hq0)
    go_enter Tryd.func52, Tryd.ntmps52
    go_wp2_with fail
    refine HC.out.mono ?_
    rintro e w2 ⟨rfl, hb2⟩
    go_wp2
    go_ret
    exact ⟨ret_bool (by rw [HE.out]), hb2⟩
  · have HE : Hid (hasN xs x.name = false) := Lib.hid (Bool.eq_false_iff.2 fun h9 => hq0 (HH.out.2 h9))
    go_enter Tryd.func52, Tryd.ntmps52
    go_wp2_with fail
    refine HC.out.mono ?_
    rintro e w2 ⟨rfl, hb2⟩
    go_wp2
    go_ret
    exact ⟨ret_bool (by rw [HE.out]; exact decide_eq_false (by omega)), hb2⟩
theorem nameOk_short {s : ByteArray} (h : ¬ 1 ≤ s.size) : nameOk s = false := by unfold nameOk; rw [decide_eq_false h]; rfl
theorem nameOk_long {s : ByteArray} (h : ¬ s.size ≤ 4) : nameOk s = false := by unfold nameOk; rw [decide_eq_false h]; simp
theorem nameOk_tru {s : ByteArray} (h : tru s = true) : nameOk s = false := by unfold nameOk; rw [h]; simp
theorem nameOk_let {s : ByteArray} (h : allLet s = false) : nameOk s = false := by unfold nameOk; rw [h]; simp
theorem nameOk_yes {s : ByteArray} (h1 : 1 ≤ s.size) (h4 : s.size ≤ 4) (ht : tru s = false) (hl : allLet s = true) : nameOk s = true := by unfold nameOk; rw [decide_eq_true h1, decide_eq_true h4, ht, hl]; rfl
set_option maxRecDepth 100000 in
set_option maxHeartbeats 4000000 in
theorem implDeclOk_any (A : Option Addr) (c : Nat) (xs : List D) (F : Nat → Prop) (w : World) (h : Lay.decl.Sl w F A xs) (hF : ∀ b, F b → b < w.heap.size) (hn : xs.length ≤ 9223372036854775807) (ho : okNames xs) (hc : xs.length ≤ c) :
    Calls Tryd.prog 32 #[.slice A xs.length c] w (RetB w (declOk xs)) := by
  by_cases hl4 : xs.length ≤ 4
  · go_enter Tryd.func32, Tryd.ntmps32
    go_wp2
    go_loopw [3, 11] (fun b i wr => ∃ (k : Nat) (n : Int), k ≤ xs.length ∧ i = .int .i64 k ∧ b = .int .i64 n ∧ 0 ≤ n ∧ n ≤ 4 * k ∧ Below w.heap.size w wr ∧ Hid (dGo [] 0 xs = dGo (xs.take k) n (xs.drop k))) (fun _ i _ => xs.length - (intOf i).toNat)
    case atStart => exact ⟨0, 0, Nat.zero_le _, rfl, rfl, by omega, by omega, Below.refl _ _, Lib.hid rfl⟩
    case round =>
      obtain ⟨k, n, hk, rfl, rfl, n0, n1, hb, HT⟩ := hrel
      by_cases hlt : k < xs.length
      · have hr := h.below hb hF
        obtain ⟨ad, rfl, hf, c1, c2⟩ := hr.at_decl hlt
        have hk1 : (k : Int) < xs.length := by omega
        have hos := ho _ (List.getElem_mem hlt)
        have hal : Below wr.heap.size wr (wr.alloc (.cells #[.string xs[k].name, .int .i64 xs[k].wide] 52)) := (Below.refl _ _).alloc (Nat.le_refl _) _
        have HAL := Lib.hid (bthen hb hal)
        have HBX := Lib.hid (heap_alloc_new wr (.cells #[.string xs[k].name, .int .i64 xs[k].wide] 52))
        have hkc : k ≤ c := by omega
        clear hal hr
        by_cases h1 : 1 ≤ xs[k].name.size
        · by_cases h4 : xs[k].name.size ≤ 4
          · obtain ⟨q, hq⟩ : ∃ q, q = tru xs[k].name := ⟨_, rfl⟩
            have HQ := Lib.hid hq
            have g9 : (xs[k].name.toList == [116, 114, 117, 101]) = q := hq.symm
            clear hq
            cases q
            · have HTR := Lib.hid (fun z => trimAz_any xs[k].name z hos)
              obtain ⟨p, hp⟩ : ∃ p, p = allLet xs[k].name := ⟨_, rfl⟩
              have HP := Lib.hid hp
              rw [← hp] at HTR
              clear hp
              go_wp2_with fail
              generalize wr.alloc (.cells #[.string xs[k].name, .int .i64 xs[k].wide] 52) = w1 at *
              refine (HTR.out _).mono ?_
              rintro e w2 ⟨r, rfl, hre, hb2⟩
              have HB2 := Lib.hid (bthen HAL.out hb2)
              have HBX := Lib.hid ((hb2.block _ (lt_of_block HBX.out)).trans HBX.out)
              clear hb2 g9 c1 c2
              cases p
              · have HB : Hid (declOk xs = false) := Lib.hid (declOk_bad xs k n hlt HT.out (dOne_name (nameOk_let HP.out.symm)))
                go_wp2
                go_ret
                exact ⟨ret_bool (by rw [HB.out]), HB2.out⟩
              · have HNM : Hid (nameOk xs[k].name = true) := Lib.hid (nameOk_yes h1 h4 HQ.out.symm HP.out.symm)
                have e9 : (xs.take k).length = k := by rw [List.length_take]; omega
                have HCN := Lib.hid (hasName_any (some ad) c (xs.take k) xs[k] wr.heap.size F w2 ((h.below HB2.out hF).take k) (fun b hb9 => Nat.lt_of_lt_of_le (hF b hb9) HB2.out.size) HBX.out (by omega))
                rw [e9] at HCN
                clear e9 h1 h4
                go_wp2_with fail
                refine HCN.out.mono ?_
                rintro e w3 ⟨rfl, hb3⟩
                have HB3 := Lib.hid (bthen HB2.out hb3)
                have HBX := Lib.hid ((hb3.block _ (lt_of_block HBX.out)).trans HBX.out)
                obtain ⟨u, hu⟩ : ∃ u, u = hasN (xs.take k) xs[k].name := ⟨_, rfl⟩
                have HU := Lib.hid hu
                rw [← hu]
                clear hu hb3 hre
                have v1 := (cell_of_block HBX.out 1).1
                cases u
                · by_cases hw1 : 1 ≤ xs[k].wide
                  · by_cases hw4 : xs[k].wide ≤ 4
                    · have HX : Hid (dGo [] 0 xs = dGo (xs.take (k + 1)) (n + xs[k].wide) (xs.drop (k + 1))) := Lib.hid (declOk_next xs k n hlt HT.out (dOne_yes HNM.out hw1 hw4 HU.out.symm))
                      go_wp2
                      go_roundw
                      case rel => exact ⟨k + 1, n + xs[k].wide, by omega, by go_num, rfl, by omega, by omega, HB3.out, HX⟩
                      case measure => simp [intOf]; omega
                    · have HB : Hid (declOk xs = false) := Lib.hid (declOk_bad xs k n hlt HT.out (dOne_high hw4))
                      go_wp2
                      go_ret
                      exact ⟨ret_bool (by rw [HB.out]), HB3.out⟩
                  · have HB : Hid (declOk xs = false) := Lib.hid (declOk_bad xs k n hlt HT.out (dOne_low hw1))
                    go_wp2
                    go_ret
                    exact ⟨ret_bool (by rw [HB.out]), HB3.out⟩
                · have HB : Hid (declOk xs = false) := Lib.hid (declOk_bad xs k n hlt HT.out (dOne_seen HU.out.symm))
                  go_wp2
                  go_ret
                  exact ⟨ret_bool (by rw [HB.out]), HB3.out⟩
            · have HB : Hid (declOk xs = false) := Lib.hid (declOk_bad xs k n hlt HT.out (dOne_name (nameOk_tru HQ.out.symm)))
              go_wp2
              go_ret
              exact ⟨ret_bool (by rw [HB.out]), HAL.out⟩
          · have HB : Hid (declOk xs = false) := Lib.hid (declOk_bad xs k n hlt HT.out (dOne_name (nameOk_long h4)))
            go_wp2
            go_ret
            exact ⟨ret_bool (by rw [HB.out]), HAL.out⟩
        · have HB : Hid (declOk xs = false) := Lib.hid (declOk_bad xs k n hlt HT.out (dOne_name (nameOk_short h1)))
          go_wp2
          go_ret
          exact ⟨ret_bool (by rw [HB.out]), HAL.out⟩
      · have hke : k = xs.length := by omega
        subst hke
        have HE := Lib.hid (declOk_end xs n hl4 HT.out)
        go_wp2
        go_ret
        exact ⟨ret_bool (by rw [HE.out]), hb⟩
  · have HE := Lib.hid (declOk_long xs hl4)
    go_enter Tryd.func32, Tryd.ntmps32
    go_wp2
    go_ret
    exact ⟨ret_bool (by rw [HE.out]), Below.refl _ _⟩
set_option maxHeartbeats 1000000 in
theorem bitsOf_any (A : Option Addr) (c : Nat) (xs : List D) (F : Nat → Prop) (w : World) (h : Lay.decl.Sl w F A xs) (hF : ∀ b, F b → b < w.heap.size) (h4 : xs.length ≤ 1000) (hw : ∀ x ∈ xs, -1000000 ≤ x.wide ∧ x.wide ≤ 1000000) :
    Calls Tryd.prog 33 #[.slice A xs.length c] w fun e w' => e = .returned (.int .i64 (dsum xs)) ∧ Below w.heap.size w w' := by
  go_enter Tryd.func33, Tryd.ntmps33
  go_wp2
  go_loopw [3, 8] (fun b i wr => ∃ (k : Nat) (n : Int), k ≤ xs.length ∧ i = .int .i64 k ∧ b = .int .i64 n ∧ -1000000 * (k : Int) ≤ n ∧ n ≤ 1000000 * (k : Int) ∧ Below w.heap.size w wr ∧ Hid (n = dsum (xs.take k))) (fun _ i _ => xs.length - (intOf i).toNat)
  case atStart => exact ⟨0, 0, Nat.zero_le _, rfl, rfl, by omega, by omega, Below.refl _ _, Lib.hid rfl⟩
  case round =>
    obtain ⟨k, n, hk, rfl, rfl, n0, n1, hb, HT⟩ := hrel
    by_cases hlt : k < xs.length
    · obtain ⟨ad, rfl, hf, c1, c2⟩ := (h.below hb hF).at_decl hlt
      have hk1 : (k : Int) < xs.length := by omega
      obtain ⟨b0, b1⟩ := hw _ (List.getElem_mem hlt)
      have HS := Lib.hid (dsum_take xs k hlt)
      have HAL := Lib.hid (bthen hb ((Below.refl wr.heap.size wr).alloc (Nat.le_refl _) (.cells #[.string xs[k].name, .int .i64 xs[k].wide] 52)))
      clear hw
      go_wp2
      go_roundw
      case rel => exact ⟨k + 1, n + xs[k].wide, by omega, by go_num, rfl, by push_cast; omega, by push_cast; omega, HAL.out, Lib.hid (by rw [HS.out, ← HT.out])⟩
      case measure => simp [intOf]; omega
    · have hke : k = xs.length := by omega
      subst hke
      have HE : Hid (n = dsum xs) := Lib.hid (by rw [HT.out, List.take_length])
      clear hw
      go_wp2
      go_ret
      exact ⟨ret_int HE.out, hb⟩
end Go.Proofs.YthcmflhhpgmfaaaDoor

/-! A drawn region whose operations write old memory: each operation once, in whatever world its turn comes; a relation that all keep, and an invariant. No program is named here. -/
namespace Go.Proofs.YthcmflhhpgmfaaaDoor
open Go Go.RowKit

variable {P : Program} {Q : Exit → Act → World → Prop}
end Go.Proofs.YthcmflhhpgmfaaaDoor

/-! Drawn regions that draw from a reader; literals. -/
namespace Go.Proofs.YthcmflhhpgmfaaaDoor
open Go Go.RowKit

end Go.Proofs.YthcmflhhpgmfaaaDoor

/-! The program's bit vectors: VecOk, VecSigned, VecCmp where the vectors are right. -/
namespace Go.Proofs.YthcmflhhpgmfaaaDoor
open Go Go.RowKit

end Go.Proofs.YthcmflhhpgmfaaaDoor

/-! The program's BlastIns and BlastEnv. -/
namespace Go.Proofs.YthcmflhhpgmfaaaDoor
open Go Go.RowKit

theorem own_nilI (w : World) (lo : Nat) : OwnI w lo (.slice none ([] : List Int).length 0) [] := ⟨by simp, .inl ⟨rfl, rfl⟩⟩
theorem retO_nilI (w w' : World) (h : Below w.heap.size w w') : RetO Lay.int w [] (.returned (.slice none 0 0)) w' := ⟨none, 0, rfl, Nat.le_refl _, .nil _ _ _ _, h⟩
set_option maxHeartbeats 1000000 in
theorem number_any (b : Bool) (w : World) : Calls Tryd.prog 34 #[.bool b] w fun e w' => e = .returned (.int .i64 (if b = true then 1 else 0)) ∧ w = w' := by
  cases b
  all_goals
    go_enter Tryd.func34, Tryd.ntmps34
    go_wp2
    go_ret
    exact ⟨rfl, rfl⟩
theorem row_neI {w : World} {lo : Nat} {A : Option Addr} {c : Nat} {xs : List Int} (h : OwnI w lo (.slice A xs.length c) xs) (r : Nat) (o : Obj) (hr : w.heap[r]? = some o) (ho : ∀ cs fr, o ≠ .cells cs 3 fr) : some r ≠ (Value.slice A xs.length c).ownBlock := by
  intro e
  rcases h.2 with ⟨h1, _⟩ | ⟨g, cap, cur, h1, _, hg, _⟩
  · rw [h1] at e; cases e
  · rw [h1] at e
    injection e with e
    subst e
    rw [hr] at hg
    injection hg with hg
    exact ho _ _ hg
theorem Lay.Sl.drop_bool {w : World} {F : Nat → Prop} {ad : Addr} {xs : List Bool} (h : Lay.bool.Sl w F (some ad) xs) (n : Nat) : Lay.bool.Sl w F (some (ad.add n)) (xs.drop n) := fun hn => by
  obtain ⟨ad', e, hf, hc⟩ := h (by simp at hn; omega)
  injection e with e
  subst e
  refine ⟨_, rfl, by rw [block_of_add]; exact hf, fun k x hx => ?_⟩
  rw [List.getElem?_drop] at hx
  obtain ⟨vs, hr, hcell⟩ := hc (n + k) x hx
  refine ⟨vs, hr, fun j u hu => ?_⟩
  have := hcell j u hu
  rw [add_of_add]
  rw [show Lay.bool.size = 1 from rfl, Nat.mul_one] at this ⊢
  rw [show n + (k + j) = n + k + j by omega]; exact this
set_option maxRecDepth 100000 in
/-- What is left of a slice behind its first j elements. -/
theorem slice_fromB {w : World} {F : Nat → Prop} {a7 : Addr} {xs : List Bool} (L d7 j : Nat) (h : Lay.bool.Sl w F (some a7) xs) (hj : j ≤ L) (hxl : xs.length = L) (hd : L ≤ d7) :
    ∃ B9, (∀ W : World, (Instr.slice 23 (.slice (some a7) L d7) (some (.int .i64 (j : Int))) none none).run Tryd.prog W = .ok (.slice B9 (L - j) (d7 - j)) W) ∧ Lay.bool.Sl w F B9 (xs.drop j) := by
  refine ⟨if d7 = j then some a7 else some (a7.add j), fun W => ?_, ?_⟩
  · rw [run_slice_l (P := Tryd.prog) (w := W) 23 (some a7) L d7 Tryd.underlying23 .i64 (j : Int) (by omega) (by omega)]
    have hs : (sizeOf (Tryd.prog.elem 23)).run Tryd.prog W = .ok 1 W := by kernel_rfl
    rw [hs]
    show Result.ok (sliced (some a7) (Int.toNat (j : Int)) L d7 1) W = _
    unfold sliced
    rw [Int.toNat_natCast, Nat.mul_one]
    rfl
  · by_cases e : d7 = j
    · rw [if_pos e, List.drop_of_length_le (by omega)]
      exact .nil _ _ _ _
    · rw [if_neg e]
      exact h.drop_bool j
set_option maxRecDepth 100000 in
set_option maxHeartbeats 4000000 in
theorem implBlastEnv_any (A B : Option Addr) (c d : Nat) (xs : List D) (bs : List Bool) (w : World) (h : Lay.decl.Rd w A xs) (h' : Lay.bool.Rd w B bs) (hn : xs.length ≤ 9223372036854775807) (hm : bs.length ≤ 9223372036854775807) (ho : okNames xs) (hc : xs.length ≤ c) (hd9 : bs.length ≤ d) :
    Calls Tryd.prog 10 #[.slice A xs.length c, .slice B bs.length d] w (RetO Lay.int w (blastEnv xs bs)) := by
  have HD := Lib.hid (implDeclOk_any A c xs _ _ h (fun _ hb => hb) hn ho hc)
  cases hd : declOk xs
  · have HE : Hid (blastEnv xs bs = []) := Lib.hid (by unfold blastEnv; rw [hd]; simp)
    rw [hd] at HD
    clear hd
    go_enter Tryd.func10, Tryd.ntmps10
    go_wp2_with fail
    refine HD.out.mono ?_
    rintro e w1 ⟨rfl, hb⟩
    go_wp2
    go_ret
    rw [HE.out]
    exact retO_nilI _ _ hb
  · obtain ⟨hl4, hw4, hs8⟩ := declOk_facts hd
    have hsn : 0 ≤ dsum xs := dsum_nn fun x hx => (hw4 x hx).2.1
    have HBT := Lib.hid (fun z (hz : Lay.decl.Rd z A xs) => bitsOf_any A c xs _ z hz (fun _ hb => hb) (by omega) (fun x hx => by have := (hw4 x hx).2; omega))
    obtain ⟨S, hS⟩ : ∃ S, S = dsum xs := ⟨_, rfl⟩
    rw [hd] at HD
    rw [← hS] at HBT hs8 hsn
    by_cases hl : (bs.length : Int) = S
    · have HE : Hid (blastEnv xs bs = envOf xs bs) := Lib.hid (by unfold blastEnv; rw [if_pos ⟨hd, by rw [hl, hS]⟩])
      have hbe : ((bs.length : Int) != S) = false := by simp [hl]
      have HW := Lib.hid hw4
      have HL := Lib.hid hl
      have HSS := Lib.hid hS
      clear hd hl hw4 hS
      go_enter Tryd.func10, Tryd.ntmps10
      go_wp2_with fail
      refine HD.out.mono ?_
      rintro e w1 ⟨rfl, hb⟩
      have HB := Lib.hid hb
      clear hb
      go_wp2_with fail
      refine (HBT.out _ (h.up HB.out)).mono ?_
      rintro e w9 ⟨rfl, hb⟩
      have HB := Lib.hid (bthen HB.out hb)
      clear hb
      go_wp2
      clear hbe
      go_loopw [1, 5, 23] (fun s1 s i wr => ∃ (k : Nat) (ns : List Int) (a L : Nat) (B7 : Option Addr) (d7 : Nat) (A8 : Option Addr) (c8 : Nat), k ≤ xs.length ∧ i = .int .i64 k ∧ s1 = .slice B7 L d7 ∧ a + L = bs.length ∧ L ≤ d7 ∧ Lay.bool.Rd w B7 (bs.drop a) ∧ s = .slice A8 ns.length c8 ∧ a ≤ 4 * k ∧ Hid ((a : Int) = dsum (xs.take k)) ∧ ns.length ≤ k ∧ OwnI wr w.heap.size (.slice A8 ns.length c8) ns ∧ Below w.heap.size w wr ∧ Hid (envOf xs bs = ns ++ envOf (xs.drop k) (bs.drop a))) (fun _ _ i _ => xs.length - (intOf i).toNat)
      case atStart => exact ⟨0, [], 0, bs.length, B, d, none, 0, Nat.zero_le _, rfl, rfl, by omega, hd9, h', rfl, Nat.le_refl _, Lib.hid rfl, by simp, own_nilI _ _, HB.out, Lib.hid rfl⟩
      case round =>
        obtain ⟨k, ns, a, L, B7, d7, A8, c8, hk, rfl, rfl, haL, hL7, hs7, rfl, ha, HA, hnl, hown, hb, HT⟩ := hrel
        obtain ⟨wo, hwo⟩ : ∃ wo, wo = wr := ⟨_, rfl⟩
        subst hwo
        have HAL := Lib.hid haL
        by_cases hlt : k < xs.length
        · obtain ⟨ad, hAd, hf, c1, c2⟩ := (h.up hb).at_decl hlt
          subst hAd
          have hk1 : (k : Int) < xs.length := by omega
          obtain ⟨W, hW⟩ : ∃ W : Nat, xs[k].wide = (W : Int) := ⟨xs[k].wide.toNat, by have := (HW.out _ (List.getElem_mem hlt)).2.1; omega⟩
          have hW4 : 1 ≤ W ∧ W ≤ 4 := by have := (HW.out _ (List.getElem_mem hlt)).2; omega
          obtain ⟨hW1, hW4⟩ := hW4
          have haW : a + W ≤ bs.length := by
            have h1 := dsum_take xs k hlt
            have h2 := dsum_le (ds := xs) (fun x hx => (HW.out x hx).2.1) (k + 1)
            have h3 := HA.out; have h4 := HL.out; have h5 := HSS.out
            omega
          have HA2 : Hid (((a + W : Nat) : Int) = dsum (xs.take (k + 1))) := Lib.hid (by have h1 := dsum_take xs k hlt; have := HA.out; omega)
          have HS := Lib.hid (envOf_step xs (bs.drop a) k hlt)
          rw [hW] at c2
          rw [hW, Int.toNat_natCast, List.drop_drop] at HS
          have HT2 : Hid (envOf xs bs = ns ++ (numB 0 ((bs.drop a).take W) :: envOf (xs.drop (k + 1)) (bs.drop (a + W)))) := Lib.hid (by rw [HT.out, HS.out])
          have hal : Below wo.heap.size wo (wo.alloc (.cells #[.string xs[k].name, .int .i64 (W : Int)] 52)) := (Below.refl _ _).alloc (Nat.le_refl _) _
          have HO2 := Lib.hid (hown.up hal)
          have HB2 := Lib.hid (bthen hb hal)
          have HBX := Lib.hid (heap_alloc_new wo (.cells #[.string xs[k].name, .int .i64 (W : Int)] 52))
          have hWL : W ≤ L := by omega
          have hWd : W ≤ d7 := by omega
          have hWL2 : (W : Int) ≤ L := by omega
          have hWd2 : (W : Int) ≤ d7 := by omega
          have hL63 : L ≤ 9223372036854775807 := by omega
          have hadn : ∃ a7, B7 = some a7 := by
            obtain ⟨a7, e7, _⟩ := hs7 (by rw [List.length_drop]; omega)
            exact ⟨a7, e7⟩
          obtain ⟨a7, rfl⟩ := hadn
          clear hW HT HS hal hown haL
          go_wp2
          generalize wo.alloc (.cells #[.string xs[k].name, .int .i64 (W : Int)] 52) = w2 at *
          clear c1 c2
          go_loopw [8, 32] (fun n9 j9 wr => ∃ (j : Nat) (n : Int), j ≤ W ∧ j9 = .int .i64 (j : Int) ∧ n9 = .int .i64 n ∧ 0 ≤ n ∧ n < 2 ^ j ∧ wr = w2 ∧ Hid (numB 0 ((bs.drop a).take W) = numB n ((bs.drop (a + j)).take (W - j)))) (fun _ j9 _ => W - (intOf j9).toNat)
          case atStart => exact ⟨0, 0, Nat.zero_le _, rfl, rfl, by omega, by simp, rfl, Lib.hid rfl⟩
          case round =>
            obtain ⟨j, n, hj, rfl, rfl, n0, n1, rfl, HN⟩ := hrel
            have hn16 : n < 16 := by
              have h9 : (2 : Int) ^ j ≤ 2 ^ 4 := by exact_mod_cast Nat.pow_le_pow_right (n := 2) (by omega) (by omega : j ≤ 4)
              omega
            by_cases hjl : j < W
            · have hji : (j : Int) < W := by omega
              have haj : a + j < bs.length := by have := HAL.out; omega
              have hajd : j < (bs.drop a).length := by rw [List.length_drop]; omega
              obtain ⟨ad', hB, hf', c3⟩ := (hs7.up HB2.out).at_bool hajd
              injection hB with hB
              subst hB
              rw [List.getElem_drop] at c3
              have HST := Lib.hid (numB_step n bs (a + j) (W - (j + 1)) haj)
              rw [show W - (j + 1) + 1 = W - j by omega] at HST
              obtain ⟨q, hq⟩ : ∃ q : Int, q = if bs[a + j] = true then 1 else 0 := ⟨_, rfl⟩
              have hq01 : 0 ≤ q ∧ q ≤ 1 := by rw [hq]; split <;> omega
              obtain ⟨hq0, hq1⟩ := hq01
              have HB3 := Lib.hid (number_any bs[a + j])
              rw [← hq] at HB3 HST
              have hp : (2 : Int) ^ (j + 1) = 2 * 2 ^ j := by rw [Int.pow_succ]; omega
              have HNN : Hid (2 * n + q < 2 ^ (j + 1)) := Lib.hid (by rw [hp]; omega)
              clear hq hp n1
              go_wp2_with fail
              refine (HB3.out _).mono ?_
              rintro e w9 ⟨rfl, rfl⟩
              go_wp2
              go_roundw
              case rel => exact ⟨j + 1, 2 * n + q, by omega, by go_num, by go_num, by omega, HNN.out, trivial, Lib.hid (by rw [HN.out, HST.out]; rfl)⟩
              case measure => simp [intOf]; omega
            · have hje : j = W := by omega
              subst hje
              obtain ⟨ps, hps⟩ : ∃ ps, ps = ns ++ [n] := ⟨_, rfl⟩
              have HPS := Lib.hid hps
              have HPL : Hid (ps.length = ns.length + 1) := Lib.hid (by rw [hps]; simp)
              have HT3 : Hid (envOf xs bs = ps ++ envOf (xs.drop (k + 1)) (bs.drop (a + j))) := Lib.hid (by rw [HT2.out, HN.out, hps]; simp [numB])
              have hsz := HB2.out.size
              have hown := HO2.out
              clear hps n1 HT2 HN HO2
              have HRD := Lib.hid (hs7.drop_bool j)
              obtain ⟨B9, hs9, hr9⟩ := slice_fromB L d7 j hs7 hWL (by rw [List.length_drop]; have := HAL.out; omega) hL7
              rw [List.drop_drop] at hr9
              have HR9 := Lib.hid hr9
              clear hr9 HRD
              go_wp2_with (at_builtin; refine wpList_append_int8 (ys := ps) (by rfl) (.tmp 42) (.tmp 44) (by rfl) (by rfl) (by rfl) hown (by omega) hsz HPS.out ?_; intro A3 c3 w3 hown3 hg3 hbk3; have HBX3 := Lib.hid ((hg3.block _ (lt_of_block HBX.out) (row_neI hown _ _ HBX.out (fun cs fr e9 => by injection e9 with _ e2 _; revert e2; decide))).trans HBX.out); have v1 := (cell_of_block HBX3.out 1).1; have HB3 := Lib.hid (HB2.out.grown hg3 hsz (fun g e => (hown.lt g e).1)); have HO3 := Lib.hid hown3; clear hg3 hbk3 hown3)
              go_roundw
              case rel => exact ⟨k + 1, ps, a + j, L - j, B9, d7 - j, A3, c3, by omega, by go_num, rfl, by have := HAL.out; omega, by omega, HR9.out, rfl, by omega, HA2, by rw [HPL.out]; omega, HO3.out, HB3.out, HT3⟩
              case measure => simp [intOf]; omega
        · have hke : k = xs.length := by omega
          subst hke
          have HX : Hid (blastEnv xs bs = ns) := Lib.hid (by rw [HE.out, HT.out, List.drop_length]; simp [envOf])
          go_wp2
          go_ret
          rw [HX.out]
          exact hown.ret hb
    · have HE : Hid (blastEnv xs bs = []) := Lib.hid (by unfold blastEnv; rw [if_neg (fun h9 => hl (by rw [h9.2, hS]))])
      have hbe : ((bs.length : Int) != S) = true := bne_iff_ne.2 hl
      clear hd hl hw4 hS
      go_enter Tryd.func10, Tryd.ntmps10
      go_wp2_with fail
      refine HD.out.mono ?_
      rintro e w1 ⟨rfl, hb⟩
      have HB := Lib.hid hb
      clear hb
      go_wp2_with fail
      refine (HBT.out _ (h.up HB.out)).mono ?_
      rintro e w9 ⟨rfl, hb⟩
      have HB := Lib.hid (bthen HB.out hb)
      clear hb
      go_wp2
      go_ret
      rw [HE.out]
      exact retO_nilI _ _ HB.out
end Go.Proofs.YthcmflhhpgmfaaaDoor

/-! BlastEnv and BlastIns, one form for the program's and the reference's. -/
namespace Go.Proofs.YthcmflhhpgmfaaaDoor
open Go Go.RowKit

theorem envOf_len : ∀ (xs : List D) (bs : List Bool), (envOf xs bs).length = xs.length
  | [], _ => rfl
  | x :: xs, bs => by simp [envOf, envOf_len xs]
theorem blastEnv_len (xs : List D) (bs : List Bool) : (blastEnv xs bs).length ≤ 1048576 := by
  unfold blastEnv
  split
  · rename_i h
    have := (declOk_facts h.1).1
    rw [envOf_len]; omega
  · simp
section
variable (x0 : List D) (A0 : Option Addr) (c0 : Nat)
theorem specBlastEnv_u (x1 : List Bool) (A1 : Option Addr) (c1 : Nat) (w : World) (h0 : Lay.decl.Rd w A0 x0) (hc0 : x0.length ≤ c0) (h1 : Lay.bool.Rd w A1 x1) (_ : x1.length ≤ c1) (s0 : smDecls x0) (s1 : smBools x1) :
    Calls Tryd.prog 7 #[.slice A0 x0.length c0, .slice A1 x1.length c1] w (RetO Lay.int w (blastEnv x0 x1)) :=
  specBlastEnv_any A0 A1 c0 c1 x0 x1 w h0 h1 (by have := s0.1; omega) (by have := s1.1; omega) s0.2.1 hc0
theorem implBlastEnv_u (x1 : List Bool) (A1 : Option Addr) (c1 : Nat) (w : World) (h0 : Lay.decl.Rd w A0 x0) (hc0 : x0.length ≤ c0) (h1 : Lay.bool.Rd w A1 x1) (hc1 : x1.length ≤ c1) (s0 : smDecls x0) (s1 : smBools x1) :
    Calls Tryd.prog 10 #[.slice A0 x0.length c0, .slice A1 x1.length c1] w (RetO Lay.int w (blastEnv x0 x1)) :=
  implBlastEnv_any A0 A1 c0 c1 x0 x1 w h0 h1 (by have := s0.1; omega) (by have := s1.1; omega) s0.2.1 hc0 hc1
end
end Go.Proofs.YthcmflhhpgmfaaaDoor

/-! What the rows list of the library's variables: tables that the proofs do not read. -/
namespace Go.Proofs.YthcmflhhpgmfaaaDoor
open Go

theorem dr_own : ownKnob Tryd.prog.godebug = none := by kernel_rfl
abbrev laidU : List (String × DataW Unit) := [("unicode/utf8.acceptRanges", Rows.laid_unicode_utf8_acceptRanges), ("unicode/utf8.first", Rows.laid_unicode_utf8_first)]
end Go.Proofs.YthcmflhhpgmfaaaDoor

/-! FnExactBlastEnv: the program's BlastEnv answers, for any declarations and any inputs, what the reference's answers, in memory of its own. -/
namespace Go.Proofs.YthcmflhhpgmfaaaDoor
open Go Go.RowKit Go.ChangeShapes Go.WideShapes Go.ChangeAt Go.Deep

set_option maxRecDepth 100000 in
set_option maxHeartbeats 4000000 in
theorem fnExactBlastEnv_walk (W : World) {Ap0a : Option Addr} {cp0a : Nat} {x0 : List D} {Ap1a : Option Addr} {cp1a : Nat} {x1 : List Bool} (_ : x0.length ≤ cp0a) (ok0 : okDs x0) (hp0a : Lay.decl.Rd W Ap0a x0) (_ : x1.length ≤ cp1a) (ok1 : (x1.length ≤ maxLen ∧ ∀ i ∈ x1, True)) (hp1a : Lay.bool.Rd W Ap1a x1) :
    Calls Tryd.prog 3 #[.slice Ap0a x0.length cp0a, .slice Ap1a x1.length cp1a] W (LawC W) := by
  have HW0 : Hid (Below W.heap.size W W) := Lib.hid (Below.refl _ _)
  have Hp0a := hp0a
  have Hp1a := hp1a
  clear hp0a hp1a
  have OK0 := Lib.hid ok0
  clear ok0
  have OK1 := Lib.hid ok1
  clear ok1
  by_cases hbig1 : (1048576 : Int) < x1.length
  · go_enter Tryd.func3, Tryd.ntmps3
    go_wp2
    go_ret
    exact ⟨rfl, HW0.out⟩
  have SM1 : Hid (smBools x1) := Lib.hid (smBools_of OK1.out (by omega))
  go_enter Tryd.func3, Tryd.ntmps3
  have hb : Below W.heap.size W W := Below.refl _ _
  go_wp2_with fail
  refine (szDecls_u x0 Ap0a cp0a 1048576 _ (Hp0a.up hb) OK0.out (by omega) (by omega)).mono ?_
  rintro e u1 ⟨rfl, hbu1⟩
  have hb := bthen hb hbu1
  clear hbu1
  by_cases hbig0 : (1048576 : Int) < (wtD x0 : Nat)
  · have HSZ := Lib.hid (szRes_lt hbig0)
    clear hbig0
    rw [HSZ.out]
    go_wp2
    go_ret
    exact ⟨rfl, bthen HW0.out hb⟩
  have SM0 : Hid (smDecls x0) := Lib.hid (smDecls_of OK0.out (by omega))
  have HSZ0 := Lib.hid (szRes_ge hbig0)
  rw [HSZ0.out]
  have hln9 : (0 : Int) ≤ (1048576 - (wtD x0 : Nat)) := by omega
  clear hbig0
  generalize hr9 : blastEnv x0 x1 = r9 at *
  have HR9 := Lib.hid hr9
  clear hr9
  have HRS0 := Lib.hid (show r9.length ≤ 1048576 by rw [← HR9.out]; exact blastEnv_len _ _)
  go_wp2_with fail
  refine (toDecls_u x0 Ap0a cp0a _ (Hp0a.up hb) SM0.out).mono ?_
  rintro e u2 ⟨Aq0a, cq0a, rfl, hcq0a, sq0a, hbq0⟩
  have hb := bthen hb hbq0
  clear hbq0
  go_wp2_with fail
  refine (toBools_u x1 Ap1a cp1a _ (Hp1a.up hb) SM1.out).mono ?_
  rintro e u3 ⟨Aq1a, cq1a, rfl, hcq1a, sq1a, hbq1⟩
  have hb := bthen hb hbq1
  have sq0a := sq0a.own_up hbq1
  clear hbq1
  go_wp2_with fail
  refine (specBlastEnv_u x0 Aq0a cq0a x1 Aq1a cq1a _ (sq0a.own_rd) hcq0a (sq1a.own_rd) hcq1a SM0.out SM1.out).mono ?_
  rw [HR9.out]
  rintro e u4 ⟨Aw0a, cw0a, rfl, hcw0a, sw0a, hb9⟩
  clear sq0a
  clear sq1a
  have hb := bthen hb hb9
  clear hb9
  have Rw0a := sw0a.cp_of
  clear sw0a
  go_wp2_with fail
  have z0 : W.heap.size ≤ u4.heap.size := hb.size
  have hs : Below u4.heap.size u4 u4 := Below.refl _ _
  refine (toDecls_u x0 Ap0a cp0a _ (Hp0a.up hb) SM0.out).mono ?_
  rintro e u5 ⟨Ak0a, ck0a, rfl, hck0a, sk0a, hbk0⟩
  have hb := bthen hb hbk0
  have hs := bthen hs hbk0
  have Rw0a := Rw0a.cp_up hbk0
  clear hbk0
  go_wp2_with fail
  have Rk0a := sk0a.cp_of
  clear sk0a
  have z1 : u4.heap.size ≤ u5.heap.size := hs.size
  clear hs
  have hs : Below u5.heap.size u5 u5 := Below.refl _ _
  refine (toBools_u x1 Ap1a cp1a _ (Hp1a.up hb) SM1.out).mono ?_
  rintro e u6 ⟨Ak1a, ck1a, rfl, hck1a, sk1a, hbk1⟩
  have hb := bthen hb hbk1
  have hs := bthen hs hbk1
  have Rw0a := Rw0a.cp_up hbk1
  have Rk0a := Rk0a.cp_up hbk1
  clear hbk1
  go_wp2_with fail
  have Rk1a := sk1a.cp_of
  clear sk1a
  have z2 : u5.heap.size ≤ u6.heap.size := hs.size
  clear hs
  have hs : Below u6.heap.size u6 u6 := Below.refl _ _
  refine (implBlastEnv_u x0 Ak0a ck0a x1 Ak1a ck1a _ (Rk0a.cp_rd) hck0a (Rk1a.cp_rd) hck1a SM0.out SM1.out).mono ?_
  rw [HR9.out]
  rintro e u7 ⟨Ag0a, cg0a, rfl, hcg0a, sg0a, hb9⟩
  have hb := bthen hb hb9
  have hs := bthen hs hb9
  have Rw0a := Rw0a.cp_up hb9
  have Rk0a := Rk0a.cp_up hb9
  have Rk1a := Rk1a.cp_up hb9
  clear hb9
  have Rg0a := sg0a.cp_of
  clear sg0a
  have z3 : u6.heap.size ≤ u7.heap.size := hs.size
  clear hs
  have hs : Below u7.heap.size u7 u7 := Below.refl _ _
  go_wp2_with fail
  refine (eqInts_u r9 Ag0a Aw0a cg0a cw0a _ Rg0a.cp_rd Rw0a.cp_rd HRS0.out).mono ?_
  rintro e u8 ⟨rfl, hb9⟩
  have hb := bthen hb hb9
  have hs := bthen hs hb9
  have Rw0a := Rw0a.cp_up hb9
  have Rk0a := Rk0a.cp_up hb9
  have Rk1a := Rk1a.cp_up hb9
  have Rg0a := Rg0a.cp_up hb9
  clear hb9
  go_wp2_with fail
  refine (toDecls_u x0 Ap0a cp0a _ (Hp0a.up hb) SM0.out).mono ?_
  rintro e u9 ⟨Ay0a, cy0a, rfl, hcy0a, sy0a, hby0⟩
  have hb := bthen hb hby0
  have hs := bthen hs hby0
  have Rw0a := Rw0a.cp_up hby0
  have Rk0a := Rk0a.cp_up hby0
  have Rk1a := Rk1a.cp_up hby0
  have Rg0a := Rg0a.cp_up hby0
  clear hby0
  go_wp2_with fail
  refine (eqDecls_u x0 Ak0a Ay0a ck0a cy0a _ Rk0a.cp_rd sy0a.own_rd SM0.out.1).mono ?_
  rintro e u10 ⟨rfl, hb9⟩
  clear sy0a
  have hb := bthen hb hb9
  have hs := bthen hs hb9
  have Rw0a := Rw0a.cp_up hb9
  have Rk0a := Rk0a.cp_up hb9
  have Rk1a := Rk1a.cp_up hb9
  have Rg0a := Rg0a.cp_up hb9
  clear hb9
  go_wp2_with fail
  refine (toBools_u x1 Ap1a cp1a _ (Hp1a.up hb) SM1.out).mono ?_
  rintro e u11 ⟨Ay1a, cy1a, rfl, hcy1a, sy1a, hby1⟩
  have hb := bthen hb hby1
  have hs := bthen hs hby1
  have Rw0a := Rw0a.cp_up hby1
  have Rk0a := Rk0a.cp_up hby1
  have Rk1a := Rk1a.cp_up hby1
  have Rg0a := Rg0a.cp_up hby1
  clear hby1
  go_wp2_with fail
  refine (eqBools_u x1 Ak1a Ay1a ck1a cy1a _ Rk1a.cp_rd sy1a.own_rd SM1.out.1).mono ?_
  rintro e u12 ⟨rfl, hb9⟩
  clear sy1a
  have hb := bthen hb hb9
  have hs := bthen hs hb9
  have Rw0a := Rw0a.cp_up hb9
  have Rk0a := Rk0a.cp_up hb9
  have Rk1a := Rk1a.cp_up hb9
  have Rg0a := Rg0a.cp_up hb9
  clear hb9
  go_wp2_with fail
  refine (markDecls_u x0 Ak0a ck0a _ _ 1 _ Rk0a SM0.out.1 (by omega) (by omega)).mono ?_
  rintro e u13 ⟨rfl, hd, _⟩
  clear hs
  have Rw0a := Rw0a.cp_dab hd (by intro b h1 h2 h3; have := h3.1; have := h3.2; omega)
  clear Rk0a
  have Rk1a := Rk1a.cp_dab hd (by intro b h1 h2 h3; have := h3.1; have := h3.2; omega)
  have Rg0a := Rg0a.cp_dab hd (by intro b h1 h2 h3; have := h3.1; have := h3.2; omega)
  have hb := below_rng hb hd hb.size (by omega)
  clear hd
  obtain ⟨k9_1, hk9, hk9a, hk9b⟩ : ∃ k9 : Int, k9 = 1 + (2 * x0.length : Nat) ∧ 1 ≤ k9 ∧ k9 ≤ 10000000 := ⟨_, rfl, by omega, by have := SM0.out.1; omega⟩
  rw [← hk9]
  clear hk9
  go_wp2_with fail
  refine (markBools_u x1 Ak1a ck1a _ _ k9_1 _ Rk1a SM1.out.1 (by omega) (by omega)).mono ?_
  rintro e u14 ⟨rfl, hd, _⟩
  have Rw0a := Rw0a.cp_dab hd (by intro b h1 h2 h3; have := h3.1; have := h3.2; omega)
  clear Rk1a
  have Rg0a := Rg0a.cp_dab hd (by intro b h1 h2 h3; have := h3.1; have := h3.2; omega)
  have hb := below_rng hb hd hb.size (by omega)
  clear hd
  obtain ⟨k9_2, hk9, hk9a, hk9b⟩ : ∃ k9 : Int, k9 = k9_1 + (x1.length : Nat) ∧ 1 ≤ k9 ∧ k9 ≤ 20000000 := ⟨_, rfl, by omega, by have := SM1.out.1; omega⟩
  rw [← hk9]
  clear hk9
  go_wp2_with fail
  refine (eqInts_u r9 Ag0a Aw0a cg0a cw0a _ Rg0a.cp_rd Rw0a.cp_rd HRS0.out).mono ?_
  rintro e u15 ⟨rfl, hb9⟩
  have hb := bthen hb hb9
  have Rw0a := Rw0a.cp_up hb9
  have Rg0a := Rg0a.cp_up hb9
  clear hb9
  go_wp2_with fail
  refine (markInts_u r9 Ag0a cg0a _ _ 1 _ Rg0a HRS0.out (by omega) (by omega)).mono ?_
  rintro e u16 ⟨rfl, hd, RM0⟩
  have Rw0a := Rw0a.cp_dab hd (by intro b h1 h2 h3; have := h3.1; have := h3.2; omega)
  clear Rg0a
  have hb := below_rng hb hd hb.size (by omega)
  clear hd
  obtain ⟨m9, hm9, hm9a⟩ : ∃ m9 : Int, m9 = 1 + (r9.length : Nat) ∧ 0 ≤ m9 := ⟨_, rfl, by omega⟩
  rw [← hm9]
  have HM9 := Lib.hid hm9
  have hmm9 : (m9 != m9) = false := by simp
  clear hm9
  go_wp2_with fail
  refine (heldInts_u r9.length Ag0a cg0a 1 _ RM0.cp_rd HRS0.out (by omega) (by omega)).mono ?_
  rw [← HM9.out]
  rintro e u17 ⟨rfl, hb9⟩
  have hb := bthen hb hb9
  have Rw0a := Rw0a.cp_up hb9
  have RM0 := RM0.cp_up hb9
  clear hb9
  go_wp2_with fail
  refine (toDecls_u x0 Ap0a cp0a _ (Hp0a.up hb) SM0.out).mono ?_
  rintro e u18 ⟨Az0a, cz0a, rfl, hcz0a, sz0a, hbz0⟩
  have hb := bthen hb hbz0
  have Rw0a := Rw0a.cp_up hbz0
  have RM0 := RM0.cp_up hbz0
  clear hbz0
  go_wp2_with fail
  refine (toBools_u x1 Ap1a cp1a _ (Hp1a.up hb) SM1.out).mono ?_
  rintro e u19 ⟨Az1a, cz1a, rfl, hcz1a, sz1a, hbz1⟩
  have hb := bthen hb hbz1
  have Rw0a := Rw0a.cp_up hbz1
  have RM0 := RM0.cp_up hbz1
  have sz0a := sz0a.own_up hbz1
  clear hbz1
  go_wp2_with fail
  refine (implBlastEnv_u x0 Az0a cz0a x1 Az1a cz1a _ (sz0a.own_rd) hcz0a (sz1a.own_rd) hcz1a SM0.out SM1.out).mono ?_
  rw [HR9.out]
  rintro e u20 ⟨Ah0a, ch0a, rfl, hch0a, sh0a, hb9⟩
  clear sz0a
  clear sz1a
  have hb := bthen hb hb9
  have Rw0a := Rw0a.cp_up hb9
  have RM0 := RM0.cp_up hb9
  clear hb9
  have Rh0a := sh0a.cp_of
  clear sh0a
  go_wp2_with fail
  refine (eqInts_u r9 Ah0a Aw0a ch0a cw0a _ Rh0a.cp_rd Rw0a.cp_rd HRS0.out).mono ?_
  rintro e u21 ⟨rfl, hb9⟩
  have hb := bthen hb hb9
  have Rw0a := Rw0a.cp_up hb9
  have RM0 := RM0.cp_up hb9
  have Rh0a := Rh0a.cp_up hb9
  clear hb9
  go_wp2_with fail
  refine (heldInts_u r9.length Ag0a cg0a 1 _ RM0.cp_rd HRS0.out (by omega) (by omega)).mono ?_
  rw [← HM9.out]
  rintro e u22 ⟨rfl, hb9⟩
  have hb := bthen hb hb9
  have Rw0a := Rw0a.cp_up hb9
  have RM0 := RM0.cp_up hb9
  have Rh0a := Rh0a.cp_up hb9
  clear hb9
  go_wp2
  go_ret
  exact ⟨rfl, bthen HW0.out hb⟩

set_option maxRecDepth 100000 in
theorem fnExactBlastEnv_lifted (os : Os) (started : os.Started) (H : Type) (enc : TypeId × Value → H) :
    ReturnsInHanded {} Tryd.checked os 3 .any (fun w args => (Rows.fnExactBlastEnvSpec.pre enc Tryd.prog Tryd.f3 [] false w args ∧ laidMetH Tryd.prog laidU w) ∧ sizedMet enc Tryd.prog Tryd.f3 (OpenSpec.ofChange Rows.fnExactBlastEnvSpec) false w args)
      (Rows.fnExactBlastEnvSpec.post enc Tryd.prog Tryd.f3 false true false false) := by
  refine returnsInHanded_of_change_and (C := Tryd.checked) (X := fun w _ => laidMetH Tryd.prog laidU w) (fun _ _ _ hh h => h.of_heap hh) dr_own started (by kernel_rfl) Tryd.func3
    (ChangeSpec.witness_shaped (enc := enc) (C := Tryd.checked) (os := os) (X := fun w _ => laidMetH Tryd.prog laidU w) false (World.laidAll Tryd.prog os laidU) #[.slice none 0 0, .slice none 0 0] 16 (World.laidAll_os _ _ _) (World.shaped_of_ZipB (by kernel_rfl) (by kernel_rfl)) (by kernel_rfl) (by kernel_rfl) (by kernel_rfl)
      (by rw [MakeChecks.laidMetH_plain _ _ _ (by kernel_rfl)]; exact laidMet_laidAll _ (by kernel_rfl) (by kernel_rfl))) ?_
  intro W base args ds gs before hval0 hW _ _ hL _
  have hval : ∀ (j : Nat) t v, Tryd.f3.params[j]? = some t → args[j]? = some v → Value.okWide Tryd.prog W .any base t v := hval0
  have hW' := hW
  obtain ⟨p, q, hA0, hV, rfl, hfz, hnd⟩ := hW
  have hA : DataW.TrodAll enc Tryd.prog W 0 (fun _ => true) true Tryd.f3.params.toList args.toList ds p := hA0
  rw [Tryd.params3] at hA hval
  obtain ⟨v0, vs0, d0, ds0, p0, q0, hargs, rfl, rfl, h0, r0⟩ := trodAll_cons hA
  obtain ⟨v1, vs1, d1, ds1, p1, q1, rfl, rfl, rfl, h1, r1⟩ := trodAll_cons r0
  obtain ⟨rfl, rfl, rfl⟩ := trodAll_nil r1
  obtain rfl : args = #[v0, v1] := by cases args; simp_all
  obtain ⟨rfl, rfl⟩ := trodVars_none hV
  have k0 := h0
  have lt0 : ∀ x ∈ p0, x.block < W.heap.size := by obtain ⟨m, hm⟩ := k0; exact DataW.trod_lt m _ _ _ hm
  have k1 := h1
  have lt1 : ∀ x ∈ p1, x.block < W.heap.size := by obtain ⟨m, hm⟩ := k1; exact DataW.trod_lt m _ _ _ hm
  obtain ⟨A0, c0, x0, rfl, hc0, ok0, rd0⟩ := open_arg Tryd.underlying22 opens_decls (hval 0 22 v0 rfl rfl) h0
  obtain ⟨A1, c1, x1, rfl, hc1, ok1, rd1⟩ := open_arg Tryd.underlying23 opens_bools (hval 1 23 v1 rfl rfl) h1
  clear hA0 hval0
  refine (fnExactBlastEnv_walk W hc0 ok0 rd0 hc1 ok1 rd1).mono fun e W' ⟨he, bel⟩ => ?_
  subst he
  exact ⟨_, rfl, _, _, _, [], _, [], hW', trodAll_mk1 (shut_bool Tryd.underlying4 _), (trodAll_cons_mk (Below.trod (by kernel_rfl) (by kernel_rfl) (of_decide_eq_true (by kernel_rfl)) k0 bel lt0) (trodAll_cons_mk (Below.trod (by kernel_rfl) (by kernel_rfl) (of_decide_eq_true (by kernel_rfl)) k1 bel lt1) trodAll_mk0)), rfl, bel.frame _, fun h => by cases h⟩

/-- The given row. -/
theorem fnExactBlastEnv_row : Rows.FnExactBlastEnvSaid :=
  OpenClaim.holds_of_wide 3 Tryd.f3 rfl rfl rfl rfl rfl rfl rfl ⟨rfl, rfl, rfl, rfl, rfl⟩ rfl rfl rfl rfl rfl (by kernel_rfl) Tryd.func3 (by kernel_rfl)
    (of_decide_eq_true (by kernel_rfl)) (by unfold Func.isWrapper; first | (rw [if_pos (by decide +kernel)]; kernel_rfl) | (rw [if_neg (by decide +kernel)]; exact ⟨rfl, rfl⟩))
    (fun os started H enc _ => fnExactBlastEnv_lifted os started H enc)
/-- The given statement: the row, what it lists tied to the program's text. -/
theorem fnExactBlastEnv_holds : Rows.FnExactBlastEnvCardSaid :=
  Claim7.holds_tied_plain_at .later [] [.data, .pinned] true Rows.fnExactBlastEnvCard.stood.harness Rows.fnExactBlastEnvCard.stood.looks
    fnExactBlastEnv_row (fun _ h => by cases h) (by kernel_rfl) (fun _ h => by cases h) fnExactBlastEnv_row_tie rfl ⟨rfl, rfl⟩ (by kernel_rfl) rfl
    (fun f fn hf hfn => by
      obtain rfl : f = 3 := Option.some.inj ((show Tryd.prog.funcNamed "loop.example/seedlip/laws.FnExactBlastEnv" = some 3 by kernel_rfl).symm.trans hf) |>.symm
      obtain rfl : fn = Tryd.f3 := (Option.some.inj (Tryd.func3.symm.trans hfn)).symm
      exact ⟨by kernel_rfl, fun j t ht => by
        rw [Tryd.params3] at ht
        have hm : t ∈ [22, 23] := by simpa using Array.mem_of_getElem? ht
        have hall : ([22, 23].all fun u => !Tryd.prog.wantsStandIn u) = true := by kernel_rfl
        exact (show Tryd.prog.wantsStandIn t = false by simpa using List.all_eq_true.1 hall t hm)⟩)
    (by kernel_rfl)
#print axioms fnExactBlastEnv_holds
end Go.Proofs.YthcmflhhpgmfaaaDoor
