/- The program's layers of a stack. The program's closure of CtxName. The program's closure of CtxAssert. Layers as the answer of a law: rows in ranges of their own; marks. The program's changed. -/
import Derived.RegionTactic
import Derived.Test.YtiahmfpfimmbgaaGreatDoorJExCtxPop8
import Derived.Test.YtiahmfpfimmbgaaGreatDoorJExCtxPop12
/-! The program's layers of a stack. -/
namespace Go.Proofs.YtiahmfpfimmbgaaGreatDoor
open Go Go.RowKit

set_option maxRecDepth 100000 in
set_option maxHeartbeats 4000000 in
theorem cloneDecls_any (A : Option Addr) (c : Nat) (xs : List D) (F : Nat → Prop) (w : World) (h : Lay.decl.Sl w F A xs) (hF : ∀ b, F b → b < w.heap.size) (hn : xs.length ≤ 1048576) :
    Calls Tryz.prog 118 #[.slice A xs.length c] w fun e w' => ∃ A' c', e = .returned (.slice A' xs.length c') ∧ OwnDs w' w.heap.size (.slice A' xs.length c') xs ∧ Below w.heap.size w w' := by
  rcases A with _ | ad
  · have h0 : xs = [] := List.eq_nil_of_length_eq_zero (by
      rcases Nat.eq_zero_or_pos xs.length with h9 | h9
      · exact h9
      · obtain ⟨_, e, _⟩ := h h9; cases e)
    subst h0
    clear h hF hn
    have he : ∀ w : World, (binOp .eql 55 (.slice none 0 c) (.slice none 0 0)).run Tryz.prog w = .ok (.bool true) w := fun _ => rfl
    go_enter Tryz.func118, Tryz.ntmps118
    go_wp2
    go_ret
    exact ⟨none, 0, rfl, World.ownsRow_nil _ _ _ _, Below.refl _ _⟩
  · have hal : Below w.heap.size w (w.alloc (.cells #[] 39)) := (Below.refl _ _).alloc (Nat.le_refl _) _
    have hown := own_lit0D w
    have hsrc := src_decls (h.below hal hF)
    have hsz := hal.size
    have HSR := Lib.hid hsrc
    have HAL := Lib.hid hal
    have hz0 : ([] : List D).length ≤ 2000000 := by simp
    have hz1 : xs.length ≤ 2000000 := by omega
    clear hal h hF hsrc
    have he : ∀ w : World, (binOp .eql 55 (.slice (some ad) xs.length c) (.slice none 0 0)).run Tryz.prog w = .ok (.bool false) w := fun _ => rfl
    go_enter Tryz.func118, Tryz.ntmps118
    go_wp2_with (at_builtin; refine wpList_append_decls (xs := []) (ys := xs) (by rfl) (.tmp 5) (.tmp 6) (by rfl) (by rfl) (by rfl) hown HSR.out (fun e => by cases e) hz0 hz1 hsz rfl ?_; intro A3 c3 w3 hown3 hb3 hg3; have HOWN := Lib.hid hown3; have HB3 := Lib.hid (HAL.out.trans hb3); clear hown hown3 hb3 hg3 hsz)
    go_ret
    exact ⟨A3, c3, rfl, HOWN.out, HB3.out⟩
/-- Copied declarations, in a row of their own. -/
def Fact.declN (W : World) (xs : List D) : Fact := .of (fun v z => ∃ A c, v = .slice A xs.length c ∧ OwnDs z W.heap.size (.slice A xs.length c) xs) fun _ _ _ ⟨A, c, h1, h2⟩ hb => ⟨A, c, h1, h2.up hb⟩
/-- Copied terms, trees. -/
def Fact.termN (W : World) (ts : List T) : Fact := .of (fun v z => ∃ A c, v = .slice A ts.length c ∧ ts.length ≤ c ∧ TrS z (OwnB9 W.heap.size z) A ts) fun _ _ _ ⟨A, c, h1, h2, h3⟩ hb => ⟨A, c, h1, h2, TrT.mono (TrT.keep h3 fun b h9 => hb.block b h9.2.1) fun b h9 => h9.up hb.size (hb.block b h9.2.1)⟩
/-- A copied layer, by value. -/
def Fact.lyV (W : World) (l : Ly) : Fact := .of (fun v z => ∃ vd vt, v = .agg #[vd, vt] ∧ vd.oneCell' = true ∧ vt.oneCell' = true ∧ ∃ E, W.heap.size ≤ E ∧ E ≤ z.heap.size ∧ PP z W.heap.size E vd vt l)
  fun _ _ _ ⟨vd, vt, h1, h2, h3, E, h4, h5, h6⟩ hb => ⟨vd, vt, h1, h2, h3, E, h4, Nat.le_trans h5 hb.size, stay_PP _ _ _ _ _ _ _ h6 hb.size fun b _ h9 => hb.block b (by omega)⟩
/-- .. in a block of its own. -/
def Fact.lyL (W : World) (l : Ly) : Fact := .of (fun v z => ∃ b vd vt, v = .slice (some ⟨b, 0, none⟩) 1 1 ∧ z.heap[b]? = some (.cells #[vd, vt] 58 (0, 0)) ∧ vd.oneCell' = true ∧ vt.oneCell' = true ∧ ∃ E, W.heap.size ≤ E ∧ E ≤ z.heap.size ∧ PP z W.heap.size E vd vt l)
  fun _ _ _ ⟨b, vd, vt, h1, h7, h2, h3, E, h4, h5, h6⟩ hb => ⟨b, vd, vt, h1, (hb.block b (lt_of_block h7)).trans h7, h2, h3, E, h4, Nat.le_trans h5 hb.size, stay_PP _ _ _ _ _ _ _ h6 hb.size fun b _ h9 => hb.block b (by omega)⟩
/-- The row of layers has grown. -/
def Fact.rowL (lo : Nat) (W : World) (v0 : Value) (ys : List Ly) : Fact := .of (fun v z => ∃ A c, v = .slice A ys.length c ∧ RowP PP lo z (.slice A ys.length c) ys ∧ W.grownBy z v0.ownBlock) fun _ _ _ ⟨A, c, h1, h2, h3⟩ hb => ⟨A, c, h1, h2.up stay_PP hb, grown_below h3 hb⟩
/-- Copied declarations and terms are apart: their blocks are of two types. -/
theorem pp_typed {z : World} {S : Nat} {A B : Option Addr} {c d : Nat} {l : Ly} (h1 : OwnDs z S (.slice A l.ds.length c) l.ds) (h2 : TrS z (OwnB9 S z) B l.ts) (h3 : l.ts.length ≤ d) : PP z S z.heap.size (.slice A l.ds.length c) (.slice B l.ts.length d) l := by
  refine ⟨fun b => Cp S z.heap.size z b ∧ ∃ cs, z.heap[b]? = some (.cells cs 39 (0, 0)), fun b => Cp S z.heap.size z b ∧ ∃ cs, z.heap[b]? = some (.cells cs 48 (0, 0)), A, c, B, d, rfl, rfl, (OwnDs.cap h1).2, h3, fun b h => h.1, fun b h => h.1, fun b ⟨_, cs, h4⟩ ⟨_, cs', h5⟩ => ?_, ?_, ?_⟩
  · rw [h4] at h5
    injection h5 with h5
    injection h5 with _ h5 _
    exact absurd h5 neDT
  · intro h0
    obtain ⟨ad, e, hf, hc⟩ := (Lay.Sl.decl_own h1) h0
    subst e
    have hbk : ∃ cs, z.heap[ad.block]? = some (.cells cs 39 (0, 0)) := by
      rcases h1.2 with ⟨e1, _⟩ | ⟨g, cap, cur, e1, _, hg, _⟩
      · cases e1
      · injection e1 with e1; injection e1 with e1; subst e1; exact ⟨cur, hg⟩
    exact ⟨ad, rfl, ⟨⟨hf.1, hf.2.1, Nat.le_refl _, hf.2.2⟩, hbk⟩, fun k x hx => by
      obtain ⟨vs, hr, hcell⟩ := hc k x hx
      exact ⟨vs, hr, hcell⟩⟩
  · exact TrT.mono h2 fun b h => ⟨⟨h.1, h.2.1, Nat.le_refl _, h.2.2.1⟩, h.2.2.2⟩
theorem dsAll_mid (c : List Ly) (k : Nat) (h : k < c.length) : ((dsAll c).drop (dsAll (c.take k)).length).take ((dsAll (c.take (k + 1))).length - (dsAll (c.take k)).length) = c[k].ds := by
  conv => lhs; rw [dsAll_split c (k + 1)]
  rw [dsAll_step c k h]
  simp
theorem RowP.low {P : LyF} {lo lo' : Nat} {w : World} {v : Value} {ls : List Ly} (h : RowP P lo w v ls) (hl : lo' ≤ lo) : RowP P lo' w v ls := by
  obtain ⟨cs, h1, S, E, Vd, Vt, h2, h3⟩ := h
  exact ⟨cs, own_mono h1 hl, S, E, Vd, Vt, fun k l hk => by
    obtain ⟨g1, g2, ⟨g3, g4, g5⟩, g6, g7⟩ := h2 k l hk
    exact ⟨g1, g2, ⟨Nat.le_trans hl g3, g4, g5⟩, g6, g7⟩, h3⟩
theorem RowP.far {P : LyF} {lo : Nat} {w : World} {v : Value} {ls : List Ly} (h : RowP P lo w v ls) (hP : StayP P) (p : Addr) (u : Value) (hp : p.block < lo) : RowP P lo (w.setCell p u) v ls :=
  h.keep hP (by rw [size_setCell]; exact Nat.le_refl _) fun b hb _ => Below.heap_setCell w p u b (fun e => by omega)
set_option maxRecDepth 100000 in
set_option maxHeartbeats 16000000 in
theorem layers_any (lo p : Nat) (c : List Ly) (w : World) (h : StkE lo w p (dsAll c) (tsAll c) (msAll c)) (hc : okC c) :
    Calls Tryz.prog 96 #[.pointer (some ⟨p, 0, none⟩)] w fun e w' => ∃ A c', e = .returned (.slice A c.length c') ∧ RowP PP w.heap.size w' (.slice A c.length c') c ∧ Below w.heap.size w w' := by
  obtain ⟨hl, hds, hts, _, htm⟩ := hc
  obtain ⟨A1, A2, A3, c1, c2, c3, hS⟩ := h
  have HTM := Lib.hid (fun t ht => (htm t ht).imp fun _ h => h.1)
  have HML := Lib.hid (msAll_len c)
  have HMA := Lib.hid (msAll_at c)
  obtain ⟨mx, hmx⟩ : ∃ mx, mx = msAll c := ⟨_, rfl⟩
  rw [← hmx] at HML HMA hS
  obtain ⟨xs, hxs⟩ : ∃ xs, xs = dsAll c := ⟨_, rfl⟩
  rw [← hxs] at hds hS
  obtain ⟨ys, hys⟩ : ∃ ys, ys = tsAll c := ⟨_, rfl⟩
  rw [← hys] at hts hS HTM
  have HXS := Lib.hid hxs
  have HYS := Lib.hid hys
  clear hmx hxs hys htm
  have hml : mx.length ≤ 1048576 := by rw [HML.out]; exact hl
  have hal : Below w.heap.size w (w.alloc (.cells #[.int .i64 0, .int .i64 0] 90)) := (Below.refl _ _).alloc (Nat.le_refl _) _
  have hfb := heap_alloc_new w (.cells #[.int .i64 0, .int .i64 0] 90)
  have HSZ0 : Hid ((w.alloc (.cells #[.int .i64 0, .int .i64 0] 90)).heap.size = w.heap.size + 1) := Lib.hid (by simp)
  have v2 := (cell_of_block (hS.up hal).box 2).1
  have hplt := hS.lt
  have v2w := (cell_of_block hS.box 2).1
  have HS := Lib.hid hS
  have HAL := Lib.hid hal
  clear hS hal
  go_enter Tryz.func96, Tryz.ntmps96
  go_wp2
  generalize w.alloc (.cells #[.int .i64 0, .int .i64 0] 90) = W0 at *
  obtain ⟨f, hf⟩ : ∃ f, f = w.heap.size := ⟨_, rfl⟩
  have HF0 := Lib.hid hf
  rw [← hf] at hfb HSZ0 ⊢
  have HFB := Lib.hid hfb
  clear hf hfb v2 v2w hplt
  go_loopw [3, 12] (fun a i wr => ∃ (k : Nat) (rs : List Ly) (B : Option Addr) (b : Nat), k ≤ mx.length ∧ a = .slice B rs.length b ∧ i = .int .i64 k ∧ Hid (RowP PP (f + 1) wr (.slice B rs.length b) rs) ∧ Below w.heap.size w wr ∧ Hid (wr.heap[f]? = some (.cells #[.int .i64 ((dsAll (c.take k)).length : Nat), .int .i64 ((tsAll (c.take k)).length : Nat)] 90 (0, 0))) ∧ Hid (rs = c.take k)) (fun _ i _ => mx.length - (intOf i).toNat)
  case atStart => exact ⟨0, [], none, 0, Nat.zero_le _, rfl, rfl, Lib.hid (RowP.nil _ _ _), HAL.out, Lib.hid HFB.out, Lib.hid (by simp)⟩
  case round =>
    obtain ⟨k, rs, B, b, hk, rfl, rfl, HROW, hb, HFK, HX⟩ := hrel
    by_cases hlt : k < mx.length
    · have hkc : k < c.length := by rw [← HML.out]; exact hlt
      have hk1 : (k : Int) < mx.length := by omega
      have hSr := HS.out.up hb
      obtain ⟨ad, rfl, hf, m1, m2⟩ := Lay.Sl.at_mark (OwnL.rd hSr.ms) hlt
      rw [HMA.out k hlt] at m1 m2
      dsimp only at m1 m2
      have hn1 : (dsAll (c.take (k + 1))).length ≤ xs.length := by rw [HXS.out]; exact dsAll_le c (k + 1)
      have hn2 : (tsAll (c.take (k + 1))).length ≤ ys.length := by rw [HYS.out]; exact tsAll_le c (k + 1)
      have hn3 : (dsAll (c.take k)).length ≤ (dsAll (c.take (k + 1))).length := by rw [dsAll_step c k hkc, List.length_append]; omega
      have hn4 : (tsAll (c.take k)).length ≤ (tsAll (c.take (k + 1))).length := by rw [tsAll_step c k hkc, List.length_append]; omega
      have hdm := dsAll_mid c k hkc
      have htm := tsAll_mid c k hkc
      rw [← HXS.out] at hdm
      rw [← HYS.out] at htm
      have htl : c[k].ts.length ≤ 1048576 := by
        have h9 := tsAll_at c k hkc
        rw [← HYS.out] at h9
        omega
      have hdl : c[k].ds.length ≤ 1048576 := by
        have h9 := dsAll_at c k hkc
        rw [← HXS.out] at h9
        omega
      have HTK : Hid (∀ t ∈ c[k].ts, T.All okT2 t) := Lib.hid (fun t ht => HTM.out t (by rw [HYS.out]; exact List.mem_flatMap.2 ⟨c[k], List.getElem_mem hkc, ht⟩))
      obtain ⟨B9, c9, hsl, hmr, hmc⟩ := slice_lhR (t := 55) Tryz.underlying55 size_decl (OwnL.rd hSr.ds) (dsAll (c.take k)).length (dsAll (c.take (k + 1))).length hn3 hn1 (OwnL.capl hSr.ds)
      obtain ⟨B8, c8, hsl8, hmr8, hmc8⟩ := slice_lhR (t := 24) Tryz.underlying24 size_term (OwnL.rd hSr.ts) (tsAll (c.take k)).length (tsAll (c.take (k + 1))).length hn4 hn2 (OwnL.capl hSr.ts)
      rw [hdm] at hsl hmr hmc
      rw [htm] at hsl8 hmr8 hmc8
      obtain ⟨zs, hzs⟩ : ∃ zs, zs = rs ++ [c[k]] := ⟨_, rfl⟩
      have HZE : Hid (zs = c.take (k + 1)) := Lib.hid (by rw [hzs, HX.out, List.take_succ_eq_append_getElem hkc])
      have HZS := Lib.hid hzs
      have HRL : Hid (rs.length ≤ 1048576) := Lib.hid (by rw [HX.out, List.length_take]; omega)
      have hfk := HFK.out
      generalize hll : c[k] = l at *
      have HLL := Lib.hid hll
      generalize hq1 : (dsAll (c.take (k + 1))).length = nd at *
      have HQ1 := Lib.hid hq1
      generalize hq2 : (tsAll (c.take (k + 1))).length = nt at *
      have HQ2 := Lib.hid hq2
      generalize (dsAll (c.take k)).length = md at *
      generalize (tsAll (c.take k)).length = mt at *
      have hal : Below wr.heap.size wr (wr.alloc (.cells #[.int .i64 (nd : Int), .int .i64 (nt : Int)] 90)) := (Below.refl _ _).alloc (Nat.le_refl _) _
      have hbox := heap_alloc_new wr (.cells #[.int .i64 (nd : Int), .int .i64 (nt : Int)] 90)
      have hS2 := hSr.up hal
      have HFW := Lib.hid ((hal.block _ (lt_of_block hfk)).trans hfk)
      have HMR := Lib.hid (hmr.below hal (fun _ h => h))
      have HMR8 := Lib.hid (hmr8.below hal (fun _ h => h))
      have HWR := Lib.hid hal.size
      have HB2 := Lib.hid (bthen hb hal)
      have HRW := Lib.hid (HROW.out.up stay_PP hal)
      have HBX := Lib.hid hbox
      have HS2 := Lib.hid hS2
      have HSL := Lib.hid hsl
      have HSL8 := Lib.hid hsl8
      have d0 := Later.cell (cell_of_block hS2.box 0).1
      have d1 := Later.cell (cell_of_block hS2.box 1).1
      have x0 := Later.cell (cell_of_block HFW.out 0).1
      have x1 := Later.cell (cell_of_block HFW.out 1).1
      have y0 := Later.cell (cell_of_block HBX.out 0).1
      have y1 := Later.cell (cell_of_block HBX.out 1).1
      clear hzs hll hq1 hq2 hmr hmr8 hdm htm hal hbox hS2 hSr hsl hsl8 hfk HFK
      go_wp2
      generalize wr.alloc (.cells #[.int .i64 (nd : Int), .int .i64 (nt : Int)] 90) = W1 at *
      generalize hbx9 : wr.heap.size = bx at *
      have HBE := Lib.hid hbx9
      clear hbx9 m1 m2
      have hcp := Lib.hid (fun (z : World) (hz : Below W1.heap.size W1 z) => copyTerms_any l.ts HTK.out B8 c8 (fun b => b < bx) z (HMR8.out.below hz (fun b hb9 => Nat.lt_of_lt_of_le hb9 HWR.out)) (fun b hb9 => Nat.lt_of_lt_of_le hb9 (Nat.le_trans HWR.out hz.size)) htl)
      have hcl := Lib.hid (fun (z : World) (hz : Below W1.heap.size W1 z) => cloneDecls_any B9 c9 l.ds (fun b => b < bx) z (HMR.out.below hz (fun b hb9 => Nat.lt_of_lt_of_le hb9 HWR.out)) (fun b hb9 => Nat.lt_of_lt_of_le hb9 (Nat.le_trans HWR.out hz.size)) hdl)
      have HLO : Hid (f + 1 ≤ W1.heap.size) := Lib.hid (by have := lt_of_block HFW.out; omega)
      refine wp_region_shares3 [[], [], [(1, 17)], [(2, 18)], [(3, 19)], [], [(5, 21)], [], [(7, 23)], [(4, 20), (6, 22), (8, 24)], [(9, 25)], [], [(11, 27)], [(12, 28)], [(13, 29)], [], [(15, 31)], [], [(17, 33)], [(14, 30), (16, 32), (18, 34)], [(19, 35)], [(10, 26), (20, 36)], [(21, 37)], [(0, 16), (22, 38)], [(23, 39)]]
        [.eq (.slice B rs.length b), .eq (.pointer (some ⟨p, 0, none⟩)), .eq (.pointer (some ⟨p, 0, none⟩)), .eq (.pointer (some ⟨p, 0, none⟩)), .eq (.slice A1 xs.length c1), .eq (.pointer (some ⟨f, 0, none⟩)), .eq (.int .i64 (md : Int)), .eq (.pointer (some ⟨bx, 0, none⟩)), .eq (.int .i64 (nd : Int)), .eq (.slice B9 l.ds.length c9), Fact.declN W1 l.ds, .eq (.pointer (some ⟨p, 0, none⟩)), .eq (.pointer (some ⟨p, 0, none⟩)), .eq (.pointer (some ⟨p, 1, none⟩)), .eq (.slice A2 ys.length c2), .eq (.pointer (some ⟨f, 1, none⟩)), .eq (.int .i64 (mt : Int)), .eq (.pointer (some ⟨bx, 1, none⟩)), .eq (.int .i64 (nt : Int)), .eq (.slice B8 l.ts.length c8), Fact.termN W1 l.ts, Fact.lyV W1 l, Fact.lyL W1 l, Fact.rowL (f + 1) W1 (.slice B rs.length b) zs, Fact.rowL (f + 1) W1 (.slice B rs.length b) zs]
        [23] [23] [24] [24] [(0, 16), (1, 17), (2, 18), (3, 19), (4, 20), (5, 21), (6, 22), (7, 23), (8, 24), (9, 25), (10, 26), (11, 27), (12, 28), (13, 29), (14, 30), (15, 31), (16, 32), (17, 33), (18, 34), (19, 35), (20, 36), (21, 37), (22, 38), (23, 39), (24, 3)] (by kernel_rfl) (by kernel_rfl) (by kernel_rfl) (by kernel_rfl)
        ⟨?_, ?_, ?_, ?_, ?_, ?_, ?_, ?_, ?_, ?_, ?_, ?_, ?_, ?_, ?_, ?_, ?_, ?_, ?_, ?_, ?_, ?_, ?_, ?_, ?_, trivial⟩ ?_
      · intro vals z hC hF
        simp only [putsD, Act.put, List.setIfInBounds_toArray, List.set_cons_zero, List.set_cons_succ]
        go_wp2
        exact ⟨rfl, rfl, .inr (Below.refl _ _), .inr (.inl (by simp))⟩
      · intro vals z hC hF
        simp only [putsD, Act.put, List.setIfInBounds_toArray, List.set_cons_zero, List.set_cons_succ]
        go_wp2
        exact ⟨rfl, rfl, .inr (Below.refl _ _), .inr (.inl (by simp))⟩
      · intro vals z hC hF
        simp only [factsD, List.getD_cons_zero, List.getD_cons_succ, Fact.eq, Fact.row, Fact.lit, Fact.lit0, Fact.of, and_true, Fact.declN, Fact.termN, Fact.lyV, Fact.lyL, Fact.rowL] at hF
        simp only [putsD, Act.put, List.setIfInBounds_toArray, List.set_cons_zero, List.set_cons_succ]
        simp only [hF]
        go_wp2
        exact ⟨rfl, rfl, .inr (Below.refl _ _), .inr (.inl (by simp))⟩
      · intro vals z hC hF
        simp only [factsD, List.getD_cons_zero, List.getD_cons_succ, Fact.eq, Fact.row, Fact.lit, Fact.lit0, Fact.of, and_true, Fact.declN, Fact.termN, Fact.lyV, Fact.lyL, Fact.rowL] at hF
        simp only [putsD, Act.put, List.setIfInBounds_toArray, List.set_cons_zero, List.set_cons_succ]
        simp only [hF]
        go_wp2
        exact ⟨rfl, rfl, .inr (Below.refl _ _), .inr (.inl (by simp))⟩
      · intro vals z hC hF
        have hC := hC.resolve_left (by simp)
        have hsz := hC.size
        have e1 : z.cell? _ = _ := d0 ⟨z, hC⟩
        simp only [factsD, List.getD_cons_zero, List.getD_cons_succ, Fact.eq, Fact.row, Fact.lit, Fact.lit0, Fact.of, and_true, Fact.declN, Fact.termN, Fact.lyV, Fact.lyL, Fact.rowL] at hF
        simp only [putsD, Act.put, List.setIfInBounds_toArray, List.set_cons_zero, List.set_cons_succ]
        simp only [hF]
        go_wp2
        exact ⟨rfl, rfl, .inr (Below.refl _ _), .inr (.inl (by simp))⟩
      · intro vals z hC hF
        simp only [putsD, Act.put, List.setIfInBounds_toArray, List.set_cons_zero, List.set_cons_succ]
        go_wp2
        exact ⟨rfl, rfl, .inr (Below.refl _ _), .inr (.inl (by simp))⟩
      · intro vals z hC hF
        have hC := hC.resolve_left (by simp)
        have hsz := hC.size
        have e1 : z.cell? _ = _ := x0 ⟨z, hC⟩
        simp only [factsD, List.getD_cons_zero, List.getD_cons_succ, Fact.eq, Fact.row, Fact.lit, Fact.lit0, Fact.of, and_true, Fact.declN, Fact.termN, Fact.lyV, Fact.lyL, Fact.rowL] at hF
        simp only [putsD, Act.put, List.setIfInBounds_toArray, List.set_cons_zero, List.set_cons_succ]
        simp only [hF]
        go_wp2
        exact ⟨rfl, rfl, .inr (Below.refl _ _), .inr (.inl (by simp))⟩
      · intro vals z hC hF
        simp only [putsD, Act.put, List.setIfInBounds_toArray, List.set_cons_zero, List.set_cons_succ]
        go_wp2
        exact ⟨rfl, rfl, .inr (Below.refl _ _), .inr (.inl (by simp))⟩
      · intro vals z hC hF
        have hC := hC.resolve_left (by simp)
        have hsz := hC.size
        have e1 : z.cell? _ = _ := y0 ⟨z, hC⟩
        simp only [factsD, List.getD_cons_zero, List.getD_cons_succ, Fact.eq, Fact.row, Fact.lit, Fact.lit0, Fact.of, and_true, Fact.declN, Fact.termN, Fact.lyV, Fact.lyL, Fact.rowL] at hF
        simp only [putsD, Act.put, List.setIfInBounds_toArray, List.set_cons_zero, List.set_cons_succ]
        simp only [hF]
        go_wp2
        exact ⟨rfl, rfl, .inr (Below.refl _ _), .inr (.inl (by simp))⟩
      · intro vals z hC hF
        simp only [factsD, List.getD_cons_zero, List.getD_cons_succ, Fact.eq, Fact.row, Fact.lit, Fact.lit0, Fact.of, and_true, Fact.declN, Fact.termN, Fact.lyV, Fact.lyL, Fact.rowL] at hF
        obtain ⟨e1, e2, e3⟩ := hF
        have hsl := HSL.out
        simp only [putsD, Act.put, List.setIfInBounds_toArray, List.set_cons_zero, List.set_cons_succ]
        simp only [e1, e2, e3]
        go_wp2
        exact ⟨rfl, rfl, .inr (Below.refl _ _), .inr (.inl (by simp))⟩
      · intro vals z hC hF
        have hC := hC.resolve_left (by simp)
        have hsz := hC.size
        simp only [factsD, List.getD_cons_zero, List.getD_cons_succ, Fact.eq, Fact.row, Fact.lit, Fact.lit0, Fact.of, and_true, Fact.declN, Fact.termN, Fact.lyV, Fact.lyL, Fact.rowL] at hF
        have e1 := hF
        simp only [putsD, Act.put, List.setIfInBounds_toArray, List.set_cons_zero, List.set_cons_succ]
        simp only [e1]
        have HC9 := Lib.hid (hcl.out z hC)
        go_wp2_with fail
        refine HC9.out.mono ?_
        rintro e w9 ⟨A9, c9, rfl, ho9, hb9⟩
        have HO9 := Lib.hid (ho9.mono hsz)
        clear ho9
        go_wp2
        exact ⟨rfl, ⟨A9, c9, rfl, HO9.out⟩, .inr hb9, .inr (.inl (by simp))⟩
      · intro vals z hC hF
        simp only [putsD, Act.put, List.setIfInBounds_toArray, List.set_cons_zero, List.set_cons_succ]
        go_wp2
        exact ⟨rfl, rfl, .inr (Below.refl _ _), .inr (.inl (by simp))⟩
      · intro vals z hC hF
        simp only [factsD, List.getD_cons_zero, List.getD_cons_succ, Fact.eq, Fact.row, Fact.lit, Fact.lit0, Fact.of, and_true, Fact.declN, Fact.termN, Fact.lyV, Fact.lyL, Fact.rowL] at hF
        simp only [putsD, Act.put, List.setIfInBounds_toArray, List.set_cons_zero, List.set_cons_succ]
        simp only [hF]
        go_wp2
        exact ⟨rfl, rfl, .inr (Below.refl _ _), .inr (.inl (by simp))⟩
      · intro vals z hC hF
        simp only [factsD, List.getD_cons_zero, List.getD_cons_succ, Fact.eq, Fact.row, Fact.lit, Fact.lit0, Fact.of, and_true, Fact.declN, Fact.termN, Fact.lyV, Fact.lyL, Fact.rowL] at hF
        simp only [putsD, Act.put, List.setIfInBounds_toArray, List.set_cons_zero, List.set_cons_succ]
        simp only [hF]
        go_wp2
        exact ⟨rfl, rfl, .inr (Below.refl _ _), .inr (.inl (by simp))⟩
      · intro vals z hC hF
        have hC := hC.resolve_left (by simp)
        have hsz := hC.size
        have e1 : z.cell? _ = _ := d1 ⟨z, hC⟩
        simp only [factsD, List.getD_cons_zero, List.getD_cons_succ, Fact.eq, Fact.row, Fact.lit, Fact.lit0, Fact.of, and_true, Fact.declN, Fact.termN, Fact.lyV, Fact.lyL, Fact.rowL] at hF
        simp only [putsD, Act.put, List.setIfInBounds_toArray, List.set_cons_zero, List.set_cons_succ]
        simp only [hF]
        go_wp2
        exact ⟨rfl, rfl, .inr (Below.refl _ _), .inr (.inl (by simp))⟩
      · intro vals z hC hF
        simp only [putsD, Act.put, List.setIfInBounds_toArray, List.set_cons_zero, List.set_cons_succ]
        go_wp2
        exact ⟨rfl, rfl, .inr (Below.refl _ _), .inr (.inl (by simp))⟩
      · intro vals z hC hF
        have hC := hC.resolve_left (by simp)
        have hsz := hC.size
        have e1 : z.cell? _ = _ := x1 ⟨z, hC⟩
        simp only [factsD, List.getD_cons_zero, List.getD_cons_succ, Fact.eq, Fact.row, Fact.lit, Fact.lit0, Fact.of, and_true, Fact.declN, Fact.termN, Fact.lyV, Fact.lyL, Fact.rowL] at hF
        simp only [putsD, Act.put, List.setIfInBounds_toArray, List.set_cons_zero, List.set_cons_succ]
        simp only [hF]
        go_wp2
        exact ⟨rfl, rfl, .inr (Below.refl _ _), .inr (.inl (by simp))⟩
      · intro vals z hC hF
        simp only [putsD, Act.put, List.setIfInBounds_toArray, List.set_cons_zero, List.set_cons_succ]
        go_wp2
        exact ⟨rfl, rfl, .inr (Below.refl _ _), .inr (.inl (by simp))⟩
      · intro vals z hC hF
        have hC := hC.resolve_left (by simp)
        have hsz := hC.size
        have e1 : z.cell? _ = _ := y1 ⟨z, hC⟩
        simp only [factsD, List.getD_cons_zero, List.getD_cons_succ, Fact.eq, Fact.row, Fact.lit, Fact.lit0, Fact.of, and_true, Fact.declN, Fact.termN, Fact.lyV, Fact.lyL, Fact.rowL] at hF
        simp only [putsD, Act.put, List.setIfInBounds_toArray, List.set_cons_zero, List.set_cons_succ]
        simp only [hF]
        go_wp2
        exact ⟨rfl, rfl, .inr (Below.refl _ _), .inr (.inl (by simp))⟩
      · intro vals z hC hF
        simp only [factsD, List.getD_cons_zero, List.getD_cons_succ, Fact.eq, Fact.row, Fact.lit, Fact.lit0, Fact.of, and_true, Fact.declN, Fact.termN, Fact.lyV, Fact.lyL, Fact.rowL] at hF
        obtain ⟨e1, e2, e3⟩ := hF
        have hsl8 := HSL8.out
        simp only [putsD, Act.put, List.setIfInBounds_toArray, List.set_cons_zero, List.set_cons_succ]
        simp only [e1, e2, e3]
        go_wp2
        exact ⟨rfl, rfl, .inr (Below.refl _ _), .inr (.inl (by simp))⟩
      · intro vals z hC hF
        have hC := hC.resolve_left (by simp)
        have hsz := hC.size
        simp only [factsD, List.getD_cons_zero, List.getD_cons_succ, Fact.eq, Fact.row, Fact.lit, Fact.lit0, Fact.of, and_true, Fact.declN, Fact.termN, Fact.lyV, Fact.lyL, Fact.rowL] at hF
        have e1 := hF
        simp only [putsD, Act.put, List.setIfInBounds_toArray, List.set_cons_zero, List.set_cons_succ]
        simp only [e1]
        have HC9 := Lib.hid (hcp.out z hC)
        go_wp2_with fail
        refine HC9.out.mono ?_
        rintro e w9 ⟨A9, c9, rfl, hc9, ht9, hb9⟩
        have HT9 := Lib.hid (TrT.mono ht9 fun g hg => hg.le hsz)
        clear ht9
        go_wp2
        exact ⟨rfl, ⟨A9, c9, rfl, hc9, HT9.out⟩, .inr hb9, .inr (.inl (by simp))⟩
      · intro vals z hC hF
        have hC := hC.resolve_left (by simp)
        have hsz := hC.size
        simp only [factsD, List.getD_cons_zero, List.getD_cons_succ, Fact.eq, Fact.row, Fact.lit, Fact.lit0, Fact.of, and_true, Fact.declN, Fact.termN, Fact.lyV, Fact.lyL, Fact.rowL] at hF
        obtain ⟨⟨A9, c9, e1, ho9⟩, A8, c7, e2, hc7, ht9⟩ := hF
        have HPP := Lib.hid (pp_typed ho9 ht9 hc7)
        simp only [putsD, Act.put, List.setIfInBounds_toArray, List.set_cons_zero, List.set_cons_succ]
        simp only [e1, e2]
        clear ho9 ht9
        go_wp2
        exact ⟨rfl, ⟨_, _, rfl, rfl, rfl, z.heap.size, hsz, Nat.le_refl _, HPP.out⟩, .inr (Below.refl _ _), .inr (.inl (by simp))⟩
      · intro vals z hC hF
        have hC := hC.resolve_left (by simp)
        have hsz := hC.size
        simp only [factsD, List.getD_cons_zero, List.getD_cons_succ, Fact.eq, Fact.row, Fact.lit, Fact.lit0, Fact.of, and_true, Fact.declN, Fact.termN, Fact.lyV, Fact.lyL, Fact.rowL] at hF
        obtain ⟨vd, vt, e1, h1, h2, E, h3, h4, h5⟩ := hF
        have e1 : vals 21 = .agg #[vd, vt] := e1
        have HPP := Lib.hid h5
        simp only [putsD, Act.put, List.setIfInBounds_toArray, List.set_cons_zero, List.set_cons_succ]
        simp only [e1]
        clear h5
        have hal9 : Below z.heap.size z (z.alloc (.cells #[vd, vt] 58)) := (Below.refl _ _).alloc (Nat.le_refl _) _
        go_wp2
        exact ⟨rfl, ⟨_, vd, vt, rfl, heap_alloc_new _ _, h1, h2, E, h3, Nat.le_trans h4 hal9.size, stay_PP _ _ _ _ _ _ _ HPP.out hal9.size fun g _ h9 => hal9.block g (by omega)⟩, .inr hal9, .inr (.inl (by simp))⟩
      · intro vals z hC hF
        have hC := hC.resolve_left (by simp)
        have hsz := hC.size
        simp only [factsD, List.getD_cons_zero, List.getD_cons_succ, Fact.eq, Fact.row, Fact.lit, Fact.lit0, Fact.of, and_true, Fact.declN, Fact.termN, Fact.lyV, Fact.lyL, Fact.rowL] at hF
        obtain ⟨e5, b5, vd, vt, e7, hb5, h1, h2, E, h3, h4, h5⟩ := hF
        simp only [putsD, Act.put, List.setIfInBounds_toArray, List.set_cons_zero, List.set_cons_succ]
        simp only [e5, e7]
        refine wpList_append_layer stay_PP (ys := zs) (S0 := W1.heap.size) (E0 := E) (l := l) (lo := f + 1) (vd := vd) (vt := vt) (by rfl) (.tmp 16) (.tmp 38) (by rfl) (by rfl) (by rfl) HLO.out HRL.out h5 h3 h4 h1 h2 hb5 ⟨W1, Nat.le_refl _, hC, HRW.out⟩ HZS.out ?_
        intro A8 c8 w8 hown8 hg8
        exact ⟨rfl, ⟨A8, c8, rfl, hown8, below_grown hC hg8⟩, .inl (by simp), .inl (by simp)⟩
      · intro vals z hC hF
        simp only [factsD, List.getD_cons_zero, List.getD_cons_succ, Fact.eq, Fact.row, Fact.lit, Fact.lit0, Fact.of, and_true, Fact.declN, Fact.termN, Fact.lyV, Fact.lyL, Fact.rowL] at hF
        obtain ⟨A9, c9, e1, h1, h2⟩ := hF
        simp only [putsD, Act.put, List.setIfInBounds_toArray, List.set_cons_zero, List.set_cons_succ]
        simp only [e1]
        go_wp2
        exact ⟨rfl, ⟨A9, c9, rfl, h1, h2⟩, .inr (Below.refl _ _), .inr (.inl (by simp))⟩
      · intro vals z hF
        simp only [facts, List.getD_cons_zero, List.getD_cons_succ, Fact.eq, Fact.row, Fact.lit, Fact.lit0, Fact.of, and_true, Fact.declN, Fact.termN, Fact.lyV, Fact.lyL, Fact.rowL] at hF
        obtain ⟨A9, c9, e1, h1, h2⟩ := hF
        simp only [putsD, Act.put, List.setIfInBounds_toArray, List.set_cons_zero, List.set_cons_succ]
        simp only [e1]
        have hnf : (Value.slice B rs.length b).ownBlock ≠ some f := fun e => by have := (HRW.out.lt f e).1; omega
        have hfz := (h2.block f (lt_of_block HFW.out) (fun e => hnf e.symm)).trans HFW.out
        have hnb : (Value.slice B rs.length b).ownBlock ≠ some bx := fun e => by have := (HROW.out.lt bx e).2; have := HBE.out; omega
        have hbz := (h2.block bx (lt_of_block HBX.out) (fun e => hnb e.symm)).trans HBX.out
        have q0 := (cell_of_block hbz 0).1
        have q1 := (cell_of_block hbz 1).1
        have r0 := (cell_of_block hfz 0).1
        have r1 := (cell_of_block hfz 1).1
        have f0 := (cell_of_block hfz 0).2
        have f1 := (cell_of_block hfz 1).2
        have s0 := heap_set_same z f 0 (.int .i64 (nd : Int)) _ _ hfz
        have s1 := heap_set_same _ f 1 (.int .i64 (nt : Int)) _ _ s0
        have HS1 := Lib.hid s1
        have HNR := Lib.hid ((h1.far stay_PP ⟨f, 0, none⟩ (.int .i64 (nd : Int)) (Nat.lt_succ_self f)).far stay_PP ⟨f, 1, none⟩ (.int .i64 (nt : Int)) (Nat.lt_succ_self f))
        have HBZ := Lib.hid (below_set9 (p := ⟨f, 1, none⟩) (below_set9 (p := ⟨f, 0, none⟩) (HB2.out.grown h2 (Nat.le_trans HB2.out.size (Nat.le_refl _)) (fun g e => by have := (HRW.out.lt g e).1; have := HF0.out; omega)) (Nat.le_of_eq HF0.out.symm) (.int .i64 (nd : Int))) (Nat.le_of_eq HF0.out.symm) (.int .i64 (nt : Int)))
        clear h1 h2 s0 s1 hfz hbz d0 d1 x0 x1 y0 y1 hnf hnb e1
        go_wp2
        go_roundw
        case rel => exact ⟨k + 1, zs, A9, c9, by omega, rfl, by go_num, HNR, HBZ.out, Lib.hid (by rw [HQ1.out, HQ2.out]; exact HS1.out), HZE⟩
        case measure => simp [intOf]; omega
    · have hke : k = mx.length := by omega
      subst hke
      have HE : Hid (rs = c) := Lib.hid (by rw [HX.out, HML.out, List.take_length])
      go_wp2
      go_ret
      rw [← HE.out]
      exact ⟨_, _, rfl, HROW.out.low (by rw [← HF0.out]; omega), hb⟩
end Go.Proofs.YtiahmfpfimmbgaaGreatDoor

/-! The program's closure of CtxName. -/
namespace Go.Proofs.YtiahmfpfimmbgaaGreatDoor
open Go Go.RowKit

theorem last_at {α : Type} (mx : List α) (m : α) (h : mx.length < (mx ++ [m]).length) : (mx ++ [m])[mx.length] = m := by rw [List.getElem_append_right (Nat.le_refl _)]; simp
end Go.Proofs.YtiahmfpfimmbgaaGreatDoor

/-! The program's closure of CtxAssert. -/
namespace Go.Proofs.YtiahmfpfimmbgaaGreatDoor
open Go Go.RowKit

end Go.Proofs.YtiahmfpfimmbgaaGreatDoor

/-! Layers as the answer of a law: rows in ranges of their own; marks. -/
namespace Go.Proofs.YtiahmfpfimmbgaaGreatDoor
open Go Go.RowKit Go.ChangeShapes Go.WideShapes Go.ChangeAt Go.Deep

/-- The layers lie at A, between lo and hi, each layer's rows in a range of its own; P of each. -/
def TrG (P : Nat → LyF) (lo hi : Nat) (w : World) (A : Option Addr) (ls : List Ly) : Prop :=
  hi ≤ w.heap.size ∧ (0 < ls.length → ∃ ad, A = some ad ∧ Cp lo hi w ad.block ∧ ∃ (S E : Nat → Nat) (Vd Vt : Nat → Value),
    (∀ k l, ls[k]? = some l → w.cell? (ad.add (k * 2)) = some (Vd k) ∧ w.cell? (ad.add (k * 2 + 1)) = some (Vt k) ∧ (lo ≤ S k ∧ S k ≤ E k ∧ E k ≤ hi) ∧ ¬ (S k ≤ ad.block ∧ ad.block < E k) ∧ P k w (S k) (E k) (Vd k) (Vt k) l) ∧
    ∀ i j, i < j → j < ls.length → E i ≤ S j)
abbrev TrY (lo hi : Nat) (w : World) (A : Option Addr) (ls : List Ly) : Prop := TrG (fun _ => PP) lo hi w A ls
theorem RowP.cp_of {lo c : Nat} {w : World} {A : Option Addr} {ls : List Ly} (h : RowP PP lo w (.slice A ls.length c) ls) : TrY lo w.heap.size w A ls := by
  obtain ⟨cs, h1, S, E, Vd, Vt, h2, h3⟩ := h
  refine ⟨Nat.le_refl _, fun h0 => ?_⟩
  have hcs : cs.length = ls.length * 2 := h1.1
  rcases h1.2 with ⟨e1, e2⟩ | ⟨g, cap, cur, e1, hlo, hg, hn, hm, hsz, htk⟩
  · omega
  · injection e1 with e1 e2 e3
    subst e1
    refine ⟨_, rfl, ⟨hlo, (Array.getElem?_eq_some_iff.1 hg).1, Nat.le_refl _, fun o => World.ownsRow.frozenAt (g := g) (cap := c) ⟨h1.1, h1.2⟩ o⟩, S, E, Vd, Vt, fun k l hl => ?_, h3⟩
    obtain ⟨g1, g2, g3, g6, g7⟩ := h2 k l hl
    have hc : ∀ j u, cs[j]? = some u → w.cell? ((⟨g, 0, none⟩ : Addr).add j) = some u := fun j u hu => by
      have hj : j < cs.length := (List.getElem?_eq_some_iff.1 hu).1
      have ea : (⟨g, 0, none⟩ : Addr).add j = ⟨g, j, none⟩ := by
        unfold Addr.add
        split
        · rename_i e; rw [e]
        · simp
      rw [ea, World.ownsRow.cellAt (g := g) (cap := c) ⟨h1.1, h1.2⟩ _ (by omega)]
      exact hu
    exact ⟨hc _ _ g1, hc _ _ g2, g3, g6 g rfl, g7⟩
section
variable {P : Nat → LyF} {lo hi : Nat} {w w' : World} {A : Option Addr} {ls : List Ly}
theorem TrG.stay (hP : ∀ k, StayP (P k)) (h : TrG P lo hi w A ls) (hs : w.heap.size ≤ w'.heap.size) (hb : ∀ b, lo ≤ b → b < hi → w'.heap[b]? = w.heap[b]?) : TrG P lo hi w' A ls := by
  obtain ⟨h0, h⟩ := h
  refine ⟨Nat.le_trans h0 hs, fun h9 => ?_⟩
  obtain ⟨ad, e, hf, S, E, Vd, Vt, h2, h3⟩ := h h9
  have hk := hb _ hf.1 hf.2.1
  refine ⟨ad, e, stay_cp hf hs hk, S, E, Vd, Vt, fun k l hl => ?_, h3⟩
  obtain ⟨g1, g2, ⟨g3, g4, g5⟩, g6, g7⟩ := h2 k l hl
  exact ⟨(World.cell?_of_block (w := w) (by rw [block_of_add]; exact hk)).trans g1, (World.cell?_of_block (w := w) (by rw [block_of_add]; exact hk)).trans g2, ⟨g3, g4, g5⟩, g6, hP k _ _ _ _ _ _ _ g7 hs fun b h8 h9 => hb b (by omega) (by omega)⟩
theorem TrG.cp_up (h : TrY lo hi w A ls) (hb : Below w.heap.size w w') : TrY lo hi w' A ls := TrG.stay (fun _ => stay_PP) h hb.size fun b _ h9 => hb.block b (by have := h.1; omega)
theorem TrG.cp_dab {G : Nat → Prop} (h : TrY lo hi w A ls) (hd : Dab G w w') (hG : ∀ b, lo ≤ b → b < hi → ¬ G b) : TrY lo hi w' A ls := TrG.stay (fun _ => stay_PP) h hd.size fun b h8 h9 => hd.block b (by have := h.1; omega) (hG b h8 h9)
end
theorem PP.layer {w : World} {S E lo hi : Nat} {vd vt : Value} {l : Ly} (h : PP w S E vd vt l) (h1 : lo ≤ S) (h2 : E ≤ hi) (h3 : hi ≤ w.heap.size) : Lay.layer.R w (Cp lo hi w) l [vd, vt] := by
  obtain ⟨Fd, Ft, Ad, cd, At, ct, rfl, rfl, k1, k2, k3, k4, k5, k6, k7⟩ := h
  exact ⟨Ad, cd, At, ct, rfl, k1, k2, k6.mono fun b hb => ⟨by have := (k3 b hb).1; omega, by have := (k3 b hb).2.1; omega, h3, (k3 b hb).2.2.2⟩, (TrT.sl k7).mono fun b hb => ⟨by have := (k4 b hb).1; omega, by have := (k4 b hb).2.1; omega, h3, (k4 b hb).2.2.2⟩⟩
theorem sl_two {w : World} {F : Nat → Prop} {A : Option Addr} {ls : List Ly} (h : 0 < ls.length → ∃ ad, A = some ad ∧ F ad.block ∧ ∀ k l, ls[k]? = some l → ∃ vd vt, Lay.layer.R w F l [vd, vt] ∧ w.cell? (ad.add (k * 2)) = some vd ∧ w.cell? (ad.add (k * 2 + 1)) = some vt) : Lay.layer.Sl w F A ls := by
  intro h0
  obtain ⟨ad, e, hf, hc⟩ := h h0
  refine ⟨ad, e, hf, fun k l hl => ?_⟩
  obtain ⟨vd, vt, hr, c1, c2⟩ := hc k l hl
  refine ⟨_, hr, fun j u hu => ?_⟩
  match j, hu with
  | 0, hu => simp at hu; subst hu; exact c1
  | 1, hu => simp at hu; subst hu; exact c2
  | j + 2, hu => simp at hu
theorem TrG.sl {lo hi : Nat} {w : World} {A : Option Addr} {ls : List Ly} (h : TrY lo hi w A ls) : Lay.layer.Sl w (Cp lo hi w) A ls := sl_two fun h0 => by
  obtain ⟨ad, e, hf, S, E, Vd, Vt, h2, h3⟩ := h.2 h0
  refine ⟨ad, e, hf, fun k l hl => ?_⟩
  obtain ⟨g1, g2, ⟨g3, g4, g5⟩, g6, g7⟩ := h2 k l hl
  exact ⟨Vd k, Vt k, g7.layer g3 g5 h.1, g1, g2⟩
theorem TrG.cp_rd {lo hi : Nat} {w : World} {A : Option Addr} {ls : List Ly} (h : TrY lo hi w A ls) : Lay.layer.Rd w A ls := h.sl.mono fun _ h => h.lt
/-- Marked layers. -/
def upLs : List Ly → Int → List Ly
  | [], _ => []
  | l :: ls, k => ⟨upD l.ds.length k, upTL l.ts (k + 2 * (l.ds.length : Int))⟩ :: upLs ls (k + (2 * (l.ds.length : Int) + 4 * (T.sizeL l.ts : Int)))
theorem upLs_len : ∀ (ls : List Ly) (k : Int), (upLs ls k).length = ls.length
  | [], _ => rfl
  | l :: ls, k => by simp [upLs, upLs_len ls]
theorem upLs_get : ∀ (ls : List Ly) (k : Int) (i : Nat) (x : Ly), ls[i]? = some x → (upLs ls k)[i]? = some ⟨upD x.ds.length (k + (mwL (ls.take i) : Int)), upTL x.ts (k + (mwL (ls.take i) : Int) + 2 * (x.ds.length : Int))⟩
  | [], _, i, x, h => by simp at h
  | l :: ls, k, 0, x, h => by
    simp at h
    subst h
    simp [upLs, mwL]
  | l :: ls, k, i + 1, x, h => by
    have := upLs_get ls (k + (2 * (l.ds.length : Int) + 4 * (T.sizeL l.ts : Int))) i x (by simpa using h)
    simp only [upLs, List.getElem?_cons_succ, List.take_succ_cons, mwL]
    rw [this]
    have e : k + (2 * (l.ds.length : Int) + 4 * (T.sizeL l.ts : Int)) + (mwL (ls.take i) : Int) = k + ((2 * l.ds.length + 4 * T.sizeL l.ts + mwL (ls.take i) : Nat) : Int) := by push_cast; omega
    rw [e]
/-- A layer that is marked from K on. -/
def PM (K : Int) : LyF := fun w S E vd vt l => ∃ (Fd Ft : Nat → Prop) (Ad : Option Addr) (cd : Nat) (At : Option Addr) (ct : Nat), vd = .slice Ad l.ds.length cd ∧ vt = .slice At l.ts.length ct ∧ l.ds.length ≤ cd ∧ l.ts.length ≤ ct ∧ (∀ b, Fd b → Cp S E w b) ∧ (∀ b, Ft b → Cp S E w b) ∧ Lay.decl.Sl w Fd Ad (upD l.ds.length K) ∧ Lay.term.Sl w Ft At (upTL l.ts (K + 2 * (l.ds.length : Int)))
theorem stay_PM (K : Int) : StayP (PM K) := by
  rintro w w' S E vd vt l ⟨Fd, Ft, Ad, cd, At, ct, e1, e2, h1, h2, h3, h4, h6, h7⟩ hs hb
  have hk : ∀ b, Cp S E w b → w'.heap[b]? = w.heap[b]? := fun b h9 => hb b h9.1 h9.2.1
  exact ⟨Fd, Ft, Ad, cd, At, ct, e1, e2, h1, h2, fun b hb9 => stay_cp (h3 b hb9) hs (hk b (h3 b hb9)), fun b hb9 => stay_cp (h4 b hb9) hs (hk b (h4 b hb9)), h6.keep fun b hb9 => hk b (h3 b hb9), h7.keep fun b hb9 => hk b (h4 b hb9)⟩
theorem PM.layer {K : Int} {w : World} {S E lo hi : Nat} {vd vt : Value} {l : Ly} (h : PM K w S E vd vt l) (h1 : lo ≤ S) (h2 : E ≤ hi) (h3 : hi ≤ w.heap.size) : Lay.layer.R w (Cp lo hi w) ⟨upD l.ds.length K, upTL l.ts (K + 2 * (l.ds.length : Int))⟩ [vd, vt] := by
  obtain ⟨Fd, Ft, Ad, cd, At, ct, rfl, rfl, k1, k2, k3, k4, k6, k7⟩ := h
  refine ⟨Ad, cd, At, ct, ?_, ?_, ?_, k6.mono fun b hb => ⟨by have := (k3 b hb).1; omega, by have := (k3 b hb).2.1; omega, h3, (k3 b hb).2.2.2⟩, k7.mono fun b hb => ⟨by have := (k4 b hb).1; omega, by have := (k4 b hb).2.1; omega, h3, (k4 b hb).2.2.2⟩⟩
  · simp only [upD_len, upTL_len]
  · simp only [upD_len]; exact k1
  · simp only [upTL_len]; exact k2
/-- Marked as far as the layer j. -/
def PJ (k0 : Int) (ls : List Ly) (j k : Nat) : LyF := fun w S E vd vt l => (k < j → PM (k0 + (mwL (ls.take k) : Int)) w S E vd vt l) ∧ (j ≤ k → PP w S E vd vt l)
/-- One layer more is marked. -/
theorem TrG.next {k0 : Int} {ls : List Ly} {j lo hi : Nat} {w : World} {A : Option Addr} (h : TrG (PJ k0 ls j) lo hi w A ls) (hj : j < ls.length) :
    ∃ ad S E Fd Ft Ad cd At ct, A = some ad ∧ w.cell? (ad.add (j * 2)) = some (.slice Ad ls[j].ds.length cd) ∧ w.cell? (ad.add (j * 2 + 1)) = some (.slice At ls[j].ts.length ct) ∧ Lay.decl.Sl w Fd Ad ls[j].ds ∧ TrS w Ft At ls[j].ts ∧ (lo ≤ S ∧ E ≤ hi ∧ (∀ b, Fd b → Cp S E w b) ∧ (∀ b, Ft b → Cp S E w b) ∧ (∀ b, Fd b → ¬ Ft b)) ∧
      ∀ w', Dab (fun b => S ≤ b ∧ b < E) w w' → Lay.decl.Sl w' Fd Ad (upD ls[j].ds.length (k0 + (mwL (ls.take j) : Int))) → Lay.term.Sl w' Ft At (upTL ls[j].ts (k0 + (mwL (ls.take j) : Int) + 2 * (ls[j].ds.length : Int))) → TrG (PJ k0 ls (j + 1)) lo hi w' A ls := by
  obtain ⟨h0, h⟩ := h
  obtain ⟨ad, e, hf, S, E, Vd, Vt, h2, h3⟩ := h (by omega)
  obtain ⟨g1, g2, ⟨g3, g4, g5⟩, g6, ⟨_, g7⟩⟩ := h2 j _ (List.getElem?_eq_getElem hj)
  obtain ⟨Fd, Ft, Ad, cd, At, ct, e1, e2, k1, k2, k3, k4, k5, k6, k7⟩ := g7 (Nat.le_refl _)
  rw [e1] at g1
  rw [e2] at g2
  refine ⟨ad, S j, E j, Fd, Ft, Ad, cd, At, ct, e, g1, g2, k6, k7, ⟨g3, g5, k3, k4, k5⟩, fun w' hd hD hT => ⟨Nat.le_trans h0 hd.size, fun _ => ?_⟩⟩
  have hk := hd.block ad.block (by have := hf.2.1; omega) g6
  refine ⟨ad, e, stay_cp hf hd.size hk, S, E, Vd, Vt, fun k l hl => ?_, h3⟩
  obtain ⟨q1, q2, q3, q6, q7⟩ := h2 k l hl
  have hkl : k < ls.length := (List.getElem?_eq_some_iff.1 hl).1
  refine ⟨(World.cell?_of_block (w := w) (by rw [block_of_add]; exact hk)).trans q1, (World.cell?_of_block (w := w) (by rw [block_of_add]; exact hk)).trans q2, q3, q6, ?_⟩
  by_cases hkj : k = j
  · subst hkj
    rw [List.getElem?_eq_getElem hkl] at hl
    injection hl with hl
    subst hl
    exact ⟨fun _ => ⟨Fd, Ft, Ad, cd, At, ct, e1, e2, k1, k2, fun b hb => (k3 b hb).dab hd, fun b hb => (k4 b hb).dab hd, hD, hT⟩, fun h9 => absurd h9 (by omega)⟩
  · have hb : ∀ b, S k ≤ b → b < E k → w'.heap[b]? = w.heap[b]? := fun b h8 h9 => hd.block b (by have := q3.2.2; omega) (fun h10 => by
      rcases Nat.lt_or_gt_of_ne hkj with hlt | hlt
      · have := h3 k j hlt hj; omega
      · have := h3 j k hlt hkl; omega)
    exact ⟨fun h9 => stay_PM _ _ _ _ _ _ _ _ (q7.1 (by omega)) hd.size hb, fun h9 => stay_PP _ _ _ _ _ _ _ (q7.2 (by omega)) hd.size hb⟩
theorem TrG.marked {k0 : Int} {ls : List Ly} {lo hi : Nat} {w : World} {A : Option Addr} (h : TrG (PJ k0 ls ls.length) lo hi w A ls) : Lay.layer.Sl w (Cp lo hi w) A (upLs ls k0) := sl_two fun h0 => by
  rw [upLs_len] at h0
  obtain ⟨ad, e, hf, S, E, Vd, Vt, h2, h3⟩ := h.2 h0
  refine ⟨ad, e, hf, fun k l hl => ?_⟩
  have hk : k < ls.length := by have := (List.getElem?_eq_some_iff.1 hl).1; rwa [upLs_len] at this
  rw [upLs_get ls k0 k _ (List.getElem?_eq_getElem hk)] at hl
  injection hl with hl
  subst hl
  obtain ⟨g1, g2, ⟨g3, g4, g5⟩, g6, g7⟩ := h2 k _ (List.getElem?_eq_getElem hk)
  exact ⟨Vd k, Vt k, (g7.1 hk).layer g3 g5 h.1, g1, g2⟩
set_option maxRecDepth 100000 in
set_option maxHeartbeats 4000000 in
theorem markLayerT_any (c : List Ly) (hc : ∀ l ∈ c, okL2 l) (A : Option Addr) (q lo hi : Nat) (k0 : Int) (w : World) (h : TrY lo hi w A c) (h0 : 1 ≤ k0) (h1 : k0 + (mwL c : Int) ≤ 1000000000) (hn : c.length ≤ 1048576) :
    Calls Tryz.prog 18 #[.slice A c.length q, .int .i64 k0] w fun e w' => e = .returned (.int .i64 (k0 + (mwL c : Int))) ∧ Dab (Rng lo hi) w w' ∧ Lay.layer.Sl w' (Cp lo hi w') A (upLs c k0) := by
  have hst : TrG (PJ k0 c 0) lo hi w A c := ⟨h.1, fun h9 => by
    obtain ⟨ad, e, hf, S, E, Vd, Vt, h2, h3⟩ := h.2 h9
    refine ⟨ad, e, hf, S, E, Vd, Vt, fun k l hl => ?_, h3⟩
    obtain ⟨g1, g2, g3, g6, g7⟩ := h2 k l hl
    exact ⟨g1, g2, g3, g6, fun h => absurd h (by omega), fun _ => g7⟩⟩
  have HST0 := Lib.hid hst
  have HC := Lib.hid hc
  clear h hc hst
  go_enter Tryz.func18, Tryz.ntmps18
  go_wp2
  go_loopw [1, 5] (fun kk i wr => ∃ (j : Nat) (S : Int), j ≤ c.length ∧ i = .int .i64 j ∧ kk = .int .i64 S ∧ Hid (S = k0 + (mwL (c.take j) : Int)) ∧ 1 ≤ S ∧ Hid (Dab (Rng lo hi) w wr) ∧ Hid (TrG (PJ k0 c j) lo hi wr A c)) (fun _ i _ => c.length - (intOf i).toNat)
  case atStart => exact ⟨0, k0, Nat.zero_le _, rfl, rfl, Lib.hid (by simp [mwL]), h0, Lib.hid (Dab.refl _ _), HST0⟩
  case round =>
    obtain ⟨j, S, hj, rfl, rfl, HSS, S0, HD, HTR⟩ := hrel
    by_cases hlt : j < c.length
    · have hj2 : (j : Int) < c.length := by omega
      have HST := Lib.hid (mwL_take c j hlt)
      have hle : S + (2 * (c[j].ds.length : Int) + 4 * (T.sizeL c[j].ts : Int)) ≤ 1000000000 := by
        have h9 := mwL_take_le c (j + 1)
        rw [HST.out] at h9
        have := HSS.out
        omega
      obtain ⟨hol1, hol2, hol3⟩ := HC.out _ (List.getElem_mem hlt)
      have HLT := Lib.hid hol3
      obtain ⟨ad, s1, s3, Fd, Ft, A1, c1, A2, c2, rfl, e1, e2, hD, hT, ⟨b1, b2, b3, b4, b5⟩, hnx⟩ := HTR.out.next hlt
      have HB3 := Lib.hid b3
      have HB4 := Lib.hid b4
      have HB5 := Lib.hid b5
      clear b3 b4 b5
      have hhi := HTR.out.1
      have e2 : wr.cell? ⟨(ad.add (j * 2)).block, (ad.add (j * 2)).off + 1, none⟩ = some (.slice A2 c[j].ts.length c2) := by rw [ad_two]; exact e2
      have HDD := Lib.hid (markDeclS_sl A1 c1 c[j].ds S Fd wr hD (fun b h => (HB3.out b h).2.2.2) hol1 S0 (by omega))
      have HT := Lib.hid hT
      have HE2 := Lib.hid e2
      have HNX := Lib.hid hnx
      clear hD hT hol3 hnx
      go_wp2_with fail
      refine HDD.out.mono ?_
      rintro e w2 ⟨rfl, hd2, hs2⟩
      have HS2 := Lib.hid hs2
      have HD2 := Lib.hid hd2
      obtain ⟨v2, g2, k2⟩ := hd2.kin _ _ HE2.out
      rw [k2.ofSlice] at g2
      have ht2 : TrS w2 Ft A2 c[j].ts := TrT.keep HT.out fun b hb => hd2.block b (HB4.out b hb).lt (fun h9 => HB5.out b h9 hb)
      have HMT := Lib.hid (markTree_any (.mk 0 0 0 ⟨#[]⟩ c[j].ts) (.mk _ ⟨hol2, by show (0 : Nat) ≤ 1048576; omega⟩ (fun k hk => HLT.out k hk)) A2 c2 (S + 2 * (c[j].ds.length : Int)) Ft w2 ht2 (fun b h => ⟨((HB4.out b h).dab hd2).lt, ((HB4.out b h).dab hd2).2.2.2⟩) (by omega) (by show S + 2 * (c[j].ds.length : Int) + 4 * (T.sizeL c[j].ts : Int) ≤ 1000000000; omega) hol2)
      clear hd2 hs2 k2 e1 e2 ht2
      go_wp2_with fail
      refine HMT.out.mono ?_
      rintro e w3 ⟨rfl, hd3, ht3⟩
      have HD3 : Hid (Dab (Rng lo hi) w w3) := Lib.hid ((HD.out.trans (HD2.out.mono fun b hb => ⟨by have := (HB3.out b hb).1; omega, by have := (HB3.out b hb).2.1; omega⟩)).trans (hd3.mono fun b hb => ⟨by have := (HB4.out b hb).1; omega, by have := (HB4.out b hb).2.1; omega⟩))
      have HTN : Hid (TrG (PJ k0 c (j + 1)) lo hi w3 (some ad) c) := Lib.hid (by
        refine HNX.out w3 ((HD2.out.mono fun b hb => ⟨(HB3.out b hb).1, (HB3.out b hb).2.1⟩).trans (hd3.mono fun b hb => ⟨(HB4.out b hb).1, (HB4.out b hb).2.1⟩)) ?_ ?_
        · rw [← HSS.out]
          exact HS2.out.dab hd3 fun b h7 => ⟨((HB3.out b h7).dab HD2.out).lt, HB5.out b h7⟩
        · rw [← HSS.out]
          exact TrT.sl ht3)
      clear hd3 ht3 HNX HDD HMT HT HS2 HD2 HB3 HB4 HB5
      go_wp2
      go_roundw
      case rel => exact ⟨j + 1, S + 2 * (c[j].ds.length : Int) + 4 * (T.sizeL c[j].ts : Int), by omega, by go_num, rfl, Lib.hid (by rw [HST.out, HSS.out]; push_cast; omega), by omega, HD3, HTN⟩
      case measure => simp [intOf]; omega
    · have hje : j = c.length := by omega
      subst hje
      have HE : Hid (S = k0 + (mwL c : Int)) := Lib.hid (by rw [HSS.out, List.take_length])
      go_wp2
      go_ret
      exact ⟨ret_int HE.out, HD.out, HTR.out.marked⟩
set_option maxRecDepth 100000 in
set_option maxHeartbeats 4000000 in
theorem heldLayerS_any (c : List Ly) (hc : ∀ l ∈ c, okL2 l) (A : Option Addr) (q : Nat) (k0 : Int) (F : Nat → Prop) (w : World) (h : Lay.layer.Sl w F A (upLs c k0)) (hF : ∀ b, F b → b < w.heap.size) (h0 : 1 ≤ k0) (h1 : k0 + (mwL c : Int) ≤ 1000000000) (hn : c.length ≤ 1048576) :
    Calls Tryz.prog 23 #[.slice A c.length q, .int .i64 k0] w fun e w' => e = .returned (.int .i64 (k0 + (mwL c : Int))) ∧ Below w.heap.size w w' := by
  have H := Lib.hid h
  have HC := Lib.hid hc
  clear h hc
  go_enter Tryz.func23, Tryz.ntmps23
  go_wp2
  go_loopw [1, 5] (fun kk i wr => ∃ (j : Nat) (S : Int), j ≤ c.length ∧ i = .int .i64 j ∧ kk = .int .i64 S ∧ Hid (S = k0 + (mwL (c.take j) : Int)) ∧ 1 ≤ S ∧ Below w.heap.size w wr) (fun _ i _ => c.length - (intOf i).toNat)
  case atStart => exact ⟨0, k0, Nat.zero_le _, rfl, rfl, Lib.hid (by simp [mwL]), h0, Below.refl _ _⟩
  case round =>
    obtain ⟨j, S, hj, rfl, rfl, HSS, S0, hb⟩ := hrel
    by_cases hlt : j < c.length
    · have hj2 : (j : Int) < c.length := by omega
      have HST := Lib.hid (mwL_take c j hlt)
      have hle : S + (2 * (c[j].ds.length : Int) + 4 * (T.sizeL c[j].ts : Int)) ≤ 1000000000 := by
        have h9 := mwL_take_le c (j + 1)
        rw [HST.out] at h9
        have := HSS.out
        omega
      obtain ⟨hol1, hol2, hol3⟩ := HC.out _ (List.getElem_mem hlt)
      have HLT := Lib.hid hol3
      have hju : j < (upLs c k0).length := by rw [upLs_len]; exact hlt
      have hg := upLs_get c k0 j _ (List.getElem?_eq_getElem hlt)
      rw [List.getElem?_eq_getElem hju] at hg
      injection hg with hg
      obtain ⟨ad, A1, c1, A2, c2, rfl, hf, e1, e2, _, _, hD, hT⟩ := (H.out.below hb hF).at_layer hju
      rw [hg] at e1 e2 hD hT
      dsimp only at e1 e2 hD hT
      rw [upD_len] at e1
      rw [upTL_len] at e2
      rw [← HSS.out] at hD hT
      have hFr : ∀ b, F b → b < wr.heap.size := fun b hb9 => Nat.lt_of_lt_of_le (hF b hb9) hb.size
      have HDD := Lib.hid (heldDeclS_any A1 c1 c[j].ds.length S F wr hD hFr hol1 S0 (by omega))
      have HT := Lib.hid hT
      have HE2 := Lib.hid e2
      have hp1 : ¬ (S + ((2 * c[j].ds.length : Nat) : Int)) < 0 := by omega
      clear hD hT hol3 hg e2
      go_wp2_with fail
      refine HDD.out.mono ?_
      rintro e w2 ⟨rfl, hb2⟩
      have e2 := (hb2.cell (World.block_lt_of_cell? _ _ HE2.out)).trans HE2.out
      have hT2 : Lay.term.Sl w2 F A2 (upTL c[j].ts (S + ((2 * c[j].ds.length : Nat) : Int))) := by
        have := HT.out.below hb2 hFr
        rw [show S + ((2 * c[j].ds.length : Nat) : Int) = S + 2 * (c[j].ds.length : Int) by push_cast; rfl]
        exact this
      have HMT := Lib.hid (heldTermS_any (.mk 0 0 0 ⟨#[]⟩ c[j].ts) (.mk _ ⟨hol2, by show (0 : Nat) ≤ 1048576; omega⟩ (fun k hk => HLT.out k hk)) A2 c2 (S + ((2 * c[j].ds.length : Nat) : Int)) F w2 hT2 (fun b hb9 => Nat.lt_of_lt_of_le (hFr b hb9) hb2.size) (by omega) (by show S + ((2 * c[j].ds.length : Nat) : Int) + 4 * (T.sizeL c[j].ts : Int) ≤ 1000000000; omega) hol2)
      have hb3 := bthen hb hb2
      clear hb2 hT2 e1
      go_wp2_with fail
      refine HMT.out.mono ?_
      rintro e w3 ⟨rfl, hb4⟩
      have hb5 := bthen hb3 hb4
      have hp2 : ¬ (S + ((2 * c[j].ds.length : Nat) : Int) + 4 * (T.sizeL (T.mk 0 0 0 ⟨#[]⟩ c[j].ts).kids : Int)) < 0 := by show ¬ (S + ((2 * c[j].ds.length : Nat) : Int) + 4 * (T.sizeL c[j].ts : Int)) < 0; omega
      clear hb4 e2
      go_wp2
      go_roundw
      case rel => exact ⟨j + 1, S + ((2 * c[j].ds.length : Nat) : Int) + 4 * (T.sizeL c[j].ts : Int), by omega, by go_num, rfl, Lib.hid (by rw [HST.out, HSS.out]; push_cast; omega), by omega, hb5⟩
      case measure => simp [intOf]; omega
    · have hje : j = c.length := by omega
      subst hje
      have HE : Hid (S = k0 + (mwL c : Int)) := Lib.hid (by rw [HSS.out, List.take_length])
      go_wp2
      go_ret
      exact ⟨ret_int HE.out, hb⟩
end Go.Proofs.YtiahmfpfimmbgaaGreatDoor

/-! The program's changed. -/
namespace Go.Proofs.YtiahmfpfimmbgaaGreatDoor
open Go Go.RowKit

/-- A stack of the context x; of no layers, whatever it holds. -/
def StkC (lo : Nat) (w : World) (p : Nat) (x : List Ly) : Prop := ∃ ds ts, StkE lo w p ds ts (msAll x) ∧ (x ≠ [] → ds = dsAll x ∧ ts = tsAll x)
theorem StkC.of {lo p : Nat} {w : World} {x : List Ly} (h : StkE lo w p (dsAll x) (tsAll x) (msAll x)) : StkC lo w p x := ⟨_, _, h, fun _ => ⟨rfl, rfl⟩⟩
theorem ctxOk_nil : ctxOk [] = false := ctxOk_short (by simp)
set_option maxRecDepth 100000 in
set_option maxHeartbeats 4000000 in
theorem stackOkC_any (lo p : Nat) (x : List Ly) (w : World) (h : StkC lo w p x) (hc : okC x) :
    Calls Tryz.prog 55 #[.pointer (some ⟨p, 0, none⟩)] w (RetB w (ctxOk x)) := by
  obtain ⟨ds, ts, hs, hx⟩ := h
  by_cases h0 : x = []
  · subst h0
    rw [ctxOk_nil]
    obtain ⟨A1, A2, A3, c1, c2, c3, hS⟩ := hs
    have v2 : w.cell? ⟨p, 2, none⟩ = some (.slice A3 0 c3) := (cell_of_block hS.box 2).1
    clear hS hx hc
    go_enter Tryz.func55, Tryz.ntmps55
    go_wp2
    go_ret
    exact ⟨rfl, Below.refl _ _⟩
  · obtain ⟨rfl, rfl⟩ := hx h0
    exact stackOk_any lo p x w hs hc
/-- What a change hands back: layers of the call's own. -/
def RetCh (r : List Ly × Bool) (w : World) (e : Ending) (w' : World) : Prop := ∃ A c, e = .returned (.tuple #[.slice A r.1.length c, .bool r.2]) ∧ r.1.length ≤ c ∧ RowP PP w.heap.size w' (.slice A r.1.length c) r.1 ∧ Below w.heap.size w w'
theorem RowP.cap9 {P : LyF} {lo c n : Nat} {w : World} {A : Option Addr} {ls : List Ly} (h : RowP P lo w (.slice A n c) ls) : ls.length ≤ c := by
  obtain ⟨A', c', e, hl⟩ := h.form
  injection e with e1 e2 e3
  omega
set_option maxRecDepth 100000 in
set_option maxHeartbeats 8000000 in
theorem changed_Pop (A : Option Addr) (q : Nat) (c x : List Ly) (w : World) (h : Lay.layer.Rd w A c) (hc : okC c) (hx : ctxOk c = true → okC x)
    (hcl : ctxOk c = true → ∀ (z : World) (p : Nat), Below w.heap.size w z → StkE w.heap.size z p (dsAll c) (tsAll c) (msAll c) → Calls Tryz.prog 66 #[.pointer (some ⟨p, 0, none⟩)] z fun e w' => e = .returned (.tuple #[]) ∧ StkC w.heap.size w' p x ∧ Below w.heap.size z w') :
    Calls Tryz.prog 61 #[.slice A c.length q, .func (.func 66) #[] #[]] w (RetCh (ctxCh c x) w) := by
  have HF := Lib.hid (fun (z : World) (hz : Lay.layer.Rd z A c) => flat_any A q c z hz hc.len hc.ds hc.ts)
  have HC := Lib.hid hc
  have H := Lib.hid h
  have HXO := Lib.hid hx
  have HCL := Lib.hid hcl
  obtain ⟨r, hr⟩ : ∃ r, r = ctxOk c := ⟨_, rfl⟩
  have HR := Lib.hid hr
  obtain ⟨s, hs⟩ : ∃ s, s = ctxOk x := ⟨_, rfl⟩
  have HS9 := Lib.hid hs
  have HX : Hid (ctxCh c x = if r = true then (if s = true then (x, true) else (c, false)) else ([], false)) := Lib.hid (by rw [hr, hs]; rfl)
  have HFW := Lib.hid (HF.out w h)
  clear hr hs h hc hx hcl
  go_enter Tryz.func61, Tryz.ntmps61
  go_wp2_with fail
  refine HFW.out.mono ?_
  rintro e w1 ⟨rfl, hs, hb⟩
  have HO := Lib.hid (stackOk_any w.heap.size w.heap.size c w1 hs HC.out)
  rw [← HR.out] at HO
  have HS := Lib.hid hs
  have HB := Lib.hid hb
  clear hs hb HFW
  go_wp2_with fail
  refine HO.out.mono ?_
  rintro e w2 ⟨rfl, hb2⟩
  have HB2 := Lib.hid (bthen HB.out hb2)
  have HS2 := Lib.hid (HS.out.up hb2)
  clear hb2 HO HS
  simp only [Bool.not_true, Bool.not_false]
  cases r
  · go_wp2
    refine bodyPost_ret (v := .tuple #[.slice none 0 0, .bool false]) (by simp [results, Tryz.results61, go_sem]) rfl ?_
    rw [show ctxCh c x = ([], false) from by rw [HX.out]; rfl]
    exact ⟨none, 0, rfl, Nat.zero_le _, RowP.nil _ _ _, HB2.out⟩
  have HCC := Lib.hid (HCL.out HR.out.symm w2 w.heap.size HB2.out HS2.out)
  have HOX := Lib.hid (HXO.out HR.out.symm)
  clear HCL HXO
  go_wp2_with fail
  refine HCC.out.mono ?_
  rintro e w3 ⟨rfl, hs3, hb3⟩
  have HB3 := Lib.hid (HB2.out.trans hb3)
  have HO := Lib.hid (stackOkC_any w.heap.size w.heap.size x w3 hs3 HOX.out)
  rw [← HS9.out] at HO
  have HS := Lib.hid hs3
  clear hs3 hb3 HCC HS2 HB2
  go_wp2_with fail
  refine HO.out.mono ?_
  rintro e w4 ⟨rfl, hb4⟩
  have HB4 := Lib.hid (bthen HB3.out hb4)
  have HB34 := Lib.hid hb4
  clear hb4 HO
  cases s
  · have HFW := Lib.hid (HF.out w4 (H.out.up HB4.out))
    go_wp2_with fail
    refine HFW.out.mono ?_
    rintro e w5 ⟨rfl, hs5, hb5⟩
    have HL := Lib.hid (layers_any w4.heap.size w4.heap.size c w5 hs5 HC.out)
    have HB5 := Lib.hid (bthen HB4.out hb5)
    clear hs5 hb5 HFW
    go_wp2_with fail
    refine HL.out.mono ?_
    rintro e w6 ⟨A6, c6, rfl, hr6, hb6⟩
    have HR6 := Lib.hid hr6
    have HB6 := Lib.hid (bthen HB5.out hb6)
    clear hr6 hb6 HL
    go_wp2
    refine bodyPost_ret (v := .tuple #[.slice A6 c.length c6, .bool false]) (by simp [results, Tryz.results61, go_sem]) rfl ?_
    rw [show ctxCh c x = (c, false) from by rw [HX.out]; rfl]
    exact ⟨A6, c6, rfl, HR6.out.cap9, HR6.out.low HB5.out.size, HB6.out⟩
  · have hx0 : x ≠ [] := fun e => by
      have := HS9.out
      rw [e, ctxOk_nil] at this
      cases this
    obtain ⟨ds, ts, hs5, hx5⟩ := HS.out
    obtain ⟨rfl, rfl⟩ := hx5 hx0
    have HL := Lib.hid (layers_any w.heap.size w.heap.size x w4 (hs5.up HB34.out) HOX.out)
    clear hs5 hx5 hx0
    go_wp2_with fail
    refine HL.out.mono ?_
    rintro e w6 ⟨A6, c6, rfl, hr6, hb6⟩
    have HR6 := Lib.hid hr6
    have HB6 := Lib.hid (bthen HB4.out hb6)
    clear hr6 hb6 HL
    go_wp2
    refine bodyPost_ret (v := .tuple #[.slice A6 x.length c6, .bool true]) (by simp [results, Tryz.results61, go_sem]) rfl ?_
    rw [show ctxCh c x = (x, true) from by rw [HX.out]; rfl]
    exact ⟨A6, c6, rfl, HR6.out.cap9, HR6.out.low HB4.out.size, HB6.out⟩
end Go.Proofs.YtiahmfpfimmbgaaGreatDoor
