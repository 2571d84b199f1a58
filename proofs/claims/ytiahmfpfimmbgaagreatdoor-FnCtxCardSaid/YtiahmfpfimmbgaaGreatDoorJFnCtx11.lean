/- The program's layers of a stack. The program's closure of CtxName. -/
import Derived.Test.YtiahmfpfimmbgaaGreatDoorJFnCtx8
import Derived.Test.YtiahmfpfimmbgaaGreatDoorJFnCtx10
/-! The program's layers of a stack. -/
namespace Go.Proofs.YtiahmfpfimmbgaaGreatDoor
open Go Go.RowKit

set_option maxRecDepth 100000 in
set_option maxHeartbeats 4000000 in
theorem cloneDecls_any (A : Option Addr) (c : Nat) (xs : List D) (F : Nat → Prop) (w : World) (h : Lay.decl.Sl w F A xs) (hF : ∀ b, F b → b < w.heap.size) (hn : xs.length ≤ 1048576) :
    Calls Tryz.prog 118 #[.slice A xs.length c] w fun e w' => ∃ A' c', e = .returned (.slice A' xs.length c') ∧ OwnDs w' w.heap.size (.slice A' xs.length c') xs ∧ Below w.heap.size w w' := by
  rcases A with _ | ad
  · have h0 : xs = [] := List.eq_nil_of_length_eq_zero (by
      rcases Nat.eq_zero_or_pos xs.length with h9 | h9
      · exact h9
      · obtain ⟨_, e, _⟩ := h h9; cases e)
    subst h0
    clear h hF hn
    have he : ∀ w : World, (binOp .eql 55 (.slice none 0 c) (.slice none 0 0)).run Tryz.prog w = .ok (.bool true) w := fun _ => rfl
    go_enter Tryz.func118, Tryz.ntmps118
    go_wp2
    go_ret
    exact ⟨none, 0, rfl, World.ownsRow_nil _ _ _ _, Below.refl _ _⟩
  · have hal : Below w.heap.size w (w.alloc (.cells #[] 39)) := (Below.refl _ _).alloc (Nat.le_refl _) _
    have hown := own_lit0D w
    have hsrc := src_decls (h.below hal hF)
    have hsz := hal.size
    have HSR := Lib.hid hsrc
    have HAL := Lib.hid hal
    have hz0 : ([] : List D).length ≤ 2000000 := by simp
    have hz1 : xs.length ≤ 2000000 := by omega
    clear hal h hF hsrc
    have he : ∀ w : World, (binOp .eql 55 (.slice (some ad) xs.length c) (.slice none 0 0)).run Tryz.prog w = .ok (.bool false) w := fun _ => rfl
    go_enter Tryz.func118, Tryz.ntmps118
    go_wp2_with (at_builtin; refine wpList_append_decls (xs := []) (ys := xs) (by rfl) (.tmp 5) (.tmp 6) (by rfl) (by rfl) (by rfl) hown HSR.out (fun e => by cases e) hz0 hz1 hsz rfl ?_; intro A3 c3 w3 hown3 hb3 hg3; have HOWN := Lib.hid hown3; have HB3 := Lib.hid (HAL.out.trans hb3); clear hown hown3 hb3 hg3 hsz)
    go_ret
    exact ⟨A3, c3, rfl, HOWN.out, HB3.out⟩
/-- Copied declarations, in a row of their own. -/
def Fact.declN (W : World) (xs : List D) : Fact := .of (fun v z => ∃ A c, v = .slice A xs.length c ∧ OwnDs z W.heap.size (.slice A xs.length c) xs) fun _ _ _ ⟨A, c, h1, h2⟩ hb => ⟨A, c, h1, h2.up hb⟩
/-- Copied terms, trees. -/
def Fact.termN (W : World) (ts : List T) : Fact := .of (fun v z => ∃ A c, v = .slice A ts.length c ∧ ts.length ≤ c ∧ TrS z (OwnB9 W.heap.size z) A ts) fun _ _ _ ⟨A, c, h1, h2, h3⟩ hb => ⟨A, c, h1, h2, TrT.mono (TrT.keep h3 fun b h9 => hb.block b h9.2.1) fun b h9 => h9.up hb.size (hb.block b h9.2.1)⟩
/-- A copied layer, by value. -/
def Fact.lyV (W : World) (l : Ly) : Fact := .of (fun v z => ∃ vd vt, v = .agg #[vd, vt] ∧ vd.oneCell' = true ∧ vt.oneCell' = true ∧ ∃ E, W.heap.size ≤ E ∧ E ≤ z.heap.size ∧ PP z W.heap.size E vd vt l)
  fun _ _ _ ⟨vd, vt, h1, h2, h3, E, h4, h5, h6⟩ hb => ⟨vd, vt, h1, h2, h3, E, h4, Nat.le_trans h5 hb.size, stay_PP _ _ _ _ _ _ _ h6 hb.size fun b _ h9 => hb.block b (by omega)⟩
/-- .. in a block of its own. -/
def Fact.lyL (W : World) (l : Ly) : Fact := .of (fun v z => ∃ b vd vt, v = .slice (some ⟨b, 0, none⟩) 1 1 ∧ z.heap[b]? = some (.cells #[vd, vt] 58 (0, 0)) ∧ vd.oneCell' = true ∧ vt.oneCell' = true ∧ ∃ E, W.heap.size ≤ E ∧ E ≤ z.heap.size ∧ PP z W.heap.size E vd vt l)
  fun _ _ _ ⟨b, vd, vt, h1, h7, h2, h3, E, h4, h5, h6⟩ hb => ⟨b, vd, vt, h1, (hb.block b (lt_of_block h7)).trans h7, h2, h3, E, h4, Nat.le_trans h5 hb.size, stay_PP _ _ _ _ _ _ _ h6 hb.size fun b _ h9 => hb.block b (by omega)⟩
/-- The row of layers has grown. -/
def Fact.rowL (lo : Nat) (W : World) (v0 : Value) (ys : List Ly) : Fact := .of (fun v z => ∃ A c, v = .slice A ys.length c ∧ RowP PP lo z (.slice A ys.length c) ys ∧ W.grownBy z v0.ownBlock) fun _ _ _ ⟨A, c, h1, h2, h3⟩ hb => ⟨A, c, h1, h2.up stay_PP hb, grown_below h3 hb⟩
/-- Copied declarations and terms are apart: their blocks are of two types. -/
theorem pp_typed {z : World} {S : Nat} {A B : Option Addr} {c d : Nat} {l : Ly} (h1 : OwnDs z S (.slice A l.ds.length c) l.ds) (h2 : TrS z (OwnB9 S z) B l.ts) (h3 : l.ts.length ≤ d) : PP z S z.heap.size (.slice A l.ds.length c) (.slice B l.ts.length d) l := by
  refine ⟨fun b => Cp S z.heap.size z b ∧ ∃ cs, z.heap[b]? = some (.cells cs 39 (0, 0)), fun b => Cp S z.heap.size z b ∧ ∃ cs, z.heap[b]? = some (.cells cs 48 (0, 0)), A, c, B, d, rfl, rfl, (OwnDs.cap h1).2, h3, fun b h => h.1, fun b h => h.1, fun b ⟨_, cs, h4⟩ ⟨_, cs', h5⟩ => ?_, ?_, ?_⟩
  · rw [h4] at h5
    injection h5 with h5
    injection h5 with _ h5 _
    exact absurd h5 neDT
  · intro h0
    obtain ⟨ad, e, hf, hc⟩ := (Lay.Sl.decl_own h1) h0
    subst e
    have hbk : ∃ cs, z.heap[ad.block]? = some (.cells cs 39 (0, 0)) := by
      rcases h1.2 with ⟨e1, _⟩ | ⟨g, cap, cur, e1, _, hg, _⟩
      · cases e1
      · injection e1 with e1; injection e1 with e1; subst e1; exact ⟨cur, hg⟩
    exact ⟨ad, rfl, ⟨⟨hf.1, hf.2.1, Nat.le_refl _, hf.2.2⟩, hbk⟩, fun k x hx => by
      obtain ⟨vs, hr, hcell⟩ := hc k x hx
      exact ⟨vs, hr, hcell⟩⟩
  · exact TrT.mono h2 fun b h => ⟨⟨h.1, h.2.1, Nat.le_refl _, h.2.2.1⟩, h.2.2.2⟩
theorem dsAll_mid (c : List Ly) (k : Nat) (h : k < c.length) : ((dsAll c).drop (dsAll (c.take k)).length).take ((dsAll (c.take (k + 1))).length - (dsAll (c.take k)).length) = c[k].ds := by
  conv => lhs; rw [dsAll_split c (k + 1)]
  rw [dsAll_step c k h]
  simp
theorem RowP.low {P : LyF} {lo lo' : Nat} {w : World} {v : Value} {ls : List Ly} (h : RowP P lo w v ls) (hl : lo' ≤ lo) : RowP P lo' w v ls := by
  obtain ⟨cs, h1, S, E, Vd, Vt, h2, h3⟩ := h
  exact ⟨cs, own_mono h1 hl, S, E, Vd, Vt, fun k l hk => by
    obtain ⟨g1, g2, ⟨g3, g4, g5⟩, g6, g7⟩ := h2 k l hk
    exact ⟨g1, g2, ⟨Nat.le_trans hl g3, g4, g5⟩, g6, g7⟩, h3⟩
theorem RowP.far {P : LyF} {lo : Nat} {w : World} {v : Value} {ls : List Ly} (h : RowP P lo w v ls) (hP : StayP P) (p : Addr) (u : Value) (hp : p.block < lo) : RowP P lo (w.setCell p u) v ls :=
  h.keep hP (by rw [size_setCell]; exact Nat.le_refl _) fun b hb _ => Below.heap_setCell w p u b (fun e => by omega)
set_option maxRecDepth 100000 in
set_option maxHeartbeats 16000000 in
theorem layers_any (lo p : Nat) (c : List Ly) (w : World) (h : StkE lo w p (dsAll c) (tsAll c) (msAll c)) (hc : okC c) :
    Calls Tryz.prog 96 #[.pointer (some ⟨p, 0, none⟩)] w fun e w' => ∃ A c', e = .returned (.slice A c.length c') ∧ RowP PP w.heap.size w' (.slice A c.length c') c ∧ Below w.heap.size w w' := by
  obtain ⟨hl, hds, hts, _, htm⟩ := hc
  obtain ⟨A1, A2, A3, c1, c2, c3, hS⟩ := h
  have HTM := Lib.hid (fun t ht => (htm t ht).imp fun _ h => h.1)
  have HML := Lib.hid (msAll_len c)
  have HMA := Lib.hid (msAll_at c)
  obtain ⟨mx, hmx⟩ : ∃ mx, mx = msAll c := ⟨_, rfl⟩
  rw [← hmx] at HML HMA hS
  obtain ⟨xs, hxs⟩ : ∃ xs, xs = dsAll c := ⟨_, rfl⟩
  rw [← hxs] at hds hS
  obtain ⟨ys, hys⟩ : ∃ ys, ys = tsAll c := ⟨_, rfl⟩
  rw [← hys] at hts hS HTM
  have HXS := Lib.hid hxs
  have HYS := Lib.hid hys
  clear hmx hxs hys htm
  have hml : mx.length ≤ 1048576 := by rw [HML.out]; exact hl
  have hal : Below w.heap.size w (w.alloc (.cells #[.int .i64 0, .int .i64 0] 90)) := (Below.refl _ _).alloc (Nat.le_refl _) _
  have hfb := heap_alloc_new w (.cells #[.int .i64 0, .int .i64 0] 90)
  have HSZ0 : Hid ((w.alloc (.cells #[.int .i64 0, .int .i64 0] 90)).heap.size = w.heap.size + 1) := Lib.hid (by simp)
  have v2 := (cell_of_block (hS.up hal).box 2).1
  have hplt := hS.lt
  have v2w := (cell_of_block hS.box 2).1
  have HS := Lib.hid hS
  have HAL := Lib.hid hal
  clear hS hal
  go_enter Tryz.func96, Tryz.ntmps96
  go_wp2
  generalize w.alloc (.cells #[.int .i64 0, .int .i64 0] 90) = W0 at *
  obtain ⟨f, hf⟩ : ∃ f, f = w.heap.size := ⟨_, rfl⟩
  have HF0 := Lib.hid hf
  rw [← hf] at hfb HSZ0 ⊢
  have HFB := Lib.hid hfb
  clear hf hfb v2 v2w hplt
  go_loopw [3, 12] (fun a i wr => ∃ (k : Nat) (rs : List Ly) (B : Option Addr) (b : Nat), k ≤ mx.length ∧ a = .slice B rs.length b ∧ i = .int .i64 k ∧ Hid (RowP PP (f + 1) wr (.slice B rs.length b) rs) ∧ Below w.heap.size w wr ∧ Hid (wr.heap[f]? = some (.cells #[.int .i64 ((dsAll (c.take k)).length : Nat), .int .i64 ((tsAll (c.take k)).length : Nat)] 90 (0, 0))) ∧ Hid (rs = c.take k)) (fun _ i _ => mx.length - (intOf i).toNat)
  case atStart => exact ⟨0, [], none, 0, Nat.zero_le _, rfl, rfl, Lib.hid (RowP.nil _ _ _), HAL.out, Lib.hid HFB.out, Lib.hid (by simp)⟩
  case round =>
    obtain ⟨k, rs, B, b, hk, rfl, rfl, HROW, hb, HFK, HX⟩ := hrel
    by_cases hlt : k < mx.length
    · have hkc : k < c.length := by rw [← HML.out]; exact hlt
      have hk1 : (k : Int) < mx.length := by omega
      have hSr := HS.out.up hb
      obtain ⟨ad, rfl, hf, m1, m2⟩ := Lay.Sl.at_mark (OwnL.rd hSr.ms) hlt
      rw [HMA.out k hlt] at m1 m2
      dsimp only at m1 m2
      have hn1 : (dsAll (c.take (k + 1))).length ≤ xs.length := by rw [HXS.out]; exact dsAll_le c (k + 1)
      have hn2 : (tsAll (c.take (k + 1))).length ≤ ys.length := by rw [HYS.out]; exact tsAll_le c (k + 1)
      have hn3 : (dsAll (c.take k)).length ≤ (dsAll (c.take (k + 1))).length := by rw [dsAll_step c k hkc, List.length_append]; omega
      have hn4 : (tsAll (c.take k)).length ≤ (tsAll (c.take (k + 1))).length := by rw [tsAll_step c k hkc, List.length_append]; omega
      have hdm := dsAll_mid c k hkc
      have htm := tsAll_mid c k hkc
      rw [← HXS.out] at hdm
      rw [← HYS.out] at htm
      have htl : c[k].ts.length ≤ 1048576 := by
        have h9 := tsAll_at c k hkc
        rw [← HYS.out] at h9
        omega
      have hdl : c[k].ds.length ≤ 1048576 := by
        have h9 := dsAll_at c k hkc
        rw [← HXS.out] at h9
        omega
      have HTK : Hid (∀ t ∈ c[k].ts, T.All okT2 t) := Lib.hid (fun t ht => HTM.out t (by rw [HYS.out]; exact List.mem_flatMap.2 ⟨c[k], List.getElem_mem hkc, ht⟩))
      obtain ⟨B9, c9, hsl, hmr, hmc⟩ := slice_lhR (t := 55) Tryz.underlying55 size_decl (OwnL.rd hSr.ds) (dsAll (c.take k)).length (dsAll (c.take (k + 1))).length hn3 hn1 (OwnL.capl hSr.ds)
      obtain ⟨B8, c8, hsl8, hmr8, hmc8⟩ := slice_lhR (t := 24) Tryz.underlying24 size_term (OwnL.rd hSr.ts) (tsAll (c.take k)).length (tsAll (c.take (k + 1))).length hn4 hn2 (OwnL.capl hSr.ts)
      rw [hdm] at hsl hmr hmc
      rw [htm] at hsl8 hmr8 hmc8
      obtain ⟨zs, hzs⟩ : ∃ zs, zs = rs ++ [c[k]] := ⟨_, rfl⟩
      have HZE : Hid (zs = c.take (k + 1)) := Lib.hid (by rw [hzs, HX.out, List.take_succ_eq_append_getElem hkc])
      have HZS := Lib.hid hzs
      have HRL : Hid (rs.length ≤ 1048576) := Lib.hid (by rw [HX.out, List.length_take]; omega)
      have hfk := HFK.out
      generalize hll : c[k] = l at *
      have HLL := Lib.hid hll
      generalize hq1 : (dsAll (c.take (k + 1))).length = nd at *
      have HQ1 := Lib.hid hq1
      generalize hq2 : (tsAll (c.take (k + 1))).length = nt at *
      have HQ2 := Lib.hid hq2
      generalize (dsAll (c.take k)).length = md at *
      generalize (tsAll (c.take k)).length = mt at *
      have hal : Below wr.heap.size wr (wr.alloc (.cells #[.int .i64 (nd : Int), .int .i64 (nt : Int)] 90)) := (Below.refl _ _).alloc (Nat.le_refl _) _
      have hbox := heap_alloc_new wr (.cells #[.int .i64 (nd : Int), .int .i64 (nt : Int)] 90)
      have hS2 := hSr.up hal
      have HFW := Lib.hid ((hal.block _ (lt_of_block hfk)).trans hfk)
      have HMR := Lib.hid (hmr.below hal (fun _ h => h))
      have HMR8 := Lib.hid (hmr8.below hal (fun _ h => h))
      have HWR := Lib.hid hal.size
      have HB2 := Lib.hid (bthen hb hal)
      have HRW := Lib.hid (HROW.out.up stay_PP hal)
      have HBX := Lib.hid hbox
      have HS2 := Lib.hid hS2
      have HSL := Lib.hid hsl
      have HSL8 := Lib.hid hsl8
      have d0 := Later.cell (cell_of_block hS2.box 0).1
      have d1 := Later.cell (cell_of_block hS2.box 1).1
      have x0 := Later.cell (cell_of_block HFW.out 0).1
      have x1 := Later.cell (cell_of_block HFW.out 1).1
      have y0 := Later.cell (cell_of_block HBX.out 0).1
      have y1 := Later.cell (cell_of_block HBX.out 1).1
      clear hzs hll hq1 hq2 hmr hmr8 hdm htm hal hbox hS2 hSr hsl hsl8 hfk HFK
      go_wp2
      generalize wr.alloc (.cells #[.int .i64 (nd : Int), .int .i64 (nt : Int)] 90) = W1 at *
      generalize hbx9 : wr.heap.size = bx at *
      have HBE := Lib.hid hbx9
      clear hbx9 m1 m2
      have hcp := Lib.hid (fun (z : World) (hz : Below W1.heap.size W1 z) => copyTerms_any l.ts HTK.out B8 c8 (fun b => b < bx) z (HMR8.out.below hz (fun b hb9 => Nat.lt_of_lt_of_le hb9 HWR.out)) (fun b hb9 => Nat.lt_of_lt_of_le hb9 (Nat.le_trans HWR.out hz.size)) htl)
      have hcl := Lib.hid (fun (z : World) (hz : Below W1.heap.size W1 z) => cloneDecls_any B9 c9 l.ds (fun b => b < bx) z (HMR.out.below hz (fun b hb9 => Nat.lt_of_lt_of_le hb9 HWR.out)) (fun b hb9 => Nat.lt_of_lt_of_le hb9 (Nat.le_trans HWR.out hz.size)) hdl)
      have HLO : Hid (f + 1 ≤ W1.heap.size) := Lib.hid (by have := lt_of_block HFW.out; omega)
      refine wp_region_shares3 [[], [], [(1, 17)], [(2, 18)], [(3, 19)], [], [(5, 21)], [], [(7, 23)], [(4, 20), (6, 22), (8, 24)], [(9, 25)], [], [(11, 27)], [(12, 28)], [(13, 29)], [], [(15, 31)], [], [(17, 33)], [(14, 30), (16, 32), (18, 34)], [(19, 35)], [(10, 26), (20, 36)], [(21, 37)], [(0, 16), (22, 38)], [(23, 39)]]
        [.eq (.slice B rs.length b), .eq (.pointer (some ⟨p, 0, none⟩)), .eq (.pointer (some ⟨p, 0, none⟩)), .eq (.pointer (some ⟨p, 0, none⟩)), .eq (.slice A1 xs.length c1), .eq (.pointer (some ⟨f, 0, none⟩)), .eq (.int .i64 (md : Int)), .eq (.pointer (some ⟨bx, 0, none⟩)), .eq (.int .i64 (nd : Int)), .eq (.slice B9 l.ds.length c9), Fact.declN W1 l.ds, .eq (.pointer (some ⟨p, 0, none⟩)), .eq (.pointer (some ⟨p, 0, none⟩)), .eq (.pointer (some ⟨p, 1, none⟩)), .eq (.slice A2 ys.length c2), .eq (.pointer (some ⟨f, 1, none⟩)), .eq (.int .i64 (mt : Int)), .eq (.pointer (some ⟨bx, 1, none⟩)), .eq (.int .i64 (nt : Int)), .eq (.slice B8 l.ts.length c8), Fact.termN W1 l.ts, Fact.lyV W1 l, Fact.lyL W1 l, Fact.rowL (f + 1) W1 (.slice B rs.length b) zs, Fact.rowL (f + 1) W1 (.slice B rs.length b) zs]
        [23] [23] [24] [24] [(0, 16), (1, 17), (2, 18), (3, 19), (4, 20), (5, 21), (6, 22), (7, 23), (8, 24), (9, 25), (10, 26), (11, 27), (12, 28), (13, 29), (14, 30), (15, 31), (16, 32), (17, 33), (18, 34), (19, 35), (20, 36), (21, 37), (22, 38), (23, 39), (24, 3)] (by kernel_rfl) (by kernel_rfl) (by kernel_rfl) (by kernel_rfl)
        ⟨?_, ?_, ?_, ?_, ?_, ?_, ?_, ?_, ?_, ?_, ?_, ?_, ?_, ?_, ?_, ?_, ?_, ?_, ?_, ?_, ?_, ?_, ?_, ?_, ?_, trivial⟩ ?_
      · intro vals z hC hF
        simp only [putsD, Act.put, List.setIfInBounds_toArray, List.set_cons_zero, List.set_cons_succ]
        go_wp2
        exact ⟨rfl, rfl, .inr (Below.refl _ _), .inr (.inl (by simp))⟩
      · intro vals z hC hF
        simp only [putsD, Act.put, List.setIfInBounds_toArray, List.set_cons_zero, List.set_cons_succ]
        go_wp2
        exact ⟨rfl, rfl, .inr (Below.refl _ _), .inr (.inl (by simp))⟩
      · intro vals z hC hF
        simp only [factsD, List.getD_cons_zero, List.getD_cons_succ, Fact.eq, Fact.row, Fact.lit, Fact.lit0, Fact.of, and_true, Fact.declN, Fact.termN, Fact.lyV, Fact.lyL, Fact.rowL] at hF
        simp only [putsD, Act.put, List.setIfInBounds_toArray, List.set_cons_zero, List.set_cons_succ]
        simp only [hF]
        go_wp2
        exact ⟨rfl, rfl, .inr (Below.refl _ _), .inr (.inl (by simp))⟩
      · intro vals z hC hF
        simp only [factsD, List.getD_cons_zero, List.getD_cons_succ, Fact.eq, Fact.row, Fact.lit, Fact.lit0, Fact.of, and_true, Fact.declN, Fact.termN, Fact.lyV, Fact.lyL, Fact.rowL] at hF
        simp only [putsD, Act.put, List.setIfInBounds_toArray, List.set_cons_zero, List.set_cons_succ]
        simp only [hF]
        go_wp2
        exact ⟨rfl, rfl, .inr (Below.refl _ _), .inr (.inl (by simp))⟩
      · intro vals z hC hF
        have hC := hC.resolve_left (by simp)
        have hsz := hC.size
        have e1 : z.cell? _ = _ := d0 ⟨z, hC⟩
        simp only [factsD, List.getD_cons_zero, List.getD_cons_succ, Fact.eq, Fact.row, Fact.lit, Fact.lit0, Fact.of, and_true, Fact.declN, Fact.termN, Fact.lyV, Fact.lyL, Fact.rowL] at hF
        simp only [putsD, Act.put, List.setIfInBounds_toArray, List.set_cons_zero, List.set_cons_succ]
        simp only [hF]
        go_wp2
        exact ⟨rfl, rfl, .inr (Below.refl _ _), .inr (.inl (by simp))⟩
      · intro vals z hC hF
        simp only [putsD, Act.put, List.setIfInBounds_toArray, List.set_cons_zero, List.set_cons_succ]
        go_wp2
        exact ⟨rfl, rfl, .inr (Below.refl _ _), .inr (.inl (by simp))⟩
      · intro vals z hC hF
        have hC := hC.resolve_left (by simp)
        have hsz := hC.size
        have e1 : z.cell? _ = _ := x0 ⟨z, hC⟩
        simp only [factsD, List.getD_cons_zero, List.getD_cons_succ, Fact.eq, Fact.row, Fact.lit, Fact.lit0, Fact.of, and_true, Fact.declN, Fact.termN, Fact.lyV, Fact.lyL, Fact.rowL] at hF
        simp only [putsD, Act.put, List.setIfInBounds_toArray, List.set_cons_zero, List.set_cons_succ]
        simp only [hF]
        go_wp2
        exact ⟨rfl, rfl, .inr (Below.refl _ _), .inr (.inl (by simp))⟩
      · intro vals z hC hF
        simp only [putsD, Act.put, List.setIfInBounds_toArray, List.set_cons_zero, List.set_cons_succ]
        go_wp2
        exact ⟨rfl, rfl, .inr (Below.refl _ _), .inr (.inl (by simp))⟩
      · intro vals z hC hF
        have hC := hC.resolve_left (by simp)
        have hsz := hC.size
        have e1 : z.cell? _ = _ := y0 ⟨z, hC⟩
        simp only [factsD, List.getD_cons_zero, List.getD_cons_succ, Fact.eq, Fact.row, Fact.lit, Fact.lit0, Fact.of, and_true, Fact.declN, Fact.termN, Fact.lyV, Fact.lyL, Fact.rowL] at hF
        simp only [putsD, Act.put, List.setIfInBounds_toArray, List.set_cons_zero, List.set_cons_succ]
        simp only [hF]
        go_wp2
        exact ⟨rfl, rfl, .inr (Below.refl _ _), .inr (.inl (by simp))⟩
      · intro vals z hC hF
        simp only [factsD, List.getD_cons_zero, List.getD_cons_succ, Fact.eq, Fact.row, Fact.lit, Fact.lit0, Fact.of, and_true, Fact.declN, Fact.termN, Fact.lyV, Fact.lyL, Fact.rowL] at hF
        obtain ⟨e1, e2, e3⟩ := hF
        have hsl := HSL.out
        simp only [putsD, Act.put, List.setIfInBounds_toArray, List.set_cons_zero, List.set_cons_succ]
        simp only [e1, e2, e3]
        go_wp2
        exact ⟨rfl, rfl, .inr (Below.refl _ _), .inr (.inl (by simp))⟩
      · intro vals z hC hF
        have hC := hC.resolve_left (by simp)
        have hsz := hC.size
        simp only [factsD, List.getD_cons_zero, List.getD_cons_succ, Fact.eq, Fact.row, Fact.lit, Fact.lit0, Fact.of, and_true, Fact.declN, Fact.termN, Fact.lyV, Fact.lyL, Fact.rowL] at hF
        have e1 := hF
        simp only [putsD, Act.put, List.setIfInBounds_toArray, List.set_cons_zero, List.set_cons_succ]
        simp only [e1]
        have HC9 := Lib.hid (hcl.out z hC)
        go_wp2_with fail
        refine HC9.out.mono ?_
        rintro e w9 ⟨A9, c9, rfl, ho9, hb9⟩
        have HO9 := Lib.hid (ho9.mono hsz)
        clear ho9
        go_wp2
        exact ⟨rfl, ⟨A9, c9, rfl, HO9.out⟩, .inr hb9, .inr (.inl (by simp))⟩
      · intro vals z hC hF
        simp only [putsD, Act.put, List.setIfInBounds_toArray, List.set_cons_zero, List.set_cons_succ]
        go_wp2
        exact ⟨rfl, rfl, .inr (Below.refl _ _), .inr (.inl (by simp))⟩
      · intro vals z hC hF
        simp only [factsD, List.getD_cons_zero, List.getD_cons_succ, Fact.eq, Fact.row, Fact.lit, Fact.lit0, Fact.of, and_true, Fact.declN, Fact.termN, Fact.lyV, Fact.lyL, Fact.rowL] at hF
        simp only [putsD, Act.put, List.setIfInBounds_toArray, List.set_cons_zero, List.set_cons_succ]
        simp only [hF]
        go_wp2
        exact ⟨rfl, rfl, .inr (Below.refl _ _), .inr (.inl (by simp))⟩
      · intro vals z hC hF
        simp only [factsD, List.getD_cons_zero, List.getD_cons_succ, Fact.eq, Fact.row, Fact.lit, Fact.lit0, Fact.of, and_true, Fact.declN, Fact.termN, Fact.lyV, Fact.lyL, Fact.rowL] at hF
        simp only [putsD, Act.put, List.setIfInBounds_toArray, List.set_cons_zero, List.set_cons_succ]
        simp only [hF]
        go_wp2
        exact ⟨rfl, rfl, .inr (Below.refl _ _), .inr (.inl (by simp))⟩
      · intro vals z hC hF
        have hC := hC.resolve_left (by simp)
        have hsz := hC.size
        have e1 : z.cell? _ = _ := d1 ⟨z, hC⟩
        simp only [factsD, List.getD_cons_zero, List.getD_cons_succ, Fact.eq, Fact.row, Fact.lit, Fact.lit0, Fact.of, and_true, Fact.declN, Fact.termN, Fact.lyV, Fact.lyL, Fact.rowL] at hF
        simp only [putsD, Act.put, List.setIfInBounds_toArray, List.set_cons_zero, List.set_cons_succ]
        simp only [hF]
        go_wp2
        exact ⟨rfl, rfl, .inr (Below.refl _ _), .inr (.inl (by simp))⟩
      · intro vals z hC hF
        simp only [putsD, Act.put, List.setIfInBounds_toArray, List.set_cons_zero, List.set_cons_succ]
        go_wp2
        exact ⟨rfl, rfl, .inr (Below.refl _ _), .inr (.inl (by simp))⟩
      · intro vals z hC hF
        have hC := hC.resolve_left (by simp)
        have hsz := hC.size
        have e1 : z.cell? _ = _ := x1 ⟨z, hC⟩
        simp only [factsD, List.getD_cons_zero, List.getD_cons_succ, Fact.eq, Fact.row, Fact.lit, Fact.lit0, Fact.of, and_true, Fact.declN, Fact.termN, Fact.lyV, Fact.lyL, Fact.rowL] at hF
        simp only [putsD, Act.put, List.setIfInBounds_toArray, List.set_cons_zero, List.set_cons_succ]
        simp only [hF]
        go_wp2
        exact ⟨rfl, rfl, .inr (Below.refl _ _), .inr (.inl (by simp))⟩
      · intro vals z hC hF
        simp only [putsD, Act.put, List.setIfInBounds_toArray, List.set_cons_zero, List.set_cons_succ]
        go_wp2
        exact ⟨rfl, rfl, .inr (Below.refl _ _), .inr (.inl (by simp))⟩
      · intro vals z hC hF
        have hC := hC.resolve_left (by simp)
        have hsz := hC.size
        have e1 : z.cell? _ = _ := y1 ⟨z, hC⟩
        simp only [factsD, List.getD_cons_zero, List.getD_cons_succ, Fact.eq, Fact.row, Fact.lit, Fact.lit0, Fact.of, and_true, Fact.declN, Fact.termN, Fact.lyV, Fact.lyL, Fact.rowL] at hF
        simp only [putsD, Act.put, List.setIfInBounds_toArray, List.set_cons_zero, List.set_cons_succ]
        simp only [hF]
        go_wp2
        exact ⟨rfl, rfl, .inr (Below.refl _ _), .inr (.inl (by simp))⟩
      · intro vals z hC hF
        simp only [factsD, List.getD_cons_zero, List.getD_cons_succ, Fact.eq, Fact.row, Fact.lit, Fact.lit0, Fact.of, and_true, Fact.declN, Fact.termN, Fact.lyV, Fact.lyL, Fact.rowL] at hF
        obtain ⟨e1, e2, e3⟩ := hF
        have hsl8 := HSL8.out
        simp only [putsD, Act.put, List.setIfInBounds_toArray, List.set_cons_zero, List.set_cons_succ]
        simp only [e1, e2, e3]
        go_wp2
        exact ⟨rfl, rfl, .inr (Below.refl _ _), .inr (.inl (by simp))⟩
      · intro vals z hC hF
        have hC := hC.resolve_left (by simp)
        have hsz := hC.size
        simp only [factsD, List.getD_cons_zero, List.getD_cons_succ, Fact.eq, Fact.row, Fact.lit, Fact.lit0, Fact.of, and_true, Fact.declN, Fact.termN, Fact.lyV, Fact.lyL, Fact.rowL] at hF
        have e1 := hF
        simp only [putsD, Act.put, List.setIfInBounds_toArray, List.set_cons_zero, List.set_cons_succ]
        simp only [e1]
        have HC9 := Lib.hid (hcp.out z hC)
        go_wp2_with fail
        refine HC9.out.mono ?_
        rintro e w9 ⟨A9, c9, rfl, hc9, ht9, hb9⟩
        have HT9 := Lib.hid (TrT.mono ht9 fun g hg => hg.le hsz)
        clear ht9
        go_wp2
        exact ⟨rfl, ⟨A9, c9, rfl, hc9, HT9.out⟩, .inr hb9, .inr (.inl (by simp))⟩
      · intro vals z hC hF
        have hC := hC.resolve_left (by simp)
        have hsz := hC.size
        simp only [factsD, List.getD_cons_zero, List.getD_cons_succ, Fact.eq, Fact.row, Fact.lit, Fact.lit0, Fact.of, and_true, Fact.declN, Fact.termN, Fact.lyV, Fact.lyL, Fact.rowL] at hF
        obtain ⟨⟨A9, c9, e1, ho9⟩, A8, c7, e2, hc7, ht9⟩ := hF
        have HPP := Lib.hid (pp_typed ho9 ht9 hc7)
        simp only [putsD, Act.put, List.setIfInBounds_toArray, List.set_cons_zero, List.set_cons_succ]
        simp only [e1, e2]
        clear ho9 ht9
        go_wp2
        exact ⟨rfl, ⟨_, _, rfl, rfl, rfl, z.heap.size, hsz, Nat.le_refl _, HPP.out⟩, .inr (Below.refl _ _), .inr (.inl (by simp))⟩
      · intro vals z hC hF
        have hC := hC.resolve_left (by simp)
        have hsz := hC.size
        simp only [factsD, List.getD_cons_zero, List.getD_cons_succ, Fact.eq, Fact.row, Fact.lit, Fact.lit0, Fact.of, and_true, Fact.declN, Fact.termN, Fact.lyV, Fact.lyL, Fact.rowL] at hF
        obtain ⟨vd, vt, e1, h1, h2, E, h3, h4, h5⟩ := hF
        have e1 : vals 21 = .agg #[vd, vt] := e1
        have HPP := Lib.hid h5
        simp only [putsD, Act.put, List.setIfInBounds_toArray, List.set_cons_zero, List.set_cons_succ]
        simp only [e1]
        clear h5
        have hal9 : Below z.heap.size z (z.alloc (.cells #[vd, vt] 58)) := (Below.refl _ _).alloc (Nat.le_refl _) _
        go_wp2
        exact ⟨rfl, ⟨_, vd, vt, rfl, heap_alloc_new _ _, h1, h2, E, h3, Nat.le_trans h4 hal9.size, stay_PP _ _ _ _ _ _ _ HPP.out hal9.size fun g _ h9 => hal9.block g (by omega)⟩, .inr hal9, .inr (.inl (by simp))⟩
      · intro vals z hC hF
        have hC := hC.resolve_left (by simp)
        have hsz := hC.size
        simp only [factsD, List.getD_cons_zero, List.getD_cons_succ, Fact.eq, Fact.row, Fact.lit, Fact.lit0, Fact.of, and_true, Fact.declN, Fact.termN, Fact.lyV, Fact.lyL, Fact.rowL] at hF
        obtain ⟨e5, b5, vd, vt, e7, hb5, h1, h2, E, h3, h4, h5⟩ := hF
        simp only [putsD, Act.put, List.setIfInBounds_toArray, List.set_cons_zero, List.set_cons_succ]
        simp only [e5, e7]
        refine wpList_append_layer stay_PP (ys := zs) (S0 := W1.heap.size) (E0 := E) (l := l) (lo := f + 1) (vd := vd) (vt := vt) (by rfl) (.tmp 16) (.tmp 38) (by rfl) (by rfl) (by rfl) HLO.out HRL.out h5 h3 h4 h1 h2 hb5 ⟨W1, Nat.le_refl _, hC, HRW.out⟩ HZS.out ?_
        intro A8 c8 w8 hown8 hg8
        exact ⟨rfl, ⟨A8, c8, rfl, hown8, below_grown hC hg8⟩, .inl (by simp), .inl (by simp)⟩
      · intro vals z hC hF
        simp only [factsD, List.getD_cons_zero, List.getD_cons_succ, Fact.eq, Fact.row, Fact.lit, Fact.lit0, Fact.of, and_true, Fact.declN, Fact.termN, Fact.lyV, Fact.lyL, Fact.rowL] at hF
        obtain ⟨A9, c9, e1, h1, h2⟩ := hF
        simp only [putsD, Act.put, List.setIfInBounds_toArray, List.set_cons_zero, List.set_cons_succ]
        simp only [e1]
        go_wp2
        exact ⟨rfl, ⟨A9, c9, rfl, h1, h2⟩, .inr (Below.refl _ _), .inr (.inl (by simp))⟩
      · intro vals z hF
        simp only [facts, List.getD_cons_zero, List.getD_cons_succ, Fact.eq, Fact.row, Fact.lit, Fact.lit0, Fact.of, and_true, Fact.declN, Fact.termN, Fact.lyV, Fact.lyL, Fact.rowL] at hF
        obtain ⟨A9, c9, e1, h1, h2⟩ := hF
        simp only [putsD, Act.put, List.setIfInBounds_toArray, List.set_cons_zero, List.set_cons_succ]
        simp only [e1]
        have hnf : (Value.slice B rs.length b).ownBlock ≠ some f := fun e => by have := (HRW.out.lt f e).1; omega
        have hfz := (h2.block f (lt_of_block HFW.out) (fun e => hnf e.symm)).trans HFW.out
        have hnb : (Value.slice B rs.length b).ownBlock ≠ some bx := fun e => by have := (HROW.out.lt bx e).2; have := HBE.out; omega
        have hbz := (h2.block bx (lt_of_block HBX.out) (fun e => hnb e.symm)).trans HBX.out
        have q0 := (cell_of_block hbz 0).1
        have q1 := (cell_of_block hbz 1).1
        have r0 := (cell_of_block hfz 0).1
        have r1 := (cell_of_block hfz 1).1
        have f0 := (cell_of_block hfz 0).2
        have f1 := (cell_of_block hfz 1).2
        have s0 := heap_set_same z f 0 (.int .i64 (nd : Int)) _ _ hfz
        have s1 := heap_set_same _ f 1 (.int .i64 (nt : Int)) _ _ s0
        have HS1 := Lib.hid s1
        have HNR := Lib.hid ((h1.far stay_PP ⟨f, 0, none⟩ (.int .i64 (nd : Int)) (Nat.lt_succ_self f)).far stay_PP ⟨f, 1, none⟩ (.int .i64 (nt : Int)) (Nat.lt_succ_self f))
        have HBZ := Lib.hid (below_set9 (p := ⟨f, 1, none⟩) (below_set9 (p := ⟨f, 0, none⟩) (HB2.out.grown h2 (Nat.le_trans HB2.out.size (Nat.le_refl _)) (fun g e => by have := (HRW.out.lt g e).1; have := HF0.out; omega)) (Nat.le_of_eq HF0.out.symm) (.int .i64 (nd : Int))) (Nat.le_of_eq HF0.out.symm) (.int .i64 (nt : Int)))
        clear h1 h2 s0 s1 hfz hbz d0 d1 x0 x1 y0 y1 hnf hnb e1
        go_wp2
        go_roundw
        case rel => exact ⟨k + 1, zs, A9, c9, by omega, rfl, by go_num, HNR, HBZ.out, Lib.hid (by rw [HQ1.out, HQ2.out]; exact HS1.out), HZE⟩
        case measure => simp [intOf]; omega
    · have hke : k = mx.length := by omega
      subst hke
      have HE : Hid (rs = c) := Lib.hid (by rw [HX.out, HML.out, List.take_length])
      go_wp2
      go_ret
      rw [← HE.out]
      exact ⟨_, _, rfl, HROW.out.low (by rw [← HF0.out]; omega), hb⟩
end Go.Proofs.YtiahmfpfimmbgaaGreatDoor

/-! The program's closure of CtxName. -/
namespace Go.Proofs.YtiahmfpfimmbgaaGreatDoor
open Go Go.RowKit

theorem last_set {α : Type} (mx : List α) (m m' : α) : (mx ++ [m]).set mx.length m' = mx ++ [m'] := by rw [List.set_append_right _ _ (Nat.le_refl _), Nat.sub_self]; rfl
theorem last_at {α : Type} (mx : List α) (m : α) (h : mx.length < (mx ++ [m]).length) : (mx ++ [m])[mx.length] = m := by rw [List.getElem_append_right (Nat.le_refl _)]; simp
theorem decl_src {w : World} {b : Nat} {d : D} {fr : Nat × Nat} (h : w.heap[b]? = some (.cells #[.string d.name, .int .i64 d.wide] 39 fr)) : Src w Lay.decl.size (some ⟨b, 0, none⟩) [d].length [.string d.name, .int .i64 d.wide] := src_block h rfl
set_option maxRecDepth 100000 in
set_option maxHeartbeats 8000000 in
theorem chgName_any (lo p bd : Nat) (d : D) (ds : List D) (ts : List T) (mx : List (Int × Int)) (a b : Int) (w : World) (h : StkE lo w p ds ts (mx ++ [(a, b)])) (hbd : w.heap[bd]? = some (.cells #[.string d.name, .int .i64 d.wide] 39 (0, 0))) (hds : ds.length ≤ 1048576) (hmx : mx.length ≤ 1048576) (ha0 : 0 ≤ a) (ha1 : a ≤ 1048576) :
    Calls Tryz.prog 64 #[.pointer (some ⟨p, 0, none⟩), .pointer (some ⟨bd, 0, none⟩)] w fun e w' => e = .returned (.tuple #[]) ∧ StkE lo w' p (ds ++ [d]) ts (mx ++ [(a + 1, b)]) ∧ Below lo w w' := by
  obtain ⟨ys, hys⟩ : ∃ ys, ys = ds ++ [d] := ⟨_, rfl⟩
  rw [← hys]
  have HY := Lib.hid hys
  obtain ⟨ms, hms⟩ : ∃ ms, ms = mx ++ [(a, b)] := ⟨_, rfl⟩
  rw [← hms] at h
  have HMS := Lib.hid hms
  obtain ⟨A1, A2, A3, c1, c2, c3, h⟩ := h
  have HST := Lib.hid h
  have d0 := Later.cell (cell_of_block h.box 0).1
  have q0 := Later.cell (cell_of_block hbd 0).1
  have q1 := Later.cell (cell_of_block hbd 1).1
  have hloW := h.loW
  obtain ⟨i0, hi0, hz0, hz1, hz2⟩ := info_parts decl_info
  have HI := Lib.hid (And.intro hi0 (And.intro hz0 (And.intro hz1 hz2)))
  clear hys hms h hi0 hz0 hz1 hz2 hbd
  go_enter Tryz.func64, Tryz.ntmps64
  go_wp2
  refine wp_region_shares [[], [], [(1, 4)], [(2, 5)], [(3, 6)], [], [(5, 8)], [(4, 7), (6, 9)], [(0, 3)], [(8, 11)], [(9, 12), (7, 10)]]
    [.eq (.pointer (some ⟨p, 0, none⟩)), .eq (.pointer (some ⟨p, 0, none⟩)), .eq (.pointer (some ⟨p, 0, none⟩)), .eq (.pointer (some ⟨p, 0, none⟩)), .eq (.slice A1 ds.length c1), .eq (.agg #[.string d.name, .int .i64 d.wide]), .lit 39 1 #[.string d.name, .int .i64 d.wide], Fact.rows Lay.decl 39 lo w (.slice A1 ds.length c1) ys, .eq (.pointer (some ⟨p, 0, none⟩)), .eq (.pointer (some ⟨p, 0, none⟩)), Fact.stk lo w p ys ts ms]
    [7, 10] [7, 10] [0, 8, 9, 10] [10] [(0, 3), (1, 4), (2, 5), (3, 6), (4, 7), (5, 8), (6, 9), (7, 10), (8, 11), (9, 12)] (by kernel_rfl) (by kernel_rfl) (by kernel_rfl) (by kernel_rfl)
    ⟨?_, ?_, ?_, ?_, ?_, ?_, ?_, ?_, ?_, ?_, ?_, trivial⟩ ?_
  · intro vals z hC hF
    simp only [putsD, Act.put, List.setIfInBounds_toArray, List.set_cons_zero, List.set_cons_succ]
    go_wp2
    exact ⟨rfl, rfl, .inr (Below.refl _ _), .inr (.inl (by simp))⟩
  · intro vals z hC hF
    simp only [putsD, Act.put, List.setIfInBounds_toArray, List.set_cons_zero, List.set_cons_succ]
    go_wp2
    exact ⟨rfl, rfl, .inr (Below.refl _ _), .inr (.inl (by simp))⟩
  · intro vals z hC hF
    simp only [factsD, List.getD_cons_zero, List.getD_cons_succ, Fact.eq, Fact.row, Fact.lit, Fact.lit0, Fact.of, and_true, Fact.rows, Fact.stk] at hF
    simp only [putsD, Act.put, List.setIfInBounds_toArray, List.set_cons_zero, List.set_cons_succ]
    simp only [hF]
    go_wp2
    exact ⟨rfl, rfl, .inr (Below.refl _ _), .inr (.inl (by simp))⟩
  · intro vals z hC hF
    simp only [factsD, List.getD_cons_zero, List.getD_cons_succ, Fact.eq, Fact.row, Fact.lit, Fact.lit0, Fact.of, and_true, Fact.rows, Fact.stk] at hF
    simp only [putsD, Act.put, List.setIfInBounds_toArray, List.set_cons_zero, List.set_cons_succ]
    simp only [hF]
    go_wp2
    exact ⟨rfl, rfl, .inr (Below.refl _ _), .inr (.inl (by simp))⟩
  · intro vals z hC hF
    have hC := hC.resolve_left (by simp)
    have hsz := hC.size
    have e1 : z.cell? _ = _ := d0 ⟨z, hC⟩
    simp only [factsD, List.getD_cons_zero, List.getD_cons_succ, Fact.eq, Fact.row, Fact.lit, Fact.lit0, Fact.of, and_true, Fact.rows, Fact.stk] at hF
    simp only [putsD, Act.put, List.setIfInBounds_toArray, List.set_cons_zero, List.set_cons_succ]
    simp only [hF]
    go_wp2
    exact ⟨rfl, rfl, .inr (Below.refl _ _), .inr (.inl (by simp))⟩
  · intro vals z hC hF
    have hC := hC.resolve_left (by simp)
    have hsz := hC.size
    have e1 : z.cell? _ = _ := q0 ⟨z, hC⟩
    have e2 : z.cell? _ = _ := q1 ⟨z, hC⟩
    simp only [putsD, Act.put, List.setIfInBounds_toArray, List.set_cons_zero, List.set_cons_succ]
    go_wp2
    exact ⟨rfl, rfl, .inr (Below.refl _ _), .inr (.inl (by simp))⟩
  · intro vals z hC hF
    have hC := hC.resolve_left (by simp)
    have hsz := hC.size
    simp only [factsD, List.getD_cons_zero, List.getD_cons_succ, Fact.eq, Fact.row, Fact.lit, Fact.lit0, Fact.of, and_true, Fact.rows, Fact.stk] at hF
    simp only [putsD, Act.put, List.setIfInBounds_toArray, List.set_cons_zero, List.set_cons_succ]
    simp only [hF]
    go_wp2
    exact ⟨rfl, ⟨_, rfl, by simp, _, heap_alloc_new _ _⟩, .inr ((Below.refl _ _).alloc (Nat.le_refl _) _), .inr (.inl (by simp))⟩
  · intro vals z hC hF
    have hC := hC.resolve_left (by simp)
    have hsz := hC.size
    simp only [factsD, List.getD_cons_zero, List.getD_cons_succ, Fact.eq, Fact.row, Fact.lit, Fact.lit0, Fact.of, and_true, Fact.rows, Fact.stk] at hF
    obtain ⟨e5, b5, e7, hlt5, fr5, hb5⟩ := hF
    have HS9 := HST.out.up hC
    simp only [putsD, Act.put, List.setIfInBounds_toArray, List.set_cons_zero, List.set_cons_succ]
    simp only [e5, e7]
    refine wpList_append_rowsS (L := Lay.decl) (Q := fun _ b => b < lo) (G := fun _ => False) (ys := ys) (zs := [d]) (by rfl) (.tmp 7) (.tmp 9) (by rfl) Tryz.underlying55 HI.out.1 HI.out.2.1 HI.out.2.2.1 HI.out.2.2.2 rfl (by show 0 < 2; omega) (by rfl) (by rfl) HS9.ds (stay_lt lo) (decl_src hb5) (by intro u hu; simp at hu; rcases hu with rfl | rfl <;> rfl) ?_ (fun e => by cases e) (fun b hb => hb.elim) (by omega) (by show 1 ≤ 2000000; omega) (by omega) (Nat.le_trans hloW hsz) HY.out ?_
    · intro i x hx
      rcases i with _ | i
      · simp at hx; subst hx; exact ⟨_, rfl, fun j u hu => by rw [Nat.zero_mul, Nat.zero_add]; exact hu⟩
      · simp at hx
    intro A9 c9 w9 hown9 hg9 hbk9
    exact ⟨rfl, ⟨A9, c9, rfl, hown9, below_grown hC hg9⟩, .inl (by simp), .inl (by simp)⟩
  · intro vals z hC hF
    simp only [factsD, List.getD_cons_zero, List.getD_cons_succ, Fact.eq, Fact.row, Fact.lit, Fact.lit0, Fact.of, and_true, Fact.rows, Fact.stk] at hF
    simp only [putsD, Act.put, List.setIfInBounds_toArray, List.set_cons_zero, List.set_cons_succ]
    simp only [hF]
    go_wp2
    exact ⟨rfl, rfl, .inr (Below.refl _ _), .inr (.inl (by simp))⟩
  · intro vals z hC hF
    simp only [factsD, List.getD_cons_zero, List.getD_cons_succ, Fact.eq, Fact.row, Fact.lit, Fact.lit0, Fact.of, and_true, Fact.rows, Fact.stk] at hF
    simp only [putsD, Act.put, List.setIfInBounds_toArray, List.set_cons_zero, List.set_cons_succ]
    simp only [hF]
    go_wp2
    exact ⟨rfl, rfl, .inr (Below.refl _ _), .inr (.inl (by simp))⟩
  · intro vals z hC hF
    simp only [factsD, List.getD_cons_zero, List.getD_cons_succ, Fact.eq, Fact.row, Fact.lit, Fact.lit0, Fact.of, and_true, Fact.rows, Fact.stk] at hF
    obtain ⟨e11, A9, c9, e8, hown9, hg9⟩ := hF
    have hpx := (hg9.block p HST.out.lt (fun e => HST.out.ds.ne2 HST.out.box neSD e.symm)).trans HST.out.box
    have x1 := (cell_of_block hpx 0).1
    have x2 := (cell_of_block hpx 0).2
    have HSM := Lib.hid (HST.out.setD hg9 hown9)
    have HBL := Lib.hid (below_grow_set (p := p) (o := 0) (u := .slice A9 ys.length c9) (Below.refl lo w) hg9 hloW (fun b hb => (HST.out.ds.lt b hb).1) HST.out.lop)
    simp only [putsD, Act.put, List.setIfInBounds_toArray, List.set_cons_zero, List.set_cons_succ]
    simp only [e11, e8]
    go_wp2
    exact ⟨rfl, ⟨⟨_, _, _, _, _, _, HSM.out⟩, HBL.out, by rw [size_setCell]; exact Nat.le_trans hloW hg9.size⟩, .inl (by simp), .inl (by simp)⟩
  · intro vals z hF
    simp only [facts, List.getD_cons_zero, List.getD_cons_succ, Fact.eq, Fact.row, Fact.lit, Fact.lit0, Fact.of, and_true, Fact.rows, Fact.stk] at hF
    obtain ⟨hS9, hB9, _⟩ := hF
    simp only [putsD, Act.put, List.setIfInBounds_toArray, List.set_cons_zero, List.set_cons_succ]
    obtain ⟨B1, B2, B3, b1, b2, b3, hS⟩ := hS9
    have hml : ms.length = mx.length + 1 := by rw [HMS.out]; simp
    obtain ⟨g, rfl⟩ := hS.ms.first (by omega)
    have HL := Lib.hid (last_any lo p g mx.length ys ts ms B1 B2 b1 b2 b3 z hS hml hmx)
    have HSS := Lib.hid hS
    have HBB := Lib.hid hB9
    have HML := Lib.hid hml
    clear hS hB9 hml d0 q0 q1
    go_wp2_with fail
    refine HL.out.mono ?_
    rintro e w2 ⟨rfl, hb2⟩
    have hS2 := HSS.out.up hb2
    obtain ⟨m1, m2, mf⟩ := hS2.ms.atMark (k := mx.length) (by rw [HML.out]; omega)
    have hat : ms[mx.length]'(by rw [HML.out]; omega) = (a, b) := by simp only [HMS.out]; exact last_at mx (a, b) _
    rw [hat] at m1 m2
    dsimp only at m1 m2
    have f9 := mf (mx.length * 2)
    have HPM := Lib.hid (hS2.putM (k := mx.length) (j := 0) (m := (a + 1, b)) (v := a + 1) (by rw [HML.out]; omega) (by omega) (by rw [hat]; rfl))
    have HBN := Lib.hid (below_set9 (p := ⟨g, mx.length * 2 + 0, none⟩) (HBB.out.trans (hb2.mono HSS.out.loW)) (hS2.ms.lt g rfl).1 (.int .i64 (a + 1)))
    clear hat mf hS2 hb2
    go_wp2
    go_returns
    refine ⟨rfl, ?_, HBN.out⟩
    have hE := HPM.out
    rw [show ms.set mx.length (a + 1, b) = mx ++ [(a + 1, b)] from by rw [HMS.out]; exact last_set mx _ _] at hE
    exact ⟨_, _, _, _, _, _, hE⟩
end Go.Proofs.YtiahmfpfimmbgaaGreatDoor
