/- The program's BitsBin, whatever its operation makes. -/
import Derived.RangeFuncNested
import Derived.RangeFuncBound
import Derived.RangeFuncCalls
import Derived.RangeFuncLeaves
import Derived.Shelf.Abstract
import Derived.Shelf.RegionOpen
import Derived.OwnWalkIn
import Derived.TacticsInMore
import Derived.LoopNIn
import Derived.LoopIn
import Derived.Test.YtjghcaghigebjaaGreatDoorJFnBitsAgain0
import Derived.Test.YtjghcaghigebjaaGreatDoorJFnBitsAgain3
import Derived.Test.YtjghcaghigebjaaGreatDoorJFnBitsAgain4
import Derived.Test.YtjghcaghigebjaaGreatDoorJFnBitsAgain6
import Derived.Test.YtjghcaghigebjaaGreatDoorJFnBitsAgain7
namespace Go.Proofs.YtjghcaghigebjaaGreatDoor
open Go Go.RowKit
theorem RdI.st {w x y : World} {S : Nat → Prop} {A : Option Addr} {l : List Int} (h : RdI w x S A l) (hR : x.grownBy y (some w.heap.size)) : RdI w y S A l := h.kept ((Kept.refl _ _).grown hR)
def LTup (F S : Nat → Prop) (w : World) (m : (N × Bool) × List Int) (v : Value) (z : World) : Prop := ∃ A2 c2 B2 d2, v = .tuple #[.agg #[.int .i64 m.1.1.ins, .slice A2 m.1.1.gs.length c2, .bool m.1.2], .slice B2 m.2.length d2] ∧ (A2 = none → m.1.1.gs.length = 0) ∧ Lay.gate.Sl z (G2 F w z S) A2 m.1.1.gs ∧ w.heap.size ≤ z.heap.size ∧ m.2.length ≤ d2 ∧ RdI w z S B2 m.2
theorem LTup.up {F S : Nat → Prop} {w x y : World} {m : (N × Bool) × List Int} {v : Value} (hF : ∀ b, F b → b < w.heap.size) (h : LTup F S w m v x) (hb : Below x.heap.size x y) : LTup F S w m v y := by
 obtain ⟨A2, c2, B2, d2, h1, h2, h3, h4, h5, h6⟩ := h
 exact ⟨A2, c2, B2, d2, h1, h2, G2.up2 h3 (fun b hb => Nat.lt_of_lt_of_le (hF b hb) h4) hb, Nat.le_trans h4 hb.size, h5, h6.up hb⟩
theorem LTup.st {F S : Nat → Prop} {w x y : World} {m : (N × Bool) × List Int} {v : Value} (hF : ∀ b, F b → b < w.heap.size) (h : LTup F S w m v x) (hR : x.grownBy y (some w.heap.size)) : LTup F S w m v y := by
 obtain ⟨A2, c2, B2, d2, h1, h2, h3, h4, h5, h6⟩ := h
 exact ⟨A2, c2, B2, d2, h1, h2, g2_stS hF h3 h4 hR, Nat.le_trans h4 hR.size, h5, h6.st hR⟩
def LRow (S : Nat → Prop) (w : World) (l : List Int) (v : Value) (z : World) : Prop := ∃ B2 d2, v = .slice B2 l.length d2 ∧ l.length ≤ d2 ∧ RdI w z S B2 l
theorem LRow.up {S : Nat → Prop} {w x y : World} {l : List Int} {v : Value} (h : LRow S w l v x) (hb : Below x.heap.size x y) : LRow S w l v y := by
 obtain ⟨B2, d2, h1, h2, h3⟩ := h; exact ⟨B2, d2, h1, h2, h3.up hb⟩
theorem LRow.st {S : Nat → Prop} {w x y : World} {l : List Int} {v : Value} (h : LRow S w l v x) (hR : x.grownBy y (some w.heap.size)) : LRow S w l v y := by
 obtain ⟨B2, d2, h1, h2, h3⟩ := h; exact ⟨B2, d2, h1, h2, h3.st hR⟩
theorem AddI.put {F : Nat → Prop} {w x : World} {k : N × Bool} {A : Option Addr} {c d g : Nat} {l l2 : List Int} (h : AddI F w x k A c (some ⟨g, 0, none⟩) d l) (hF : ∀ b, F b → b < w.heap.size) (a : Nat) (v : Int) (hl : l2 = l.set a v) : AddI F w (x.setCell ⟨g, a, none⟩ (.int .i64 v)) k A c (some ⟨g, 0, none⟩) d l2 := by
 have h2 := own_set9 (k := a) h.own v
 have hg : x.grownBy (x.setCell ⟨g, a, none⟩ (.int .i64 v)) (some g) := z02 (World.grownBy.refl _ _) _ _
 refine ⟨h.ks.grown (v' := .slice (some ⟨g, 0, none⟩) l2.length d) hF hg (fun b e => (h.own.lt b e).1) (.inl rfl), ?_⟩
 rw [hl, List.length_set]; exact h2
theorem RdI.put {w x : World} {A : Option Addr} {l : List Int} {g n d : Nat} (h : RdI w x (fun b => (Value.slice (some ⟨g, 0, none⟩) n d).ownBlock = some b) A l) (a : Nat) (v : Value) (n' : Nat) : RdI w (x.setCell ⟨g, a, none⟩ v) (fun b => (Value.slice (some ⟨g, 0, none⟩) n' d).ownBlock = some b) A l :=
 RdI.grown (v := .slice (some ⟨g, 0, none⟩) n d) (v' := .slice (some ⟨g, 0, none⟩) n' d) h (z02 (World.grownBy.refl _ _) _ _) (.inl rfl)
theorem int_lit1 (W : World) (m : Int) : OwnI (W.alloc (.cells #[.int .i64 m] 3)) W.heap.size (.slice (some ⟨W.heap.size, 0, none⟩) 1 1) [m] := World.ownsRow_lit W #[.int .i64 m] 1 (Nat.le_refl _) (by unfold maxLen; omega) (by simp)
def RetKLL (F : Nat → Prop) (w : World) (res : (N × Bool) × (List Int × List Int)) (e : Ending) (w' : World) : Prop :=
 ∃ A c B d B' d', e = .returned (.tuple #[.agg #[.int .i64 res.1.1.ins, .slice A res.1.1.gs.length c, .bool res.1.2], .slice B res.2.1.length d, .slice B' res.2.2.length d']) ∧ (A = none → res.1.1.gs.length = 0) ∧ Lay.gate.Sl w' (fun b => F b ∨ (w.heap.size ≤ b ∧ b < w'.heap.size)) A res.1.1.gs ∧ res.2.1.length ≤ d ∧ res.2.2.length ≤ d' ∧ Lay.int.Sl w' (fun b => w.heap.size ≤ b ∧ b < w'.heap.size) B res.2.1 ∧ Lay.int.Sl w' (fun b => w.heap.size ≤ b ∧ b < w'.heap.size) B' res.2.2 ∧ (∀ m ∈ res.2.1, RB m) ∧ (∀ m ∈ res.2.2, RB m) ∧ Below w.heap.size w w'
theorem run_div {σ : Type} {o : Ops σ} (xs wide : List Int) (a : Nat) (x : Int) (q r : List Int) (k : σ) (hx : xs[a]? = some x) :
  run o (divP xs wide (a + 1) q r) k = (let l := run o (lessP (x :: r) wide (-1)) k; let u := run o (sumP (x :: r) (wide.map Neg.neg) 1) l.1; let r' := run o (eachP (muxP l.2) ((x :: r).take xs.length) (u.2.take xs.length)) u.1; run o (divP xs wide a (q.set a (-l.2)) r'.2) r'.1) := by
 have e : xs.getD a 0 = x := by rw [List.getD_eq_getElem?_getD, hx]; rfl
 simp only [divP, run_bind, e]
set_option maxRecDepth 100000 in
set_option maxHeartbeats 8000000 in
theorem l7Div_any (F : Nat → Prop) (A : Option Addr) (c : Nat) (k : N × Bool) (X Y : Option Addr) (cx cy : Nat) (xs ys : List Int) (w : World) (h : Lay.gate.Sl w F A k.1.gs) (hF : ∀ b, F b → b < w.heap.size) (hA : A = none → k.1.gs.length = 0) (hnb : NB k.1) (hX : Lay.int.Rd w X xs) (hY : Lay.int.Rd w Y ys) (hxm : ∀ x ∈ xs, RB x) (hym : ∀ y ∈ ys, RB y) (hl : xs.length = ys.length) (hn : xs.length ≤ 8) :
  Calls Tryz.prog 107 #[.agg #[.int .i64 k.1.ins, .slice A k.1.gs.length c, .bool k.2], .slice X xs.length cx, .slice Y ys.length cy] w (RetKLL F w (run opsR (divP xs (ys ++ [-1]) xs.length (List.replicate xs.length (-1)) (List.replicate xs.length (-1))) k)) := by
 obtain ⟨s0, hs0⟩ : ∃ s0, s0 = List.replicate xs.length (-1 : Int) := ⟨_, rfl⟩
 rw [← hs0]
 have HS0L : Hid (s0.length = xs.length) := zH (by rw [hs0]; simp)
 have HS0M : Hid (∀ m ∈ s0, RB m) := zH fun m hm => by rw [hs0] at hm; rw [List.eq_of_mem_replicate hm]; exact bok_rb.off
 obtain ⟨wd, hwd⟩ : ∃ wd, wd = ys ++ [(-1 : Int)] := ⟨_, rfl⟩
 rw [← hwd]
 have HWD := zH hwd
 have HWL : Hid (wd.length = xs.length + 1) := zH (by rw [hwd, List.length_append, hl]; rfl)
 have HWM : Hid (∀ m ∈ wd, RB m) := zH fun m hm => by
  rw [hwd] at hm
  rcases List.mem_append.1 hm with hm | hm
  · exact hym m hm
  · rw [List.mem_singleton.1 hm]; exact bok_rb.off
 obtain ⟨nw, hnw⟩ : ∃ nw, nw = wd.map Neg.neg := ⟨_, rfl⟩
 have HNW := zH hnw
 have HNL : Hid (nw.length = xs.length + 1) := zH (by rw [hnw, List.length_map]; exact HWL.out)
 have HNM : Hid (∀ m ∈ nw, RB m) := zH fun m hm => by
  rw [hnw] at hm
  obtain ⟨z, hz, rfl⟩ := List.mem_map.1 hm
  exact (HWM.out z hz).neg
 obtain ⟨T, hT⟩ : ∃ T, T = run opsR (divP xs wd xs.length s0 s0) k := ⟨_, rfl⟩
 rw [← hT]
 have HT := zH hT
 have K0 := KS.two (c := c) h hF hA
 have HF := zH hF
 have HNB := zH hnb
 have HX := zH hX
 have HY := zH hY
 have HXM := zH hxm
 have HL := zH hl
 have HYN := zH (rd_nil hY)
 have hn' : ys.length ≤ 8 := by omega
 have K0 := zH K0
 have hX0s : ((w.alloc (.cells #[.int .i64 k.1.ins, .slice A k.1.gs.length c, .bool k.2] 95)).alloc (.cells #[.int .i64 0, .slice none 0 0, .bool false] 95)).heap.size = w.heap.size + 2 := by simp
 have HX0S := zH hX0s
 have HFL : Hid (∀ z, Calls Tryz.prog 135 #[.int .i64 (-1), .int .i64 (xs.length : Int)] z (RetOI s0 z)) := zH fun z => by rw [hs0]; exact l7FillO_any (-1) xs.length z (by omega)
 clear h hA hnb hX hY hxm hym hT hX0s hl hs0 hwd hnw
 go_enter Tryz.func107, Tryz.ntmps107
 go_wp2_with fail
 refine (HFL.out _).mono ?_
 generalize hX0 : (w.alloc (.cells #[.int .i64 k.1.ins, .slice A k.1.gs.length c, .bool k.2] 95)).alloc (.cells #[.int .i64 0, .slice none 0 0, .bool false] 95) = X0 at *
 clear hX0
 rintro e w3 ⟨X2, d2, rfl, ho3, hb3⟩
 have HO3 := zH ho3
 have HB3 := zH hb3
 clear ho3 hb3
 go_wp2_with fail
 refine (HFL.out _).mono ?_
 rintro e w4 ⟨B, d, rfl, ho4, hb4⟩
 have HO4 := zH ho4
 have HB4 := zH hb4
 clear ho4 hb4 HFL
 have hal : Below w4.heap.size w4 (w4.alloc (.cells #[] 3)) := (Below.refl _ _).alloc (Nat.le_refl _) _
 have hown0 : OwnI (w4.alloc (.cells #[] 3)) w4.heap.size (.slice (some ⟨w4.heap.size, 0, none⟩) ([] : List Int).length 0) [] := own_lit0I w4
 have HAL := zH hal
 have HB04 : Hid (Below X0.heap.size X0 w4) := zH (bthen HB3.out HB4.out)
 have hYr := HY.out.up (bthen (bthen K0.out.bel HB04.out) hal)
 clear hal
 go_wp2_with (at_builtin; first
  | refine wpList_append_intsO (zs := ys) (by rfl) (.tmp 23) (.tmp 24) (by rfl) (by rfl) (by rfl) hown0 hYr HYN.out (by simp; omega) (by simp) (by simp) ?_; intro X5 d5 w5 ho5 hb5 hg5; have HO5 := zH ho5; have HB5 := zH hb5; have hs45 : w4.heap.size ≤ w5.heap.size := (HAL.out.trans HB5.out).size; clear ho5 hb5 hg5 hown0 hYr
  | refine z08 (ys := wd) (by rfl) (.tmp 25) (.tmp 26) (by rfl) (by rfl) (by rfl) HO5.out (by omega) hs45 HWD.out ?_; intro X6 d6 w6 ho6 hg6 hbk6; have HO6 := zH ho6; have HG6 := zH hg6; clear ho6 hg6 hbk6)
 have hb46 : Below w4.heap.size w4 w6 := (HAL.out.trans HB5.out).grown HG6.out hs45 fun g e => (HO5.out.lt g e).1
 have K6 : Hid (AddI F w w6 k A c B d s0) := zH ((⟨(K0.out.two2.up HF.out HB3.out).owned HF.out HB4.out HO4.out, HO4.out.base (by have := HB3.out.size; rw [HX0S.out] at this; exact this)⟩ : AddI F w w4 k A c B d s0).up HF.out hb46)
 have HR6 : Hid (RdI w w6 (fun b => (Value.slice B s0.length d).ownBlock = some b) X2 s0) := zH (((RdI.of HO3.out (by rw [HX0S.out]; exact Nat.le_refl _)).owned HB4.out HO4.out).up hb46)
 have HW6 : Hid (RdI w w6 (fun b => (Value.slice B s0.length d).ownBlock = some b) X6 wd) := zH (by
  obtain ⟨A', c', e, _, hs⟩ := HO6.out.form
  injection e with e1 e2 e3
  subst e1
  refine Lay.Sl.mono hs fun b hb' => ⟨?_, hb'.2, fun e => ?_⟩
  · have := HB3.out.size; have := HB4.out.size; have := HX0S.out; omega
  · have := (HO4.out.lt b e).2; omega)
 have HC3 := zH HO3.out.cap
 clear hb46 hs45 HO3 HO4 HO5 HO6 HB3 HB4 HB5 HG6 HAL HB04 K0 HX0S HY HYN HWD
 obtain ⟨ns0, hns0⟩ : ∃ ns0, ns0 = s0.length := ⟨_, rfl⟩
 have HNS0 := zH hns0
 rw [← hns0] at HR6 HW6
 rw [← hns0]
 clear hns0
 go_wp2
 go_loopw [10, 13] (fun rv i wr => ∃ (a : Nat) (iv : Int) (k1 : N × Bool) (q1 r1 : List Int) (A1 R : Option Addr) (c1 rc : Nat), a ≤ xs.length ∧ iv = (a : Int) - 1 ∧ i = .int .i64 iv ∧ rv = .slice R r1.length rc ∧ q1.length = xs.length ∧ r1.length = xs.length ∧ r1.length ≤ rc ∧ (∀ m ∈ q1, RB m) ∧ (∀ m ∈ r1, RB m) ∧ AddI F w wr k1 A1 c1 B d q1 ∧ RdI w wr (fun b => (Value.slice B q1.length d).ownBlock = some b) R r1 ∧ RdI w wr (fun b => (Value.slice B q1.length d).ownBlock = some b) X6 wd ∧ NB k1.1 ∧ Hid (run opsR (divP xs wd a q1 r1) k1 = T)) (fun _ i _ => (intOf i + 1).toNat)
 case atStart => exact ⟨xs.length, (xs.length : Int) - 1, k, s0, s0, A, X2, c, d2, Nat.le_refl _, rfl, rfl, by rw [HNS0.out], HS0L.out, HS0L.out, HC3.out, HS0M.out, HS0M.out, K6.out, (by have h9 := HR6.out; rw [HNS0.out] at h9; exact h9), (by have h9 := HW6.out; rw [HNS0.out] at h9; exact h9), HNB.out, zH (by rw [HT.out])⟩
 case round =>
  obtain ⟨a, iv, k1, q1, r1, A1, R, c1, rc, ha, hiv0, rfl, rfl, hql, hrl, hrc, hqm, hrm, hks, hrd, hwd, hnb1, hst⟩ := hrel
  have HQL := zH hql
  have HRL := zH hrl
  have HRC := zH hrc
  have HQM := zH hqm
  have HRM := zH hrm
  have HKS := zH hks
  have HRD := zH hrd
  have HWR := zH hwd
  have HNB1 := zH hnb1
  have hrn : r1.length ≤ 8 := by omega
  have HNX : Hid (ns0 = xs.length) := zH (HNS0.out.trans HS0L.out)
  clear hql hrl hrc hqm hrm hks hrd hwd hnb1 HT K6 HR6 HW6 HC3 HS0M
  rcases a with _ | a
  ·
   have hiv : iv = -1 := by omega
   clear hiv0
   subst hiv
   have hT2 : T = (k1, (q1, r1)) := by rw [← hst.out]; rfl
   have HT2 := zH hT2
   clear hst hT2
   have hv9 := HKS.out.ks.var
   have y0 := (z00 hv9 0).1
   have y1 := (z00 hv9 1).1
   have y2 := (z00 hv9 2).1
   have hr9 := HKS.out.ks.res
   have r0 := (z00 hr9 0).1
   have r1' := (z00 hr9 1).1
   have r2 := (z00 hr9 2).1
   have rf0 := (z00 hr9 0).2
   have rf1 := (z00 hr9 1).2
   have rf2 := (z00 hr9 2).2
   clear hv9 hr9
   go_wp2
   have hs := z15 HKS.out.ks.res (.int .i64 k1.1.ins) (.slice A1 k1.1.gs.length c1) (.bool k1.2)
   have k5 := (z00 hs 0).1
   have k6 := (z00 hs 1).1
   have k7 := (z00 hs 2).1
   have kf5 := (z00 hs 0).2
   have kf6 := (z00 hs 1).2
   have kf7 := (z00 hs 2).2
   refine bodyPost_ret (v := .tuple #[.agg #[.int .i64 k1.1.ins, .slice A1 k1.1.gs.length c1, .bool k1.2], .slice B ns0 d, .slice R r1.length rc]) (by simp [results, Tryz.results107, go_sem, k5, k6, k7, kf5, kf6, kf7]) rfl ?_
   rw [HT2.out]
   obtain ⟨B', d', e9, hcap, hsl⟩ := HKS.out.own.form
   injection e9 with e1 e2 e3
   subst e1 e3
   refine ⟨A1, c1, B, d, R, rc, by rw [HNX.out, HQL.out], HKS.out.ks.nil, (st3_sl (h := w.heap.size + 1) HKS.out.ks.row (fun b hb => ?_) _ _ _).mono (fun b hb => ?_), hcap, HRC.out, (st3_sl (h := w.heap.size + 1) hsl (fun b hb => by omega) _ _ _).mono (fun b hb => by rw [z13]; omega), (st3_sl (h := w.heap.size + 1) HRD.out (fun b hb => by omega) _ _ _).mono (fun b hb => by rw [z13]; omega), HQM.out, HRM.out, z09 HKS.out.ks.bel (by omega) _ _ _⟩
   ·
    rcases hb with hb | hb
    · have := HF.out b hb; omega
    · omega
   ·
    rw [z13]
    exact hb.imp id fun h9 => ⟨by omega, h9.2.1⟩
  ·
   have hiv : iv = (a : Int) := by omega
   clear hiv0
   subst hiv
   have hax : a < xs.length := by omega
   have hax2 : (a : Int) < ns0 := by rw [HNX.out]; omega
   obtain ⟨x, hx⟩ : ∃ x, xs[a]? = some x := ⟨_, List.getElem?_eq_getElem hax⟩
   have hxg : xs[a] = x := (List.getElem?_eq_some_iff.1 hx).2
   have HXR := zH (HXM.out x (List.mem_of_getElem? hx))
   have hst2 := (run_div (o := opsR) xs wd a x q1 r1 k1 hx).symm.trans hst.out
   obtain ⟨adx, rfl, -, -⟩ := HX.out.at_int hax
   have c0 : wr.cell? (adx.add a) = some (.int .i64 x) := by
    obtain ⟨ad, e, _, hc⟩ := (HX.out.up HKS.out.ks.bel).at_int hax
    injection e with e; subst e; rw [← hxg]; exact hc
   obtain ⟨tl, htl⟩ : ∃ tl, tl = x :: r1 := ⟨_, rfl⟩
   have HTL : Hid (tl = [x] ++ r1) := zH htl
   have HTLL : Hid (tl.length = xs.length + 1) := zH (by rw [htl, List.length_cons, HRL.out])
   have HTM : Hid (∀ m ∈ tl, RB m) := zH fun m hm => by
    rw [htl] at hm
    rcases List.mem_cons.1 hm with rfl | hm
    · exact HXR.out
    · exact HRM.out m hm
   rw [← htl, ← HNW.out] at hst2
   have HST := zH hst2
   obtain ⟨gq, rfl⟩ : ∃ gq, B = some ⟨gq, 0, none⟩ := by
    rcases HKS.out.own.2 with ⟨_, e⟩ | ⟨g, cap, cur, e, _⟩
    · exact absurd e (by have := HQL.out; omega)
    · injection e with e; exact ⟨g, e⟩
   have hown1 : OwnI (wr.alloc (.cells #[.int .i64 x] 3)) wr.heap.size (.slice (some ⟨wr.heap.size, 0, none⟩) [x].length 1) [x] := int_lit1 wr x
   have hal : Below wr.heap.size wr (wr.alloc (.cells #[.int .i64 x] 3)) := (Below.refl _ _).alloc (Nat.le_refl _) _
   have HAL := zH hal
   have hRr := HRD.out.rd.up hal
   have HRN := zH (rd_nil HRD.out.rd)
   clear hx hxg hst hst2 htl hal
   go_wp2_with (at_builtin; refine wpList_append_intsO (zs := tl) (by rfl) (.tmp 38) (.tmp 39) (by rfl) (by rfl) (by rfl) hown1 hRr HRN.out (by simp; omega) (by simp) HTL.out ?_; intro X7 tc w7 ho7 hb7 hg7; have HO7 := zH ho7; have HB7 := zH hb7; clear ho7 hb7 hg7 hown1 hRr c0; have hv8 := (((Below.refl w7.heap.size w7).alloc (Nat.le_refl _) (.cells #[] 3)).block _ (lt_of_block (((HAL.out.trans HB7.out).block _ (lt_of_block HKS.out.ks.var)).trans HKS.out.ks.var))).trans (((HAL.out.trans HB7.out).block _ (lt_of_block HKS.out.ks.var)).trans HKS.out.ks.var); have y0 := (z00 hv8 0).1; have y1 := (z00 hv8 1).1; have y2 := (z00 hv8 2).1; clear hv8)
   have hb17 : Below wr.heap.size wr w7 := HAL.out.trans HB7.out
   have hb8 : Below w7.heap.size w7 (w7.alloc (.cells #[] 3)) := (Below.refl _ _).alloc (Nat.le_refl _) _
   have HT7 : Hid (RdI w w7 (fun b => (Value.slice (some ⟨gq, 0, none⟩) q1.length d).ownBlock = some b) X7 tl) := zH (by
    obtain ⟨A', c', e, _, hs⟩ := HO7.out.form
    injection e with e1 e2 e3
    subst e1
    refine Lay.Sl.mono hs fun b hb' => ⟨?_, hb'.2, fun e => ?_⟩
    · have := lt_of_block HKS.out.ks.res; omega
    · have := (HKS.out.own.lt b e).2; omega)
   have HTC := zH HO7.out.cap
   have HT7 := zH (HT7.out.up hb8)
   have HW7 := zH (HWR.out.up (bthen hb17 hb8))
   have K7 := zH (HKS.out.up HF.out (bthen hb17 hb8))
   clear hb17 hb8 HO7 HB7 HAL HKS HRD HWR
   generalize hw8 : w7.alloc (.cells #[] 3) = w8 at HT7 HW7 K7 y0 y1 y2 ⊢
   clear hw8
   obtain ⟨g, hg⟩ : ∃ g, g = run opsR (lessP tl wd (-1)) k1 := ⟨_, rfl⟩
   have HG := zH hg
   have HGB : Hid (NB g.1.1 ∧ RB g.2) := zH (by rw [hg]; exact bd_runR _ _ (less_bd bok_rb _ _ _ _ bok_rb.off HTM.out HWM.out fun m hm => hm) HNB1.out)
   have HCA := zH (l7Less_any (G2 F w w8 (fun b => (Value.slice (some ⟨gq, 0, none⟩) q1.length d).ownBlock = some b)) A1 c1 k1 X7 X6 tc d6 tl wd w8 K7.out.ks.row (KS2.lt K7.out.ks.bel HF.out) K7.out.ks.nil HNB1.out HT7.out.rd HW7.out.rd HTM.out HWM.out (by rw [HTLL.out, HWL.out]) (by rw [HTLL.out]; omega))
   rw [← hg] at HCA
   clear hg
   go_wp2_with fail
   refine HCA.out.mono ?_
   rintro e z9 ⟨A3, c3, rfl, hn9, hs9, hb9⟩
   have hv9 := (hb9.block _ (lt_of_block K7.out.ks.var)).trans K7.out.ks.var
   clear y0 y1 y2 HCA
   have y0 := (z00 hv9 0).1
   have y1 := (z00 hv9 1).1
   have y2 := (z00 hv9 2).1
   have g0 := (z00 hv9 0).2
   have g1 := (z00 hv9 1).2
   have g2 := (z00 hv9 2).2
   have K9 := K7.out.call (k' := g.1) (c' := c3) HF.out hs9 hb9 hn9
   have hgr : z9.grownBy (st3 z9 w.heap.size (.int .i64 g.1.1.ins) (.slice A3 g.1.1.gs.length c3) (.bool g.1.2)) (some w.heap.size) := z02 (z02 (z02 (World.grownBy.refl _ _) _ _) _ _) _ _
   have HT9 := (HT7.out.up hb9).st hgr
   have HW9 := (HW7.out.up hb9).st hgr
   have hq9 : a < q1.length := by rw [HQL.out]; exact hax
   obtain ⟨old, hold⟩ : ∃ old, (st3 z9 w.heap.size (.int .i64 g.1.1.ins) (.slice A3 g.1.1.gs.length c3) (.bool g.1.2)).cell? ⟨gq, a, none⟩ = some old := by
    obtain ⟨ad, e, _, hc⟩ := K9.own.rd.at_int hq9
    injection e with e; subst e
    refine ⟨_, (?_ : _ = some (.int .i64 q1[a]))⟩
    rcases Nat.eq_zero_or_pos a with rfl | h0
    · exact hc
    · simpa [Addr.add, Nat.ne_of_gt h0] using hc
   have hfz := K9.own.frozenAt a
   obtain ⟨l0, l1⟩ := HGB.out.2
   dsimp only [st3] at K9 HT9 HW9 hold hfz
   have K9 := zH K9
   have HT9 := zH HT9
   have HW9 := zH HW9
   clear hn9 hs9 hb9 hv9 hgr hq9 K7 HT7 HW7
   go_wp2
   obtain ⟨l, hl⟩ : ∃ l, l = q1.set a (-g.2) := ⟨_, rfl⟩
   have HLQ := zH hl
   have K10 := K9.out.put HF.out a (-g.2) hl
   have HT10 := HT9.out.put a (.int .i64 (-g.2)) l.length
   have HW10 := HW9.out.put a (.int .i64 (-g.2)) l.length
   clear y0 y1 y2 g0 g1 g2 hold hfz K9 HT9 HW9 hl l0 l1
   generalize hw10 : World.setCell _ ({ block := gq, off := a, spot := none } : Addr) _ = w10 at K10 HT10 HW10 ⊢
   clear hw10
   generalize hBB : (some ({ block := gq, off := 0, spot := none } : Addr)) = B at *
   have HBB := zH hBB
   clear hBB
   have K10 := zH K10
   have HT10 := zH HT10
   have HW10 := zH HW10
   have HLL : Hid (l.length = xs.length) := zH (by rw [HLQ.out, List.length_set, HQL.out])
   have HLM : Hid (∀ m ∈ l, RB m) := zH fun m hm => by
    rw [HLQ.out] at hm
    rcases List.mem_or_eq_of_mem_set hm with hm | hm
    · exact HQM.out m hm
    · rw [hm]; exact HGB.out.2.neg
   obtain ⟨u, hu⟩ : ∃ u, u = run opsR (sumP tl nw 1) g.1 := ⟨_, rfl⟩
   have HU := zH hu
   have HUB : Hid (NB u.1.1 ∧ (∀ m ∈ u.2, RB m) ∧ u.2.length = xs.length + 1) := zH (by rw [hu]; exact bd_runR (Φ := fun l9 => (∀ m ∈ l9, RB m) ∧ l9.length = xs.length + 1) _ _ (sum_bd bok_rb _ _ _ _ bok_rb.one HTM.out HNM.out fun l9 h9 h8 => ⟨h9, (h8 (by rw [HTLL.out, HNL.out])).trans HTLL.out⟩) HGB.out.1)
   have HTURN : Hid (∀ z, Kept w.heap.size w10 z → Calls Tryz.prog 105 #[.slice X6 wd.length d6] z (RetNw nw z)) := zH fun z hz => by rw [HNW.out]; exact l7Turn_any X6 d6 wd z (HW10.out.kept hz).rd HWM.out (by rw [HWL.out]; omega)
   clear hu
   refine z05 [[], [], [], [(2, 57)], [(0, 55), (1, 56), (3, 58)], [(4, 59)], [(5, 54)], [(5, 54)], [(6, 60)], [(7, 61)]]
    (fun x9 y9 => Below x9.heap.size x9 y9)
    [(8, fun x9 y9 => x9.grownBy y9 (some w.heap.size))]
    (fun f9 x9 => (f9 8 = false → AddI F w x9 g.1 A3 c3 B d l) ∧ (f9 8 = true → ∃ A9 c9, AddI F w x9 (u.1, (0 : Int)).1 A9 c9 B d l) ∧ Below w.heap.size w x9 ∧ Kept w.heap.size w10 x9)
    [fun vs9 _ => vs9 0 = (.agg #[.int .i64 g.1.1.ins, .slice A3 g.1.1.gs.length c3, .bool g.1.2]),
  fun vs9 _ => vs9 1 = (.slice X7 tl.length tc),
  fun vs9 _ => vs9 2 = (.slice X6 wd.length d6),
  fun vs9 y9 => (fun v z => LRow (fun b => (Value.slice B l.length d).ownBlock = some b) w nw v z) (vs9 3) y9,
  fun vs9 y9 => (fun v7 z7 => LTup F (fun b => (Value.slice B l.length d).ownBlock = some b) w u v7 z7) (vs9 4) y9,
  fun vs9 y9 => (fun v7 z7 => LTup F (fun b => (Value.slice B l.length d).ownBlock = some b) w u v7 z7) (vs9 5) y9,
  fun vs9 y9 => (fun v7 z7 => ANet F (fun b => (Value.slice B l.length d).ownBlock = some b) w (u.1, 0) v7 z7) (vs9 6) y9,
  fun vs9 y9 => (fun v7 z7 => LRow (fun b => (Value.slice B l.length d).ownBlock = some b) w u.2 v7 z7) (vs9 7) y9,
  fun _ _ => True,
  fun vs9 y9 => (fun v7 z7 => LRow (fun b => (Value.slice B l.length d).ownBlock = some b) w u.2 v7 z7) (vs9 9) y9]
    [(0, 55), (1, 56), (2, 57), (3, 58), (4, 59), (5, 54), (6, 60), (7, 61), (9, 16)] (by kernel_rfl) (by kernel_rfl) (by kernel_rfl) (by kernel_rfl)
    (fun _ => Below.refl _ _) ⟨fun _ => World.grownBy.refl _ _, trivial⟩
    ⟨⟨.inr zK, ⟨.inr (.inr zK), trivial⟩⟩,
  ⟨.inr zK, ⟨.inr (.inr zK), trivial⟩⟩,
  ⟨.inr zK, ⟨.inr (.inr zK), trivial⟩⟩,
  ⟨.inr (zS (fun v z => LRow (fun b => (Value.slice B l.length d).ownBlock = some b) w nw v z) (fun _ _ _ h9 hR => h9.up hR)), ⟨.inr (.inr (zS (fun v z => LRow (fun b => (Value.slice B l.length d).ownBlock = some b) w nw v z) (fun _ _ _ h9 hR => h9.st hR))), trivial⟩⟩,
  ⟨.inr (zS (fun v7 z7 => LTup F (fun b => (Value.slice B l.length d).ownBlock = some b) w u v7 z7) (fun _ _ _ h9 hR => h9.up HF.out hR)), ⟨.inr (.inr (zS (fun v7 z7 => LTup F (fun b => (Value.slice B l.length d).ownBlock = some b) w u v7 z7) (fun _ _ _ h9 hR => h9.st HF.out hR))), trivial⟩⟩,
  ⟨.inr (zS (fun v7 z7 => LTup F (fun b => (Value.slice B l.length d).ownBlock = some b) w u v7 z7) (fun _ _ _ h9 hR => h9.up HF.out hR)), ⟨.inr (.inr (zS (fun v7 z7 => LTup F (fun b => (Value.slice B l.length d).ownBlock = some b) w u v7 z7) (fun _ _ _ h9 hR => h9.st HF.out hR))), trivial⟩⟩,
  ⟨.inr (zS (fun v7 z7 => ANet F (fun b => (Value.slice B l.length d).ownBlock = some b) w (u.1, 0) v7 z7) (fun _ _ _ h9 hR => h9.up HF.out hR)), ⟨.inr (.inr (zS (fun v7 z7 => ANet F (fun b => (Value.slice B l.length d).ownBlock = some b) w (u.1, 0) v7 z7) (fun _ _ _ h9 hR => h9.st HF.out hR))), trivial⟩⟩,
  ⟨.inr (zS (fun v7 z7 => LRow (fun b => (Value.slice B l.length d).ownBlock = some b) w u.2 v7 z7) (fun _ _ _ h9 hR => h9.up hR)), ⟨.inr (.inr (zS (fun v7 z7 => LRow (fun b => (Value.slice B l.length d).ownBlock = some b) w u.2 v7 z7) (fun _ _ _ h9 hR => h9.st hR))), trivial⟩⟩,
  ⟨.inr zK, ⟨.inr (.inl rfl), trivial⟩⟩,
  ⟨.inr (zS (fun v7 z7 => LRow (fun b => (Value.slice B l.length d).ownBlock = some b) w u.2 v7 z7) (fun _ _ _ h9 hR => h9.up hR)), ⟨.inr (.inr (zS (fun v7 z7 => LRow (fun b => (Value.slice B l.length d).ownBlock = some b) w u.2 v7 z7) (fun _ _ _ h9 hR => h9.st hR))), trivial⟩⟩, trivial⟩ ⟨fun _ _ _ h _ v => (by simpa only [← h] using v),
  fun _ _ _ h _ v => (by simpa only [← h] using v),
  fun _ _ _ h _ v => (by simpa only [← h] using v),
  fun _ _ _ h _ v => (by simpa only [← h] using v),
  fun _ _ _ h _ v => (by simpa only [← h] using v),
  fun _ _ _ h _ v => (by simpa only [← h] using v),
  fun _ _ _ h _ v => (by simpa only [← h] using v),
  fun _ _ _ h _ v => (by simpa only [← h] using v),
  fun _ _ _ _ _ _ => trivial,
  fun _ _ _ h _ v => (by simpa only [← h] using v), trivial⟩ (⟨fun _ => K10.out.up HF.out (z01 (Below.refl _ _) 1), (fun h => by cases h), bthen K10.out.ks.bel (z01 (Below.refl _ _) 1), Kept.drew _ _ 1⟩) ⟨?_, ?_, ?_, ?_, ?_, ?_, ?_, ?_, ?_, ?_, trivial⟩ ?_
   ·
    intro vals xw f hf1 hf2 hf3 hI hF
    have k8 : f 8 = false := hf3 8 (by kernel_rfl)
    clear hf2 hf3
    dsimp only [owes4, bare]
    simp only [putsD, Act.put, zA, zB, zC]
    have hv9 := (hI.1 k8).ks.var
    have y0 := (z00 hv9 0).1
    have y1 := (z00 hv9 1).1
    have y2 := (z00 hv9 2).1
    go_wp2
    exact ⟨rfl, rfl, ⟨zN rfl, fun _ => Below.refl _ _⟩, hI⟩
   ·
    rintro vals xw f hf1 - - hI hF
    dsimp only [owes4, bare]
    simp only [putsD, Act.put, zA, zB, zC]
    go_wp2
    exact ⟨rfl, rfl, ⟨zN rfl, fun _ => Below.refl _ _⟩, hI⟩
   ·
    rintro vals xw f hf1 - - hI hF
    dsimp only [owes4, bare]
    simp only [putsD, Act.put, zA, zB, zC]
    go_wp2
    exact ⟨rfl, rfl, ⟨zN rfl, fun _ => Below.refl _ _⟩, hI⟩
   ·
    intro vals xw f hf1 hf2 hf3 hI hF
    have k8 : f 8 = false := hf3 8 (by kernel_rfl)
    clear hf2 hf3
    simp only [saysD, zD, zE, and_true] at hF
    have e57 := hF
    dsimp only [owes4, bare]
    simp only [putsD, Act.put, zA, zB, zC]
    simp only [e57]
    have HI := zH hI
    have HK := zH (hI.1 k8)
    have HC := zH (HTURN.out xw hI.2.2.2)
    clear hI
    go_wp2_with fail
    refine HC.out.mono ?_
    rintro e wx ⟨B9, d9, rfl, h5, h6, h4⟩
    have H4 := zH h4
    have H6 := zH h6
    clear h4 h6 HC
    go_wp2
    refine ⟨rfl, ⟨B9, d9, rfl, h5, H6.out.mono ?_⟩, ⟨zN rfl, fun _ => H4.out⟩, krI_up (m := (u.1, (0 : Int))) HF.out HI.out H4.out⟩
    intro b hb
    exact ⟨by have := lt_of_block HK.out.ks.res; have := hb.1; omega, hb.2.1, fun e => by have := (HK.out.own.lt b e).2; have := hb.1; omega⟩
   ·
    intro vals xw f hf1 hf2 hf3 hI hF
    have k8 : f 8 = false := hf3 8 (by kernel_rfl)
    clear hf2 hf3
    simp only [saysD, zD, zE, and_true] at hF
    obtain ⟨e55, e56, B5, d5, e58, hc5, hr5⟩ := hF
    dsimp only [owes4, bare]
    simp only [putsD, Act.put, zA, zB, zC]
    simp only [e55, e56, e58]
    have HI := zH hI
    have HK := zH (hI.1 k8)
    have hsz9 := hI.2.2.1.size
    have HC := zH (show Calls _ _ _ _ (RetKL _ xw (run opsR (sumP tl nw 1) g.1)) from l7Add_any (G2 F w xw (fun b => (Value.slice B l.length d).ownBlock = some b)) A3 c3 g.1 1 X7 B5 tc d5 tl nw xw HK.out.ks.row (KS2.lt HK.out.ks.bel HF.out) HK.out.ks.nil HGB.out.1 bok_rb.one (HT10.out.kept HI.out.2.2.2).rd hr5.rd HTM.out HNM.out (by rw [HTLL.out, HNL.out]) (by rw [HTLL.out]; omega))
    rw [← HU.out] at HC
    clear hI
    go_wp2_with fail
    refine HC.out.mono ?_
    rintro e wx ⟨A9, c9, B9, d9, rfl, h2, h3, h5, h6, h7, h4⟩
    have H3 := zH h3
    have H4 := zH h4
    have H6 := zH h6
    clear h3 h4 h6 h7 HC
    go_wp2
    refine ⟨rfl, ⟨A9, c9, B9, d9, rfl, h2, H3.out.mono ?_, Nat.le_trans hsz9 H4.out.size, h5, H6.out.mono ?_⟩, ⟨zN rfl, fun _ => H4.out⟩, krI_up (m := (u.1, (0 : Int))) HF.out HI.out H4.out⟩
    ·
     intro b hb
     rcases hb with (h9 | h9) | h9
     · exact .inl h9
     · exact .inr ⟨h9.1, Nat.lt_of_lt_of_le h9.2.1 H4.out.size, h9.2.2⟩
     · exact .inr ⟨by have := lt_of_block HK.out.ks.res; omega, h9.2, fun e => by have := (HK.out.own.lt b e).2; omega⟩
    ·
     intro b hb
     exact ⟨by have := lt_of_block HK.out.ks.res; omega, hb.2, fun e => by have := (HK.out.own.lt b e).2; omega⟩
   ·
    rintro vals xw f hf1 - - hI hF
    simp only [saysD, zD, zE, and_true] at hF
    obtain ⟨A9, c9, B9, d9, e59, h2, h3, h4, h5, h6⟩ := hF
    dsimp only [owes4, bare]
    simp only [putsD, Act.put, zA, zB, zC]
    simp only [e59]
    go_wp2
    exact ⟨rfl, ⟨A9, c9, B9, d9, rfl, h2, h3, h4, h5, h6⟩, ⟨zN rfl, fun _ => Below.refl _ _⟩, hI⟩
   ·
    rintro vals xw f hf1 - - hI hF
    simp only [saysD, zD, zE, and_true] at hF
    obtain ⟨A9, c9, B9, d9, e54, h2, h3, h4, h5, h6⟩ := hF
    dsimp only [owes4, bare]
    simp only [putsD, Act.put, zA, zB, zC]
    simp only [e54]
    go_wp2
    exact ⟨rfl, ⟨A9, c9, rfl, h2, h3, h4⟩, ⟨zN rfl, fun _ => Below.refl _ _⟩, hI⟩
   ·
    rintro vals xw f hf1 - - hI hF
    simp only [saysD, zD, zE, and_true] at hF
    obtain ⟨A9, c9, B9, d9, e54, h2, h3, h4, h5, h6⟩ := hF
    dsimp only [owes4, bare]
    simp only [putsD, Act.put, zA, zB, zC]
    simp only [e54]
    go_wp2
    exact ⟨rfl, ⟨B9, d9, rfl, h5, h6⟩, ⟨zN rfl, fun _ => Below.refl _ _⟩, hI⟩
   ·
    rintro vals xw f hf1 - - hI hF
    simp only [saysD, zD, zE, and_true] at hF
    obtain ⟨A9, c9, e60, h2, h3, h4⟩ := hF
    dsimp only [owes4, bare]
    simp only [putsD, Act.put, zA, zB, zC]
    simp only [e60]
    have HI := zH hI
    have HK := zH (hI.1 hf1)
    have hv9 := HK.out.ks.var
    have y0 := (z00 hv9 0).1
    have y1 := (z00 hv9 1).1
    have y2 := (z00 hv9 2).1
    have g0 := (z00 hv9 0).2
    have g1 := (z00 hv9 1).2
    have g2 := (z00 hv9 2).2
    have H3 := zH h3
    clear hI hv9 h3 h4
    go_wp2
    have hset := HK.out.set (k' := u.1) (c' := c9) HF.out H3.out h2
    have hgr : xw.grownBy (st3 xw w.heap.size (.int .i64 u.1.1.ins) (.slice A9 u.1.1.gs.length c9) (.bool u.1.2)) (some w.heap.size) := z02 (z02 (z02 (World.grownBy.refl _ _) _ _) _ _) _ _
    exact ⟨rfl, trivial, ⟨fun _ => hgr, fun h9 => absurd rfl h9⟩, fun h => absurd ((z10 f 8).symm.trans h) (by simp), fun _ => ⟨A9, c9, hset⟩, z09 HI.out.2.2.1 (Nat.le_refl _) _ _ _, HI.out.2.2.2.grown hgr⟩
   ·
    rintro vals xw f hf1 - - hI hF
    simp only [saysD, zD, zE, and_true] at hF
    obtain ⟨B9, d9, e61, h5, h6⟩ := hF
    dsimp only [owes4, bare]
    simp only [putsD, Act.put, zA, zB, zC]
    simp only [e61]
    go_wp2
    exact ⟨rfl, ⟨B9, d9, rfl, h5, h6⟩, ⟨zN rfl, fun _ => Below.refl _ _⟩, hI⟩
   ·
    intro vals xw f hall hI hF
    rw [show List.range _ = [0, 1, 2, 3, 4, 5, 6, 7, 8, 9] from rfl] at hF
    simp only [says, zD, zE, and_true] at hF
    obtain ⟨A12, c12, hk2⟩ := hI.2.1 (hall 8 (by decide))
    obtain ⟨B12, d12, e9, hc9, hr9⟩ : LRow (fun b => (Value.slice B l.length d).ownBlock = some b) w u.2 (vals 9) xw := by obtain ⟨_, _, _, _, _, _, _, _, _, e9⟩ := hF; exact e9
    have K12 := zH hk2
    have HR12 := zH hr9
    have HC12 := zH hc9
    have HKP := zH hI.2.2.2
    clear hF hk2 hI hr9 hc9
    simp only [putsD, Act.put, zA, zB, zC]
    simp only [e9]
    clear e9
    obtain ⟨w11, hw11⟩ : ∃ w11, w11 = xw := ⟨_, rfl⟩
    subst hw11
    have HT11 := zH (HT10.out.kept HKP.out)
    have HW11 := zH (HW10.out.kept HKP.out)
    clear HKP
    obtain ⟨adt, rfl, -, -⟩ := HT11.out.rd.at_int (k := 0) (by rw [HTLL.out]; omega)
    obtain ⟨adu, rfl, -, -⟩ := HR12.out.rd.at_int (k := 0) (by rw [HUB.out.2.2]; omega)
    obtain ⟨tn, htn⟩ : ∃ tn, tn = tl.take xs.length := ⟨_, rfl⟩
    obtain ⟨un, hun⟩ : ∃ un, un = u.2.take xs.length := ⟨_, rfl⟩
    have HTN := zH htn
    have HUN := zH hun
    have HTNL : Hid (tn.length = xs.length) := zH (by rw [htn, List.length_take, HTLL.out]; omega)
    have HUNL : Hid (un.length = xs.length) := zH (by rw [hun, List.length_take, HUB.out.2.2]; omega)
    have HTNM : Hid (∀ m ∈ tn, RB m) := zH fun m hm => HTM.out m (List.mem_of_mem_take (by rw [htn] at hm; exact hm))
    have HUNM : Hid (∀ m ∈ un, RB m) := zH fun m hm => HUB.out.2.1 m (List.mem_of_mem_take (by rw [hun] at hm; exact hm))
    have htc : xs.length ≤ tc := by have := HTC.out; have := HTLL.out; omega
    have htc2 : (xs.length : Int) ≤ tc := by omega
    have hud : xs.length ≤ d12 := by have := HC12.out; have := HUB.out.2.2; omega
    have hud2 : (xs.length : Int) ≤ d12 := by omega
    obtain ⟨v, hv⟩ : ∃ v, v = run opsR (eachP (muxP g.2) tn un) u.1 := ⟨_, rfl⟩
    have HV := zH hv
    have HVB : Hid (NB v.1.1 ∧ (∀ m ∈ v.2, RB m) ∧ v.2.length = xs.length) := zH (by rw [hv]; exact bd_runR (Φ := fun l9 => (∀ m ∈ l9, RB m) ∧ l9.length = xs.length) _ _ (each_bd (fun x y Ψ hx hy h => mux_bd bok_rb HGB.out.2 hx hy h) _ _ _ HTNM.out HUNM.out fun l9 h9 h8 => ⟨h9, (h8 (by rw [HTNL.out, HUNL.out])).trans HTNL.out⟩) HUB.out.1)
    have HST2 : Hid (run opsR (divP xs wd a l v.2) v.1 = T) := zH (by rw [HLQ.out, HV.out, HUN.out, HTN.out, HU.out, HG.out]; exact HST.out)
    clear htn hun hv HST
    go_wp2
    refine z05 [[], [], [], [], [(2, 65), (3, 66)], [], [], [(5, 68), (6, 69)], [(0, 63), (1, 64), (4, 67), (7, 70)], [(8, 71)], [(9, 62)], [(9, 62)], [(10, 72)], [(11, 73)]]
     (fun x9 y9 => Below x9.heap.size x9 y9)
     [(12, fun x9 y9 => x9.grownBy y9 (some w.heap.size))]
     (fun f9 x9 => (f9 12 = false → AddI F w x9 u.1 A12 c12 B d l) ∧ (f9 12 = true → ∃ A9 c9, AddI F w x9 (v.1, (0 : Int)).1 A9 c9 B d l) ∧ Below w.heap.size w x9 ∧ Kept w.heap.size w11 x9)
     [fun vs9 _ => vs9 0 = (.agg #[.int .i64 u.1.1.ins, .slice A12 u.1.1.gs.length c12, .bool u.1.2]),
  fun vs9 _ => vs9 1 = (.int .i64 g.2),
  fun vs9 _ => vs9 2 = (.slice (some adt) tl.length tc),
  fun vs9 _ => vs9 3 = (.int .i64 (xs.length : Int)),
  fun vs9 _ => vs9 4 = (.slice (some adt) xs.length tc),
  fun vs9 _ => vs9 5 = (.slice (some adu) u.2.length d12),
  fun vs9 _ => vs9 6 = (.int .i64 (xs.length : Int)),
  fun vs9 _ => vs9 7 = (.slice (some adu) xs.length d12),
  fun vs9 y9 => (fun v7 z7 => LTup F (fun b => (Value.slice B l.length d).ownBlock = some b) w v v7 z7) (vs9 8) y9,
  fun vs9 y9 => (fun v7 z7 => LTup F (fun b => (Value.slice B l.length d).ownBlock = some b) w v v7 z7) (vs9 9) y9,
  fun vs9 y9 => (fun v7 z7 => ANet F (fun b => (Value.slice B l.length d).ownBlock = some b) w (v.1, 0) v7 z7) (vs9 10) y9,
  fun vs9 y9 => (fun v7 z7 => LRow (fun b => (Value.slice B l.length d).ownBlock = some b) w v.2 v7 z7) (vs9 11) y9,
  fun _ _ => True,
  fun vs9 y9 => (fun v7 z7 => LRow (fun b => (Value.slice B l.length d).ownBlock = some b) w v.2 v7 z7) (vs9 13) y9]
     [(0, 63), (1, 64), (2, 65), (3, 66), (4, 67), (5, 68), (6, 69), (7, 70), (8, 71), (9, 62), (10, 72), (11, 73), (13, 10)] (by kernel_rfl) (by kernel_rfl) (by kernel_rfl) (by kernel_rfl)
     (fun _ => Below.refl _ _) ⟨fun _ => World.grownBy.refl _ _, trivial⟩
     ⟨⟨.inr zK, ⟨.inr (.inr zK), trivial⟩⟩,
  ⟨.inr zK, ⟨.inr (.inr zK), trivial⟩⟩,
  ⟨.inr zK, ⟨.inr (.inr zK), trivial⟩⟩,
  ⟨.inr zK, ⟨.inr (.inr zK), trivial⟩⟩,
  ⟨.inr zK, ⟨.inr (.inr zK), trivial⟩⟩,
  ⟨.inr zK, ⟨.inr (.inr zK), trivial⟩⟩,
  ⟨.inr zK, ⟨.inr (.inr zK), trivial⟩⟩,
  ⟨.inr zK, ⟨.inr (.inr zK), trivial⟩⟩,
  ⟨.inr (zS (fun v7 z7 => LTup F (fun b => (Value.slice B l.length d).ownBlock = some b) w v v7 z7) (fun _ _ _ h9 hR => h9.up HF.out hR)), ⟨.inr (.inr (zS (fun v7 z7 => LTup F (fun b => (Value.slice B l.length d).ownBlock = some b) w v v7 z7) (fun _ _ _ h9 hR => h9.st HF.out hR))), trivial⟩⟩,
  ⟨.inr (zS (fun v7 z7 => LTup F (fun b => (Value.slice B l.length d).ownBlock = some b) w v v7 z7) (fun _ _ _ h9 hR => h9.up HF.out hR)), ⟨.inr (.inr (zS (fun v7 z7 => LTup F (fun b => (Value.slice B l.length d).ownBlock = some b) w v v7 z7) (fun _ _ _ h9 hR => h9.st HF.out hR))), trivial⟩⟩,
  ⟨.inr (zS (fun v7 z7 => ANet F (fun b => (Value.slice B l.length d).ownBlock = some b) w (v.1, 0) v7 z7) (fun _ _ _ h9 hR => h9.up HF.out hR)), ⟨.inr (.inr (zS (fun v7 z7 => ANet F (fun b => (Value.slice B l.length d).ownBlock = some b) w (v.1, 0) v7 z7) (fun _ _ _ h9 hR => h9.st HF.out hR))), trivial⟩⟩,
  ⟨.inr (zS (fun v7 z7 => LRow (fun b => (Value.slice B l.length d).ownBlock = some b) w v.2 v7 z7) (fun _ _ _ h9 hR => h9.up hR)), ⟨.inr (.inr (zS (fun v7 z7 => LRow (fun b => (Value.slice B l.length d).ownBlock = some b) w v.2 v7 z7) (fun _ _ _ h9 hR => h9.st hR))), trivial⟩⟩,
  ⟨.inr zK, ⟨.inr (.inl rfl), trivial⟩⟩,
  ⟨.inr (zS (fun v7 z7 => LRow (fun b => (Value.slice B l.length d).ownBlock = some b) w v.2 v7 z7) (fun _ _ _ h9 hR => h9.up hR)), ⟨.inr (.inr (zS (fun v7 z7 => LRow (fun b => (Value.slice B l.length d).ownBlock = some b) w v.2 v7 z7) (fun _ _ _ h9 hR => h9.st hR))), trivial⟩⟩, trivial⟩ ⟨fun _ _ _ h _ v => (by simpa only [← h] using v),
  fun _ _ _ h _ v => (by simpa only [← h] using v),
  fun _ _ _ h _ v => (by simpa only [← h] using v),
  fun _ _ _ h _ v => (by simpa only [← h] using v),
  fun _ _ _ h _ v => (by simpa only [← h] using v),
  fun _ _ _ h _ v => (by simpa only [← h] using v),
  fun _ _ _ h _ v => (by simpa only [← h] using v),
  fun _ _ _ h _ v => (by simpa only [← h] using v),
  fun _ _ _ h _ v => (by simpa only [← h] using v),
  fun _ _ _ h _ v => (by simpa only [← h] using v),
  fun _ _ _ h _ v => (by simpa only [← h] using v),
  fun _ _ _ h _ v => (by simpa only [← h] using v),
  fun _ _ _ _ _ _ => trivial,
  fun _ _ _ h _ v => (by simpa only [← h] using v), trivial⟩ (⟨fun _ => K12.out.up HF.out (z01 (Below.refl _ _) 1), (fun h => by cases h), bthen K12.out.ks.bel (z01 (Below.refl _ _) 1), Kept.drew _ _ 1⟩) ⟨?_, ?_, ?_, ?_, ?_, ?_, ?_, ?_, ?_, ?_, ?_, ?_, ?_, ?_, trivial⟩ ?_
    ·
     intro vals xw f hf1 hf2 hf3 hI hF
     have k12 : f 12 = false := hf3 12 (by kernel_rfl)
     clear hf2 hf3
     dsimp only [owes4, bare]
     simp only [putsD, Act.put, zA, zB, zC]
     have hv9 := (hI.1 k12).ks.var
     have y0 := (z00 hv9 0).1
     have y1 := (z00 hv9 1).1
     have y2 := (z00 hv9 2).1
     go_wp2
     exact ⟨rfl, rfl, ⟨zN rfl, fun _ => Below.refl _ _⟩, hI⟩
    ·
     rintro vals xw f hf1 - - hI hF
     dsimp only [owes4, bare]
     simp only [putsD, Act.put, zA, zB, zC]
     go_wp2
     exact ⟨rfl, rfl, ⟨zN rfl, fun _ => Below.refl _ _⟩, hI⟩
    ·
     rintro vals xw f hf1 - - hI hF
     dsimp only [owes4, bare]
     simp only [putsD, Act.put, zA, zB, zC]
     go_wp2
     exact ⟨rfl, rfl, ⟨zN rfl, fun _ => Below.refl _ _⟩, hI⟩
    ·
     rintro vals xw f hf1 - - hI hF
     dsimp only [owes4, bare]
     simp only [putsD, Act.put, zA, zB, zC]
     go_wp2
     exact ⟨rfl, rfl, ⟨zN rfl, fun _ => Below.refl _ _⟩, hI⟩
    ·
     rintro vals xw f hf1 - - hI hF
     simp only [saysD, zD, zE, and_true] at hF
     obtain ⟨e65, e66⟩ := hF
     dsimp only [owes4, bare]
     simp only [putsD, Act.put, zA, zB, zC]
     simp only [e65, e66]
     go_wp2
     exact ⟨rfl, rfl, ⟨zN rfl, fun _ => Below.refl _ _⟩, hI⟩
    ·
     rintro vals xw f hf1 - - hI hF
     dsimp only [owes4, bare]
     simp only [putsD, Act.put, zA, zB, zC]
     go_wp2
     exact ⟨rfl, rfl, ⟨zN rfl, fun _ => Below.refl _ _⟩, hI⟩
    ·
     rintro vals xw f hf1 - - hI hF
     dsimp only [owes4, bare]
     simp only [putsD, Act.put, zA, zB, zC]
     go_wp2
     exact ⟨rfl, rfl, ⟨zN rfl, fun _ => Below.refl _ _⟩, hI⟩
    ·
     rintro vals xw f hf1 - - hI hF
     simp only [saysD, zD, zE, and_true] at hF
     obtain ⟨e68, e69⟩ := hF
     dsimp only [owes4, bare]
     simp only [putsD, Act.put, zA, zB, zC]
     simp only [e68, e69]
     go_wp2
     exact ⟨rfl, rfl, ⟨zN rfl, fun _ => Below.refl _ _⟩, hI⟩
    ·
     intro vals xw f hf1 hf2 hf3 hI hF
     have k12 : f 12 = false := hf3 12 (by kernel_rfl)
     clear hf2 hf3
     simp only [saysD, zD, zE, and_true] at hF
     obtain ⟨e63, e64, e67, e70⟩ := hF
     dsimp only [owes4, bare]
     simp only [putsD, Act.put, zA, zB, zC]
     simp only [e63, e64, e67, e70]
     have HI := zH hI
     have HK := zH (hI.1 k12)
     have hsz9 := hI.2.2.1.size
     have HC := zH (show Calls _ _ #[.agg #[.int .i64 u.1.1.ins, .slice A12 u.1.1.gs.length c12, .bool u.1.2], .int .i64 g.2, .slice (some adt) xs.length tc, .slice (some adu) xs.length d12] _ (RetKL _ xw (run opsR (eachP (muxP g.2) tn un) u.1)) from (by have h9 := l7Ifs_any (G2 F w xw (fun b => (Value.slice B l.length d).ownBlock = some b)) A12 c12 u.1 g.2 (some adt) (some adu) tc d12 tn un xw HK.out.ks.row (KS2.lt HK.out.ks.bel HF.out) HK.out.ks.nil HUB.out.1 HGB.out.2 (by rw [HTN.out]; exact (HT11.out.kept HI.out.2.2.2).rd.take _) (by rw [HUN.out]; exact (HR12.out.kept HI.out.2.2.2).rd.take _) HTNM.out HUNM.out (by rw [HTNL.out, HUNL.out]) (by rw [HTNL.out]; omega); rw [HTNL.out, HUNL.out] at h9; exact h9))
     rw [← HV.out] at HC
     clear hI
     go_wp2_with fail
     refine HC.out.mono ?_
     rintro e wx ⟨A9, c9, B9, d9, rfl, h2, h3, h5, h6, h7, h4⟩
     have H3 := zH h3
     have H4 := zH h4
     have H6 := zH h6
     clear h3 h4 h6 h7 HC
     go_wp2
     refine ⟨rfl, ⟨A9, c9, B9, d9, rfl, h2, H3.out.mono ?_, Nat.le_trans hsz9 H4.out.size, h5, H6.out.mono ?_⟩, ⟨zN rfl, fun _ => H4.out⟩, krI_up (m := (v.1, (0 : Int))) HF.out HI.out H4.out⟩
     ·
      intro b hb
      rcases hb with (h9 | h9) | h9
      · exact .inl h9
      · exact .inr ⟨h9.1, Nat.lt_of_lt_of_le h9.2.1 H4.out.size, h9.2.2⟩
      · exact .inr ⟨by have := lt_of_block HK.out.ks.res; omega, h9.2, fun e => by have := (HK.out.own.lt b e).2; omega⟩
     ·
      intro b hb
      exact ⟨by have := lt_of_block HK.out.ks.res; omega, hb.2, fun e => by have := (HK.out.own.lt b e).2; omega⟩
    ·
     rintro vals xw f hf1 - - hI hF
     simp only [saysD, zD, zE, and_true] at hF
     obtain ⟨A9, c9, B9, d9, e71, h2, h3, h4, h5, h6⟩ := hF
     dsimp only [owes4, bare]
     simp only [putsD, Act.put, zA, zB, zC]
     simp only [e71]
     go_wp2
     exact ⟨rfl, ⟨A9, c9, B9, d9, rfl, h2, h3, h4, h5, h6⟩, ⟨zN rfl, fun _ => Below.refl _ _⟩, hI⟩
    ·
     rintro vals xw f hf1 - - hI hF
     simp only [saysD, zD, zE, and_true] at hF
     obtain ⟨A9, c9, B9, d9, e62, h2, h3, h4, h5, h6⟩ := hF
     dsimp only [owes4, bare]
     simp only [putsD, Act.put, zA, zB, zC]
     simp only [e62]
     go_wp2
     exact ⟨rfl, ⟨A9, c9, rfl, h2, h3, h4⟩, ⟨zN rfl, fun _ => Below.refl _ _⟩, hI⟩
    ·
     rintro vals xw f hf1 - - hI hF
     simp only [saysD, zD, zE, and_true] at hF
     obtain ⟨A9, c9, B9, d9, e62, h2, h3, h4, h5, h6⟩ := hF
     dsimp only [owes4, bare]
     simp only [putsD, Act.put, zA, zB, zC]
     simp only [e62]
     go_wp2
     exact ⟨rfl, ⟨B9, d9, rfl, h5, h6⟩, ⟨zN rfl, fun _ => Below.refl _ _⟩, hI⟩
    ·
     rintro vals xw f hf1 - - hI hF
     simp only [saysD, zD, zE, and_true] at hF
     obtain ⟨A9, c9, e72, h2, h3, h4⟩ := hF
     dsimp only [owes4, bare]
     simp only [putsD, Act.put, zA, zB, zC]
     simp only [e72]
     have HI := zH hI
     have HK := zH (hI.1 hf1)
     have hv9 := HK.out.ks.var
     have y0 := (z00 hv9 0).1
     have y1 := (z00 hv9 1).1
     have y2 := (z00 hv9 2).1
     have g0 := (z00 hv9 0).2
     have g1 := (z00 hv9 1).2
     have g2 := (z00 hv9 2).2
     have H3 := zH h3
     clear hI hv9 h3 h4
     go_wp2
     have hset := HK.out.set (k' := v.1) (c' := c9) HF.out H3.out h2
     have hgr : xw.grownBy (st3 xw w.heap.size (.int .i64 v.1.1.ins) (.slice A9 v.1.1.gs.length c9) (.bool v.1.2)) (some w.heap.size) := z02 (z02 (z02 (World.grownBy.refl _ _) _ _) _ _) _ _
     exact ⟨rfl, trivial, ⟨fun _ => hgr, fun h9 => absurd rfl h9⟩, fun h => absurd ((z10 f 12).symm.trans h) (by simp), fun _ => ⟨A9, c9, hset⟩, z09 HI.out.2.2.1 (Nat.le_refl _) _ _ _, HI.out.2.2.2.grown hgr⟩
    ·
     rintro vals xw f hf1 - - hI hF
     simp only [saysD, zD, zE, and_true] at hF
     obtain ⟨B9, d9, e73, h5, h6⟩ := hF
     dsimp only [owes4, bare]
     simp only [putsD, Act.put, zA, zB, zC]
     simp only [e73]
     go_wp2
     exact ⟨rfl, ⟨B9, d9, rfl, h5, h6⟩, ⟨zN rfl, fun _ => Below.refl _ _⟩, hI⟩
    ·
     intro vals xw f hall hI hF
     rw [show List.range _ = [0, 1, 2, 3, 4, 5, 6, 7, 8, 9, 10, 11, 12, 13] from rfl] at hF
     simp only [says, zD, zE, and_true] at hF
     obtain ⟨A13, c13, hk2⟩ := hI.2.1 (hall 12 (by decide))
     obtain ⟨B13, d13, e9, hc9, hr9⟩ : LRow (fun b => (Value.slice B l.length d).ownBlock = some b) w v.2 (vals 13) xw := by obtain ⟨_, _, _, _, _, _, _, _, _, _, _, _, _, e9⟩ := hF; exact e9
     have K13 := zH hk2
     have HR13 := zH hr9
     have HC13 := zH hc9
     have HKP := zH hI.2.2.2
     clear hF hk2 hI hr9 hc9
     simp only [putsD, Act.put, zA, zB, zC]
     simp only [e9]
     clear e9
     have hB9 := HBB.out
     clear HBB
     subst hB9
     go_wp2
     go_roundw
     case rel => exact ⟨a, (a : Int) - 1, v.1, l, v.2, A13, B13, c13, d13, by omega, rfl, by go_num, rfl, HLL.out, HVB.out.2.2, HC13.out, HLM.out, HVB.out.2.1, K13.out, HR13.out, HW11.out.kept HKP.out, HVB.out.1, HST2⟩
     case measure => simp [intOf]
def PX (w : World) (g b : Nat) : Prop := PL w b ∧ b ≠ g
abbrev Lay.Px {α : Type} (L : Lay α) (w : World) (g : Nat) (A : Option Addr) (xs : List α) : Prop := L.Sl w (PX w g) A xs
theorem Lay.Sl.pxpl {α : Type} {L : Lay α} {w : World} {g : Nat} {A : Option Addr} {xs : List α} (h : L.Px w g A xs) : L.Pl w A xs := h.mono fun _ hb => hb.1
theorem Lay.Sl.pxB {α : Type} {L : Lay α} {lo g : Nat} {w w' : World} {A : Option Addr} {xs : List α} (h : L.Px w g A xs) (hb : BelB lo w w') : L.Px w' g A xs := (h.keep fun _ hp => hb.blk hp.1).mono fun _ hp => ⟨hb.pl hp.1, hp.2⟩
theorem Lay.Sl.pxP {α : Type} {L : Lay α} {g : Nat} {w w' : World} {A : Option Addr} {xs : List α} (h : L.Px w g A xs) (hb : Below w.heap.size w w') : L.Px w' g A xs :=
 (h.keep fun b hp => hb.block b hp.1.lt).mono fun b ⟨⟨cs, fr, h1⟩, h2⟩ => ⟨⟨cs, fr, (hb.block b (lt_of_block h1)).trans h1⟩, h2⟩
theorem Lay.Sl.pxS {α : Type} {L : Lay α} {g k : Nat} {w : World} {A : Option Addr} {xs : List α} (h : L.Px w g A xs) (u : Value) : L.Px (w.setCell ⟨g, k, none⟩ u) g A xs :=
 (h.keep fun b hp => heap_setCell_other _ _ _ _ hp.2).mono fun b ⟨⟨cs, fr, h1⟩, h2⟩ => ⟨⟨cs, fr, (heap_setCell_other _ _ _ _ h2).trans h1⟩, h2⟩
theorem OwnSg.px {w : World} {base c g : Nat} {A : Option Addr} {xs ys : List Int} (h : OwnSg w base (.slice A xs.length c) ys) (hl : xs.length = ys.length) (hg : g < base) : Lay.int.Px w g A ys := by
 rw [hl] at h
 rcases h.2 with ⟨e, h2⟩ | ⟨g', cap, cur, e, hb, hgg, _⟩
 · exact fun hn => by omega
 ·
  have h1 := h.pl.2
  injection e with e _ _
  subst e
  exact fun hn => by
   obtain ⟨ad, e1, e2, e3⟩ := h1 hn
   injection e1 with e1; subst e1
   exact ⟨_, rfl, ⟨e2, by show g' ≠ g; omega⟩, fun k x hk => by obtain ⟨vs, hv, hc⟩ := e3 k x hk; exact ⟨vs, hv, hc⟩⟩
theorem sg_lit1 (W : World) (m : Int) : OwnSg (W.alloc (.cells #[.int .i64 m] 123)) W.heap.size (.slice (some ⟨W.heap.size, 0, none⟩) 1 1) [m] := World.ownsRow_lit W #[.int .i64 m] 1 (Nat.le_refl _) (by unfold maxLen; omega) (by simp)
def RetLL (a0 a1 : Addr) (lo : Nat) (w : World) (q r : Nat) (res : BS × (List Int × List Int)) (e : Ending) (w' : World) : Prop :=
 ∃ A c A' c', e = .returned (.tuple #[.slice A res.2.1.length c, .slice A' res.2.2.length c']) ∧ (res.2.1.length ≤ c ∧ Lay.int.Pl w' A res.2.1 ∧ ∀ m ∈ res.2.1, MB m) ∧ (res.2.2.length ≤ c' ∧ Lay.int.Pl w' A' res.2.2 ∧ ∀ m ∈ res.2.2, MB m) ∧ BelB lo w w' ∧ Bd a0 a1 lo w' q r res.1
def DivI (a0 a1 : Addr) (lo : Nat) (W : World) (q r : Nat) (s s' : BS) (n k : Nat) (d d2 : List Int) (called done : Bool) (x : World) : Prop :=
 BelB lo W x ∧ Bd a0 a1 lo x q r (if called = true then s' else s) ∧ (done = false → OwnN x W.heap.size W.heap.size n n (d ++ List.replicate (n - k) 0)) ∧ (done = true → OwnN x W.heap.size W.heap.size n n (d2 ++ List.replicate (n - (k + 1)) 0))
theorem DivI.up {a0 a1 : Addr} {lo : Nat} {W : World} {q r : Nat} {s s' : BS} {n k : Nat} {d d2 : List Int} {called done : Bool} {x x' : World} (h : DivI a0 a1 lo W q r s s' n k d d2 called done x) (hb : Below x.heap.size x x') : DivI a0 a1 lo W q r s s' n k d d2 called done x' :=
 ⟨h.1.trans (.of hb h.2.1.size), h.2.1.up hb, fun hd => z07 (h.2.2.1 hd) hb (Nat.le_refl _), fun hd => z07 (h.2.2.2 hd) hb (Nat.le_refl _)⟩
set_option maxRecDepth 100000 in
set_option maxHeartbeats 16000000 in
theorem bDivide_any (a0 a1 : Addr) (lo q r : Nat) (X Y : Option Addr) (cx cy : Nat) (xs ys : List Int) (s : BS) (w : World) (h : Bd a0 a1 lo w q r s) (hX : Lay.int.Pl w X xs) (hY : Lay.int.Pl w Y ys) (hxm : ∀ x ∈ xs, MB x) (hym : ∀ y ∈ ys, MB y) (hl : xs.length = ys.length) (h0 : 0 < xs.length) (hn : xs.length ≤ 8) :
  Calls Tryz.prog 99 #[.pointer (some ⟨q, 0, none⟩), .slice X xs.length cx, .slice Y ys.length cy] w (RetLL a0 a1 lo w q r (run opsP (divP xs (ys ++ [-1]) xs.length (List.replicate xs.length (-1)) (List.replicate xs.length (-1))) s)) := by
 obtain ⟨i0, hi0, hz0, hz1, hz2⟩ := info_parts signal_info
 obtain ⟨rs, hrs⟩ : ∃ rs, rs = List.replicate xs.length (-1 : Int) := ⟨_, rfl⟩
 rw [← hrs]
 have HRL : Hid (rs.length = xs.length) := zH (by rw [hrs]; simp)
 have HRM : Hid (∀ m ∈ rs, MB m) := zH fun m hm => by rw [hrs] at hm; rw [List.eq_of_mem_replicate hm]; exact bok_mb.off
 obtain ⟨wd, hwd⟩ : ∃ wd, wd = ys ++ [(-1 : Int)] := ⟨_, rfl⟩
 rw [← hwd]
 have HWD := zH hwd
 have HWL : Hid (wd.length = xs.length + 1) := zH (by rw [hwd, List.length_append, hl]; rfl)
 have HWM : Hid (∀ m ∈ wd, MB m) := zH fun m hm => by
  rw [hwd] at hm
  rcases List.mem_append.1 hm with hm | hm
  · exact hym m hm
  · rw [List.mem_singleton.1 hm]; exact bok_mb.off
 obtain ⟨nw, hnw⟩ : ∃ nw, nw = wd.map Neg.neg := ⟨_, rfl⟩
 have HNW := zH hnw
 have HNL : Hid (nw.length = xs.length + 1) := zH (by rw [hnw, List.length_map]; exact HWL.out)
 have HNM : Hid (∀ m ∈ nw, MB m) := zH fun m hm => by
  rw [hnw] at hm
  obtain ⟨z, hz, rfl⟩ := List.mem_map.1 hm
  exact (HWM.out z hz).neg
 obtain ⟨T, hT⟩ : ∃ T, T = run opsP (divP xs wd xs.length rs rs) s := ⟨_, rfl⟩
 rw [← hT]
 have HT := zH hT
 have HB := zH h
 have HX := zH hX
 have HY := zH hY
 have HXM := zH hxm
 have hlo := h.size
 have hly : ys.length ≤ 8 := by omega
 have HOF : Hid (∀ z, Calls Tryz.prog 127 #[.int .i64 (xs.length : Int)] z (RetOw rs z)) := zH fun z => by rw [hrs]; exact offs_any xs.length z (by omega)
 obtain ⟨e0, he0⟩ : ∃ e0 : Nat, e0 + 1 = xs.length := ⟨xs.length - 1, by omega⟩
 have hat0 : (xs.length : Int) - 1 = (e0 : Int) := by omega
 have HE0 := zH he0
 clear h hX hY hxm hym hT hl hrs hwd hnw he0
 go_enter Tryz.func99, Tryz.ntmps99
 go_wp2_with fail
 refine (HOF.out _).mono ?_
 rintro e w1 ⟨A1, c1, rfl, ho1, hb1⟩
 have HO1 := zH ho1
 have HB1 := zH hb1
 clear ho1 hb1
 go_wp2_with fail
 refine (HOF.out _).mono ?_
 rintro e w2 ⟨A2, c2, rfl, ho2, hb2⟩
 have HO2 := zH ho2
 have HB2 := zH hb2
 have HC := zH (cloneS_any Y cy ys w2 ((HY.out.upP HB1.out).upP hb2).plrd (by omega))
 clear ho2 hb2 HOF
 go_wp2_with fail
 refine HC.out.mono ?_
 rintro e w3 ⟨A3, c3, rfl, ho3, hb3⟩
 have hal : Below w3.heap.size w3 (w3.alloc (.cells #[.int .i64 (-1)] 123)) := (Below.refl _ _).alloc (Nat.le_refl _) _
 have ho3a := z07 ho3 hal (Nat.le_refl _)
 have hsz3 : w2.heap.size ≤ (w3.alloc (.cells #[.int .i64 (-1)] 123)).heap.size := Nat.le_trans hb3.size hal.size
 have HB3 := zH (bthen hb3 hal)
 clear hb3 hal HC ho3
 go_wp2_with (at_builtin; refine wpList_append_sig2 (ys := wd) (by rfl) (.tmp 23) (.tmp 24) (by rfl) (by rfl) (by rfl) ho3a (heap_alloc_new _ _) (by omega) hsz3 HWD.out ?_; intro A4 c4 w4 ho4 hg4)
 have hb4 : Below w2.heap.size w2 w4 := HB3.out.grown hg4 hsz3 fun g e => (ho3a.lt g e).1
 obtain ⟨g2, rfl, hg2a, hg2b⟩ := HO2.out.first (by rw [HRL.out]; exact h0)
 obtain ⟨nr, hnr⟩ : ∃ nr, nr = rs.length := ⟨_, rfl⟩
 have HNS := zH hnr
 have HNR : Hid (nr = xs.length) := zH (by rw [hnr]; exact HRL.out)
 have HQ4 : Hid (OwnN w4 w1.heap.size g2 nr c2 rs) := zH (by rw [hnr]; exact z07 HO2.out hb4 (Nat.le_refl _))
 have HR4 : Hid (Lay.int.Px w4 g2 A1 rs) := zH (by
  have h9 : OwnSg w4 w.heap.size (.slice A1 rs.length c1) rs := z07 HO1.out (bthen HB2.out hb4) (Nat.le_refl _)
  obtain ⟨g1, e1, _, hg1⟩ := HO1.out.first (by rw [HRL.out]; exact h0)
  exact fun hn => by
   obtain ⟨ad, f1, f2, f3⟩ := h9.pl.2 hn
   rw [e1] at f1; injection f1 with f1; subst f1
   exact ⟨_, e1, ⟨f2, by show g1 ≠ g2; omega⟩, f3⟩)
 have HW4 : Hid (Lay.int.Px w4 g2 A4 wd) := zH (ho4.px rfl hg2b)
 have HC4 := zH ho4.pl.1
 have HC1 := zH HO1.out.pl.1
 have HBB4 : Hid (BelB lo w w4) := zH (BelB.of (bthen HB1.out (bthen HB2.out hb4)) hlo)
 have HBD4 : Hid (Bd a0 a1 lo w4 q r s) := zH (HB.out.up (bthen HB1.out (bthen HB2.out hb4)))
 have hsz1 : w.heap.size ≤ w1.heap.size := HB1.out.size
 have hgw : w.heap.size ≤ g2 := Nat.le_trans HB1.out.size hg2a
 clear ho3a hsz3 ho4 hg4 hb4 HO1 HO2 HB1 HB2 HB3 HB HY hg2a hg2b
 rw [← hnr]
 clear hnr
 go_wp2
 go_loopw [8, 10] (fun rv i wr => ∃ (a : Nat) (e : Int) (s1 : BS) (qv l : List Int) (A : Option Addr) (c : Nat), a ≤ xs.length ∧ i = .int .i64 e ∧ e + 1 = (a : Int) ∧ rv = .slice A l.length c ∧ l.length = xs.length ∧ l.length ≤ c ∧ qv.length = xs.length ∧ (∀ m ∈ qv, MB m) ∧ (∀ m ∈ l, MB m) ∧ OwnN wr w.heap.size g2 nr c2 qv ∧ Lay.int.Px wr g2 A l ∧ Lay.int.Px wr g2 A4 wd ∧ BelB lo w wr ∧ Bd a0 a1 lo wr q r s1 ∧ Hid (run opsP (divP xs wd a qv l) s1 = T)) (fun _ i _ => (intOf i + 1).toNat)
 case atStart => exact ⟨xs.length, (e0 : Int), s, rs, rs, A1, c1, Nat.le_refl _, rfl, by have := HE0.out; omega, by rw [HNS.out], HRL.out, HC1.out, HRL.out, HRM.out, HRM.out, own_mono HQ4.out hsz1, HR4.out, HW4.out, HBB4.out, HBD4.out, zH (by rw [HT.out])⟩
 case round =>
  obtain ⟨a, e, s1, qv, l, A, c, ha, rfl, hea, rfl, hll, hlc, hql, hqm, hlm, hoq, hpr, hpw, hbb, hbd, hst⟩ := hrel
  obtain ⟨wo, hwo⟩ : ∃ wo, wo = wr := ⟨_, rfl⟩
  subst hwo
  have HLL := zH hll
  have HLC := zH hlc
  have HQL := zH hql
  have HQM := zH hqm
  have HLM := zH hlm
  have HOQ := zH hoq
  have HPR := zH hpr
  have HPW := zH hpw
  have HBB := zH hbb
  have HBD := zH hbd
  have hlo2 := hbd.size
  have HGO := zH hoq.block.2.1
  clear hll hlc hql hqm hlm hoq hpr hpw hbb hbd HQ4 HR4 HW4 HC1 HBB4 HBD4 HRM HT
  rcases a with _ | a
  ·
   obtain rfl : e = -1 := by omega
   have HT2 := zH (show T = (s1, (qv, l)) from hst.out.symm)
   clear hst hea
   go_wp2
   go_ret2
   rw [HT2.out]
   have hq9 := HOQ.out.sg
   exact ⟨some ⟨g2, 0, none⟩, c2, A, c, (show Ending.returned (.tuple #[.slice (some ⟨g2, 0, none⟩) nr c2, .slice A l.length c]) = Ending.returned (.tuple #[.slice (some ⟨g2, 0, none⟩) qv.length c2, .slice A l.length c]) from by rw [HNR.out, HQL.out]), ⟨hq9.pl.1, hq9.pl.2, HQM.out⟩, ⟨HLC.out, HPR.out.pxpl, HLM.out⟩, HBB.out, HBD.out⟩
  ·
   obtain rfl : e = (a : Int) := by omega
   have hax : a < xs.length := by omega
   have hax2 : (a : Int) < xs.length := by omega
   have haq : a < nr := by have := HNR.out; omega
   have haq2 : (a : Int) < nr := by omega
   obtain ⟨x, hx⟩ : ∃ x, xs[a]? = some x := ⟨_, List.getElem?_eq_getElem hax⟩
   have hxg : xs[a] = x := (List.getElem?_eq_some_iff.1 hx).2
   have HXR := zH (HXM.out x (List.mem_of_getElem? hx))
   obtain ⟨adx, rfl, -, -⟩ := HX.out.at_int hax
   have cx9 : wo.cell? (adx.add a) = some (.int .i64 x) := by
    obtain ⟨ad, e, _, hc⟩ := (HX.out.upB HBB.out).at_int hax
    injection e with e; subst e; rw [← hxg]; exact hc
   have HST := zH ((run_div (o := opsP) xs wd a x qv l s1 hx).symm.trans hst.out)
   obtain ⟨tl, htl⟩ : ∃ tl, tl = x :: l := ⟨_, rfl⟩
   rw [← htl, ← HNW.out] at HST
   have HTL := zH htl
   have HTLL : Hid (tl.length = xs.length + 1) := zH (by rw [htl, List.length_cons, HLL.out])
   have HTM : Hid (∀ m ∈ tl, MB m) := zH fun m hm => by
    rw [htl] at hm
    rcases List.mem_cons.1 hm with rfl | hm
    · exact HXR.out
    · exact HLM.out m hm
   have hxm9 : -1000000 ≤ x ∧ x ≤ 1000000 := HXR.out.2
   obtain ⟨hx0, hx1⟩ := hxm9
   have hlit := sg_lit1 wo x
   have hal : Below wo.heap.size wo (wo.alloc (.cells #[.int .i64 x] 123)) := (Below.refl _ _).alloc (Nat.le_refl _) _
   have HAL := zH hal
   have hlr := (HPR.out.pxP hal).pxpl.plrd
   have hln := sl_nonnil HPR.out
   have hl9 : l.length ≤ 8 := by have := HLL.out; omega
   clear hx hxg hst hea htl hal
   go_wp2_with (at_builtin; refine wpList_append_sigs (xs := [x]) (zs := tl) (by rfl) (.tmp 37) (.tmp 38) (by rfl) (by rfl) (by rfl) hlit hlr hln (by simp; omega) (by simp) HTL.out ?_; intro X5 d5 w5 ho5 hg5)
   have hb5 : Below wo.heap.size wo w5 := HAL.out.grown hg5 (by simp) fun g e => (hlit.lt g e).1
   have HT5 := zH ho5.pl
   have HB5 := zH (BelB.of hb5 hlo2)
   have HPW := zH (HPW.out.pxP hb5)
   have HOQ : Hid (OwnN w5 w.heap.size g2 nr c2 qv) := zH (z07 HOQ.out hb5 (Nat.le_refl _))
   have HT5X : Hid (Lay.int.Px w5 g2 X5 tl) := zH (ho5.px rfl (HGO.out))
   have HC := zH (bLess_any a0 a1 lo q r X5 A4 d5 c4 tl wd s1 w5 (HBD.out.up hb5) HT5.out.2 HPW.out.pxpl HTM.out HWM.out (by rw [HTLL.out, HWL.out]) (by rw [HTLL.out]; omega))
   obtain ⟨g, hg9⟩ : ∃ g, g = run opsP (lessP tl wd (-1)) s1 := ⟨_, rfl⟩
   rw [← hg9] at HC HST
   have HGB : Hid (NB g.1.n ∧ MB g.2) := zH (by rw [hg9]; exact bd_runP _ _ (less_bd bok_mb _ _ _ _ bok_mb.off HTM.out HWM.out fun m hm => hm) HBD.out.nb)
   clear hg9 ho5 hg5 hb5 hlit hlr hln HAL cx9
   go_wp2_with fail
   refine HC.out.mono ?_
   rintro e z6 ⟨rfl, hb6, hd6⟩
   have HB6 := zH (HB5.out.trans hb6)
   have HD6 := zH hd6
   have HPW := zH (HPW.out.pxB hb6)
   have HT6 := zH (HT5X.out.pxB hb6)
   have HOQ := zH (HOQ.out.upB hb6)
   obtain ⟨⟨v3, hold⟩, hfz⟩ := HOQ.out.cell haq
   obtain ⟨hgm0, hgm1, hgm2⟩ := HGB.out.2
   have HQP := zH (HOQ.out.put (k := a) (-g.2) rfl)
   obtain ⟨hq1, hq2, cs9, fr9, hq3⟩ := HOQ.out.block
   have HS7 := zH (sig_set (k := a) hq3 (Nat.le_trans hlo hgw) (.int .i64 (-g.2)))
   have HD7 := zH (HD6.out.upS HS7.out)
   have HPW7 := zH (HPW.out.pxS (k := a) (.int .i64 (-g.2)))
   have HT7 := zH (HT6.out.pxS (k := a) (.int .i64 (-g.2)))
   have HBW7 : Hid (BelB lo w (z6.setCell ⟨g2, a, none⟩ (.int .i64 (-g.2)))) := zH ((HBB.out.trans HB6.out).then ((below_at _ _ _ _).mono hgw) hlo)
   have HC7 := zH (negated_any a0 a1 lo q r A4 c4 wd g.1 _ HD7.out HPW7.out.pxpl HWM.out (by rw [HWL.out]; omega))
   rw [← HNW.out] at HC7
   clear hb6 hd6 HC hq1 hq2 hq3 HPW HT6 HOQ HD6 HS7
   go_wp2_with fail
   refine HC7.out.mono ?_
   clear hold hfz
   generalize hz7 : z6.setCell ⟨g2, a, none⟩ (.int .i64 (-g.2)) = z7 at *
   clear hz7
   rintro e z8 ⟨A8, c8, rfl, hc8, hp8, hm8, hb8, hd8⟩
   dsimp only at hc8 hp8 hm8 hd8
   have HB8 := zH (HBW7.out.trans hb8)
   have HT8 := zH (HT7.out.pxB hb8)
   have HPW8 := zH (HPW7.out.pxB hb8)
   have HOQ8 := zH (HQP.out.upB hb8)
   have HC8 := zH (bSum_any a0 a1 lo q r 1 X5 A8 d5 c8 tl nw g.1 z8 hd8 bok_mb.one HT8.out.pxpl hp8 HTM.out HNM.out (by rw [HTLL.out, HNL.out]) (by rw [HTLL.out]; omega))
   obtain ⟨u, hu⟩ : ∃ u, u = run opsP (sumP tl nw 1) g.1 := ⟨_, rfl⟩
   rw [← hu] at HC8 HST
   have HUB : Hid (NB u.1.n ∧ (∀ m ∈ u.2, MB m) ∧ u.2.length = xs.length + 1) := zH (by
    rw [hu]
    exact bd_runP (Φ := fun l9 => (∀ m ∈ l9, MB m) ∧ l9.length = xs.length + 1) _ _ (sum_bd bok_mb _ _ _ _ bok_mb.one HTM.out HNM.out fun l9 h9 h8 => ⟨h9, (h8 (by rw [HTLL.out, HNL.out])).trans HTLL.out⟩) HGB.out.1)
   clear hu hc8 hp8 hm8 hb8 hd8 HC7 HQP HPW7 HT7 HBW7 HD7
   go_wp2_with fail
   refine HC8.out.mono ?_
   rintro e z9 ⟨A9, c9, rfl, hc9, hp9, hm9, hb9, hd9⟩
   have HB9 := zH (HB8.out.trans hb9)
   have HT9 := zH (HT8.out.pxB hb9)
   have HPW9 := zH (HPW8.out.pxB hb9)
   have HOQ9 := zH (HOQ8.out.upB hb9)
   have HD9 := zH hd9
   have HP9 := zH hp9
   have hlo9 := hd9.size
   clear hc9 hp9 hm9 hb9 hd9 HC8 HB8 HT8 HPW8 HOQ8
   obtain ⟨tn, htn⟩ : ∃ tn, tn = tl.take xs.length := ⟨_, rfl⟩
   obtain ⟨un, hun⟩ : ∃ un, un = u.2.take xs.length := ⟨_, rfl⟩
   rw [← htn, ← hun] at HST
   have HTN := zH htn
   have HUN := zH hun
   have HTNL : Hid (tn.length = xs.length) := zH (by rw [htn, List.length_take, HTLL.out]; omega)
   have HUNL : Hid (un.length = xs.length) := zH (by rw [hun, List.length_take, HUB.out.2.2]; omega)
   obtain ⟨C, hC⟩ : ∃ C, C = (fun z : BS × List Int => run opsP (divP xs wd a (qv.set a (-g.2)) z.2) z.1) := ⟨_, rfl⟩
   have HST : Hid (C (run opsP (eachP (muxP g.2) tn un) u.1) = T) := zH (by rw [hC]; exact HST.out)
   have HC := zH hC
   clear htn hun hC
   go_wp2_with (at_make; refine wpList_make_full z9 rfl _ _ 77 rfl z9.heap.size 123 i0 _ 1 Tryz.underlying77 hi0 hz0 hz1 .i64 .i64 _ _ xs.length rfl rfl rfl rfl (by rw [hz2]; omega) (by unfold maxLen; omega) (Nat.le_refl _) ?_; intro w10 hown hg10)
   have hb10 : Below z9.heap.size z9 w10 := (Below.refl _ _).grown hg10 (Nat.le_refl _) (by simp)
   have HO1 := zH (made_sg hown)
   have HB1 := zH (BelB.of hb10 hlo9)
   have HD1 := zH (HD9.out.up hb10)
   clear hown hg10 hb10
   go_loopw [59] (fun i z => ∃ (k : Nat) (s2 : BS) (d : List Int), k ≤ xs.length ∧ i = .int .i64 k ∧ d.length = k ∧ (∀ m ∈ d, MB m) ∧ BelB lo z9 z ∧ Bd a0 a1 lo z q r s2 ∧ OwnN z z9.heap.size z9.heap.size xs.length xs.length (d ++ List.replicate (xs.length - k) 0) ∧ Hid (C (let g9 := run opsP (eachP (muxP g.2) (tn.drop k) (un.drop k)) s2; (g9.1, d ++ g9.2)) = T)) (fun i _ => xs.length - (intOf i).toNat)
   case atStart => exact ⟨0, u.1, [], Nat.zero_le _, rfl, rfl, (fun _ h => by cases h), HB1.out, HD1.out, HO1.out, HST⟩
   case round =>
    obtain ⟨k, s2, d, hk, rfl, hdk, hdm, hbz, hdz, hoz, hst⟩ := hrel
    have HDM := zH hdm
    have HDK := zH hdk
    have HBZ := zH hbz
    have HDZ := zH hdz
    have HOZ := zH hoz
    clear hdm hdk hbz hdz hoz HO1 HB1 HD1 HST
    by_cases hltk : k < xs.length
    ·
     have hltk2 : (k : Int) < xs.length := by omega
     have hkt : k < tl.length := by rw [HTLL.out]; omega
     have hku : k < u.2.length := by rw [HUB.out.2.2]; omega
     have hkt2 : (k : Int) < tl.length := by omega
     have hku2 : (k : Int) < u.2.length := by omega
     obtain ⟨tv, htv⟩ : ∃ tv, tv = tl[k] := ⟨_, rfl⟩
     obtain ⟨uv, huv⟩ : ∃ uv, uv = u.2[k] := ⟨_, rfl⟩
     have HTVM := zH (show MB tv by rw [htv]; exact HTM.out _ (List.getElem_mem _))
     have HUVM := zH (show MB uv by rw [huv]; exact HUB.out.2.1 _ (List.getElem_mem _))
     have htk : tn[k]? = some tv := by rw [HTN.out, List.getElem?_take_of_lt hltk, List.getElem?_eq_getElem hkt, htv]
     have huk : un[k]? = some uv := by rw [HUN.out, List.getElem?_take_of_lt hltk, List.getElem?_eq_getElem hku, huv]
     obtain ⟨adt, rfl, -, -⟩ := HT9.out.at_int hkt
     obtain ⟨adu, rfl, -, -⟩ := HP9.out.at_int hku
     have HRT : Hid (∀ z, BelB lo z9 z → z.cell? (adt.add k) = some (.int .i64 tv)) := zH fun z hz => by
      obtain ⟨ad, e, _, hc⟩ := (HT9.out.pxB hz).at_int hkt
      injection e with e; subst e; rw [htv]; exact hc
     have HRU : Hid (∀ z, BelB lo z9 z → z.cell? (adu.add k) = some (.int .i64 uv)) := zH fun z hz => by
      obtain ⟨ad, e, _, hc⟩ := (HP9.out.upB hz).at_int hku
      injection e with e; subst e; rw [huv]; exact hc
     obtain ⟨m, hm⟩ : ∃ m, m = run opsP (muxP g.2 tv uv) s2 := ⟨_, rfl⟩
     have HM := zH hm
     have HMB : Hid (MB m.2) := zH (by rw [hm]; exact (mux_mb HDZ.out.nb HGB.out.2.rb HTVM.out.rb HUVM.out.rb).2)
     obtain ⟨d2, hd2⟩ : ∃ d2, d2 = d ++ [m.2] := ⟨_, rfl⟩
     have HD2 := zH hd2
     have HST2 : Hid (C (let r9 := run opsP (eachP (muxP g.2) (tn.drop (k + 1)) (un.drop (k + 1))) m.1; (r9.1, d2 ++ r9.2)) = T) := zH (by
      rw [hd2, hm, ← hst.out]
      exact (congrArg C (run_each (o := opsP) (f := muxP g.2) tn un k tv uv htk huk s2 d)).symm)
     clear htv huv htk huk hm hd2 hst
     go_wp2
     refine z05 [[], [], [], [], [], [], [(4, 66), (5, 67)], [(6, 68)], [], [], [(8, 70), (9, 71)], [(10, 72)], [(2, 64), (3, 65), (7, 69), (11, 73)], [(0, 62), (1, 63)], [(13, 75), (12, 74)]]
      (fun x9 y9 => Below x9.heap.size x9 y9)
      [(12, fun x9 y9 => BelB lo x9 y9), (14, fun x9 y9 => x9.grownBy y9 (some z9.heap.size))]
      (fun f9 x9 => DivI a0 a1 lo z9 q r s2 m.1 xs.length k d d2 (f9 12) (f9 14) x9)
      [fun vs9 _ => vs9 0 = (.slice (some ⟨z9.heap.size, 0, none⟩) xs.length xs.length),
  fun vs9 _ => vs9 1 = (.int .i64 (k : Int)),
  fun vs9 _ => vs9 2 = (.pointer (some ⟨q, 0, none⟩)),
  fun vs9 _ => vs9 3 = (.int .i64 g.2),
  fun vs9 _ => vs9 4 = (.slice (some adt) tl.length d5),
  fun vs9 _ => vs9 5 = (.int .i64 (k : Int)),
  fun vs9 _ => vs9 6 = (.pointer (some (adt.add k))),
  fun vs9 _ => vs9 7 = (.int .i64 tv),
  fun vs9 _ => vs9 8 = (.slice (some adu) u.2.length c9),
  fun vs9 _ => vs9 9 = (.int .i64 (k : Int)),
  fun vs9 _ => vs9 10 = (.pointer (some (adu.add k))),
  fun vs9 _ => vs9 11 = (.int .i64 uv),
  fun vs9 _ => vs9 12 = (.int .i64 m.2),
  fun vs9 _ => vs9 13 = (.pointer (some ⟨z9.heap.size, k, none⟩)),
  fun _ _ => True]
      [(0, 62), (1, 63), (2, 64), (3, 65), (4, 66), (5, 67), (6, 68), (7, 69), (8, 70), (9, 71), (10, 72), (11, 73), (12, 74), (13, 75)] (by kernel_rfl) (by kernel_rfl) (by kernel_rfl) (by kernel_rfl)
      (fun _ => Below.refl _ _) ⟨fun _ => BelB.refl _ _, fun _ => World.grownBy.refl _ _, trivial⟩
      ⟨⟨.inr zK, ⟨.inr (.inr zK), .inr (.inr zK), trivial⟩⟩,
  ⟨.inr zK, ⟨.inr (.inr zK), .inr (.inr zK), trivial⟩⟩,
  ⟨.inr zK, ⟨.inr (.inr zK), .inr (.inr zK), trivial⟩⟩,
  ⟨.inr zK, ⟨.inr (.inr zK), .inr (.inr zK), trivial⟩⟩,
  ⟨.inr zK, ⟨.inr (.inr zK), .inr (.inr zK), trivial⟩⟩,
  ⟨.inr zK, ⟨.inr (.inr zK), .inr (.inr zK), trivial⟩⟩,
  ⟨.inr zK, ⟨.inr (.inr zK), .inr (.inr zK), trivial⟩⟩,
  ⟨.inr zK, ⟨.inr (.inr zK), .inr (.inr zK), trivial⟩⟩,
  ⟨.inr zK, ⟨.inr (.inr zK), .inr (.inr zK), trivial⟩⟩,
  ⟨.inr zK, ⟨.inr (.inr zK), .inr (.inr zK), trivial⟩⟩,
  ⟨.inr zK, ⟨.inr (.inr zK), .inr (.inr zK), trivial⟩⟩,
  ⟨.inr zK, ⟨.inr (.inr zK), .inr (.inr zK), trivial⟩⟩,
  ⟨.inr zK, ⟨.inr (.inl rfl), .inr (.inr zK), trivial⟩⟩,
  ⟨.inr zK, ⟨.inr (.inr zK), .inr (.inr zK), trivial⟩⟩,
  ⟨.inr zK, ⟨.inr (.inr zK), .inr (.inl rfl), trivial⟩⟩, trivial⟩ ⟨fun _ _ _ h _ v => (by simpa only [← h] using v),
  fun _ _ _ h _ v => (by simpa only [← h] using v),
  fun _ _ _ h _ v => (by simpa only [← h] using v),
  fun _ _ _ h _ v => (by simpa only [← h] using v),
  fun _ _ _ h _ v => (by simpa only [← h] using v),
  fun _ _ _ h _ v => (by simpa only [← h] using v),
  fun _ _ _ h _ v => (by simpa only [← h] using v),
  fun _ _ _ h _ v => (by simpa only [← h] using v),
  fun _ _ _ h _ v => (by simpa only [← h] using v),
  fun _ _ _ h _ v => (by simpa only [← h] using v),
  fun _ _ _ h _ v => (by simpa only [← h] using v),
  fun _ _ _ h _ v => (by simpa only [← h] using v),
  fun _ _ _ h _ v => (by simpa only [← h] using v),
  fun _ _ _ h _ v => (by simpa only [← h] using v),
  fun _ _ _ _ _ _ => trivial, trivial⟩ ((show DivI a0 a1 lo z9 q r s2 m.1 xs.length k d d2 false false _ from DivI.up ⟨HBZ.out, by rw [if_neg (by simp)]; exact HDZ.out, fun _ => HOZ.out, fun h => by cases h⟩ (z01 (Below.refl _ _) 1))) ⟨?_, ?_, ?_, ?_, ?_, ?_, ?_, ?_, ?_, ?_, ?_, ?_, ?_, ?_, ?_, trivial⟩ ?_
     ·
      rintro vals xw f hf1 - - hI hF
      dsimp only [owes4, bare]
      simp only [putsD, Act.put, zA, zB, zC]
      go_wp2
      exact ⟨rfl, rfl, ⟨zN rfl, fun _ => ⟨zN rfl, fun _ => Below.refl _ _⟩⟩, hI⟩
     ·
      rintro vals xw f hf1 - - hI hF
      dsimp only [owes4, bare]
      simp only [putsD, Act.put, zA, zB, zC]
      go_wp2
      exact ⟨rfl, rfl, ⟨zN rfl, fun _ => ⟨zN rfl, fun _ => Below.refl _ _⟩⟩, hI⟩
     ·
      rintro vals xw f hf1 - - hI hF
      dsimp only [owes4, bare]
      simp only [putsD, Act.put, zA, zB, zC]
      go_wp2
      exact ⟨rfl, rfl, ⟨zN rfl, fun _ => ⟨zN rfl, fun _ => Below.refl _ _⟩⟩, hI⟩
     ·
      rintro vals xw f hf1 - - hI hF
      dsimp only [owes4, bare]
      simp only [putsD, Act.put, zA, zB, zC]
      go_wp2
      exact ⟨rfl, rfl, ⟨zN rfl, fun _ => ⟨zN rfl, fun _ => Below.refl _ _⟩⟩, hI⟩
     ·
      rintro vals xw f hf1 - - hI hF
      dsimp only [owes4, bare]
      simp only [putsD, Act.put, zA, zB, zC]
      go_wp2
      exact ⟨rfl, rfl, ⟨zN rfl, fun _ => ⟨zN rfl, fun _ => Below.refl _ _⟩⟩, hI⟩
     ·
      rintro vals xw f hf1 - - hI hF
      dsimp only [owes4, bare]
      simp only [putsD, Act.put, zA, zB, zC]
      go_wp2
      exact ⟨rfl, rfl, ⟨zN rfl, fun _ => ⟨zN rfl, fun _ => Below.refl _ _⟩⟩, hI⟩
     ·
      rintro vals xw f hf1 - - hI hF
      simp only [saysD, zD, zE, and_true] at hF
      obtain ⟨e1, e2⟩ := hF
      dsimp only [owes4, bare]
      simp only [putsD, Act.put, zA, zB, zC]
      simp only [e1, e2]
      go_wp2
      exact ⟨rfl, rfl, ⟨zN rfl, fun _ => ⟨zN rfl, fun _ => Below.refl _ _⟩⟩, hI⟩
     ·
      rintro vals xw f hf1 - - hI hF
      simp only [saysD, zD, zE, and_true] at hF
      have e1 := hF
      dsimp only [owes4, bare]
      simp only [putsD, Act.put, zA, zB, zC]
      simp only [e1]
      have c9 := HRT.out _ hI.1
      go_wp2
      exact ⟨rfl, rfl, ⟨zN rfl, fun _ => ⟨zN rfl, fun _ => Below.refl _ _⟩⟩, hI⟩
     ·
      rintro vals xw f hf1 - - hI hF
      dsimp only [owes4, bare]
      simp only [putsD, Act.put, zA, zB, zC]
      go_wp2
      exact ⟨rfl, rfl, ⟨zN rfl, fun _ => ⟨zN rfl, fun _ => Below.refl _ _⟩⟩, hI⟩
     ·
      rintro vals xw f hf1 - - hI hF
      dsimp only [owes4, bare]
      simp only [putsD, Act.put, zA, zB, zC]
      go_wp2
      exact ⟨rfl, rfl, ⟨zN rfl, fun _ => ⟨zN rfl, fun _ => Below.refl _ _⟩⟩, hI⟩
     ·
      rintro vals xw f hf1 - - hI hF
      simp only [saysD, zD, zE, and_true] at hF
      obtain ⟨e1, e2⟩ := hF
      dsimp only [owes4, bare]
      simp only [putsD, Act.put, zA, zB, zC]
      simp only [e1, e2]
      go_wp2
      exact ⟨rfl, rfl, ⟨zN rfl, fun _ => ⟨zN rfl, fun _ => Below.refl _ _⟩⟩, hI⟩
     ·
      rintro vals xw f hf1 - - hI hF
      simp only [saysD, zD, zE, and_true] at hF
      have e1 := hF
      dsimp only [owes4, bare]
      simp only [putsD, Act.put, zA, zB, zC]
      simp only [e1]
      have c9 := HRU.out _ hI.1
      go_wp2
      exact ⟨rfl, rfl, ⟨zN rfl, fun _ => ⟨zN rfl, fun _ => Below.refl _ _⟩⟩, hI⟩
     ·
      intro vals xw f hf1 hf2 hf3 hI hF
      have k14 : f 14 = false := hf3 14 (by kernel_rfl)
      clear hf2 hf3
      simp only [saysD, zD, zE, and_true] at hF
      obtain ⟨e1, e2, e3, e4⟩ := hF
      dsimp only [owes4, bare]
      simp only [putsD, Act.put, zA, zB, zC]
      simp only [e1, e2, e3, e4]
      obtain ⟨i1, i2, i3, i4⟩ := hI
      rw [hf1, if_neg (by simp)] at i2
      have I1 := zH i1
      have I3 := zH (i3 k14)
      have HC := zH (bMux_any a0 a1 lo q r s2 g.2 tv uv xw i2 HGB.out.2 HTVM.out HUVM.out)
      rw [← HM.out] at HC
      clear i1 i2 i3 i4
      go_wp2_with fail
      refine HC.out.mono ?_
      rintro e wx ⟨rfl, hb9, hd9⟩
      have HB8 := zH hb9
      have HD8 := zH hd9
      clear hb9 hd9 HC
      go_wp2
      exact ⟨rfl, rfl, ⟨fun _ => HB8.out, fun h9 => absurd rfl h9⟩, I1.out.trans HB8.out, by rw [z10, if_pos rfl]; exact HD8.out, fun _ => I3.out.upB HB8.out, fun h => absurd ((did_ne (f := f) (k := 12) (j := 14) rfl).symm.trans h) (by rw [k14]; simp)⟩
     ·
      rintro vals xw f hf1 - - hI hF
      simp only [saysD, zD, zE, and_true] at hF
      obtain ⟨e1, e2⟩ := hF
      dsimp only [owes4, bare]
      simp only [putsD, Act.put, zA, zB, zC]
      simp only [e1, e2]
      go_wp2
      exact ⟨rfl, rfl, ⟨zN rfl, fun _ => ⟨zN rfl, fun _ => Below.refl _ _⟩⟩, hI⟩
     ·
      rintro vals xw f hf1 - - hI hF
      simp only [saysD, zD, zE, and_true] at hF
      obtain ⟨e1, e2⟩ := hF
      dsimp only [owes4, bare]
      simp only [putsD, Act.put, zA, zB, zC]
      simp only [e1, e2]
      obtain ⟨i1, i2, i3, _⟩ := hI
      have own9 := i3 hf1
      obtain ⟨⟨v3, hold⟩, hfz⟩ := own9.cell hltk
      have HO9 := zH own9
      have I1 := zH i1
      have I2 := zH i2
      clear own9 i1 i2 i3
      go_wp2
      obtain ⟨hq1, hq2, cs, frz, hq3⟩ := HO9.out.block
      exact ⟨rfl, trivial, ⟨zN rfl, fun _ => ⟨fun _ => z02 (World.grownBy.refl _ _) _ _, fun h9 => absurd rfl h9⟩⟩, I1.out.then (below_at _ _ _ _) hlo9, by rw [did_ne (by decide)]; exact I2.out.upS (sig_set hq3 hlo9 _), fun h => absurd ((z10 f 14).symm.trans h) (by simp), fun _ => HO9.out.put m.2 (by rw [HD2.out]; exact (put_next HDK.out hltk _).symm)⟩
     ·
      intro vals xw f hall hI hF
      rw [show List.range _ = [0, 1, 2, 3, 4, 5, 6, 7, 8, 9, 10, 11, 12, 13, 14] from rfl] at hF
      simp only [says, zD, zE, and_true] at hF
      obtain ⟨i1, i2, _, i4⟩ := hI
      rw [hall 12 (by decide), if_pos rfl] at i2
      have i5 := i4 (hall 14 (by decide))
      simp only [putsD, Act.put, zA, zB, zC]
      have I1 := zH i1
      have I2 := zH i2
      have I5 := zH i5
      clear i1 i2 i4 i5 hF
      go_wp2
      go_roundw
      case rel => exact ⟨k + 1, m.1, d2, by omega, by go_num, by rw [HD2.out, List.length_append, HDK.out]; rfl, fun z hz => (List.mem_append.1 (by rw [HD2.out] at hz; exact hz)).elim (HDM.out z) (fun hz => by rw [List.mem_singleton.1 hz]; exact HMB.out), I1.out, I2.out, I5.out, HST2⟩
      case measure => simp [intOf]; omega
    ·
     have hje : k = xs.length := by omega
     subst hje
     have hltk2 : ¬ ((xs.length : Nat) : Int) < xs.length := by omega
     have hd1 : tn.drop xs.length = [] := by rw [← HTNL.out]; exact List.drop_length
     have hd2 : un.drop xs.length = [] := by rw [← HUNL.out]; exact List.drop_length
     have hst2 := hst.out
     rw [hd1, hd2] at hst2
     have hst3 : C (s2, d) = T := by rw [← hst2]; show _ = C (s2, d ++ []); rw [List.append_nil]
     rw [HC.out] at hst3
     have HST2 := zH hst3
     have HPD : Hid (Lay.int.Px wr g2 (some ⟨z9.heap.size, 0, none⟩) d) := zH (by
      have h9 := HOZ.out
      rw [Nat.sub_self, List.replicate_zero, List.append_nil] at h9
      exact h9.sg.px rfl HOQ9.out.block.2.1)
     have HQ2 := zH (HOQ9.out.upB HBZ.out)
     have HPW2 := zH (HPW9.out.pxB HBZ.out)
     have HB2 := zH (HB9.out.trans HBZ.out)
     have hqm2 : ∀ m ∈ qv.set a (-g.2), MB m := fun m hm => by
      rcases List.mem_or_eq_of_mem_set hm with hm | hm
      · exact HQM.out m hm
      · rw [hm]; exact HGB.out.2.neg
     have HQM2 := zH hqm2
     clear hst hst2 hst3 hd1 hd2 hqm2
     go_wp2
     go_roundw
     case rel => exact ⟨a, (a : Int) - 1, s2, qv.set a (-g.2), d, some ⟨z9.heap.size, 0, none⟩, xs.length, by omega, by go_num, by omega, by rw [HDK.out], HDK.out, Nat.le_of_eq HDK.out, by rw [List.length_set]; exact HQL.out, HQM2.out, HDM.out, HQ2.out, HPD.out, HPW2.out, HB2.out, HDZ.out, HST2⟩
     case measure => simp [intOf]
end Go.Proofs.YtjghcaghigebjaaGreatDoor
namespace Go.Proofs.YtjghcaghigebjaaGreatDoor
open Go Go.RowKit Go.Shelf
attribute [local go_sem] Oper.semAt_some
theorem run_mul9 {σ : Type} {o : Ops σ} (xs ys : List Int) (i : Nat) (y : Int) (hy : ys[i]? = some y) (s : σ) (acc : List Int) :
  run o (mulP xs (ys.drop i) i acc) s = (let row := run o (rowP xs i y) s; let z := run o (sumP acc row.2 (-1)) row.1; run o (mulP xs (ys.drop (i + 1)) (i + 1) z.2) z.1) := by
 obtain ⟨hk, rfl⟩ := List.getElem?_eq_some_iff.1 hy
 rw [List.drop_eq_getElem_cons hk]
 simp only [mulP, run_bind]
theorem run_row {σ : Type} {o : Ops σ} (xs : List Int) (i : Nat) (y : Int) (s : σ) : run o (rowP xs i y) s = (let r := run o (mapP (andP y) (xs.take (xs.length - i))) s; (r.1, List.replicate i (-1) ++ r.2)) := by
 simp only [rowP, run_bind, run]
def RowI (a0 a1 : Addr) (lo : Nat) (W : World) (q r : Nat) (s s' : BS) (A : Option Addr) (c : Nat) (l : List Int) (called done : Bool) (x : World) : Prop :=
 BelB lo W x ∧ Bd a0 a1 lo x q r (if called = true then s' else s) ∧ (done = false → OwnSg x W.heap.size (.slice A l.length c) l)
theorem RowI.up {a0 a1 : Addr} {lo : Nat} {W : World} {q r : Nat} {s s' : BS} {A : Option Addr} {c : Nat} {l : List Int} {called done : Bool} {x x' : World} (h : RowI a0 a1 lo W q r s s' A c l called done x) (hb : Below x.heap.size x x') : RowI a0 a1 lo W q r s s' A c l called done x' :=
 ⟨h.1.trans (.of hb h.2.1.size), h.2.1.up hb, fun hd => z07 (h.2.2 hd) hb (Nat.le_refl _)⟩
theorem box_nck {cs : Array Value} {fr : Nat × Nat} {w w' : World} {lo b : Nat} {t : TypeId} (h : w.heap[b]? = some (.cells cs t fr)) (hb : BelB lo w w') (h1 : t ≠ 119) (h2 : t ≠ 88) (h3 : t ≠ 83) : w'.heap[b]? = some (.cells cs t fr) := hb.kd b _ h (nck_of h1 h2 h3).1 (nck_of h1 h2 h3).2
set_option maxRecDepth 100000 in
set_option maxHeartbeats 16000000 in
theorem rows1_any (a0 a1 : Addr) (lo q r l bx by_ bb n : Nat) (X Y : Option Addr) (cx cy : Nat) (xs ys : List Int) (w : World) (hX : Lay.int.Pl w X xs) (hY : Lay.int.Pl w Y ys) (hxm : ∀ x ∈ xs, MB x) (hym : ∀ y ∈ ys, MB y) (hl : xs.length = ys.length) (hn : xs.length ≤ 8)
  (J : Nat → BS → List Int → World → Prop)
  (hJ1 : ∀ i k acc W, J i k acc W → Bd a0 a1 lo W q r k ∧ BelB lo w W ∧ W.heap[by_]? = some (.cells #[.slice Y ys.length cy] 77 (0, 0)) ∧ W.heap[bx]? = some (.cells #[.slice X xs.length cx] 77 (0, 0)) ∧ W.heap[bb]? = some (.cells #[.pointer (some ⟨q, 0, none⟩)] 76 (0, 0)))
  (hJ2 : ∀ i k k' acc W W', J i k acc W → BelB lo W W' → Bd a0 a1 lo W' q r k' → J i k' acc W')
  (hYd : ∀ i k acc W A c row, J i k acc W → row.length = xs.length → (∀ m ∈ row, MB m) → row.length ≤ c → Lay.int.Pl W A row → YieldAt Fence.wide (n - 1) Tryz.prog l #[.slice A row.length c] W fun e W' => e = .returned (.bool true) ∧ J (i + 1) (run opsP (sumP acc row (-1)) k).1 (run opsP (sumP acc row (-1)) k).2 W')
  (k : BS) (acc : List Int) (W : World) (h0 : J 0 k acc W) :
  CallsIn Fence.wide n Tryz.prog 143 #[.func (.yield l) #[] #[], .pointer (some ⟨by_, 0, none⟩), .pointer (some ⟨bx, 0, none⟩), .pointer (some ⟨bb, 0, none⟩)] W fun e W' => (∃ v, e = .returned v) ∧ J ys.length (run opsP (mulP xs ys 0 acc) k).1 (run opsP (mulP xs ys 0 acc) k).2 W' := by
 obtain ⟨T, hT⟩ : ∃ T, T = run opsP (mulP xs ys 0 acc) k := ⟨_, rfl⟩
 rw [← hT]
 have HT := zH hT
 have HX := zH hX
 have HY := zH hY
 have HXM := zH hxm
 have HYM := zH hym
 have HL := zH hl
 have HJ1 := zH hJ1
 have HJ2 := zH hJ2
 have HYD := zH hYd
 have H0 := zH h0
 obtain ⟨j0, j1, j2, j3, j4⟩ := hJ1 _ _ _ _ h0
 have yc := (z00 j2 0).1
 have hly : ys.length ≤ 8 := by omega
 clear hT hX hY hxm hym hl hJ1 hJ2 hYd h0 j0 j1 j2 j3 j4
 refine callsIn_of_wp Tryz.func143 rfl trivial ?_ rfl
 simp only [Tryz.ntmps143, List.size_toArray, List.length_cons, List.length_nil, Nat.reduceAdd, Nat.reduceSub, Array.replicate_succ, Array.replicate_zero, List.push_toArray, List.append_toArray, List.nil_append, List.cons_append]
 gi_wp2
 gi_loopw [11] (fun i wr => ∃ (a : Nat) (k1 : BS) (acc1 : List Int), a ≤ ys.length ∧ i = .int .i64 a ∧ J a k1 acc1 wr ∧ Hid (run opsP (mulP xs (ys.drop a) a acc1) k1 = T)) (fun i _ => ys.length - (intOf i).toNat)
 case atStart => exact ⟨0, k, acc, Nat.zero_le _, rfl, H0.out, zH (by rw [HT.out]; rfl)⟩
 case round =>
  obtain ⟨a, k1, acc1, ha, rfl, hj, hst⟩ := hrel
  obtain ⟨wo, hwo⟩ : ∃ wo, wo = wr := ⟨_, rfl⟩
  subst hwo
  have HJ := zH hj
  obtain ⟨j0, j1, j2, j3, j4⟩ := HJ1.out _ _ _ _ hj
  have HBD := zH j0
  have HBB := zH j1
  have HJX := zH j3
  have HJB := zH j4
  have hlo2 := j0.size
  clear hj j0 j1 j2 j3 j4 H0 HT yc
  by_cases hlt : a < ys.length
  ·
   have hlt2 : (a : Int) < ys.length := by omega
   have hax : a ≤ xs.length := by have := HL.out; omega
   have ha8 : a ≤ 8 := by omega
   obtain ⟨y, hy⟩ : ∃ y, ys[a]? = some y := ⟨_, List.getElem?_eq_getElem hlt⟩
   have hyg : ys[a] = y := (List.getElem?_eq_some_iff.1 hy).2
   have HYR := zH (HYM.out y (List.mem_of_getElem? hy))
   obtain ⟨ady, rfl, -, -⟩ := HY.out.at_int hlt
   have cy9 : wo.cell? (ady.add a) = some (.int .i64 y) := by
    obtain ⟨ad, e, _, hc⟩ := (HY.out.upB HBB.out).at_int hlt
    injection e with e; subst e; rw [← hyg]; exact hc
   have HST := zH ((run_mul9 (o := opsP) xs ys a y hy k1 acc1).symm.trans hst.out)
   obtain ⟨row, hrow⟩ : ∃ row, row = run opsP (rowP xs a y) k1 := ⟨_, rfl⟩
   rw [← hrow] at HST
   have HROW := zH hrow
   obtain ⟨tn, htn⟩ : ∃ tn, tn = xs.take (xs.length - a) := ⟨_, rfl⟩
   have HTN := zH htn
   have HTNL : Hid (tn.length = xs.length - a) := zH (by rw [htn, List.length_take]; omega)
   have HRW : Hid ((let r := run opsP (mapP (andP y) tn) k1; (r.1, List.replicate a (-1) ++ r.2)) = row) := zH (by rw [hrow, run_row, htn])
   have HRB : Hid ((∀ m ∈ row.2, MB m) ∧ row.2.length = xs.length) := zH (by
    rw [hrow]
    exact (bd_runP (Φ := fun l9 => (∀ m ∈ l9, MB m) ∧ l9.length = xs.length) _ _ (row_bd bok_mb hax HXM.out HYR.out fun l9 h1 h2 => ⟨h1, h2⟩) HBD.out.nb).2)
   have HOF := zH (offs_any a wo (by omega))
   obtain ⟨os, hos⟩ : ∃ os, os = List.replicate a (-1 : Int) := ⟨_, rfl⟩
   have HOS := zH hos
   have HOL : Hid (os.length = a) := zH (by rw [hos]; simp)
   rw [← hos] at HOF HRW
   clear hy hyg hst hrow htn hos
   gi_wp2_with fail
   refine ⟨trivial, (fun h => by cases h), (callsIn_wide.2 HOF.out).mono ?_⟩
   rintro e w1 ⟨A1, c1, rfl, ho1, hb1⟩
   have HO1 := zH ho1
   have HB1 := zH hb1
   clear ho1 hb1 HOF cy9
   gi_wp2
   have HOM : Hid (∀ m ∈ os, MB m) := zH fun m hm => by rw [HOS.out] at hm; rw [List.eq_of_mem_replicate hm]; exact bok_mb.off
   refine wpIn_wide.2 ?_
   go_loopw [7, 8] (fun rv kv z => ∃ (kk j : Nat) (s2 : BS) (l9 : List Int) (A : Option Addr) (c : Nat), kk ≤ xs.length ∧ Hid (kk = a + j) ∧ kv = .int .i64 (kk : Int) ∧ rv = .slice A l9.length c ∧ Hid (l9.length = kk) ∧ (∀ m ∈ l9, MB m) ∧ BelB lo wo z ∧ Bd a0 a1 lo z q r s2 ∧ OwnSg z wo.heap.size (.slice A l9.length c) l9 ∧ Hid ((let r := run opsP (mapP (andP y) (tn.drop j)) s2; (r.1, l9 ++ r.2)) = row)) (fun _ kv _ => xs.length - (intOf kv).toNat)
   case atStart => exact ⟨a, 0, k1, os, A1, c1, hax, zH rfl, rfl, rfl, zH HOL.out, HOM.out, BelB.of HB1.out hlo2, HBD.out.up HB1.out, HO1.out, HRW⟩
   case round =>
    obtain ⟨kk, j, s2, l9, A, c, hk, hkj, rfl, rfl, hlk, hlm, hbz, hdz, hoz, hst⟩ := hrel
    have HLM := zH hlm
    have HBZ := zH hbz
    have HDZ := zH hdz
    have HOZ := zH hoz
    have hsz := hbz.bel.size
    clear hlm hbz hdz hoz HO1 HB1 HOM HRW
    by_cases hltk : kk < xs.length
    ·
     have hltk2 : (kk : Int) < xs.length := by omega
     have hjk : (kk : Int) - (a : Int) = (j : Int) := by have := hkj.out; omega
     have hjx : j < xs.length := by have := hkj.out; omega
     have hjx2 : (j : Int) < xs.length := by omega
     obtain ⟨x, hx⟩ : ∃ x, xs[j]? = some x := ⟨_, List.getElem?_eq_getElem hjx⟩
     have hxg : xs[j] = x := (List.getElem?_eq_some_iff.1 hx).2
     have htx : tn[j]? = some x := by rw [HTN.out, List.getElem?_take_of_lt (by have := hkj.out; omega)]; exact hx
     have HXR := zH (HXM.out x (List.mem_of_getElem? hx))
     obtain ⟨adx, rfl, -, -⟩ := HX.out.at_int hjx
     have HRX : Hid (∀ z, BelB lo wo z → z.cell? (adx.add j) = some (.int .i64 x)) := zH fun z hz => by
      obtain ⟨ad, e, _, hc⟩ := (HX.out.upB (HBB.out.trans hz)).at_int hjx
      injection e with e; subst e; rw [← hxg]; exact hc
     obtain ⟨m, hm⟩ : ∃ m, m = opsP.and s2 x y := ⟨_, rfl⟩
     have HM := zH hm
     have HMB : Hid (MB m.2) := zH (by rw [hm]; exact (opsP_and_mb HDZ.out.nb HXR.out.rb HYR.out.rb).2)
     obtain ⟨l2, hl2⟩ : ∃ l2, l2 = l9 ++ [m.2] := ⟨_, rfl⟩
     have HL2 := zH hl2
     have HST2 : Hid ((let r9 := run opsP (mapP (andP y) (tn.drop (j + 1))) m.1; (r9.1, l2 ++ r9.2)) = row) := zH (by
      rw [hl2, hm, ← hst.out]
      exact (run_map (o := opsP) (f := andP y) tn j x htx s2 l9).symm)
     have HRB9 : Hid (∀ z, BelB lo wo z → z.cell? ⟨bb, 0, none⟩ = some (.pointer (some ⟨q, 0, none⟩))) := zH fun z hz => (z00 (box_nck HJB.out hz (by decide) (by decide) (by decide)) 0).1
     have HRX9 : Hid (∀ z, BelB lo wo z → z.cell? ⟨bx, 0, none⟩ = some (.slice (some adx) xs.length cx)) := zH fun z hz => (z00 (box_nck HJX.out hz (by decide) (by decide) (by decide)) 0).1
     have cx9 := HRX9.out _ HBZ.out
     clear hx hxg htx hm hl2 hst
     go_wp2
     clear cx9
     refine z05 [[], [], [], [], [], [(3, 28), (4, 29)], [(2, 27), (5, 30)], [(6, 31)], [], [(1, 26), (7, 32), (8, 33)], [(9, 34)], [(0, 25), (10, 35)], [(11, 36)]]
      (fun x9 y9 => Below x9.heap.size x9 y9)
      [(9, fun x9 y9 => BelB lo x9 y9), (11, fun x9 y9 => x9.grownBy y9 (Value.slice A l9.length c).ownBlock)]
      (fun f9 x9 => RowI a0 a1 lo wo q r s2 m.1 A c l9 (f9 9) (f9 11) x9)
      [fun vs9 _ => vs9 0 = (.slice A l9.length c),
  fun vs9 _ => vs9 1 = (.pointer (some ⟨q, 0, none⟩)),
  fun vs9 _ => vs9 2 = (.slice (some adx) xs.length cx),
  fun vs9 _ => vs9 3 = (.int .i64 (kk : Int)),
  fun vs9 _ => vs9 4 = (.int .i64 (a : Int)),
  fun vs9 _ => vs9 5 = (.int .i64 (j : Int)),
  fun vs9 _ => vs9 6 = (.pointer (some (adx.add j))),
  fun vs9 _ => vs9 7 = (.int .i64 x),
  fun vs9 _ => vs9 8 = (.int .i64 y),
  fun vs9 _ => vs9 9 = (.int .i64 m.2),
  fun vs9 y9 => (fun v z => ∃ b : Nat, v = .slice (some ⟨b, 0, none⟩) 1 1 ∧ z.heap[b]? = some (.cells #[.int .i64 m.2] 123 (0, 0)) ∧ some b ≠ (Value.slice A l9.length c).ownBlock) (vs9 10) y9,
  fun vs9 y9 => (fun v z => ∃ A' c', v = .slice A' l2.length c' ∧ OwnSg z wo.heap.size (.slice A' l2.length c') l2) (vs9 11) y9,
  fun vs9 _ => vs9 12 = vs9 11]
      [(0, 25), (1, 26), (2, 27), (3, 28), (4, 29), (5, 30), (6, 31), (7, 32), (8, 33), (9, 34), (10, 35), (11, 36), (12, 7)] (by kernel_rfl) (by kernel_rfl) (by kernel_rfl) (by kernel_rfl)
      (fun _ => Below.refl _ _) ⟨fun _ => BelB.refl _ _, fun _ => World.grownBy.refl _ _, trivial⟩
      ⟨⟨.inr zK, ⟨.inr (.inr zK), .inr (.inr zK), trivial⟩⟩,
  ⟨.inr zK, ⟨.inr (.inr zK), .inr (.inr zK), trivial⟩⟩,
  ⟨.inr zK, ⟨.inr (.inr zK), .inr (.inr zK), trivial⟩⟩,
  ⟨.inr zK, ⟨.inr (.inr zK), .inr (.inr zK), trivial⟩⟩,
  ⟨.inr zK, ⟨.inr (.inr zK), .inr (.inr zK), trivial⟩⟩,
  ⟨.inr zK, ⟨.inr (.inr zK), .inr (.inr zK), trivial⟩⟩,
  ⟨.inr zK, ⟨.inr (.inr zK), .inr (.inr zK), trivial⟩⟩,
  ⟨.inr zK, ⟨.inr (.inr zK), .inr (.inr zK), trivial⟩⟩,
  ⟨.inr zK, ⟨.inr (.inr zK), .inr (.inr zK), trivial⟩⟩,
  ⟨.inr zK, ⟨.inr (.inl rfl), .inr (.inr zK), trivial⟩⟩,
  ⟨.inr (zS (fun v z => ∃ b : Nat, v = .slice (some ⟨b, 0, none⟩) 1 1 ∧ z.heap[b]? = some (.cells #[.int .i64 m.2] 123 (0, 0)) ∧ some b ≠ (Value.slice A l9.length c).ownBlock) (fun _ _ _ ⟨b, h1, h2, h3⟩ hR => ⟨b, h1, (hR.block b (lt_of_block h2)).trans h2, h3⟩)), ⟨.inl (by kernel_rfl), .inr (.inr (zS (fun v z => ∃ b : Nat, v = .slice (some ⟨b, 0, none⟩) 1 1 ∧ z.heap[b]? = some (.cells #[.int .i64 m.2] 123 (0, 0)) ∧ some b ≠ (Value.slice A l9.length c).ownBlock) (fun _ _ _ ⟨b, h1, h2, h3⟩ hR => ⟨b, h1, (hR.block b (lt_of_block h2) h3).trans h2, h3⟩))), trivial⟩⟩,
  ⟨.inr (zS (fun v z => ∃ A' c', v = .slice A' l2.length c' ∧ OwnSg z wo.heap.size (.slice A' l2.length c') l2) (fun _ _ _ ⟨A', c', h1, h2⟩ hR => ⟨A', c', h1, z07 h2 hR (Nat.le_refl _)⟩)), ⟨.inl (by kernel_rfl), .inr (.inl rfl), trivial⟩⟩,
  ⟨.inr zK, ⟨.inr (.inr zK), .inr (.inr zK), trivial⟩⟩, trivial⟩ ⟨fun _ _ _ h _ v => (by simpa only [← h] using v),
  fun _ _ _ h _ v => (by simpa only [← h] using v),
  fun _ _ _ h _ v => (by simpa only [← h] using v),
  fun _ _ _ h _ v => (by simpa only [← h] using v),
  fun _ _ _ h _ v => (by simpa only [← h] using v),
  fun _ _ _ h _ v => (by simpa only [← h] using v),
  fun _ _ _ h _ v => (by simpa only [← h] using v),
  fun _ _ _ h _ v => (by simpa only [← h] using v),
  fun _ _ _ h _ v => (by simpa only [← h] using v),
  fun _ _ _ h _ v => (by simpa only [← h] using v),
  fun _ _ _ h _ v => (by simpa only [← h] using v),
  fun _ _ _ h _ v => (by simpa only [← h] using v),
  fun vs vs' x h hd hv => (by have h2 := hd 11 (by decide); show vs' 12 = vs' 11; exact h.symm.trans (Eq.trans hv h2)), trivial⟩ ((show RowI a0 a1 lo wo q r s2 m.1 A c l9 false false _ from RowI.up ⟨HBZ.out, by rw [if_neg (by simp)]; exact HDZ.out, fun _ => HOZ.out⟩ (z01 (Below.refl _ _) 1))) ⟨?_, ?_, ?_, ?_, ?_, ?_, ?_, ?_, ?_, ?_, ?_, ?_, ?_, trivial⟩ ?_
     ·
      rintro vals xw f hf1 - - hI hF
      dsimp only [owes4, bare]
      simp only [putsD, Act.put, zA, zB, zC]
      go_wp2
      exact ⟨rfl, rfl, ⟨zN rfl, fun _ => ⟨zN rfl, fun _ => Below.refl _ _⟩⟩, hI⟩
     ·
      rintro vals xw f hf1 - - hI hF
      dsimp only [owes4, bare]
      simp only [putsD, Act.put, zA, zB, zC]
      have c9 := HRB9.out _ hI.1
      go_wp2
      exact ⟨rfl, rfl, ⟨zN rfl, fun _ => ⟨zN rfl, fun _ => Below.refl _ _⟩⟩, hI⟩
     ·
      rintro vals xw f hf1 - - hI hF
      dsimp only [owes4, bare]
      simp only [putsD, Act.put, zA, zB, zC]
      have c9 := HRX9.out _ hI.1
      go_wp2
      exact ⟨rfl, rfl, ⟨zN rfl, fun _ => ⟨zN rfl, fun _ => Below.refl _ _⟩⟩, hI⟩
     ·
      rintro vals xw f hf1 - - hI hF
      dsimp only [owes4, bare]
      simp only [putsD, Act.put, zA, zB, zC]
      go_wp2
      exact ⟨rfl, rfl, ⟨zN rfl, fun _ => ⟨zN rfl, fun _ => Below.refl _ _⟩⟩, hI⟩
     ·
      rintro vals xw f hf1 - - hI hF
      dsimp only [owes4, bare]
      simp only [putsD, Act.put, zA, zB, zC]
      go_wp2
      exact ⟨rfl, rfl, ⟨zN rfl, fun _ => ⟨zN rfl, fun _ => Below.refl _ _⟩⟩, hI⟩
     ·
      rintro vals xw f hf1 - - hI hF
      simp only [saysD, zD, zE, and_true] at hF
      obtain ⟨e1, e2⟩ := hF
      dsimp only [owes4, bare]
      simp only [putsD, Act.put, zA, zB, zC]
      simp only [e1, e2]
      go_wp2
      exact ⟨rfl, rfl, ⟨zN rfl, fun _ => ⟨zN rfl, fun _ => Below.refl _ _⟩⟩, hI⟩
     ·
      rintro vals xw f hf1 - - hI hF
      simp only [saysD, zD, zE, and_true] at hF
      obtain ⟨e1, e2⟩ := hF
      dsimp only [owes4, bare]
      simp only [putsD, Act.put, zA, zB, zC]
      simp only [e1, e2]
      go_wp2
      exact ⟨rfl, rfl, ⟨zN rfl, fun _ => ⟨zN rfl, fun _ => Below.refl _ _⟩⟩, hI⟩
     ·
      rintro vals xw f hf1 - - hI hF
      simp only [saysD, zD, zE, and_true] at hF
      have e1 := hF
      dsimp only [owes4, bare]
      simp only [putsD, Act.put, zA, zB, zC]
      simp only [e1]
      have c9 := HRX.out _ hI.1
      go_wp2
      exact ⟨rfl, rfl, ⟨zN rfl, fun _ => ⟨zN rfl, fun _ => Below.refl _ _⟩⟩, hI⟩
     ·
      rintro vals xw f hf1 - - hI hF
      dsimp only [owes4, bare]
      simp only [putsD, Act.put, zA, zB, zC]
      go_wp2
      exact ⟨rfl, rfl, ⟨zN rfl, fun _ => ⟨zN rfl, fun _ => Below.refl _ _⟩⟩, hI⟩
     ·
      intro vals xw f hf1 hf2 hf3 hI hF
      have k11 : f 11 = false := hf3 11 (by kernel_rfl)
      clear hf2 hf3
      simp only [saysD, zD, zE, and_true] at hF
      obtain ⟨e1, e2, e3⟩ := hF
      dsimp only [owes4, bare]
      simp only [putsD, Act.put, zA, zB, zC]
      simp only [e1, e2, e3]
      obtain ⟨i1, i2, i3⟩ := hI
      rw [hf1, if_neg (by simp)] at i2
      have I3 := zH (i3 k11)
      have I1 := zH i1
      have HC := zH (bAnd_any a0 a1 lo q r s2 x y xw i2 HXR.out HYR.out)
      rw [← HM.out] at HC
      clear i1 i2 i3
      go_wp2_with fail
      refine HC.out.mono ?_
      rintro e wx ⟨rfl, hb9, hd9⟩
      have HB9 := zH hb9
      have HD9 := zH hd9
      clear hb9 hd9 HC
      go_wp2
      exact ⟨rfl, rfl, ⟨fun _ => HB9.out, fun h9 => absurd rfl h9⟩, I1.out.trans HB9.out, by rw [z10, if_pos rfl]; exact HD9.out, fun _ => I3.out.upB HB9.out⟩
     ·
      intro vals xw f hf1 hf2 hf3 hI hF
      have k11 : f 11 = false := hf3 11 (by kernel_rfl)
      clear hf2 hf3
      simp only [saysD, zD, zE, and_true] at hF
      have e24 := hF
      dsimp only [owes4, bare]
      simp only [putsD, Act.put, zA, zB, zC]
      simp only [e24]
      have k9 := hI.2.2 k11
      have h9 : some xw.heap.size ≠ (Value.slice A l9.length c).ownBlock := fun e => by have := (k9.lt _ e.symm).2; omega
      have H9 := zH h9
      have hal : Below xw.heap.size xw (xw.alloc (.cells #[.int .i64 m.2] 123)) := (Below.refl _ _).alloc (Nat.le_refl _) _
      have HI := zH hI
      have HAL := zH hal
      clear k9 h9 hal hI
      go_wp2
      exact ⟨rfl, ⟨_, rfl, heap_alloc_new _ _, H9.out⟩, ⟨zN rfl, fun _ => ⟨zN rfl, fun _ => HAL.out⟩⟩, HI.out.up HAL.out⟩
     ·
      rintro vals xw f hf1 - - hI hF
      simp only [saysD, zD, zE, and_true] at hF
      obtain ⟨e14, b9, e25, hb9, _⟩ := hF
      dsimp only [owes4, bare]
      simp only [putsD, Act.put, zA, zB, zC]
      simp only [e14, e25]
      obtain ⟨i1, i2, i3⟩ := hI
      have hsz9 := i1.bel.size
      have hll : l9.length ≤ 1048576 := by have := hlk.out; omega
      have I1 := zH i1
      have I2 := zH i2
      have I3 := zH (i3 hf1)
      clear i1 i2 i3
      at_builtin; refine wpList_append_sig2 (ys := l2) (by rfl) (.tmp 25) (.tmp 35) (by rfl) (by rfl) (by rfl) I3.out hb9 hll hsz9 HL2.out ?_; intro A9 c9 w9 hown9 hg9
      obtain ⟨hs9, hb8⟩ := I3.out.grown hg9 hsz9 hlo2
      go_wp2
      exact ⟨rfl, ⟨A9, c9, rfl, hown9⟩, ⟨zN rfl, fun _ => ⟨fun _ => hg9, fun h9 => absurd rfl h9⟩⟩, I1.out.then hb8 hlo2, I2.out.upS hs9, fun h => absurd ((z10 f 11).symm.trans h) (by simp)⟩
     ·
      rintro vals xw f hf1 - - hI hF
      simp only [saysD, zD, zE, and_true] at hF
      obtain ⟨A8, c8, e26, _⟩ := hF
      dsimp only [owes4, bare]
      simp only [putsD, Act.put, zA, zB, zC]
      simp only [e26]
      go_wp2
      exact ⟨rfl, e26.symm, ⟨zN rfl, fun _ => ⟨zN rfl, fun _ => Below.refl _ _⟩⟩, hI⟩
     ·
      intro vals xw f hall hI hF
      rw [show List.range _ = [0, 1, 2, 3, 4, 5, 6, 7, 8, 9, 10, 11, 12] from rfl] at hF
      simp only [says, zD, zE, and_true] at hF
      obtain ⟨i1, i2, _⟩ := hI
      rw [hall 9 (by decide), if_pos rfl] at i2
      obtain ⟨_, _, _, _, _, _, _, _, _, _, _, ⟨A8, c8, e26, o26⟩, e7⟩ := hF
      rw [e26] at e7
      simp only [putsD, Act.put, zA, zB, zC]
      simp only [e7]
      have I1 := zH i1
      have I2 := zH i2
      have O26 := zH o26
      clear i1 i2 o26 e26 e7
      go_wp2
      go_roundw
      case rel => exact ⟨kk + 1, j + 1, m.1, l2, A8, c8, by omega, zH (by have := hkj.out; omega), by go_num, rfl, zH (by rw [HL2.out, List.length_append, hlk.out]; rfl), fun z hz => (List.mem_append.1 (by rw [HL2.out] at hz; exact hz)).elim (HLM.out z) (fun hz => by rw [List.mem_singleton.1 hz]; exact HMB.out), I1.out, I2.out, O26.out, HST2⟩
      case measure => simp [intOf]; omega
    ·
     have hke : kk = xs.length := by omega
     subst hke
     have hltk2 : ¬ ((xs.length : Nat) : Int) < xs.length := by omega
     have hd1 : tn.drop j = [] := List.drop_eq_nil_of_le (by rw [HTNL.out]; have := hkj.out; omega)
     have hst2 := hst.out
     rw [hd1] at hst2
     have hrow : row = (s2, l9) := by rw [← hst2]; show (s2, l9 ++ []) = _; rw [List.append_nil]
     have HST := zH (show run opsP (mulP xs (ys.drop (a + 1)) (a + 1) (run opsP (sumP acc1 l9 (-1)) s2).2) (run opsP (sumP acc1 l9 (-1)) s2).1 = T by have h9 := HST.out; rw [hrow] at h9; exact h9)
     have HY9 := zH (HYD.out a s2 acc1 wr A c l9 (HJ2.out _ _ _ _ _ _ HJ.out HBZ.out HDZ.out) hlk.out HLM.out HOZ.out.pl.1 HOZ.out.pl.2)
     have cx9 : wr.cell? ⟨bx, 0, none⟩ = some (.slice X xs.length cx) := (z00 (box_nck HJX.out HBZ.out (by decide) (by decide) (by decide)) 0).1
     clear hst hst2 hd1 hrow
     go_wp2
     obtain ⟨fn, tmps, assign, body, hy, hR⟩ := HY9.out
     have HR := zH hR
     clear hR cx9
     gi_wp2
     refine ⟨(fun h => by cases h), HR.out.mono ?_⟩
     rintro e W3 ⟨rfl, hj3⟩
     have HJ3 := zH hj3
     clear hj3 hy
     gi_wp2
     go_roundw
     case rel => exact ⟨a + 1, _, _, by omega, by go_num, HJ3.out, HST⟩
     case measure => simp [intOf]; omega
  ·
   have hae : a = ys.length := by omega
   subst hae
   have hlt2 : ¬ ((ys.length : Nat) : Int) < ys.length := by omega
   have hd1 : ys.drop ys.length = [] := List.drop_length
   have hst2 := hst.out
   rw [hd1] at hst2
   have HT2 := zH (show T = (k1, acc1) by rw [← hst2]; rfl)
   clear hst hst2 hd1
   gi_wp2
   go_end0
   rw [HT2.out]
   exact ⟨⟨_, rfl⟩, HJ.out⟩
theorem put_kept {W : World} {g b : Nat} {o o' ob : Obj} (hg : W.heap[g]? = some o) (ho : ∀ cs t fr, o ≠ .cells cs t fr) (hb : W.heap[b]? = some ob) (hob : ∃ cs t fr, ob = .cells cs t fr) : (W.putObj g o').heap[b]? = some ob := by
 refine (World.putObj_heap_other fun e => ?_).trans hb
 subst e
 obtain ⟨cs, t, fr, rfl⟩ := hob
 rw [hg] at hb; injection hb with hb
 exact ho _ _ _ hb
theorem put_bels {W : World} {lo g : Nat} {o o' : Obj} (hg : W.heap[g]? = some o) (ho : ¬ CK o ∧ ¬ BK o) (hl : lo ≤ g) : BelS lo W (W.putObj g o') := by
 have hlt := lt_of_block hg
 have hk : ∀ (i : Nat) (o2 : Obj), W.heap[i]? = some o2 → (CK o2 ∨ BK o2) → (W.putObj g o').heap[i]? = some o2 := fun i o2 hi hc => by
  refine (World.putObj_heap_other fun e => ?_).trans hi
  subst e
  rw [hg] at hi; injection hi with hi; subst hi
  exact hc.elim ho.1 ho.2
 exact ⟨(Below.refl lo W).grown (grownBy_putObj' W g o') (by omega) (fun k e => by cases e; exact hl), fun i o2 hi hc => hk i o2 hi (.inl hc), fun i o2 hi hc => hk i o2 hi (.inr hc)⟩
theorem loop_nck (r : Loop) : (¬ CK (.loop r) ∧ ¬ BK (.loop r)) ∧ ∀ cs t fr, Obj.loop r ≠ .cells cs t fr := by
 refine ⟨⟨?_, ?_⟩, fun _ _ _ e => by cases e⟩
 · rintro (⟨_, _, e⟩ | ⟨_, _, e⟩ | ⟨_, _, e⟩) <;> cases e
 · rintro ⟨_, _, e⟩; cases e
theorem defer_nck (r : Option (List Deferred)) : (¬ CK (.deferred r) ∧ ¬ BK (.deferred r)) ∧ ∀ cs t fr, Obj.deferred r ≠ .cells cs t fr := by
 refine ⟨⟨?_, ?_⟩, fun _ _ _ e => by cases e⟩
 · rintro (⟨_, _, e⟩ | ⟨_, _, e⟩ | ⟨_, _, e⟩) <;> cases e
 · rintro ⟨_, _, e⟩; cases e
theorem Lay.Sl.putO {α : Type} {L : Lay α} {W : World} {g : Nat} {o o' : Obj} {A : Option Addr} {xs : List α} (h : L.Pl W A xs) (hg : W.heap[g]? = some o) (ho : ∀ cs t fr, o ≠ .cells cs t fr) : L.Pl (W.putObj g o') A xs :=
 (h.keep fun b ⟨cs, fr, hb⟩ => (put_kept hg ho hb ⟨_, _, _, rfl⟩).trans hb.symm).mono fun b ⟨cs, fr, hb⟩ => ⟨cs, fr, put_kept hg ho hb ⟨_, _, _, rfl⟩⟩
structure MulJ (a0 a1 : Addr) (lo q r : Nat) (w : World) (L : Nat) (rec : Loop) (by_ bx bb b0 bs n : Nat) (vY vX : Value) (k : BS) (acc : List Int) (W : World) : Prop where
 bd : Bd a0 a1 lo W q r k
 bel : BelB lo w W
 l : W.heap[L]? = some (.loop rec)
 d : ∃ D, D + 1 = L ∧ w.heap.size ≤ D ∧ W.heap[D]? = some (.deferred (some []))
 y : W.heap[by_]? = some (.cells #[vY] 77 (0, 0))
 x : W.heap[bx]? = some (.cells #[vX] 77 (0, 0))
 b : W.heap[bb]? = some (.cells #[.pointer (some ⟨q, 0, none⟩)] 76 (0, 0))
 c : W.heap[b0]? = some (.cells #[.pointer (some ⟨q, 0, none⟩)] 76 (0, 0))
 s : ∃ A c, acc.length ≤ c ∧ W.heap[bs]? = some (.cells #[.slice A acc.length c] 77 (0, 0)) ∧ Lay.int.Pl W A acc
 n : acc.length = n
 m : ∀ m ∈ acc, MB m
theorem MulJ.up {a0 a1 : Addr} {lo q r : Nat} {w : World} {L : Nat} {rec : Loop} {by_ bx bb b0 bs n : Nat} {vY vX : Value} {k k' : BS} {acc : List Int} {W W' : World} (h : MulJ a0 a1 lo q r w L rec by_ bx bb b0 bs n vY vX k acc W) (hb : BelB lo W W') (hd : Bd a0 a1 lo W' q r k') : MulJ a0 a1 lo q r w L rec by_ bx bb b0 bs n vY vX k' acc W' := by
 obtain ⟨D, h1, h2, h3⟩ := h.d
 obtain ⟨A, c, h4, h5, h6⟩ := h.s
 exact ⟨hd, h.bel.trans hb, hb.kd _ _ h.l (loop_nck _).1.1 (loop_nck _).1.2, ⟨D, h1, h2, hb.kd _ _ h3 (defer_nck _).1.1 (defer_nck _).1.2⟩, box_nck h.y hb (by decide) (by decide) (by decide), box_nck h.x hb (by decide) (by decide) (by decide), box_nck h.b hb (by decide) (by decide) (by decide), box_nck h.c hb (by decide) (by decide) (by decide), ⟨A, c, h4, box_nck h5 hb (by decide) (by decide) (by decide), h6.upB hb⟩, h.n, h.m⟩
theorem MulJ.put {a0 a1 : Addr} {lo q r : Nat} {w : World} {L : Nat} {rec rec' : Loop} {by_ bx bb b0 bs n : Nat} {vY vX : Value} {k : BS} {acc : List Int} {W : World} (h : MulJ a0 a1 lo q r w L rec by_ bx bb b0 bs n vY vX k acc W) (hlo : lo ≤ w.heap.size) : MulJ a0 a1 lo q r w L rec' by_ bx bb b0 bs n vY vX k acc (W.putObj L (.loop rec')) := by
 obtain ⟨D, h1, h2, h3⟩ := h.d
 obtain ⟨A, c, h4, h5, h6⟩ := h.s
 have hc := (loop_nck rec).2
 have pk : ∀ {b : Nat} {cs : Array Value} {t : TypeId} {fr : Nat × Nat}, W.heap[b]? = some (.cells cs t fr) → (W.putObj L (.loop rec')).heap[b]? = some (.cells cs t fr) := fun hb => put_kept h.l hc hb ⟨_, _, _, rfl⟩
 have hS := put_bels (o' := .loop rec') h.l (loop_nck rec).1 (show lo ≤ L by omega)
 exact ⟨h.bd.upS hS, h.bel.then ((Below.refl _ W).grown (grownBy_putObj' W L _) h.bel.bel.size (fun k e => by cases e; omega)) hlo, World.putObj_heap_same (lt_of_block h.l), ⟨D, h1, h2, (World.putObj_heap_other (by omega)).trans h3⟩, pk h.y, pk h.x, pk h.b, pk h.c, ⟨A, c, h4, pk h5, h6.putO h.l hc⟩, h.n, h.m⟩
theorem MulJ.st {a0 a1 : Addr} {lo q r : Nat} {w : World} {L : Nat} {rec : Loop} {by_ bx bb b0 bs n : Nat} {vY vX : Value} {k : BS} {acc acc' : List Int} {W : World} {A : Option Addr} {c : Nat} (h : MulJ a0 a1 lo q r w L rec by_ bx bb b0 bs n vY vX k acc W) (hlo : lo ≤ w.heap.size) (hbs : w.heap.size ≤ bs) (h1 : by_ ≠ bs) (h2 : bx ≠ bs) (h3 : bb ≠ bs) (h4 : b0 ≠ bs) (hA : Lay.int.Pl W A acc') (hc : acc'.length ≤ c) (hn : acc'.length = n) (hm : ∀ m ∈ acc', MB m) :
  MulJ a0 a1 lo q r w L rec by_ bx bb b0 bs n vY vX k acc' (W.setCell ⟨bs, 0, none⟩ (.slice A acc'.length c)) := by
 obtain ⟨D, d1, d2, d3⟩ := h.d
 obtain ⟨A', c', _, h5, _⟩ := h.s
 have hbx := z03 W bs 0 (.slice A acc'.length c) _ _ h5
 have oth : ∀ {b : Nat} {o : Obj}, W.heap[b]? = some o → b ≠ bs → (W.setCell ⟨bs, 0, none⟩ (.slice A acc'.length c)).heap[b]? = some o := fun hb hne => (heap_setCell_other _ _ _ _ hne).trans hb
 have hL : L ≠ bs := fun e => by have := h.l; rw [e, h5] at this; cases this
 have hD : D ≠ bs := fun e => by rw [e, h5] at d3; cases d3
 have hS : BelS lo W (W.setCell ⟨bs, 0, none⟩ (.slice A acc'.length c)) := by
  have ht := nck_of (cs := #[.slice A' acc.length c']) (t := 77) (fr := (0, 0)) (by decide) (by decide) (by decide)
  exact ⟨(below_at _ _ _ _).mono (by omega), fun i o hi hc => by
   by_cases e : i = bs
   · subst e; rw [h5] at hi; injection hi with hi; subst hi; exact absurd hc ht.1
   · exact oth hi e, fun i o hi hc => by
   by_cases e : i = bs
   · subst e; rw [h5] at hi; injection hi with hi; subst hi; exact absurd hc ht.2
   · exact oth hi e⟩
 refine ⟨h.bd.upS hS, h.bel.then ((below_at _ _ _ _).mono hbs) hlo, oth h.l hL, ⟨D, d1, d2, oth d3 hD⟩, oth h.y h1, oth h.x h2, oth h.b h3, oth h.c h4, ⟨A, c, hc, hbx, ?_⟩, hn, hm⟩
 have hne : ∀ b, PL W b → b ≠ bs := fun b ⟨cs, fr, hb⟩ e => by subst e; rw [h5] at hb; injection hb with hb; injection hb with _ hb; exact absurd hb (by decide)
 exact (hA.keep fun b hb => heap_setCell_other _ _ _ _ (hne b hb)).mono fun b hb => by obtain ⟨cs, fr, h9⟩ := hb; exact ⟨cs, fr, oth h9 (hne b ⟨cs, fr, h9⟩)⟩
end Go.Proofs.YtjghcaghigebjaaGreatDoor
namespace Go.Proofs.YtjghcaghigebjaaGreatDoor
open Go Go.RowKit Go.Shelf
attribute [local go_sem] Oper.semAt_some
theorem boxes3 (w : World) (o o' o'' : Obj) : Below w.heap.size w (((w.alloc o).alloc o').alloc o'') ∧ (((w.alloc o).alloc o').alloc o'').heap[w.heap.size]? = some o ∧ (((w.alloc o).alloc o').alloc o'').heap[w.heap.size + 1]? = some o' ∧
  (((w.alloc o).alloc o').alloc o'').heap[w.heap.size + 1 + 1]? = some o'' ∧ (((w.alloc o).alloc o').alloc o'').heap.size = w.heap.size + 1 + 1 + 1 := by
 obtain ⟨h1, h2, h3, h4⟩ := two_boxes w o o'
 have h5 := heap_alloc_new ((w.alloc o).alloc o') o''
 have hb : Below ((w.alloc o).alloc o').heap.size ((w.alloc o).alloc o') (((w.alloc o).alloc o').alloc o'') := (Below.refl _ _).alloc (Nat.le_refl _) _
 exact ⟨bthen h1 hb, (hb.block _ (by omega)).trans h2, (hb.block _ (by omega)).trans h3, by rw [← h4]; exact h5, by simp⟩
set_option maxHeartbeats 1000000 in
theorem bRows_any (q : Nat) (X Y : Option Addr) (cx cy : Nat) (xs ys : List Int) (w : World) : Calls Tryz.prog 128 #[.pointer (some ⟨q, 0, none⟩), .slice X xs.length cx, .slice Y ys.length cy] w fun e w' => e = .returned (.func (.func 143) #[] #[.pointer (some ⟨w.heap.size + 1 + 1, 0, none⟩), .pointer (some ⟨w.heap.size + 1, 0, none⟩), .pointer (some ⟨w.heap.size, 0, none⟩)]) ∧ w' = ((w.alloc (.cells #[.pointer (some ⟨q, 0, none⟩)] 76)).alloc (.cells #[.slice X xs.length cx] 77)).alloc (.cells #[.slice Y ys.length cy] 77) := by
 go_enter Tryz.func128, Tryz.ntmps128
 go_wp2
 go_ret
 exact ⟨rfl, rfl⟩
set_option maxRecDepth 100000 in
set_option maxHeartbeats 16000000 in
theorem bMul_any (a0 a1 : Addr) (lo q r : Nat) (X Y : Option Addr) (cx cy : Nat) (xs ys : List Int) (s : BS) (w : World) (h : Bd a0 a1 lo w q r s) (hX : Lay.int.Pl w X xs) (hY : Lay.int.Pl w Y ys) (hxm : ∀ x ∈ xs, MB x) (hym : ∀ y ∈ ys, MB y) (hl : xs.length = ys.length) (hn : xs.length ≤ 8) :
    Calls Tryz.prog 98 #[.pointer (some ⟨q, 0, none⟩), .slice X xs.length cx, .slice Y ys.length cy] w (RetL a0 a1 lo w q r (run opsP (mulP xs ys 0 (List.replicate xs.length (-1))) s)) := by
  obtain ⟨rs, hrs⟩ : ∃ rs, rs = List.replicate xs.length (-1 : Int) := ⟨_, rfl⟩
  rw [← hrs]
  have HRL : Hid (rs.length = xs.length) := zH (by rw [hrs]; simp)
  have HRM : Hid (∀ m ∈ rs, MB m) := zH fun m hm => by rw [hrs] at hm; rw [List.eq_of_mem_replicate hm]; exact bok_mb.off
  obtain ⟨T, hT⟩ : ∃ T, T = run opsP (mulP xs ys 0 rs) s := ⟨_, rfl⟩
  rw [← hT]
  have HT := zH hT
  have HB := zH h
  have HX := zH hX
  have HY := zH hY
  have HXM := zH hxm
  have HYM := zH hym
  have HL := zH hl
  have hlo := h.size
  have HOF : Hid (∀ z, Calls Tryz.prog 127 #[.int .i64 (xs.length : Int)] z (RetOw rs z)) := zH fun z => by rw [hrs]; exact offs_any xs.length z (by omega)
  have hal : Below w.heap.size w (w.alloc (.cells #[.pointer (some ⟨q, 0, none⟩)] 76)) := (Below.refl _ _).alloc (Nat.le_refl _) _
  have HB0 := zH (heap_alloc_new w (.cells #[.pointer (some ⟨q, 0, none⟩)] 76))
  have HAL := zH hal
  clear h hX hY hxm hym hT hl hrs hal
  refine (callsIn_wide (n := 5)).1 ?_
  refine callsIn_of_wp_marks Tryz.func98 rfl trivial ?_ rfl
  simp only [Tryz.ntmps98, List.size_toArray, List.length_cons, List.length_nil, Nat.reduceAdd, Nat.reduceSub, Array.replicate_succ, Array.replicate_zero, List.push_toArray, List.append_toArray, List.nil_append, List.cons_append]
  gi_wp2_with fail
  refine ⟨trivial, (callsIn_wide.2 (HOF.out _)).mono ?_⟩
  rintro e w1 ⟨A1, c1, rfl, ho1, hb1⟩
  have hsz0 : w.heap.size < w1.heap.size := by have := hb1.size; simp at this; omega
  have HO1 := zH ho1.pl
  have h2 : Below w1.heap.size w1 (w1.alloc (.cells #[.slice A1 rs.length c1] 77)) := (Below.refl _ _).alloc (Nat.le_refl _) _
  have HS2 := zH (show (w1.alloc (.cells #[.slice A1 rs.length c1] 77)).heap.size = w1.heap.size + 1 by simp)
  have HB02 := zH ((h2.block _ hsz0).trans ((hb1.block _ (by simp)).trans HB0.out))
  have HBS2 := zH (heap_alloc_new w1 (.cells #[.slice A1 rs.length c1] 77))
  have HBW2 := zH (bthen (bthen HAL.out hb1) h2)
  have HP2 := zH (ho1.pl.2.upP h2)
  have z0 : w1.cell? ⟨w.heap.size, 0, none⟩ = some (.pointer (some ⟨q, 0, none⟩)) := (z00 ((hb1.block _ (by simp)).trans HB0.out) 0).1
  clear ho1 hb1 HOF HB0 HAL h2
  gi_wp2_with fail
  clear z0
  generalize hw2 : w1.alloc (.cells #[.slice A1 rs.length c1] 77) = w2 at *
  clear hw2
  refine ⟨trivial, (callsIn_wide.2 (bRows_any q X Y cx cy xs ys w2)).mono ?_⟩
  rintro e w3 ⟨rfl, hw3⟩
  obtain ⟨h3, hx0, hx1, hx2, hx3⟩ := boxes3 w2 (.cells #[.pointer (some ⟨q, 0, none⟩)] 76) (.cells #[.slice X xs.length cx] 77) (.cells #[.slice Y ys.length cy] 77)
  rw [← hw3] at h3 hx0 hx1 hx2 hx3
  have HB03 := zH ((h3.block _ (lt_of_block HB02.out)).trans HB02.out)
  have HBS3 := zH ((h3.block _ (lt_of_block HBS2.out)).trans HBS2.out)
  have HBW3 := zH (bthen HBW2.out h3)
  have HP3 := zH (HP2.out.upP h3)
  have HX0 := zH hx0
  have HX1 := zH hx1
  have HX2 := zH hx2
  have HX3 := zH hx3
  have HSW1 := zH (show w.heap.size < w1.heap.size from hsz0)
  clear hw3 h3 hx0 hx1 hx2 hx3 HBW2 HP2 HB02 HBS2
  gi_wp2
  refine wpIn_rangeFunc_one (gf := 143) (lb := #[.pointer (some ⟨w2.heap.size + 1 + 1, 0, none⟩), .pointer (some ⟨w2.heap.size + 1, 0, none⟩), .pointer (some ⟨w2.heap.size, 0, none⟩)]) (Fin := fun rec W => MulJ a0 a1 lo q r w (w3.heap.size + 1) rec (w2.heap.size + 1 + 1) (w2.heap.size + 1) w2.heap.size w.heap.size w1.heap.size xs.length (.slice Y ys.length cy) (.slice X xs.length cx) T.1 T.2 W) rfl (enters_of Tryz.func143 (by kernel_rfl) rfl) ?hit ?hfin
  case hit =>
    intro fn rec hrec
    have hBL : Below w3.heap.size w3 ((w3.alloc (.deferred (some []))).alloc (.loop rec)) := ((Below.refl _ _).alloc (Nat.le_refl _) _).alloc (by simp) _
    have hl9 := heap_alloc_new (w3.alloc (.deferred (some []))) (.loop rec)
    have hd9 : ((w3.alloc (.deferred (some []))).alloc (.loop rec)).heap[w3.heap.size]? = some (.deferred (some [])) := (Below.heap_alloc _ _ _ (by simp)).trans (heap_alloc_new w3 _)
    rw [show (w3.alloc (.deferred (some []))).heap.size = w3.heap.size + 1 by simp] at hl9
    have up9 : ∀ {b : Nat} {o : Obj}, w3.heap[b]? = some o → ((w3.alloc (.deferred (some []))).alloc (.loop rec)).heap[b]? = some o := fun hb => (hBL.block _ (lt_of_block hb)).trans hb
    have HJ0 : MulJ a0 a1 lo q r w (w3.heap.size + 1) rec (w2.heap.size + 1 + 1) (w2.heap.size + 1) w2.heap.size w.heap.size w1.heap.size xs.length (.slice Y ys.length cy) (.slice X xs.length cx) s rs ((w3.alloc (.deferred (some []))).alloc (.loop rec)) :=
      ⟨HB.out.up (bthen HBW3.out hBL), BelB.of (bthen HBW3.out hBL) hlo, hl9, ⟨w3.heap.size, rfl, HBW3.out.size, hd9⟩, up9 HX2.out, up9 HX1.out, up9 HX0.out, up9 HB03.out, ⟨A1, c1, HO1.out.1, up9 HBS3.out, HP3.out.upP hBL⟩, HRL.out, HRM.out⟩
    refine (rows1_any a0 a1 lo q r (w3.heap.size + 1) (w2.heap.size + 1) (w2.heap.size + 1 + 1) w2.heap.size _ X Y cx cy xs ys w HX.out HY.out HXM.out HYM.out HL.out hn
      (fun _ k acc W => MulJ a0 a1 lo q r w (w3.heap.size + 1) rec (w2.heap.size + 1 + 1) (w2.heap.size + 1) w2.heap.size w.heap.size w1.heap.size xs.length (.slice Y ys.length cy) (.slice X xs.length cx) k acc W) (fun i k acc W hj => ⟨hj.bd, hj.bel, hj.y, hj.x, hj.b⟩) (fun i k k' acc W W' hj hb hd => hj.up hb hd) ?_ s rs _ HJ0).mono ?_
    · intro i k acc W A c row hj hrl hrm hrc hrp
      have HJ := zH hj
      have HRM := zH hrm
      have HRL := zH hrl
      have HRP := zH hrp
      obtain ⟨A5, c5, hc5, hs5, hp5⟩ := hj.s
      have HU : Hid ((run opsP (sumP acc row (-1)) k).2.length = xs.length ∧ ∀ m ∈ (run opsP (sumP acc row (-1)) k).2, MB m) := zH (by
        have h9 := bd_runP (Φ := fun l9 => l9.length = xs.length ∧ ∀ m ∈ l9, MB m) _ k (sum_bd bok_mb acc row (-1) _ bok_mb.off hj.m hrm fun l9 h1 h2 => ⟨(h2 (by rw [hj.n, hrl])).trans hj.n, h1⟩) hj.bd.nb
        exact h9.2)
      have HS9 := zH (put_kept (o' := .loop { rec with state := .busy }) hj.l (loop_nck _).2 hs5 ⟨_, _, _, rfl⟩)
      have HPUT := zH (hj.put (rec' := { rec with state := .busy }) hlo)
      have HC := zH (bSum_any a0 a1 lo q r (-1) A5 A c5 c acc row k (W.putObj (w3.heap.size + 1) (.loop { rec with state := .busy })) HPUT.out.bd bok_mb.off (hp5.putO hj.l (loop_nck _).2) (hrp.putO hj.l (loop_nck _).2) hj.m hrm (by rw [hj.n, hrl]) (by rw [hj.n]; omega))
      generalize run opsP (sumP acc row (-1)) k = u at *
      have hst9 : rec.state = .ready := by rw [hrec]; rfl
      have hpe9 : rec.pending = none := by rw [hrec]; rfl
      have HST := zH hst9
      have HPE := zH hpe9
      refine yield_in hj.l (congrArg Loop.params hrec) (congrArg Loop.tmps hrec) (congrArg Loop.assign hrec) (congrArg Loop.body hrec) rfl ?_
      have HREC := zH hrec
      dsimp only [loopRec]
      clear hrec hst9 hpe9 hrm hrl hrp hp5
      gi_wp2
      refine ⟨_, run_beginRound HJ.out.l HST.out, ?_⟩
      generalize hW2 : W.putObj (w3.heap.size + 1) (.loop { rec with state := .busy }) = W2 at *
      clear hW2
      have z0 := (z00 HPUT.out.c 0).1
      have z1 := (z00 HS9.out 0).1
      gi_wp2_with fail
      refine ⟨trivial, (CallsIn.inRound _ (callsIn_wide.2 HC.out)).mono ?_⟩
      rintro e z ⟨A9, c9, rfl, h1, h2, h3, h4, h5⟩
      have HJZ := zH (HPUT.out.up h4 h5)
      have HS9 := zH (box_nck HS9.out h4 (by decide) (by decide) (by decide))
      have y1 := (z00 HS9.out 0).1
      have y2 := (z00 HS9.out 0).2
      have HP9 := zH h2
      have hsw1 := HSW1.out
      have HJS := zH (HJZ.out.st hlo (Nat.le_of_lt hsw1) (by have := HS2.out; omega) (by have := HS2.out; omega) (by have := HS2.out; omega) (by omega) h2 h1 HU.out.1 HU.out.2)
      clear z0 z1 h1 h2 h3 h4 h5 HC hsw1
      gi_wp2
      have e9 : ({ { rec with state := .busy } with state := if (none : Option Code).isNone then LoopState.ready else .done, pending := none } : Loop) = rec := by
        have a9 := HST.out
        have b9 := HPE.out
        revert a9 b9
        generalize rec = rc
        intro a9 b9
        cases rc
        dsimp only at a9 b9
        subst a9 b9
        rfl
      refine ⟨_, _, run_endRound none HJS.out.l, rfl, ?_⟩
      rw [e9]
      exact HJS.out.put hlo
    · rintro e W ⟨hv, hj⟩
      rw [← HT.out] at hj
      exact ⟨hv, hj.l, (by obtain ⟨D, h1, h2, h3⟩ := hj.d; obtain rfl : D = w3.heap.size := by omega
                           exact h3), hj⟩
  case hfin =>
    intro rec rec' W hj hl hk
    have hjp := hj.put (rec' := rec') hlo
    obtain ⟨A9, c9, hc9, hs9, hp9⟩ := hjp.s
    have HK := zH hk
    have HJP := zH hjp
    have HP9 := zH hp9
    have z1 := (z00 hs9 0).1
    have hsz3 := HBW3.out.size
    clear hj hl hk hjp hs9 hp9
    generalize W.putObj (w3.heap.size + 1) (.loop rec') = W2 at *
    gi_wp2
    refine ⟨by simp, .inl ⟨_, _, rfl, run_takeDeferred HK.out, ?_⟩⟩
    have hsz4 := lt_of_block HK.out
    have hsz5 := HJP.out.bel.bel.size
    exact ⟨_, results_tmp rfl _ _ _, A9, c9, rfl, hc9, HP9.out.putO HK.out (defer_nck _).2, HJP.out.m, HJP.out.bel.then ((Below.refl _ W2).grown (grownBy_putObj' W2 w3.heap.size _) hsz5 (fun k e => by cases e; exact hsz3)) hlo, HJP.out.bd.upS (put_bels HK.out (defer_nck _).1 (by omega))⟩
end Go.Proofs.YtjghcaghigebjaaGreatDoor
namespace Go.Proofs.YtjghcaghigebjaaGreatDoor
open Go Go.RowKit
def binZ (n : N) (xs ys : List Int) (Z : BS × List Int) : N × List Int := if (goodL n xs && goodL n ys) = true then bitsOut Z else (⟨0, []⟩, [])
def BinC (op : Int) (n : N) (xs ys : List Int) (Z : BS × List Int) : Prop := ∀ (a0 a1 : Addr) (lo q r : Nat) (X Y : Option Addr) (cx cy : Nat) (w : World), Bd a0 a1 lo w q r ⟨n, none⟩ → Lay.int.Pl w X xs → Lay.int.Pl w Y ys →
 Calls Tryz.prog 47 #[.pointer (some ⟨q, 0, none⟩), .int .i64 op, .slice X xs.length cx, .slice Y ys.length cy] w (RetL a0 a1 lo w q r Z)
theorem bin_out {n : N} {xs ys : List Int} {Z : BS × List Int} {e2 : Option Nat} (h3 : e2 = failE none (!goodL n xs || !goodL n ys) 0) : binZ n xs ys Z = if e2 = none then bitsOut Z else (⟨0, []⟩, []) := by
 rw [h3]
 unfold binZ
 cases goodL n xs <;> cases goodL n ys <;> simp [failE]
set_option maxRecDepth 100000 in
set_option maxHeartbeats 4000000 in
theorem bitsBin1_any (a0 a1 : Addr) (lo q r ba bb bc : Nat) (n : N) (A B : Option Addr) (ca cb : Nat) (xs ys : List Int) (op : Int) (Z : BS × List Int) (w : World) (h : Bd a0 a1 lo w q r ⟨n, none⟩) (hbin : goodL n xs = true → goodL n ys = true → BinC op n xs ys Z) (hZ : Z.2.length ≤ 1000)
  (ha : w.heap[ba]? = some (.cells #[.slice A xs.length ca] 34 (0, 0))) (hb : w.heap[bb]? = some (.cells #[.slice B ys.length cb] 34 (0, 0))) (hc : w.heap[bc]? = some (.cells #[.int .i64 op] 3 (0, 0)))
  (hX : Lay.int.Sl w (fun b => b < lo) A xs) (hY : Lay.int.Sl w (fun b => b < lo) B ys) (hxi : i64s xs) (hyi : i64s ys) (hlxs : xs.length ≤ 1048576) (hlys : ys.length ≤ 1048576) :
  Calls Tryz.prog 45 #[.pointer (some ⟨q, 0, none⟩), .pointer (some ⟨ba, 0, none⟩), .pointer (some ⟨bb, 0, none⟩), .pointer (some ⟨bc, 0, none⟩)] w (RetBC a0 a1 lo w q r (binZ n xs ys Z)) := by
 have HA := zH ha
 have HB := zH hb
 have HCc := zH hc
 have Hxs := zH hX
 have Hys := zH hY
 have HIxs := zH hxi
 have HIys := zH hyi
 have HBD := zH h
 have HNB := zH h.nb
 have HBIN := zH hbin
 have HZL := zH hZ
 have hlo := h.size
 obtain ⟨e1, he1⟩ : ∃ e1, e1 = listE n none xs := ⟨_, rfl⟩
 obtain ⟨e2, he2⟩ : ∃ e2, e2 = listE n e1 ys := ⟨_, rfl⟩
 have HE1 := zH he1
 have HE2 := zH he2
 have h3 : e2 = failE none (!goodL n xs || !goodL n ys) 0 := by rw [he2, he1]; unfold listE; rw [failE_twice]
 have HOUT := zH (bin_out (Z := Z) h3)
 have HGOOD : Hid (e2 = none → goodL n xs = true ∧ goodL n ys = true) := zH (fun h0 => by
  rw [h3] at h0
  have := (failE_none h0).2
  revert this
  cases goodL n xs <;> cases goodL n ys <;> simp)
 clear he1 he2 h3 h ha hb hc hX hY hxi hyi hbin hZ
 go_enter Tryz.func45, Tryz.ntmps45
 go_wp2
 refine z05 [[], [], [(0, 8), (1, 9)], [], [], [(3, 11), (4, 12)], [(2, 10)], [(5, 13)]]
  (fun x9 y9 => Below x9.heap.size x9 y9)
  [(2, fun x9 y9 => BelB lo x9 y9), (5, fun x9 y9 => BelB lo x9 y9)]
  (fun f9 x9 => TwoI a0 a1 lo w q r n (stE (f9 5) e2 (stE (f9 2) e1 none)) x9)
  [fun vs9 _ => vs9 0 = (.pointer (some ⟨q, 0, none⟩)),
  fun vs9 _ => vs9 1 = (.slice A xs.length ca),
  fun vs9 y9 => (fun v z => ∃ A9 c9, v = .slice A9 xs.length c9 ∧ xs.length ≤ c9 ∧ Lay.int.Pl z A9 xs) (vs9 2) y9,
  fun vs9 _ => vs9 3 = (.pointer (some ⟨q, 0, none⟩)),
  fun vs9 _ => vs9 4 = (.slice B ys.length cb),
  fun vs9 y9 => (fun v z => ∃ A9 c9, v = .slice A9 ys.length c9 ∧ ys.length ≤ c9 ∧ Lay.int.Pl z A9 ys) (vs9 5) y9,
  fun vs9 _ => vs9 6 = vs9 2,
  fun vs9 _ => vs9 7 = vs9 5]
  [(0, 8), (1, 9), (2, 10), (3, 11), (4, 12), (5, 13), (6, 6), (7, 7)] (by kernel_rfl) (by kernel_rfl) (by kernel_rfl) (by kernel_rfl)
  (fun _ => Below.refl _ _) ⟨fun _ => BelB.refl _ _, fun _ => BelB.refl _ _, trivial⟩
  ⟨⟨.inr zK, ⟨.inr (.inr zK), .inr (.inr zK), trivial⟩⟩,
  ⟨.inr zK, ⟨.inr (.inr zK), .inr (.inr zK), trivial⟩⟩,
  ⟨.inr (zS (fun v z => ∃ A9 c9, v = .slice A9 xs.length c9 ∧ xs.length ≤ c9 ∧ Lay.int.Pl z A9 xs) (fun _ _ _ ⟨A9, c9, h1, h2, h3⟩ hR => ⟨A9, c9, h1, h2, h3.upP hR⟩)), ⟨.inr (.inl rfl), .inr (.inr (zS (fun v z => ∃ A9 c9, v = .slice A9 xs.length c9 ∧ xs.length ≤ c9 ∧ Lay.int.Pl z A9 xs) (fun _ _ _ ⟨A9, c9, h1, h2, h3⟩ hR => ⟨A9, c9, h1, h2, h3.upB hR⟩))), trivial⟩⟩,
  ⟨.inr zK, ⟨.inr (.inr zK), .inr (.inr zK), trivial⟩⟩,
  ⟨.inr zK, ⟨.inr (.inr zK), .inr (.inr zK), trivial⟩⟩,
  ⟨.inr (zS (fun v z => ∃ A9 c9, v = .slice A9 ys.length c9 ∧ ys.length ≤ c9 ∧ Lay.int.Pl z A9 ys) (fun _ _ _ ⟨A9, c9, h1, h2, h3⟩ hR => ⟨A9, c9, h1, h2, h3.upP hR⟩)), ⟨.inl (by kernel_rfl), .inr (.inl rfl), trivial⟩⟩,
  ⟨.inr zK, ⟨.inr (.inr zK), .inr (.inr zK), trivial⟩⟩,
  ⟨.inr zK, ⟨.inr (.inr zK), .inr (.inr zK), trivial⟩⟩, trivial⟩ ⟨fun _ _ _ h _ v => (by simpa only [← h] using v),
  fun _ _ _ h _ v => (by simpa only [← h] using v),
  fun _ _ _ h _ v => (by simpa only [← h] using v),
  fun _ _ _ h _ v => (by simpa only [← h] using v),
  fun _ _ _ h _ v => (by simpa only [← h] using v),
  fun _ _ _ h _ v => (by simpa only [← h] using v),
  fun vs vs' x h hd hv => (by have h2 := hd 2 (by decide); show vs' 6 = vs' 2; exact h.symm.trans (Eq.trans hv h2)),
  fun vs vs' x h hd hv => (by have h2 := hd 5 (by decide); show vs' 7 = vs' 5; exact h.symm.trans (Eq.trans hv h2)), trivial⟩ (⟨BelB.of (z01 (Below.refl _ _) 1) hlo, HBD.out.toBx.up (z01 (Below.refl _ _) 1), (HBD.out.circ rfl).up (z01 (Below.refl _ _) 1)⟩) ⟨?_, ?_, ?_, ?_, ?_, ?_, ?_, ?_, trivial⟩ ?_
 ·
  rintro vals xw f hf1 - - hI hF
  dsimp only [owes4, bare]
  simp only [putsD, Act.put, zA, zB, zC]
  go_wp2
  exact ⟨rfl, rfl, ⟨zN rfl, fun _ => ⟨zN rfl, fun _ => Below.refl _ _⟩⟩, hI⟩
 ·
  rintro vals xw f hf1 - - hI hF
  dsimp only [owes4, bare]
  simp only [putsD, Act.put, zA, zB, zC]
  have c9 := (z00 (kd_of hI.1 HA.out (by decide) (by decide) (by decide)) 0).1
  go_wp2
  exact ⟨rfl, rfl, ⟨zN rfl, fun _ => ⟨zN rfl, fun _ => Below.refl _ _⟩⟩, hI⟩
 ·
  intro vals xw f hf1 hf2 hf3 hI hF
  have k5 : f 5 = false := hf3 5 (by kernel_rfl)
  clear hf2 hf3
  simp only [saysD, zD, zE, and_true] at hF
  obtain ⟨e8, e9⟩ := hF
  dsimp only [owes4, bare]
  simp only [putsD, Act.put, zA, zB, zC]
  simp only [e8, e9]
  have hI := hI
  rw [hf1, k5] at hI
  have HX9 := zH (Hxs.out.below hI.1.bel (fun _ h => h))
  have I1 := zH hI.1
  have HC9 := zH (list_any a0 a1 lo q r n none A ca xs xw hI.2.1 hI.2.2 HNB.out HX9.out HIxs.out hlxs)
  clear hI HX9
  go_wp2_with fail
  refine HC9.out.mono ?_
  rintro e wx ⟨A9, c9, rfl, h1, h2, h3, h4, h5⟩
  have H2 := zH h2
  have H3 := zH h3
  have H4 := zH h4
  have H5 := zH h5
  clear h2 h3 h4 h5 HC9
  go_wp2
  exact ⟨rfl, ⟨A9, c9, rfl, h1, H2.out⟩, ⟨fun _ => H3.out, fun h9 => absurd rfl h9⟩, show TwoI a0 a1 lo w q r n (stE (did f 2 5) e2 (stE (did f 2 2) e1 none)) wx from (by rw [z10, did_ne (by decide), k5]; exact ⟨I1.out.trans H3.out, by rw [HE1.out]; exact H4.out, H5.out⟩)⟩
 ·
  rintro vals xw f hf1 - - hI hF
  dsimp only [owes4, bare]
  simp only [putsD, Act.put, zA, zB, zC]
  go_wp2
  exact ⟨rfl, rfl, ⟨zN rfl, fun _ => ⟨zN rfl, fun _ => Below.refl _ _⟩⟩, hI⟩
 ·
  rintro vals xw f hf1 - - hI hF
  dsimp only [owes4, bare]
  simp only [putsD, Act.put, zA, zB, zC]
  have c9 := (z00 (kd_of hI.1 HB.out (by decide) (by decide) (by decide)) 0).1
  go_wp2
  exact ⟨rfl, rfl, ⟨zN rfl, fun _ => ⟨zN rfl, fun _ => Below.refl _ _⟩⟩, hI⟩
 ·
  intro vals xw f hf1 hf2 hf3 hI hF
  have k2 : f 2 = true := hf2 2 (by kernel_rfl)
  clear hf2 hf3
  simp only [saysD, zD, zE, and_true] at hF
  obtain ⟨e11, e12⟩ := hF
  dsimp only [owes4, bare]
  simp only [putsD, Act.put, zA, zB, zC]
  simp only [e11, e12]
  have hI := hI
  rw [hf1, k2] at hI
  have HX9 := zH (Hys.out.below hI.1.bel (fun _ h => h))
  have I1 := zH hI.1
  have HC9 := zH (list_any a0 a1 lo q r n e1 B cb ys xw hI.2.1 hI.2.2 HNB.out HX9.out HIys.out hlys)
  clear hI HX9
  go_wp2_with fail
  refine HC9.out.mono ?_
  rintro e wx ⟨A9, c9, rfl, h1, h2, h3, h4, h5⟩
  have H2 := zH h2
  have H3 := zH h3
  have H4 := zH h4
  have H5 := zH h5
  clear h2 h3 h4 h5 HC9
  go_wp2
  exact ⟨rfl, ⟨A9, c9, rfl, h1, H2.out⟩, ⟨zN rfl, fun _ => ⟨fun _ => H3.out, fun h9 => absurd rfl h9⟩⟩, show TwoI a0 a1 lo w q r n (stE (did f 5 5) e2 (stE (did f 5 2) e1 none)) wx from (by rw [z10]; exact ⟨I1.out.trans H3.out, by rw [HE2.out]; exact H4.out, H5.out⟩)⟩
 ·
  rintro vals xw f hf1 - - hI hF
  simp only [saysD, zD, zE, and_true] at hF
  obtain ⟨B8, d8, e10, _⟩ := hF
  dsimp only [owes4, bare]
  simp only [putsD, Act.put, zA, zB, zC]
  simp only [e10]
  go_wp2
  exact ⟨rfl, e10.symm, ⟨zN rfl, fun _ => ⟨zN rfl, fun _ => Below.refl _ _⟩⟩, hI⟩
 ·
  rintro vals xw f hf1 - - hI hF
  simp only [saysD, zD, zE, and_true] at hF
  obtain ⟨B8, d8, e13, _⟩ := hF
  dsimp only [owes4, bare]
  simp only [putsD, Act.put, zA, zB, zC]
  simp only [e13]
  go_wp2
  exact ⟨rfl, e13.symm, ⟨zN rfl, fun _ => ⟨zN rfl, fun _ => Below.refl _ _⟩⟩, hI⟩
 ·
  intro vals xw f hall hI hF
  rw [show List.range _ = [0, 1, 2, 3, 4, 5, 6, 7] from rfl] at hF
  simp only [says, zD, zE, and_true] at hF
  have i9 : TwoI a0 a1 lo w q r n (stE (f 5) e2 (stE (f 2) e1 none)) xw := hI
  rw [hall 5 (by decide)] at i9
  obtain ⟨_, _, ⟨A7, c7, e7, hc7, hp7⟩, _, _, ⟨B7, d7, e8, hd7, hq7⟩, e5, e6⟩ := hF
  rw [e7] at e5
  rw [e8] at e6
  simp only [putsD, Act.put, zA, zB, zC]
  simp only [e5, e6]
  have I1 := zH i9.1
  have I2 := zH (show Bx a0 a1 lo xw q r e2 from i9.2.1)
  have I3 := zH i9.2.2
  have HP7 := zH hp7
  have HQ7 := zH hq7
  clear i9 hI e5 e6 e7 e8 hp7 hq7
  have y1 := (z00 I2.out.box 1).1
  rcases e2 with _ | e2
  ·
   simp only [errV] at y1
   obtain ⟨g1, g2⟩ := HGOOD.out rfl
   have y3 := (z00 (kd_of I1.out HCc.out (by decide) (by decide) (by decide)) 0).1
   have HCH := zH (HBIN.out g1 g2 a0 a1 lo q r A7 B7 c7 d7 xw ⟨I2.out, HNB.out, fun _ => I3.out⟩ HP7.out HQ7.out)
   clear g1 g2
   go_wp2_with fail
   refine HCH.out.mono ?_
   rintro e w9 ⟨A8, c8, rfl, k1, k2, k3, k4, k5⟩
   have K2 := zH k2
   have K4 := zH (I1.out.trans k4)
   have K5 := zH k5
   clear k2 k3 k4 k5 HCH y1 y3
   go_wp2
   go_ret
   exact ⟨Z, A8, c8, rfl, HZL.out, K2.out, K4.out, K5.out, by rw [HOUT.out]; exact (if_pos trivial).symm⟩
  ·
   obtain ⟨a, ha⟩ : ∃ a, errV a0 a1 (some e2) = sentV a := by rcases e2 with _ | e2 <;> exact ⟨_, rfl⟩
   simp only [ha] at y1
   clear ha
   go_wp2
   go_ret
   exact ⟨(⟨n, some e2⟩, []), none, 0, rfl, Nat.zero_le _, .nil _ _ _ _, I1.out, ⟨I2.out, HNB.out, fun h => by cases h⟩, by rw [HOUT.out, if_neg (by simp)]; rfl⟩
set_option maxRecDepth 100000 in
set_option maxHeartbeats 4000000 in
theorem built_bin (a0 a1 : Addr) (l0 : Nat) (ba bb bc : Nat) (A : Option Addr) (c : Nat) (n : N) (w : World) (out : N × List Int) (K : World → Prop) (hg : Glb a0 a1 l0 w) (hl0 : l0 ≤ w.heap.size) (hK : ∀ x, Below w.heap.size w x → K x) (h : Lay.gate.Rd w A n.gs) (hn : n.gs.length ≤ 1048576) (hA : A = none → n.gs.length = 0) (hi : okInts n)
  (hcall : ∀ (lo q r : Nat) (z : World), Bd a0 a1 lo z q r ⟨n, none⟩ → netOk n = true → K z → w.heap.size ≤ lo → Calls Tryz.prog 45 #[.pointer (some ⟨q, 0, none⟩), .pointer (some ⟨ba, 0, none⟩), .pointer (some ⟨bb, 0, none⟩), .pointer (some ⟨bc, 0, none⟩)] z (RetBC a0 a1 lo z q r out)) :
  Calls Tryz.prog 44 #[.agg #[.int .i64 n.ins, .slice A n.gs.length c], .func (.func 45) #[] #[.pointer (some ⟨ba, 0, none⟩), .pointer (some ⟨bb, 0, none⟩), .pointer (some ⟨bc, 0, none⟩)]] w (RetBits (pickN (netOk n) out) w) := by
 obtain ⟨hW, hB0, hB1, hWS⟩ := two_boxes w (.cells #[.int .i64 n.ins, .slice A n.gs.length c] 29) (.cells #[.int .i64 0, .slice none 0 0] 29)
 have HW := zH hW
 have HB1 := zH hB1
 have HG := zH hg
 have HK := zH hK
 have HCALL := zH hcall
 have HRN := zH (readNet_any A c n _ (h.up hW) hn hA hi)
 have HWS := zH hWS
 clear hg hK hcall h hi hB0 hB1 hWS hW
 go_enter Tryz.func44, Tryz.ntmps44
 go_wp2_with fail
 refine HRN.out.mono ?_
 generalize (w.alloc (.cells #[.int .i64 n.ins, .slice A n.gs.length c] 29)).alloc (.cells #[.int .i64 0, .slice none 0 0] 29) = w2 at *
 rintro e w3 ⟨hb3, hcase⟩
 have HB1 := zH ((hb3.block _ (lt_of_block HB1.out)).trans HB1.out)
 have HB3 := zH hb3
 clear hb3 HRN
 rcases hcase with ⟨hok, r, rfl, hC⟩ | ⟨hok, rfl⟩
 rotate_left
 ·
  have k5 := (z00 HB1.out 0).1
  have k6 := (z00 HB1.out 1).1
  have kf5 := (z00 HB1.out 0).2
  have kf6 := (z00 HB1.out 1).2
  have HOK := zH hok
  clear hok
  go_wp2
  refine bodyPost_ret (v := .tuple #[.agg #[.int .i64 0, .slice none 0 0], .slice none 0 0]) (by simp [results, Tryz.results44, go_sem, k5, k6, kf5, kf6]) rfl ?_
  rw [show pickN (netOk n) out = (⟨0, []⟩, []) by rw [HOK.out]; rfl]
  refine ⟨none, none, 0, 0, rfl, Nat.zero_le _, Nat.zero_le _, .nil _ _ _ _, .nil _ _ _ _, ?_, apart_nil rfl⟩
  repeat (refine z06 ?_ (by show w.heap.size ≤ w.heap.size + 1; omega) _)
  exact bthen HW.out HB3.out
 have HOK := zH hok
 have hnb : NB n := by have := (netOk_iff n).1 hok; exact ⟨this.1, this.2.1, this.2.2.1⟩
 have HNB := zH hnb
 have HC := zH hC
 clear hok hnb hC
 have hal : Below w3.heap.size w3 (w3.alloc (.cells #[.pointer (some ⟨r, 0, none⟩), .nilIface] 83)) := (Below.refl _ _).alloc (Nat.le_refl _) _
 have hlo2 : l0 ≤ w2.heap.size := Nat.le_trans hl0 HW.out.size
 have hbd : Bd a0 a1 w2.heap.size (w3.alloc (.cells #[.pointer (some ⟨r, 0, none⟩), .nilIface] 83)) w3.heap.size r ⟨n, none⟩ :=
  ⟨⟨(HG.out.mono hl0).below (bthen HW.out (HB3.out.trans (hal.mono HB3.out.size))) |>.mono HW.out.size, heap_alloc_new _ _, HB3.out.size⟩, HNB.out, fun _ => HC.out.up hal⟩
 have HAL := zH hal
 have HC4 := zH (HCALL.out w2.heap.size w3.heap.size r _ hbd HOK.out (HK.out _ (bthen HW.out (HB3.out.trans (hal.mono HB3.out.size)))) HW.out.size)
 clear hal hbd HCALL HK
 go_wp2_with fail
 refine HC4.out.mono ?_
 rintro e w5 ⟨T, A5, c5, rfl, hl5, hp5, hb5, hd5, hT5⟩
 have HB5 : Hid (Below w2.heap.size w2 w5) := zH (HB3.out.trans ((HAL.out.mono HB3.out.size).trans hb5.bel))
 have HB1 : Hid (w5.heap[w.heap.size + 1]? = some (.cells #[.int .i64 0, .slice none 0 0] 29 (0, 0))) := zH (by
  have h9 : w.heap.size + 1 < w2.heap.size := by rw [HWS.out]; omega
  exact (hb5.bel.block _ h9).trans ((HAL.out.block _ (Nat.lt_of_lt_of_le h9 HB3.out.size)).trans HB1.out))
 have HP5 := zH hp5
 have HD5 := zH hd5
 have HT5 := zH hT5
 clear hp5 hd5 hT5 HC4 hb5 HAL HC HNB HB3
 have k5 := (z00 HB1.out 0).1
 have k6 := (z00 HB1.out 1).1
 have kf5 := (z00 HB1.out 0).2
 have kf6 := (z00 HB1.out 1).2
 have c0 := HD5.out.g.c0
 have c1 := HD5.out.g.c1
 have q0 := (z00 HD5.out.box 0).1
 have q1 := (z00 HD5.out.box 1).1
 have HGL := zH HD5.out.g
 obtain ⟨⟨n5, e5⟩, l5⟩ := T
 dsimp only at q1 hl5
 have hfin : ∀ X : World, Below w2.heap.size w2 X → Below w.heap.size w X := fun X hX => bthen HW.out hX
 have HFIN := zH hfin
 clear hfin
 rcases e5 with _ | e5
 ·
  simp only [errV] at q1
  have hC5 := HD5.out.circ rfl
  obtain ⟨A6, c6, r0, r1, ho6⟩ := circ_cells hC5
  have HO6 := zH ho6
  have HN : Hid (∀ (b : Addr) (m : Nat), Calls Tryz.prog 87 #[.nilIface, sentV b] (w5.drewN m) fun e w' => e = .returned (.bool false) ∧ w5.drewN m = w') := zH fun b m => is_nil b _
  have HS5 := zH hC5.lt
  clear hC5 ho6
  go_wp2
  go_quiet ((go_at_call 87; with_reducible exact quiet_left (HN.out _ _)))
  go_wp2
  clear HN
  have HLT : Hid (w.heap.size + 1 < w2.heap.size) := zH (by rw [HWS.out]; omega)
  have HQ : Hid (∀ x : World, w5.grownBy x (some (w.heap.size + 1)) → x.cell? ⟨w3.heap.size, 0, none⟩ = some (.pointer (some ⟨r, 0, none⟩)) ∧ x.cell? ⟨r, 0, none⟩ = some (.int .i64 n5.ins) ∧ x.cell? ⟨r, 1, none⟩ = some (.slice A6 n5.gs.length c6)) := zH fun x hx => by
   have hq := (hx.block _ (lt_of_block HD5.out.box) (fun e => by injection e with e; have := HD5.out.low; have := HLT.out; omega)).trans HD5.out.box
   have hr := hx.block r HS5.out.2 (fun e => by injection e with e; have := HS5.out.1; have := HLT.out; omega)
   exact ⟨(z00 hq 0).1, (World.cell?_of_block (w := w5) (a := ⟨r, 0, none⟩) hr).trans r0, (World.cell?_of_block (w := w5) (a := ⟨r, 1, none⟩) hr).trans r1⟩
  have HL5 : Hid (∀ x : World, w5.grownBy x (some (w.heap.size + 1)) → Lay.int.Rd x A5 l5) := zH fun x hx => by
   refine (HP5.out.keep fun b hb => hx.block b hb.lt fun e => ?_).mono fun b hb => Nat.lt_of_lt_of_le hb.lt hx.size
   injection e with e
   subst e
   obtain ⟨cs, fr, h9⟩ := hb
   rw [HB1.out] at h9
   injection h9 with h9
   injection h9 with _ h9 _
   exact absurd h9 (by decide)
  refine z05 [[], [(0, 39)], [(1, 40)], [(2, 41)], [(3, 42)], [(4, 43)], [(5, 44)], [], [(7, 46)], [(6, 45)], [(8, 47)]]
   (fun x9 y9 => Below x9.heap.size x9 y9)
   [(9, fun x9 y9 => x9.grownBy y9 (some (w.heap.size + 1)))]
   (fun f9 x9 => BuiltI w5 (w.heap.size + 1) (.agg #[.int .i64 n5.ins, .slice A6 n5.gs.length c6]) #[.int .i64 n5.ins, .slice A6 n5.gs.length c6] (f9 9) x9)
   [fun vs9 _ => vs9 0 = (.pointer (some ⟨w3.heap.size, 0, none⟩)),
  fun vs9 _ => vs9 1 = (.pointer (some ⟨w3.heap.size, 0, none⟩)),
  fun vs9 _ => vs9 2 = (.pointer (some ⟨w3.heap.size, 0, none⟩)),
  fun vs9 _ => vs9 3 = (.pointer (some ⟨r, 0, none⟩)),
  fun vs9 _ => vs9 4 = (.pointer (some ⟨r, 0, none⟩)),
  fun vs9 _ => vs9 5 = (.pointer (some ⟨r, 0, none⟩)),
  fun vs9 _ => vs9 6 = (.agg #[.int .i64 n5.ins, .slice A6 n5.gs.length c6]),
  fun vs9 _ => vs9 7 = (.slice A5 l5.length c5),
  fun vs9 y9 => (fun v z => ∃ B d, v = .slice B l5.length d ∧ l5.length ≤ d ∧ Lay.int.Sl z (Own w5.heap.size z) B l5) (vs9 8) y9,
  fun _ _ => True,
  fun vs9 _ => vs9 10 = vs9 8]
   [(0, 39), (1, 40), (2, 41), (3, 42), (4, 43), (5, 44), (6, 45), (7, 46), (8, 47), (10, 5)] (by kernel_rfl) (by kernel_rfl) (by kernel_rfl) (by kernel_rfl)
   (fun _ => Below.refl _ _) ⟨fun _ => World.grownBy.refl _ _, trivial⟩
   ⟨⟨.inr zK, ⟨.inr (.inr zK), trivial⟩⟩,
  ⟨.inr zK, ⟨.inr (.inr zK), trivial⟩⟩,
  ⟨.inr zK, ⟨.inr (.inr zK), trivial⟩⟩,
  ⟨.inr zK, ⟨.inr (.inr zK), trivial⟩⟩,
  ⟨.inr zK, ⟨.inr (.inr zK), trivial⟩⟩,
  ⟨.inr zK, ⟨.inr (.inr zK), trivial⟩⟩,
  ⟨.inr zK, ⟨.inr (.inr zK), trivial⟩⟩,
  ⟨.inr zK, ⟨.inr (.inr zK), trivial⟩⟩,
  ⟨.inr (zS (fun v z => ∃ B d, v = .slice B l5.length d ∧ l5.length ≤ d ∧ Lay.int.Sl z (Own w5.heap.size z) B l5) (fun _ _ _ ⟨B, d, h1, h2, h3⟩ hR => ⟨B, d, h1, h2, h3.own_up hR⟩)), ⟨.inr (.inr (zS (fun v z => ∃ B d, v = .slice B l5.length d ∧ l5.length ≤ d ∧ Lay.int.Sl z (Own w5.heap.size z) B l5) (fun _ _ _ ⟨B, d, h1, h2, h3⟩ hR => ⟨B, d, h1, h2, own_grown9 h3 hR (Nat.lt_of_lt_of_le HLT.out HB5.out.size)⟩))), trivial⟩⟩,
  ⟨.inr zK, ⟨.inr (.inl rfl), trivial⟩⟩,
  ⟨.inr zK, ⟨.inr (.inr zK), trivial⟩⟩, trivial⟩ ⟨fun _ _ _ h _ v => (by simpa only [← h] using v),
  fun _ _ _ h _ v => (by simpa only [← h] using v),
  fun _ _ _ h _ v => (by simpa only [← h] using v),
  fun _ _ _ h _ v => (by simpa only [← h] using v),
  fun _ _ _ h _ v => (by simpa only [← h] using v),
  fun _ _ _ h _ v => (by simpa only [← h] using v),
  fun _ _ _ h _ v => (by simpa only [← h] using v),
  fun _ _ _ h _ v => (by simpa only [← h] using v),
  fun _ _ _ h _ v => (by simpa only [← h] using v),
  fun _ _ _ _ _ _ => trivial,
  fun vs vs' x h hd hv => (by have h2 := hd 8 (by decide); show vs' 10 = vs' 8; exact h.symm.trans (Eq.trans hv h2)), trivial⟩ (⟨grown_of9 (z01 (z01 (Below.refl _ _) nq) 1) _, fun _ => HB1.out, fun h => by cases h⟩) ⟨?_, ?_, ?_, ?_, ?_, ?_, ?_, ?_, ?_, ?_, ?_, trivial⟩ ?_
  ·
   rintro vals xw f hf1 - - hI hF
   dsimp only [owes4, bare]
   simp only [putsD, Act.put, zA, zB, zC]
   go_wp2
   exact ⟨rfl, rfl, ⟨zN rfl, fun _ => Below.refl _ _⟩, hI⟩
  ·
   rintro vals xw f hf1 - - hI hF
   simp only [saysD, zD, zE, and_true] at hF
   have e39 := hF
   dsimp only [owes4, bare]
   simp only [putsD, Act.put, zA, zB, zC]
   simp only [e39]
   go_wp2
   exact ⟨rfl, rfl, ⟨zN rfl, fun _ => Below.refl _ _⟩, hI⟩
  ·
   rintro vals xw f hf1 - - hI hF
   simp only [saysD, zD, zE, and_true] at hF
   have e40 := hF
   dsimp only [owes4, bare]
   simp only [putsD, Act.put, zA, zB, zC]
   simp only [e40]
   go_wp2
   exact ⟨rfl, rfl, ⟨zN rfl, fun _ => Below.refl _ _⟩, hI⟩
  ·
   rintro vals xw f hf1 - - hI hF
   simp only [saysD, zD, zE, and_true] at hF
   have e41 := hF
   have c9 := (HQ.out xw hI.1).1
   dsimp only [owes4, bare]
   simp only [putsD, Act.put, zA, zB, zC]
   simp only [e41]
   go_wp2
   exact ⟨rfl, rfl, ⟨zN rfl, fun _ => Below.refl _ _⟩, hI⟩
  ·
   rintro vals xw f hf1 - - hI hF
   simp only [saysD, zD, zE, and_true] at hF
   have e42 := hF
   dsimp only [owes4, bare]
   simp only [putsD, Act.put, zA, zB, zC]
   simp only [e42]
   go_wp2
   exact ⟨rfl, rfl, ⟨zN rfl, fun _ => Below.refl _ _⟩, hI⟩
  ·
   rintro vals xw f hf1 - - hI hF
   simp only [saysD, zD, zE, and_true] at hF
   have e43 := hF
   dsimp only [owes4, bare]
   simp only [putsD, Act.put, zA, zB, zC]
   simp only [e43]
   go_wp2
   exact ⟨rfl, rfl, ⟨zN rfl, fun _ => Below.refl _ _⟩, hI⟩
  ·
   rintro vals xw f hf1 - - hI hF
   simp only [saysD, zD, zE, and_true] at hF
   have e44 := hF
   have c9 := (HQ.out xw hI.1).2.1
   have c8 := (HQ.out xw hI.1).2.2
   dsimp only [owes4, bare]
   simp only [putsD, Act.put, zA, zB, zC]
   simp only [e44]
   go_wp2
   exact ⟨rfl, rfl, ⟨zN rfl, fun _ => Below.refl _ _⟩, hI⟩
  ·
   rintro vals xw f hf1 - - hI hF
   dsimp only [owes4, bare]
   simp only [putsD, Act.put, zA, zB, zC]
   go_wp2
   exact ⟨rfl, rfl, ⟨zN rfl, fun _ => Below.refl _ _⟩, hI⟩
  ·
   rintro vals xw f hf1 - - hI hF
   simp only [saysD, zD, zE, and_true] at hF
   have e46 := hF
   dsimp only [owes4, bare]
   simp only [putsD, Act.put, zA, zB, zC]
   simp only [e46]
   have HI := zH hI
   have hsz9 : w5.heap.size ≤ xw.heap.size := hI.1.size
   have HRD := zH (HL5.out xw hI.1)
   clear hI
   go_wp2_with fail
   refine (numbers_any A5 c5 l5 xw HRD.out (by omega)).mono ?_
   rintro e wx ⟨B, d, rfl, h1, h2, h3⟩
   have H3 := zH h3
   have H2 := zH (own_mono9 h2 hsz9)
   clear h2 h3
   go_wp2
   exact ⟨rfl, ⟨B, d, rfl, h1, H2.out⟩, ⟨zN rfl, fun _ => H3.out⟩, HI.out.up H3.out⟩
  ·
   rintro vals xw f hf1 - - hI hF
   simp only [saysD, zD, zE, and_true] at hF
   have e45 := hF
   dsimp only [owes4, bare]
   simp only [putsD, Act.put, zA, zB, zC]
   simp only [e45]
   have hbx := hI.2.1 hf1
   have j6 := (z00 hbx 0).1
   have j7 := (z00 hbx 1).1
   have f6 := (z00 hbx 0).2
   have f7 := (z00 hbx 1).2
   have HG1 := zH hI.1
   have HBX := zH hbx
   clear hI hbx
   go_wp2
   have h1 := z03 xw (w.heap.size + 1) 0 (.int .i64 n5.ins) _ _ HBX.out
   have h2 := z03 _ (w.heap.size + 1) 1 (.slice A6 n5.gs.length c6) _ _ h1
   have h3 : xw.grownBy ((xw.setCell ⟨w.heap.size + 1, 0, none⟩ (.int .i64 n5.ins)).setCell ⟨w.heap.size + 1, 1, none⟩ (.slice A6 n5.gs.length c6)) (some (w.heap.size + 1)) := z02 (z02 (World.grownBy.refl _ _) _ _) _ _
   exact ⟨rfl, trivial, ⟨fun _ => h3, fun h9 => absurd rfl h9⟩, grown_trans9 HG1.out h3, fun h => absurd ((z10 f 9).symm.trans h) (by simp), fun _ => h2⟩
  ·
   rintro vals xw f hf1 - - hI hF
   simp only [saysD, zD, zE, and_true] at hF
   obtain ⟨B8, d8, e47, _⟩ := hF
   dsimp only [owes4, bare]
   simp only [putsD, Act.put, zA, zB, zC]
   simp only [e47]
   go_wp2
   exact ⟨rfl, e47.symm, ⟨zN rfl, fun _ => Below.refl _ _⟩, hI⟩
  ·
   intro vals xw f hall hI hF
   rw [show List.range _ = [0, 1, 2, 3, 4, 5, 6, 7, 8, 9, 10] from rfl] at hF
   simp only [says, zD, zE, and_true] at hF
   obtain ⟨_, _, _, _, _, _, _, _, ⟨B8, d8, e47, hd8, hs8⟩, e5⟩ := hF
   rw [e47] at e5
   have hbx := hI.2.2 (hall 9 (by decide))
   have k5 := (z00 hbx 0).1
   have k6 := (z00 hbx 1).1
   have kf5 := (z00 hbx 0).2
   have kf6 := (z00 hbx 1).2
   have HG1 := zH hI.1
   have HS8 := zH hs8
   have HD8 := zH hd8
   clear hI hbx hs8 hd8
   simp only [putsD, Act.put, zA, zB, zC]
   simp only [e5]
   clear e5 e47
   go_wp2
   refine bodyPost_ret (v := .tuple #[.agg #[.int .i64 n5.ins, .slice A6 n5.gs.length c6], .slice B8 l5.length d8]) (by simp [results, Tryz.results44, go_sem, k5, k6, kf5, kf6]) rfl ?_
   rw [show pickN (netOk n) out = out by rw [HOK.out]; rfl, ← HT5.out]
   show RetBits (n5, l5) w _ _
   exact ⟨A6, B8, c6, d8, rfl, HO6.out.sl.1, HD8.out, own_mono9 (own_grown9 HO6.out.own HG1.out HLT.out) HW.out.size, own_mono9 HS8.out (Nat.le_trans HW.out.size HB5.out.size), (HFIN.out _ HB5.out).grown HG1.out (bthen HW.out HB5.out).size (fun k hk => by injection hk with hk; omega), apart_of HO6.out.own HS8.out (fun b h1 h2 => by have := h1.2.1; have := h2.1; omega)⟩
 ·
  obtain ⟨a, ha⟩ : ∃ a, errV a0 a1 (some e5) = sentV a := by rcases e5 with _ | e5 <;> exact ⟨_, rfl⟩
  simp only [ha] at q1
  have hcase : (a = a0 ∧ True) ∨ a = a1 := by
   rcases e5 with _ | e5
   · injection ha with _ ha; injection ha with ha; injection ha with ha; exact .inl ⟨ha.symm, trivial⟩
   · injection ha with _ ha; injection ha with ha; injection ha with ha; exact .inr ha.symm
  clear ha
  have HT6 : Hid (out = (⟨0, []⟩, [])) := zH (by rw [← HT5.out]; exact if_neg (by simp))
  have HSM : Hid (∀ (b : Addr) (m : Nat), Calls Tryz.prog 87 #[sentV b, sentV b] (w5.drewN m) fun e w' => e = .returned (.bool true) ∧ w5.drewN m = w') := zH fun b m => is_same b _
  have HOT : Hid (∀ (m : Nat), Calls Tryz.prog 87 #[sentV a0, sentV a1] (w5.drewN m) fun e w' => e = .returned (.bool false) ∧ w5.drewN m = w') := zH fun m => by
   obtain ⟨ca, ta, h0⟩ := HGL.out.b0
   obtain ⟨cb, tb, h1⟩ := HGL.out.b1
   exact is_other a0 a1 ca cb ta tb _ HGL.out.ne h0 h1
  rcases hcase with ⟨rfl, _⟩ | rfl
  ·
   go_wp2
   go_quiet ((go_at_call 87; first | with_reducible exact quiet_left (HOT.out _) | with_reducible exact quiet_left (HSM.out _ _)))
   clear HSM HOT
   go_wp2
   refine bodyPost_ret (v := .tuple #[.agg #[.int .i64 0, .slice none 0 0], .slice none 0 0]) (by simp [results, Tryz.results44, go_sem, k5, k6, kf5, kf6]) rfl ?_
   rw [show pickN (netOk n) out = out by rw [HOK.out]; rfl, HT6.out]
   refine ⟨none, none, 0, 0, rfl, Nat.zero_le _, Nat.zero_le _, .nil _ _ _ _, .nil _ _ _ _, ?_, apart_nil rfl⟩
   repeat (refine z06 ?_ (by show w.heap.size ≤ w.heap.size + 1; omega) _)
   exact z01 (HFIN.out _ HB5.out) _
  ·
   go_wp2
   go_quiet ((go_at_call 87; first | with_reducible exact quiet_left (HSM.out _ _) | with_reducible exact quiet_left (HOT.out _)))
   clear HSM HOT
   go_wp2
   refine bodyPost_ret (v := .tuple #[.agg #[.int .i64 0, .slice none 0 0], .slice none 0 0]) (by simp [results, Tryz.results44, go_sem, k5, k6, kf5, kf6]) rfl ?_
   rw [show pickN (netOk n) out = out by rw [HOK.out]; rfl, HT6.out]
   refine ⟨none, none, 0, 0, rfl, Nat.zero_le _, Nat.zero_le _, .nil _ _ _ _, .nil _ _ _ _, ?_, apart_nil rfl⟩
   repeat (refine z06 ?_ (by show w.heap.size ≤ w.heap.size + 1; omega) _)
   exact z01 (HFIN.out _ HB5.out) _
set_option maxRecDepth 100000 in
set_option maxHeartbeats 4000000 in
theorem implBitsBin_any (a0 a1 : Addr) (l0 : Nat) (n : N) (c0 : Int) (xs ys : List Int) (A X Y : Option Addr) (c cx cy : Nat) (w : World) (hg : Glb a0 a1 l0 w) (hl0 : l0 ≤ w.heap.size) (h : Lay.gate.Rd w A n.gs) (hn : n.gs.length ≤ 1048576) (hA : A = none → n.gs.length = 0) (hi : okInts n)
  (hX : Lay.int.Rd w X xs) (hY : Lay.int.Rd w Y ys) (hxi : i64s xs) (hyi : i64s ys) (Z : BS × List Int) (hbin : netOk n = true → goodL n xs = true → goodL n ys = true → BinC c0 n xs ys Z) (hZ : Z.2.length ≤ 1000) (hlx : xs.length ≤ 1048576) (hly : ys.length ≤ 1048576) :
  Calls Tryz.prog 12 #[.agg #[.int .i64 n.ins, .slice A n.gs.length c], .int .i64 c0, .slice X xs.length cx, .slice Y ys.length cy] w (RetBits (pickN (netOk n) (binZ n xs ys Z)) w) := by
 obtain ⟨hW, hB0, hB1, hB2, hB3, hB4, hWS⟩ := five_boxes w (.cells #[.int .i64 n.ins, .slice A n.gs.length c] 29) (.cells #[.int .i64 c0] 3) (.cells #[.slice X xs.length cx] 34) (.cells #[.slice Y ys.length cy] 34) (.cells #[.int .i64 0, .slice none 0 0] 29)
 have HW := zH hW
 have HB0 := zH hB0
 have HB1 := zH hB1
 have HB2 := zH hB2
 have HB3 := zH hB3
 have HB4 := zH hB4
 have HWS := zH hWS
 have z0 := (z00 hB0 0).1
 have z1 := (z00 hB0 1).1
 have HCL := zH (built_bin a0 a1 l0 (w.heap.size + 1 + 1) (w.heap.size + 1 + 1 + 1) (w.heap.size + 1) A c n _ (binZ n xs ys Z)
  (fun z => z.heap[w.heap.size + 1 + 1]? = some (.cells #[.slice X xs.length cx] 34 (0, 0)) ∧ z.heap[w.heap.size + 1 + 1 + 1]? = some (.cells #[.slice Y ys.length cy] 34 (0, 0)) ∧ z.heap[w.heap.size + 1]? = some (.cells #[.int .i64 c0] 3 (0, 0)) ∧ Lay.int.Sl z (fun b => b < w.heap.size) X xs ∧ Lay.int.Sl z (fun b => b < w.heap.size) Y ys)
  (hg.below (hW.mono hl0)) (Nat.le_trans hl0 hW.size) (fun x hx => ⟨(hx.block _ (by rw [hWS]; omega)).trans hB2, (hx.block _ (by rw [hWS]; omega)).trans hB3, (hx.block _ (by rw [hWS]; omega)).trans hB1, (hX.below (bthen hW hx) (fun _ h => h)), hY.below (bthen hW hx) (fun _ h => h)⟩)
  (h.up hW) hn hA hi (fun lo q r z hz hok9 hk hlo => bitsBin1_any a0 a1 lo q r _ _ _ n X Y cx cy xs ys c0 Z z hz (hbin hok9) hZ hk.1 hk.2.1 hk.2.2.1 (hk.2.2.2.1.mono fun b hb => by rw [hWS] at hlo; omega) (hk.2.2.2.2.mono fun b hb => by rw [hWS] at hlo; omega) hxi hyi hlx hly))
 clear hg h hA hi hX hY hxi hyi hbin hB0 hB1 hB2 hB3 hB4 hW hWS
 generalize hout : pickN (netOk n) (binZ n xs ys Z) = out at *
 have HOUT := zH hout
 clear hout
 go_enter Tryz.func12, Tryz.ntmps12
 go_wp2_with fail
 refine HCL.out.mono ?_
 generalize ((((w.alloc (.cells #[.int .i64 n.ins, .slice A n.gs.length c] 29)).alloc (.cells #[.int .i64 c0] 3)).alloc (.cells #[.slice X xs.length cx] 34)).alloc (.cells #[.slice Y ys.length cy] 34)).alloc (.cells #[.int .i64 0, .slice none 0 0] 29) = W at *
 rintro e w1 ⟨A1, B1, c1, d1, rfl, h1, h2, h3, h4, h5, h6⟩
 have hb4 := (h5.block _ (lt_of_block HB4.out)).trans HB4.out
 have HX4 := zH hb4
 have j6 := (z00 hb4 0).1
 have j7 := (z00 hb4 1).1
 have f6 := (z00 hb4 0).2
 have f7 := (z00 hb4 1).2
 have H3 := zH h3
 have H4 := zH h4
 have H5 := zH h5
 clear hb4 h3 h4 h5 HCL
 go_wp2
 have hs1 := z03 w1 (w.heap.size + 1 + 1 + 1 + 1) 0 (.int .i64 out.1.ins) _ _ HX4.out
 have hs2 := z03 _ (w.heap.size + 1 + 1 + 1 + 1) 1 (.slice A1 out.1.gs.length c1) _ _ hs1
 have hs3 : w1.grownBy ((w1.setCell ⟨w.heap.size + 1 + 1 + 1 + 1, 0, none⟩ (.int .i64 out.1.ins)).setCell ⟨w.heap.size + 1 + 1 + 1 + 1, 1, none⟩ (.slice A1 out.1.gs.length c1)) (some (w.heap.size + 1 + 1 + 1 + 1)) := z02 (z02 (World.grownBy.refl _ _) _ _) _ _
 have k5 := (z00 hs2 0).1
 have k6 := (z00 hs2 1).1
 have kf5 := (z00 hs2 0).2
 have kf6 := (z00 hs2 1).2
 refine bodyPost_ret (v := .tuple #[.agg #[.int .i64 out.1.ins, .slice A1 out.1.gs.length c1], .slice B1 out.2.length d1]) (by simp [results, Tryz.results12, go_sem, k5, k6, kf5, kf6]) rfl ?_
 have hlt : w.heap.size + 1 + 1 + 1 + 1 < W.heap.size := by rw [HWS.out]; omega
 exact ⟨A1, B1, c1, d1, rfl, h1, h2, own_mono9 (own_grown9 H3.out hs3 hlt) HW.out.size, own_mono9 (own_grown9 H4.out hs3 hlt) HW.out.size, (bthen HW.out H5.out).grown hs3 (bthen HW.out H5.out).size (fun k hk => by injection hk with hk; omega), h6⟩
end Go.Proofs.YtjghcaghigebjaaGreatDoor
