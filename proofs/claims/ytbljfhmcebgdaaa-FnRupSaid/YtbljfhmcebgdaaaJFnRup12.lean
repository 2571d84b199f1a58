/- The reference's search: l5Learn. -/
import Derived.Test.YtbljfhmcebgdaaaJFnRup11
/-! The reference's search: l5Learn. -/
namespace Go.Proofs.Ytbljfhmcebgdaaa
open Go Go.RowKit

/-- A search in memory, read: the clauses and where it is. -/
structure SRd (w : World) (x : C) (s : S) (A P Q D : Option Addr) : Prop where
  cl : Lay.int.slice.Rd w A x.list
  put : Lay.int.Rd w P s.put
  why : Lay.int.Rd w Q s.why
  lrn : Lay.int.slice.Rd w D s.learned
theorem SRd.up {w w' : World} {x : C} {s : S} {A P Q D : Option Addr} (h : SRd w x s A P Q D) (hb : Below w.heap.size w w') : SRd w' x s A P Q D := ⟨Lay.Sl.below h.cl hb (fun _ h => h) |>.mono fun _ h => Nat.lt_of_lt_of_le h hb.size, h.put.up hb, h.why.up hb, Lay.Sl.below h.lrn hb (fun _ h => h) |>.mono fun _ h => Nat.lt_of_lt_of_le h hb.size⟩
theorem least {p : Nat → Prop} (h : ∃ k, p k) : ∃ k, p k ∧ ∀ j, j < k → ¬ p j := by
  obtain ⟨n, hn⟩ := h
  induction n using Nat.strongRecOn with
  | ind n ih =>
    by_cases h9 : ∃ j, j < n ∧ p j
    · obtain ⟨j, h1, h2⟩ := h9
      exact ih j h1 h2
    · exact ⟨n, hn, fun j hj h8 => h9 ⟨j, hj, h8⟩⟩
open Classical in
/-- The least number of which something is so. -/
noncomputable def minK (p : Nat → Prop) : Nat := if h : ∃ k, p k then Classical.choose (least h) else 0
theorem minK_spec {p : Nat → Prop} (h : ∃ k, p k) : ∃ k, p k ∧ minK p = k := by
  refine ⟨minK p, ?_, rfl⟩
  unfold minK
  rw [dif_pos h]
  exact (Classical.choose_spec (least h)).1
theorem minK_lt {p p' : Nat → Prop} {k : Nat} (h : p' k) (hk : k < minK p) : minK p' < minK p := by
  have h' : ∃ k, p' k := ⟨k, h⟩
  have := (Classical.choose_spec (least h')).2
  unfold minK at hk ⊢
  rw [dif_pos h']
  rcases Nat.lt_or_ge k (Classical.choose (least h')) with h9 | h9
  · exact absurd h (this k h9)
  · exact Nat.lt_of_le_of_lt h9 hk
/-- What was read, or new. -/
def Nw (F : Nat → Prop) (lo : Nat) (w : World) (b : Nat) : Prop := F b ∨ (lo ≤ b ∧ b < w.heap.size)
/-- The learned clause is handed back: what came in, or a new row. -/
def RetLn (F : Nat → Prop) (r : List Int) (w : World) (e : Ending) (w' : World) : Prop := ∃ B c, e = .returned (.slice B r.length c) ∧ Lay.int.Sl w' (Nw F w.heap.size w') B r ∧ r.length ≤ c ∧ Below w.heap.size w w'
theorem clOk_len {M : Nat} {cl : List Int} (h : clOk (M : Int) cl = true) : cl.length ≤ M := by
  have := (cOk_good (Int.le_refl 0) h).1.length
  simpa using this
set_option maxRecDepth 100000 in
set_option maxHeartbeats 16000000 in
theorem l5Learn_any (x : C) (s : S) (A P Q D L B : Option Addr) (a p q d l c M : Nat) (vs cl : List Int) (F : Nat → Prop) (w : World) (hM : x.many = (M : Int)) (hM2 : M ≤ 1000) (h : SRd w x s A P Q D) (hg : SatGood x s) (hlv : Lay.int.Rd w L vs) (hv : LvR M (lev s.put s.why 0) vs) (hcl : Lay.int.Sl w F B cl) (hcc : cl.length ≤ c) (hF : ∀ b, F b → b < w.heap.size) (hc : clOk (M : Int) cl = true) (hf : ∀ y ∈ cl, -y ∈ s.put) :
    Calls Try.prog 123 #[.agg #[.int .i64 x.many, .slice A x.list.length a], .agg #[.slice P s.put.length p, .slice Q s.why.length q, .slice D s.learned.length d, .int .i64 s.code], .slice L vs.length l, .slice B cl.length c] w (RetLn F (learnP M (allC x s) s.put s.why s.put.length cl) w) := by
  have HMM := Lib.hid hM
  rw [hM]
  have hgd : Good M s.put := by rw [← hM]; exact hg.good
  have hxl : x.list.length ≤ 1048576 := by
    have := hg.cnf
    simp only [cnfOk, Bool.and_eq_true, decide_eq_true_eq] at this
    omega
  have hll : s.learned.length ≤ 1048576 := by have := hg.learned; omega
  have hal1 : Below w.heap.size w (w.alloc (.cells #[.int .i64 (M : Int), .slice A x.list.length a] 25)) := (Below.refl _ _).alloc (Nat.le_refl _) _
  have hs1 : (w.alloc (.cells #[.int .i64 (M : Int), .slice A x.list.length a] 25)).heap.size = w.heap.size + 1 := by simp
  have hb1 := heap_alloc_new w (.cells #[.int .i64 (M : Int), .slice A x.list.length a] 25)
  obtain ⟨w1, hw1⟩ : ∃ w1, w1 = w.alloc (.cells #[.int .i64 (M : Int), .slice A x.list.length a] 25) := ⟨_, rfl⟩
  rw [← hw1] at hal1 hs1 hb1
  have hal2 : Below w1.heap.size w1 (w1.alloc (.cells #[.slice P s.put.length p, .slice Q s.why.length q, .slice D s.learned.length d, .int .i64 s.code] 35)) := (Below.refl _ _).alloc (Nat.le_refl _) _
  have hb2 := heap_alloc_new w1 (.cells #[.slice P s.put.length p, .slice Q s.why.length q, .slice D s.learned.length d, .int .i64 s.code] 35)
  rw [hs1] at hb2
  obtain ⟨w2, hw2⟩ : ∃ w2, w2 = w1.alloc (.cells #[.slice P s.put.length p, .slice Q s.why.length q, .slice D s.learned.length d, .int .i64 s.code] 35) := ⟨_, rfl⟩
  rw [← hw2] at hal2 hb2
  have HB1 := Lib.hid ((hal2.block _ (lt_of_block hb1)).trans hb1)
  have HB2 := Lib.hid hb2
  have HS := Lib.hid ((h.up hal1).up hal2)
  have HLV := Lib.hid ((hlv.up hal1).up hal2)
  have hb12 := bthen hal1 hal2
  have HAL := Lib.hid hb12
  have HCL := Lib.hid ((Lay.Sl.below hcl hb12 hF).mono fun b hb => show Nw F w.heap.size w2 b from .inl hb)
  have HFF := Lib.hid hF
  have HCC := Lib.hid hcc
  have HV := Lib.hid hv
  have HG := Lib.hid hg
  have HGD := Lib.hid hgd
  have HC := Lib.hid hc
  have HFS := Lib.hid (show ∀ y ∈ cl, -y ∈ s.put.take s.put.length from by rw [List.take_length]; exact hf)
  have HW1 := Lib.hid hw1
  have HW2 := Lib.hid hw2
  obtain ⟨R, hR⟩ : ∃ R, R = learnP M (allC x s) s.put s.why s.put.length cl := ⟨_, rfl⟩
  rw [← hR]
  have HR := Lib.hid hR.symm
  have HRL : Hid (R.length ≤ 1048576) := Lib.hid (by
    have := clOk_len (learnP_ok hgd hg.len (cs := allC x s) hg.whys s.put.length cl hc (by rw [List.take_length]; exact hf)).1
    rw [← hR] at this; omega)
  obtain ⟨lv, hlve⟩ : ∃ lv, lv = lev s.put s.why 0 := ⟨_, rfl⟩
  rw [← hlve] at HV
  have HLE := Lib.hid hlve
  have HT := Lib.hid (fun (z : World) (B : Option Addr) (c : Nat) (F : Nat → Prop) (y : List Int) (hz : Lay.int.Rd z L vs) (hy : Lay.int.Sl z F B y) (hc : clOk (M : Int) y = true) => l5Top_any L B l c M lv vs y _ F z hz HV.out hy (fun k hk => (clOk_rng hc k hk).2) (by omega) (by have := clOk_len hc; omega))
  clear h hg hgd hlv hv hcl hcc hF hc hf hal1 hs1 hb1 hal2 hb2 hb12 hw1 hw2 hM hR hlve
  go_enter Try.func123, Try.ntmps123
  go_wp2_with fail
  rw [← HW1.out, ← HW2.out]
  refine (HT.out w2 B c _ cl HLV.out HCL.out HC.out).mono ?_
  rintro e w3 ⟨rfl, rfl⟩
  obtain ⟨nn, hnn⟩ : ∃ nn, nn = (topP lv cl 0 0).2 := ⟨_, rfl⟩
  rw [← hnn]
  have HNN := Lib.hid hnn
  clear hnn HW1 HW2
  obtain ⟨rel, hrelE⟩ : ∃ rel : Nat → Value → Value → World → Prop, rel = fun k o i wr => ∃ (y : List Int) (B : Option Addr) (c : Nat) (n : Int), o = .slice B y.length c ∧ i = .int .i64 n ∧ k ≤ s.put.length ∧ Hid (n = (topP lv y 0 0).2) ∧ Hid (clOk (M : Int) y = true) ∧ Hid (∀ u ∈ y, -u ∈ s.put.take k) ∧ Hid (learnP M (allC x s) s.put s.why k y = R) ∧ Hid (Lay.int.Sl wr (Nw F w.heap.size wr) B y) ∧ Hid (Below w2.heap.size w2 wr) ∧ Hid (y.length ≤ c) := ⟨_, rfl⟩
  have HRELE := Lib.hid hrelE
  have h00 : rel s.put.length (.slice B cl.length c) (.int .i64 nn) w2 := by
    rw [hrelE]
    exact ⟨cl, B, c, nn, rfl, rfl, Nat.le_refl _, HNN, HC, HFS, HR, HCL, Lib.hid (Below.refl _ _), HCC⟩
  have H00 := Lib.hid h00
  clear hrelE h00
  go_wp2
  go_loopw [3, 10] (fun o i wr => ∃ k, rel k o i wr) (fun o i wr => minK (fun k => rel k o i wr))
  case atStart => exact ⟨_, H00.out⟩
  case round =>
    clear HNN HC HFS HR HCL H00 HCC
    obtain ⟨k, hk9, hmin⟩ := minK_spec hrel
    have hrk := hk9
    rw [HRELE.out] at hk9
    obtain ⟨y, B, c, n, rfl, rfl, hk, HN, HC, HFS, HR, HY, HB, HYC⟩ := hk9
    have HMIN := Lib.hid hmin
    clear hmin hrk hrel
    by_cases hn1 : 1 < n
    · have hn2 : decide (1 < n) = true := decide_eq_true hn1
      obtain ⟨i, m, r, e1, e2, e3, e4, e5, e6, e7, e8, e9, e10⟩ := learnP_more HGD.out HG.out.len HG.out.whys (cs := allC x s) HC.out HFS.out (by rw [← HLE.out, ← HN.out]; exact hn1)
      have hsr := HS.out.up HB.out
      obtain ⟨ap, hP, _, hm⟩ : ∃ ad, P = some ad ∧ True ∧ wr.cell? (ad.add i) = some (.int .i64 m) := by
        obtain ⟨h1, h2⟩ := List.getElem?_eq_some_iff.1 e3
        obtain ⟨ad, a1, _, a2⟩ := hsr.put.at_int h1
        exact ⟨ad, a1, trivial, by rw [h2] at a2; exact a2⟩
      obtain ⟨aw, hQ, _, hr⟩ : ∃ ad, Q = some ad ∧ True ∧ wr.cell? (ad.add i) = some (.int .i64 r) := by
        obtain ⟨h1, h2⟩ := List.getElem?_eq_some_iff.1 e4
        obtain ⟨ad, a1, _, a2⟩ := hsr.why.at_int h1
        exact ⟨ad, a1, trivial, by rw [h2] at a2; exact a2⟩
      obtain ⟨kr, rfl⟩ := Int.eq_ofNat_of_zero_le e5
      rw [Int.toNat_natCast] at e7 e8 e9 e10
      have hkr : kr < x.list.length + s.learned.length := by have e6 : ((kr : Nat) : Int) < (x.list ++ s.learned).length := e6; rw [List.length_append] at e6; omega
      obtain ⟨Ar, cr, hcs, hcr, hat⟩ := clause_at hsr.cl hsr.lrn hkr
      have hrm := (HGD.out.rng m (List.mem_of_getElem? e3)).2
      have hil : (i : Int) < s.put.length := by have := (List.getElem?_eq_some_iff.1 e3).1; omega
      have hiw : (i : Int) < s.why.length := by have := (List.getElem?_eq_some_iff.1 e4).1; omega
      have e9 : ∀ l ∈ (x.list ++ s.learned).getD kr [], -(M : Int) ≤ l ∧ l ≤ M := e9
      have e7 : clOk (M : Int) (joinP M y ((x.list ++ s.learned).getD kr []) m.natAbs) = true := e7
      have e8 : ∀ l ∈ joinP M y ((x.list ++ s.learned).getD kr []) m.natAbs, -l ∈ s.put.take (k - 1) := e8
      have e10 : _ = learnP M (allC x s) s.put s.why (k - 1) (joinP M y ((x.list ++ s.learned).getD kr []) m.natAbs) := e10
      have hrl : ((x.list ++ s.learned).getD kr []).length ≤ 1048576 := by
        have h9 : (x.list ++ s.learned).getD kr [] ∈ allC x s := by
          have h8 : kr < (x.list ++ s.learned).length := by rw [List.length_append]; exact hkr
          rw [List.getD_eq_getElem?_getD, List.getElem?_eq_getElem h8]
          exact List.getElem_mem h8
        have h7 := allC_clOk HG.out _ h9
        have h6 := (cOk_good (Int.le_refl 0) h7).1.length
        rw [List.length_map] at h6
        have h5 := HG.out.cnf
        simp only [cnfOk, Bool.and_eq_true, decide_eq_true_eq] at h5
        omega
      generalize (x.list ++ s.learned).getD kr [] = rc at *
      obtain ⟨z, hz⟩ : ∃ z, z = joinP M y rc m.natAbs := ⟨_, rfl⟩
      have HJ := Lib.hid (fun (w9 : World) (hb : Below wr.heap.size wr w9) => l5Join_any B Ar c cr M m.natAbs y rc _ _ w9 ((HY.out.keep fun b hb9 => hb.block b (by rcases hb9 with h9 | h9; exact Nat.lt_of_lt_of_le (HFF.out b h9) (Nat.le_trans HAL.out.size HB.out.size); exact h9.2)).mono fun b hb9 => hb9) (Lay.Sl.below hcs hb (fun _ h => h)) (fun b hb9 => by rcases hb9 with h9 | h9; exact Nat.lt_of_lt_of_le (HFF.out b h9) (Nat.le_trans HAL.out.size (Nat.le_trans HB.out.size hb.size)); exact Nat.lt_of_lt_of_le h9.2 hb.size) (fun b hb9 => Nat.lt_of_lt_of_le hb9 hb.size) (fun l hl => (clOk_rng HC.out l hl).2) e9 (by omega) (by omega) (by have := clOk_len HC.out; omega) hrl)
      rw [← hz] at HJ e7 e8 e10
      have HAT := Lib.hid (fun (w9 : World) (hb : Below wr.heap.size wr w9) => l5At_any x s A P Q D a p q d kr (.slice Ar rc.length cr) w9 hxl (hat.imp (fun ⟨h1, ad, h2, h3⟩ => ⟨h1, ad, h2, Later.cell h3 ⟨w9, hb⟩⟩) (fun ⟨h1, ad, h2, h3⟩ => ⟨h1, ad, h2, Later.cell h3 ⟨w9, hb⟩⟩)) hkr hll)
      rw [show x.many = (M : Int) from HMM.out] at HAT
      have HABS := Lib.hid (fun (w9 : World) => l4Abs_any m w9 (by omega) (by omega))
      have HLAST := Lib.hid (l5Last_any s P Q D B p q d c M y _ wr hsr.put HY.out (fun b hb9 => by rcases hb9 with h9 | h9; exact Nat.lt_of_lt_of_le (HFF.out b h9) (Nat.le_trans HAL.out.size HB.out.size); exact h9.2) HGD.out (fun l hl => (clOk_rng HC.out l hl).2) (by omega) (by have := clOk_len HC.out; omega))
      rw [e1] at HLAST
      have HE7 := Lib.hid e7
      have HE8 := Lib.hid e8
      have HE10 := Lib.hid (e10.symm.trans HR.out)
      have hik : i < k := e2
      have hbx1 := (HB.out.block _ (lt_of_block HB1.out)).trans HB1.out
      have hbx2 := (HB.out.block _ (lt_of_block HB2.out)).trans HB2.out
      have HBX1 := Lib.hid hbx1
      have HBX2 := Lib.hid hbx2
      have HM9 := Lib.hid (And.intro hm hr)
      clear e1 e2 e3 e4 e5 e6 e7 e8 e9 e10 hsr hm hr hkr hcs hcr hat hrm hrl hz hbx1 hbx2 HR HN
      subst hP hQ
      obtain ⟨u0, _⟩ := cell_of_block HBX2.out 0
      obtain ⟨u1, _⟩ := cell_of_block HBX2.out 1
      obtain ⟨u2, _⟩ := cell_of_block HBX2.out 2
      obtain ⟨u3, _⟩ := cell_of_block HBX2.out 3
      go_wp2_with fail
      refine HLAST.out.mono ?_
      rintro e w4 ⟨rfl, hb4⟩
      have HB4 := Lib.hid hb4
      have k0 := Later.cell (show w4.cell? ⟨w.heap.size, 0, none⟩ = _ from (cell_of_block ((hb4.block _ (lt_of_block HBX1.out)).trans HBX1.out) 0).1)
      have k1 := Later.cell (show w4.cell? ⟨w.heap.size, 1, none⟩ = _ from (cell_of_block ((hb4.block _ (lt_of_block HBX1.out)).trans HBX1.out) 1).1)
      have s0 := Later.cell (show w4.cell? ⟨w.heap.size + 1, 0, none⟩ = _ from (cell_of_block ((hb4.block _ (lt_of_block HBX2.out)).trans HBX2.out) 0).1)
      have s1 := Later.cell (show w4.cell? ⟨w.heap.size + 1, 1, none⟩ = _ from (cell_of_block ((hb4.block _ (lt_of_block HBX2.out)).trans HBX2.out) 1).1)
      have s2 := Later.cell (show w4.cell? ⟨w.heap.size + 1, 2, none⟩ = _ from (cell_of_block ((hb4.block _ (lt_of_block HBX2.out)).trans HBX2.out) 2).1)
      have s3 := Later.cell (show w4.cell? ⟨w.heap.size + 1, 3, none⟩ = _ from (cell_of_block ((hb4.block _ (lt_of_block HBX2.out)).trans HBX2.out) 3).1)
      have pm := Later.cell (show w4.cell? (ap.add i) = some (.int .i64 m) from Later.cell HM9.out.1 ⟨w4, HB4.out⟩)
      have pr := Later.cell (show w4.cell? (aw.add i) = some (.int .i64 (kr : Int)) from Later.cell HM9.out.2 ⟨w4, HB4.out⟩)
      clear hb4 u0 u1 u2 u3
      go_wp2
      refine wp_region_rel4 [[], [(0, 23)], [], [], [], [], [(5, 28)], [], [(6, 29), (7, 30)], [(8, 31)], [(3, 26), (4, 27), (9, 32)], [], [(11, 34)], [], [(12, 35), (13, 36)], [(14, 37)], [(15, 38)], [(1, 24), (2, 25), (10, 33), (16, 39)], [(17, 40)]]
        (fun y y' => Below y.heap.size y y')
        []
        (fun _ yy => Below w4.heap.size w4 yy)
        [fun vs9 _ => vs9 0 = (.pointer (some ⟨w.heap.size, 0, none⟩)),
    fun vs9 _ => vs9 1 = (.int .i64 (M : Int)),
    fun vs9 _ => vs9 2 = (.slice B y.length c),
    fun vs9 _ => vs9 3 = (.agg #[.int .i64 (M : Int), .slice A x.list.length a]),
    fun vs9 _ => vs9 4 = (.agg #[.slice (some ap) s.put.length p, .slice (some aw) s.why.length q, .slice D s.learned.length d, .int .i64 s.code]),
    fun vs9 _ => vs9 5 = (.pointer (some ⟨w.heap.size + 1, 1, none⟩)),
    fun vs9 _ => vs9 6 = (.slice (some aw) s.why.length q),
    fun vs9 _ => vs9 7 = (.int .i64 (i : Int)),
    fun vs9 _ => vs9 8 = (.pointer (some (aw.add i))),
    fun vs9 _ => vs9 9 = (.int .i64 (kr : Int)),
    fun vs9 _ => vs9 10 = (.slice Ar rc.length cr),
    fun vs9 _ => vs9 11 = (.pointer (some ⟨w.heap.size + 1, 0, none⟩)),
    fun vs9 _ => vs9 12 = (.slice (some ap) s.put.length p),
    fun vs9 _ => vs9 13 = (.int .i64 (i : Int)),
    fun vs9 _ => vs9 14 = (.pointer (some (ap.add i))),
    fun vs9 _ => vs9 15 = (.int .i64 m),
    fun vs9 _ => vs9 16 = (.int .i64 (m.natAbs : Int)),
    fun vs9 y9 => (fun v y9 => ∃ (A9 : Option Addr) (c9 : Nat), v = .slice A9 z.length c9 ∧ z.length ≤ c9 ∧ Lay.int.Sl y9 (fun b => w4.heap.size ≤ b ∧ b < y9.heap.size) A9 z) (vs9 17) y9,
    fun vs9 y9 => (fun v y9 => ∃ (A9 : Option Addr) (c9 : Nat), v = .slice A9 z.length c9 ∧ z.length ≤ c9 ∧ Lay.int.Sl y9 (fun b => w4.heap.size ≤ b ∧ b < y9.heap.size) A9 z) (vs9 18) y9]
        [(0, 23), (1, 24), (2, 25), (3, 26), (4, 27), (5, 28), (6, 29), (7, 30), (8, 31), (9, 32), (10, 33), (11, 34), (12, 35), (13, 36), (14, 37), (15, 38), (16, 39), (17, 40), (18, 3)] (by kernel_rfl) (by kernel_rfl) (by kernel_rfl) (by kernel_rfl)
        (fun _ => Below.refl _ _) trivial
        ⟨⟨.inr (fun vs9 _ _ (h9 : vs9 0 = (.pointer (some ⟨w.heap.size, 0, none⟩))) _ => h9), trivial⟩,
    ⟨.inr (fun vs9 _ _ (h9 : vs9 1 = (.int .i64 (M : Int))) _ => h9), trivial⟩,
    ⟨.inr (fun vs9 _ _ (h9 : vs9 2 = (.slice B y.length c)) _ => h9), trivial⟩,
    ⟨.inr (fun vs9 _ _ (h9 : vs9 3 = (.agg #[.int .i64 (M : Int), .slice A x.list.length a])) _ => h9), trivial⟩,
    ⟨.inr (fun vs9 _ _ (h9 : vs9 4 = (.agg #[.slice (some ap) s.put.length p, .slice (some aw) s.why.length q, .slice D s.learned.length d, .int .i64 s.code])) _ => h9), trivial⟩,
    ⟨.inr (fun vs9 _ _ (h9 : vs9 5 = (.pointer (some ⟨w.heap.size + 1, 1, none⟩))) _ => h9), trivial⟩,
    ⟨.inr (fun vs9 _ _ (h9 : vs9 6 = (.slice (some aw) s.why.length q)) _ => h9), trivial⟩,
    ⟨.inr (fun vs9 _ _ (h9 : vs9 7 = (.int .i64 (i : Int))) _ => h9), trivial⟩,
    ⟨.inr (fun vs9 _ _ (h9 : vs9 8 = (.pointer (some (aw.add i)))) _ => h9), trivial⟩,
    ⟨.inr (fun vs9 _ _ (h9 : vs9 9 = (.int .i64 (kr : Int))) _ => h9), trivial⟩,
    ⟨.inr (fun vs9 _ _ (h9 : vs9 10 = (.slice Ar rc.length cr)) _ => h9), trivial⟩,
    ⟨.inr (fun vs9 _ _ (h9 : vs9 11 = (.pointer (some ⟨w.heap.size + 1, 0, none⟩))) _ => h9), trivial⟩,
    ⟨.inr (fun vs9 _ _ (h9 : vs9 12 = (.slice (some ap) s.put.length p)) _ => h9), trivial⟩,
    ⟨.inr (fun vs9 _ _ (h9 : vs9 13 = (.int .i64 (i : Int))) _ => h9), trivial⟩,
    ⟨.inr (fun vs9 _ _ (h9 : vs9 14 = (.pointer (some (ap.add i)))) _ => h9), trivial⟩,
    ⟨.inr (fun vs9 _ _ (h9 : vs9 15 = (.int .i64 m)) _ => h9), trivial⟩,
    ⟨.inr (fun vs9 _ _ (h9 : vs9 16 = (.int .i64 (m.natAbs : Int))) _ => h9), trivial⟩,
    ⟨.inr (fun vs9 x9 y9 h9 hR9 => (show ∀ v9 y8 y7, (fun v y9 => ∃ (A9 : Option Addr) (c9 : Nat), v = .slice A9 z.length c9 ∧ z.length ≤ c9 ∧ Lay.int.Sl y9 (fun b => w4.heap.size ≤ b ∧ b < y9.heap.size) A9 z) v9 y8 → (fun y y' => Below y.heap.size y y') y8 y7 → (fun v y9 => ∃ (A9 : Option Addr) (c9 : Nat), v = .slice A9 z.length c9 ∧ z.length ≤ c9 ∧ Lay.int.Sl y9 (fun b => w4.heap.size ≤ b ∧ b < y9.heap.size) A9 z) v9 y7 from fun _ y8 y7 ⟨A9, c9, h1, h0, h2⟩ hR => ⟨A9, c9, h1, h0, (h2.keep fun b hb => hR.block b hb.2).mono fun b hb => ⟨hb.1, Nat.lt_of_lt_of_le hb.2 hR.size⟩⟩) (vs9 17) x9 y9 h9 hR9), trivial⟩,
    ⟨.inr (fun vs9 x9 y9 h9 hR9 => (show ∀ v9 y8 y7, (fun v y9 => ∃ (A9 : Option Addr) (c9 : Nat), v = .slice A9 z.length c9 ∧ z.length ≤ c9 ∧ Lay.int.Sl y9 (fun b => w4.heap.size ≤ b ∧ b < y9.heap.size) A9 z) v9 y8 → (fun y y' => Below y.heap.size y y') y8 y7 → (fun v y9 => ∃ (A9 : Option Addr) (c9 : Nat), v = .slice A9 z.length c9 ∧ z.length ≤ c9 ∧ Lay.int.Sl y9 (fun b => w4.heap.size ≤ b ∧ b < y9.heap.size) A9 z) v9 y7 from fun _ y8 y7 ⟨A9, c9, h1, h0, h2⟩ hR => ⟨A9, c9, h1, h0, (h2.keep fun b hb => hR.block b hb.2).mono fun b hb => ⟨hb.1, Nat.lt_of_lt_of_le hb.2 hR.size⟩⟩) (vs9 18) x9 y9 h9 hR9), trivial⟩, trivial⟩ ⟨fun vs vs' x h _ hv => (by dsimp only at hv ⊢; first | (rw [← h]; exact hv) | exact hv),
    fun vs vs' x h _ hv => (by dsimp only at hv ⊢; first | (rw [← h]; exact hv) | exact hv),
    fun vs vs' x h _ hv => (by dsimp only at hv ⊢; first | (rw [← h]; exact hv) | exact hv),
    fun vs vs' x h _ hv => (by dsimp only at hv ⊢; first | (rw [← h]; exact hv) | exact hv),
    fun vs vs' x h _ hv => (by dsimp only at hv ⊢; first | (rw [← h]; exact hv) | exact hv),
    fun vs vs' x h _ hv => (by dsimp only at hv ⊢; first | (rw [← h]; exact hv) | exact hv),
    fun vs vs' x h _ hv => (by dsimp only at hv ⊢; first | (rw [← h]; exact hv) | exact hv),
    fun vs vs' x h _ hv => (by dsimp only at hv ⊢; first | (rw [← h]; exact hv) | exact hv),
    fun vs vs' x h _ hv => (by dsimp only at hv ⊢; first | (rw [← h]; exact hv) | exact hv),
    fun vs vs' x h _ hv => (by dsimp only at hv ⊢; first | (rw [← h]; exact hv) | exact hv),
    fun vs vs' x h _ hv => (by dsimp only at hv ⊢; first | (rw [← h]; exact hv) | exact hv),
    fun vs vs' x h _ hv => (by dsimp only at hv ⊢; first | (rw [← h]; exact hv) | exact hv),
    fun vs vs' x h _ hv => (by dsimp only at hv ⊢; first | (rw [← h]; exact hv) | exact hv),
    fun vs vs' x h _ hv => (by dsimp only at hv ⊢; first | (rw [← h]; exact hv) | exact hv),
    fun vs vs' x h _ hv => (by dsimp only at hv ⊢; first | (rw [← h]; exact hv) | exact hv),
    fun vs vs' x h _ hv => (by dsimp only at hv ⊢; first | (rw [← h]; exact hv) | exact hv),
    fun vs vs' x h _ hv => (by dsimp only at hv ⊢; first | (rw [← h]; exact hv) | exact hv),
    fun vs vs' x h _ hv => (by dsimp only at hv ⊢; first | (rw [← h]; exact hv) | exact hv),
    fun vs vs' x h _ hv => (by dsimp only at hv ⊢; first | (rw [← h]; exact hv) | exact hv), trivial⟩ (below_drewN (Below.refl _ _) 1) ⟨?_, ?_, ?_, ?_, ?_, ?_, ?_, ?_, ?_, ?_, ?_, ?_, ?_, ?_, ?_, ?_, ?_, ?_, ?_, trivial⟩ ?_
      · intro vals xw f hf1 hf2 hf3 hI hF
        clear hf2 hf3
        dsimp only [owes4, bare]
        simp only [putsD, Act.put, List.setIfInBounds_toArray, List.set_cons_zero, List.set_cons_succ]
        go_wp2
        exact ⟨rfl, rfl, Below.refl _ _, hI⟩
      · intro vals xw f hf1 hf2 hf3 hI hF
        clear hf2 hf3
        simp only [saysD, List.getD_cons_zero, List.getD_cons_succ, and_true] at hF
        have e23 := hF
        dsimp only [owes4, bare]
        simp only [putsD, Act.put, List.setIfInBounds_toArray, List.set_cons_zero, List.set_cons_succ]
        simp only [e23]
        have c90 : xw.cell? _ = _ := k0 ⟨xw, hI⟩
        go_wp2
        exact ⟨rfl, rfl, Below.refl _ _, hI⟩
      · intro vals xw f hf1 hf2 hf3 hI hF
        clear hf2 hf3
        dsimp only [owes4, bare]
        simp only [putsD, Act.put, List.setIfInBounds_toArray, List.set_cons_zero, List.set_cons_succ]
        go_wp2
        exact ⟨rfl, rfl, Below.refl _ _, hI⟩
      · intro vals xw f hf1 hf2 hf3 hI hF
        clear hf2 hf3
        dsimp only [owes4, bare]
        simp only [putsD, Act.put, List.setIfInBounds_toArray, List.set_cons_zero, List.set_cons_succ]
        have c90 : xw.cell? _ = _ := k0 ⟨xw, hI⟩
        have c91 : xw.cell? _ = _ := k1 ⟨xw, hI⟩
        go_wp2
        exact ⟨rfl, rfl, Below.refl _ _, hI⟩
      · intro vals xw f hf1 hf2 hf3 hI hF
        clear hf2 hf3
        dsimp only [owes4, bare]
        simp only [putsD, Act.put, List.setIfInBounds_toArray, List.set_cons_zero, List.set_cons_succ]
        have c90 : xw.cell? _ = _ := s0 ⟨xw, hI⟩
        have c91 : xw.cell? _ = _ := s1 ⟨xw, hI⟩
        have c92 : xw.cell? _ = _ := s2 ⟨xw, hI⟩
        have c93 : xw.cell? _ = _ := s3 ⟨xw, hI⟩
        go_wp2
        exact ⟨rfl, rfl, Below.refl _ _, hI⟩
      · intro vals xw f hf1 hf2 hf3 hI hF
        clear hf2 hf3
        dsimp only [owes4, bare]
        simp only [putsD, Act.put, List.setIfInBounds_toArray, List.set_cons_zero, List.set_cons_succ]
        go_wp2
        exact ⟨rfl, rfl, Below.refl _ _, hI⟩
      · intro vals xw f hf1 hf2 hf3 hI hF
        clear hf2 hf3
        simp only [saysD, List.getD_cons_zero, List.getD_cons_succ, and_true] at hF
        have e28 := hF
        dsimp only [owes4, bare]
        simp only [putsD, Act.put, List.setIfInBounds_toArray, List.set_cons_zero, List.set_cons_succ]
        simp only [e28]
        have c90 : xw.cell? _ = _ := s1 ⟨xw, hI⟩
        go_wp2
        exact ⟨rfl, rfl, Below.refl _ _, hI⟩
      · intro vals xw f hf1 hf2 hf3 hI hF
        clear hf2 hf3
        dsimp only [owes4, bare]
        simp only [putsD, Act.put, List.setIfInBounds_toArray, List.set_cons_zero, List.set_cons_succ]
        go_wp2
        exact ⟨rfl, rfl, Below.refl _ _, hI⟩
      · intro vals xw f hf1 hf2 hf3 hI hF
        clear hf2 hf3
        simp only [saysD, List.getD_cons_zero, List.getD_cons_succ, and_true] at hF
        obtain ⟨e29, e30⟩ := hF
        dsimp only [owes4, bare]
        simp only [putsD, Act.put, List.setIfInBounds_toArray, List.set_cons_zero, List.set_cons_succ]
        simp only [e29, e30]
        go_wp2
        exact ⟨rfl, rfl, Below.refl _ _, hI⟩
      · intro vals xw f hf1 hf2 hf3 hI hF
        clear hf2 hf3
        simp only [saysD, List.getD_cons_zero, List.getD_cons_succ, and_true] at hF
        have e31 := hF
        dsimp only [owes4, bare]
        simp only [putsD, Act.put, List.setIfInBounds_toArray, List.set_cons_zero, List.set_cons_succ]
        simp only [e31]
        have c90 : xw.cell? _ = _ := pr ⟨xw, hI⟩
        go_wp2
        exact ⟨rfl, rfl, Below.refl _ _, hI⟩
      · intro vals xw f hf1 hf2 hf3 hI hF
        clear hf2 hf3
        simp only [saysD, List.getD_cons_zero, List.getD_cons_succ, and_true] at hF
        obtain ⟨e26, e27, e32⟩ := hF
        dsimp only [owes4, bare]
        simp only [putsD, Act.put, List.setIfInBounds_toArray, List.set_cons_zero, List.set_cons_succ]
        simp only [e26, e27, e32]
        have HWF := Lib.hid (HAT.out xw (HB4.out.trans (hI.mono HB4.out.size)))
        have HII := Lib.hid hI
        clear hI
        go_wp2_with fail
        refine HWF.out.mono ?_
        rintro e w9 ⟨rfl, hb9⟩
        have HB9 := Lib.hid hb9
        clear hb9
        go_wp2
        exact ⟨rfl, rfl, HB9.out, bthen HII.out HB9.out⟩
      · intro vals xw f hf1 hf2 hf3 hI hF
        clear hf2 hf3
        dsimp only [owes4, bare]
        simp only [putsD, Act.put, List.setIfInBounds_toArray, List.set_cons_zero, List.set_cons_succ]
        go_wp2
        exact ⟨rfl, rfl, Below.refl _ _, hI⟩
      · intro vals xw f hf1 hf2 hf3 hI hF
        clear hf2 hf3
        simp only [saysD, List.getD_cons_zero, List.getD_cons_succ, and_true] at hF
        have e34 := hF
        dsimp only [owes4, bare]
        simp only [putsD, Act.put, List.setIfInBounds_toArray, List.set_cons_zero, List.set_cons_succ]
        simp only [e34]
        have c90 : xw.cell? _ = _ := s0 ⟨xw, hI⟩
        go_wp2
        exact ⟨rfl, rfl, Below.refl _ _, hI⟩
      · intro vals xw f hf1 hf2 hf3 hI hF
        clear hf2 hf3
        dsimp only [owes4, bare]
        simp only [putsD, Act.put, List.setIfInBounds_toArray, List.set_cons_zero, List.set_cons_succ]
        go_wp2
        exact ⟨rfl, rfl, Below.refl _ _, hI⟩
      · intro vals xw f hf1 hf2 hf3 hI hF
        clear hf2 hf3
        simp only [saysD, List.getD_cons_zero, List.getD_cons_succ, and_true] at hF
        obtain ⟨e35, e36⟩ := hF
        dsimp only [owes4, bare]
        simp only [putsD, Act.put, List.setIfInBounds_toArray, List.set_cons_zero, List.set_cons_succ]
        simp only [e35, e36]
        go_wp2
        exact ⟨rfl, rfl, Below.refl _ _, hI⟩
      · intro vals xw f hf1 hf2 hf3 hI hF
        clear hf2 hf3
        simp only [saysD, List.getD_cons_zero, List.getD_cons_succ, and_true] at hF
        have e37 := hF
        dsimp only [owes4, bare]
        simp only [putsD, Act.put, List.setIfInBounds_toArray, List.set_cons_zero, List.set_cons_succ]
        simp only [e37]
        have c90 : xw.cell? _ = _ := pm ⟨xw, hI⟩
        go_wp2
        exact ⟨rfl, rfl, Below.refl _ _, hI⟩
      · intro vals xw f hf1 hf2 hf3 hI hF
        clear hf2 hf3
        simp only [saysD, List.getD_cons_zero, List.getD_cons_succ, and_true] at hF
        have e38 := hF
        dsimp only [owes4, bare]
        simp only [putsD, Act.put, List.setIfInBounds_toArray, List.set_cons_zero, List.set_cons_succ]
        simp only [e38]
        have HII := Lib.hid hI
        clear hI
        go_wp2_with fail
        refine (HABS.out xw).mono ?_
        rintro e w9 ⟨rfl, rfl⟩
        go_wp2
        exact ⟨rfl, rfl, Below.refl _ _, HII.out⟩
      · intro vals xw f hf1 hf2 hf3 hI hF
        clear hf2 hf3
        simp only [saysD, List.getD_cons_zero, List.getD_cons_succ, and_true] at hF
        obtain ⟨e24, e25, e33, e39⟩ := hF
        dsimp only [owes4, bare]
        simp only [putsD, Act.put, List.setIfInBounds_toArray, List.set_cons_zero, List.set_cons_succ]
        simp only [e24, e25, e33, e39]
        have HWF := Lib.hid (HJ.out xw (HB4.out.trans (hI.mono HB4.out.size)))
        have HII := Lib.hid hI
        clear hI
        go_wp2_with fail
        refine HWF.out.mono ?_
        rintro e w9 ⟨A9, c9, rfl, ho9, hb9⟩
        have HO9 : Hid (Lay.int.Sl w9 (fun b => w4.heap.size ≤ b ∧ b < w9.heap.size) A9 z) := Lib.hid (by
  obtain ⟨A8, c8, e8, _, h8⟩ := ho9.form
  injection e8 with e8
  rw [e8]
  exact h8.mono fun b hb => ⟨Nat.le_trans HII.out.size hb.1, hb.2⟩)
        have HB9 := Lib.hid hb9
        have HC9 := Lib.hid (OwnI.cap ho9)
        clear hb9 ho9
        go_wp2
        exact ⟨rfl, ⟨A9, c9, rfl, HC9.out, HO9.out⟩, HB9.out, bthen HII.out HB9.out⟩
      · intro vals xw f hf1 hf2 hf3 hI hF
        clear hf2 hf3
        simp only [saysD, List.getD_cons_zero, List.getD_cons_succ, and_true] at hF
        obtain ⟨A9, c9, e40, h8, h9⟩ := hF
        dsimp only [owes4, bare]
        simp only [putsD, Act.put, List.setIfInBounds_toArray, List.set_cons_zero, List.set_cons_succ]
        simp only [e40]
        have HTT := Lib.hid (And.intro h8 h9)
        clear h8 h9
        go_wp2
        exact ⟨rfl, ⟨A9, c9, rfl, HTT.out⟩, Below.refl _ _, hI⟩
      · intro vals xw f hall hI hF
        rw [show List.range _ = [0, 1, 2, 3, 4, 5, 6, 7, 8, 9, 10, 11, 12, 13, 14, 15, 16, 17, 18] from rfl] at hF
        simp only [says, List.getD_cons_zero, List.getD_cons_succ, and_true] at hF
        obtain ⟨A9, c9, e3, h8, h9⟩ := hF.2.2.2.2.2.2.2.2.2.2.2.2.2.2.2.2.2.2
        have HZ9 := Lib.hid h9
        have HZC := Lib.hid h8
        have HB9 := Lib.hid (HB4.out.trans (hI.mono HB4.out.size))
        simp only [putsD, Act.put, List.setIfInBounds_toArray, List.set_cons_zero, List.set_cons_succ]
        simp only [e3]
        clear hF e3 h8 h9 hI k0 k1 s0 s1 s2 s3 pm pr
        have HBW := Lib.hid (bthen HB.out HB9.out)
        have HT9 := Lib.hid (HT.out xw A9 c9 _ z (HLV.out.up HBW.out) HZ9.out HE7.out)
        have HZN : Hid (Lay.int.Sl xw (Nw F w.heap.size xw) A9 z) := Lib.hid (HZ9.out.mono fun b hb => .inr ⟨Nat.le_trans (Nat.le_trans HAL.out.size (Nat.le_trans HB.out.size HB4.out.size)) hb.1, hb.2⟩)
        go_wp2_with fail
        refine HT9.out.mono ?_
        rintro e w9 ⟨rfl, rfl⟩
        obtain ⟨n9, hn9⟩ : ∃ n9, n9 = (topP lv z 0 0).2 := ⟨_, rfl⟩
        rw [← hn9]
        have HN9 := Lib.hid hn9
        clear hn9
        have hnew : rel (k - 1) (.slice A9 z.length c9) (.int .i64 n9) xw := by
          rw [HRELE.out]
          exact ⟨z, A9, c9, n9, rfl, rfl, by omega, HN9, HE7, HE8, HE10, HZN, HBW, HZC⟩
        have HNEW := Lib.hid hnew
        clear hnew
        go_wp2
        go_roundw
        case rel => exact ⟨_, HNEW.out⟩
        case measure => exact minK_lt HNEW.out (by have := HMIN.out; omega)
    · have hn2 : decide (1 < n) = false := decide_eq_false hn1
      have HYR : Hid (y = R) := Lib.hid (by rw [← HR.out]; exact (learnP_done (by rw [← HLE.out, ← HN.out]; exact hn1)).symm)
      go_wp2
      go_ret
      rw [← HYR.out]
      exact ⟨B, c, rfl, HY.out, HYC.out, bthen HAL.out HB.out⟩
end Go.Proofs.Ytbljfhmcebgdaaa
