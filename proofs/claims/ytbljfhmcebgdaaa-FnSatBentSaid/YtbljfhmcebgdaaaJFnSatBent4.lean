/- The reference's check of what is put: l5Marks; UnitAll. The program's UnitAll. The reference's UnitAll. Marks on integers, on rows of integers, on formulas. Formulas and rows of integers: what comes in, copies, comparisons, marks; one form for all. Where a search is: the plain law. The program's trail: place, implies. The program's readSat: its parts. Rows of the call's own whose elements may lead on to other blocks; append of one element. No program is named here. Contracts of the reference's reader of codes: l12Open, pick. -/
import Derived.Test.YtbljfhmcebgdaaaJFnSatBent0
import Derived.Test.YtbljfhmcebgdaaaJFnSatBent2
import Derived.Test.YtbljfhmcebgdaaaJFnSatBent3
/-! The reference's check of what is put: l5Marks; UnitAll. -/
namespace Go.Proofs.Ytbljfhmcebgdaaa
open Go Go.RowKit

/-- The row says which variables are put. -/
def SeenOk (M : Nat) (put : List Int) (sn : List Bool) : Prop := sn.length = M + 1 ∧ ∀ v : Nat, 1 ≤ v → v ≤ M → sn[v]? = some (decide (∃ l ∈ put, l.natAbs = v))
theorem SeenOk.snoc {M : Nat} {put : List Int} {sn : List Bool} (h : SeenOk M put sn) (l : Int) (h1 : l.natAbs ≤ M) : SeenOk M (put ++ [l]) (sn.set l.natAbs true) := by
  refine ⟨by rw [List.length_set]; exact h.1, fun v hv1 hv2 => ?_⟩
  by_cases e : l.natAbs = v
  · rw [← e, List.getElem?_set_self (by rw [h.1]; omega), decide_eq_true ⟨l, by simp, rfl⟩]
  · rw [List.getElem?_set_ne e, h.2 v hv1 hv2]
    congr 1
    rw [Bool.eq_iff_iff, decide_eq_true_eq, decide_eq_true_eq]
    constructor
    · rintro ⟨x, hx, he⟩; exact ⟨x, List.mem_append_left _ hx, he⟩
    · rintro ⟨x, hx, he⟩
      rcases List.mem_append.1 hx with hx | hx
      · exact ⟨x, hx, he⟩
      · rw [List.mem_singleton.1 hx] at he; exact absurd he e
theorem SeenOk.is {M : Nat} {put : List Int} {sn : List Bool} (h : SeenOk M put sn) {l : Int} (h0 : l ≠ 0) (h1 : l.natAbs ≤ M) : sn[l.natAbs]? = some (decide (l ∈ put ∨ -l ∈ put)) := by
  rw [h.2 _ (by omega) h1]
  congr 1
  rw [Bool.eq_iff_iff, decide_eq_true_eq, decide_eq_true_eq]
  constructor
  · rintro ⟨x, hx, he⟩
    have : x = l ∨ x = -l := by omega
    rcases this with e | e
    · exact .inl (e ▸ hx)
    · exact .inr (e ▸ hx)
  · rintro (hx | hx)
    · exact ⟨_, hx, rfl⟩
    · exact ⟨_, hx, by omega⟩


def RetM (M : Nat) (put : List Int) (w : World) (e : Ending) (w' : World) : Prop := ∃ b, e = .returned (.bool b) ∧ (b = true ↔ Good M put) ∧ Below w.heap.size w w'
set_option maxRecDepth 100000 in
set_option maxHeartbeats 2000000 in
theorem l5Marks_any (A B : Option Addr) (p q M : Nat) (x : C) (put : List Int) (G : Nat → Prop) (w : World) (hM : x.many = (M : Int)) (hM2 : M ≤ 1000000) (h : Lay.int.Sl w G B put) (hG : ∀ b, G b → b < w.heap.size) (hn : put.length ≤ 1048576) (hi : ∀ l ∈ put, -9223372036854775808 ≤ l ∧ l ≤ 9223372036854775807) :
    Calls Try.prog 54 #[.agg #[.int .i64 x.many, .slice A x.list.length p], .slice B put.length q] w (RetM M put w) := by
  obtain ⟨i0, hi0, hz0, hz1, hz2⟩ := info_parts bool_info
  have hw : Below w.heap.size w (w.alloc (.cells #[.int .i64 x.many, .slice A x.list.length p] 25)) := (Below.refl _ _).alloc (Nat.le_refl _) _
  have K := h.below hw hG
  have hGW : ∀ b, G b → b < (w.alloc (.cells #[.int .i64 x.many, .slice A x.list.length p] 25)).heap.size := fun b h9 => Nat.lt_of_lt_of_le (hG b h9) hw.size
  rw [hM] at *
  have v0 : (w.alloc (.cells #[.int .i64 (M : Int), .slice A x.list.length p] 25)).cell? ⟨w.heap.size, 0, none⟩ = some (.int .i64 M) := by simp [go_sem]
  go_enter Try.func54, Try.ntmps54
  go_wp2_with (at_make; refine wpList_make_full _ rfl _ _ 38 rfl (w.alloc (.cells #[.int .i64 (M : Int), .slice A x.list.length p] 25)).heap.size 4 i0 _ 1 Try.underlying38 hi0 hz0 hz1 .i64 .i64 _ _ (M + 1) rfl rfl (by push_cast; rfl) (by push_cast; rfl) (by rw [hz2]; omega) (by unfold maxLen; omega) (Nat.le_refl _) ?_; intro w1 hown hg1)
  have H1 := Lib.hid hg1
  clear hg1 hi0 hz0 hz1 hz2
  have hWS : (w.alloc (.cells #[.int .i64 (M : Int), .slice A x.list.length p] 25)).heap.size = w.heap.size + 1 := by simp
  generalize w.alloc (.cells #[.int .i64 (M : Int), .slice A x.list.length p] 25) = W at *
  have hb1 : Below W.heap.size W w1 := (Below.refl _ _).grown H1.out (Nat.le_refl _) (by simp)
  rw [show (madeCells (Value.bool false).cells ((M + 1) * 1)).toList = (List.replicate (M + 1) false).map Value.bool from by
    rw [show (Value.bool false).cells = #[Value.bool false] from rfl, toList_madeCells_one]; simp] at hown
  rw [hWS] at hown
  have hWle : W.heap.size ≤ w.heap.size + 1 := by omega
  have HWS := Lib.hid hWS
  clear hWS
  have HWW := Lib.hid hw
  have HI := Lib.hid hi
  have HK := Lib.hid K
  have HGW := Lib.hid hGW
  have HWL := Lib.hid hWle
  clear hw hi K hGW hG h
  go_loopw [6] (fun i wr => ∃ (k : Nat) (sn : List Bool), k ≤ put.length ∧ i = .int .i64 k ∧ Below W.heap.size W wr ∧ wr.ownsRow (w.heap.size + 1) 4 1 (.slice (some ⟨w.heap.size + 1, 0, none⟩) (M + 1) (M + 1)) (M + 1) (sn.map Value.bool) ∧ SeenOk M (put.take k) sn ∧ Good M (put.take k))
    (fun i _ => put.length - (intOf i).toNat)
  case atStart => exact ⟨0, _, Nat.zero_le _, rfl, hb1, hown, ⟨by simp, fun v h1 h2 => by rw [List.getElem?_replicate, if_pos (by omega)]; simp⟩, by simpa using Good.nil M⟩
  case round =>
    obtain ⟨k, sn, hk, rfl, hb, ho, hsn, hgk⟩ := hrel
    have v1 := (hb.cell (World.block_lt_of_cell? W _ v0)).trans v0
    have HV := Lib.hid hsn
    have HG := Lib.hid hgk
    clear hsn hgk
    have HO := Lib.hid ho
    have HB := Lib.hid hb
    clear ho hb
    by_cases hlt : k < put.length
    · obtain ⟨ad, rfl, hf, hc⟩ := (HK.out.below HB.out HGW.out).at_int hlt
      have hk1 : (k : Int) < put.length := by omega
      have hmem : put[k] ∈ put := List.getElem_mem hlt
      obtain ⟨i1, i2⟩ := HI.out _ hmem
      have htk : put.take (k + 1) = put.take k ++ [put[k]] := List.take_succ_eq_append_getElem hlt
      have hrng : Good M put → put[k] ≠ 0 ∧ -(M : Int) ≤ put[k] ∧ put[k] ≤ M := fun hg => hg.rng _ hmem
      have hat : Good M put → ¬ (put[k] ∈ put.take k ∨ -put[k] ∈ put.take k) := fun hg => fun h9 => h9.elim (hg.at hlt).1 (hg.at hlt).2
      generalize put[k] = a at *
      have HTK := Lib.hid htk
      have HR := Lib.hid hrng
      have HAT := Lib.hid hat
      clear htk hrng hat hmem
      by_cases h0 : a = 0
      · have HN := Lib.hid (show ¬ Good M put from fun hg => by have := HR.out hg; omega)
        clear i1 i2 hf
        subst h0
        go_wp2
        go_quiet (fail)
        go_wp2
        go_ret
        exact ⟨false, rfl, by simp [HN.out], below_drewN (bthen HWW.out HB.out) _⟩
      have d0 : (a == 0) = false := by simpa using h0
      by_cases h1 : a < -(M : Int)
      · have HN := Lib.hid (show ¬ Good M put from fun hg => by have := HR.out hg; omega)
        have d1 : decide (a < -(M : Int)) = true := by simpa using h1
        have e1 : IntKind.i64.wrap (-(M : Int)) = -(M : Int) := IntWalk.i64_in _ (by omega)
        clear i1 i2 hf h0 h1
        go_wp2
        go_quiet (fail)
        go_wp2
        go_ret
        exact ⟨false, rfl, by simp [HN.out], below_drewN (bthen HWW.out HB.out) _⟩
      have d1 : decide (a < -(M : Int)) = false := by simpa using h1
      by_cases h2 : (M : Int) < a
      · have HN := Lib.hid (show ¬ Good M put from fun hg => by have := HR.out hg; omega)
        have d2 : decide ((M : Int) < a) = true := by simpa using h2
        have e1 : IntKind.i64.wrap (-(M : Int)) = -(M : Int) := IntWalk.i64_in _ (by omega)
        clear i1 i2 hf h0 h1 h2
        go_wp2
        go_quiet (fail)
        go_wp2
        go_ret
        exact ⟨false, rfl, by simp [HN.out], below_drewN (bthen HWW.out HB.out) _⟩
      have d2 : decide ((M : Int) < a) = false := by simpa using h2
      have hl1 : a.natAbs ≤ M := by omega
      have z2 : wr.cell? ⟨w.heap.size + 1, a.natAbs, none⟩ = some (.bool (decide (a ∈ put.take k ∨ -a ∈ put.take k))) := by
        have := HO.out.cellAt a.natAbs (by omega)
        rw [this, List.getElem?_map, HV.out.is h0 hl1]; rfl
      obtain ⟨na, hna⟩ : ∃ na : Int, na = a.natAbs := ⟨_, rfl⟩
      have qa : ∀ W : World, Calls Try.prog 75 #[.int .i64 a] W fun e w' => e = .returned (.int .i64 na) ∧ W = w' := fun W => by rw [hna]; exact l4Abs_any a W (by omega) (by omega)
      have Qa := Lib.hid qa
      have hn0 : 0 ≤ na := by omega
      have hn1 : na < (M : Int) + 1 := by omega
      have hn2 : na < ((M + 1 : Nat) : Int) := by omega
      have hn3 : na.toNat = a.natAbs := by omega
      rw [← hn3] at z2
      have e1 : IntKind.i64.wrap (-(M : Int)) = -(M : Int) := IntWalk.i64_in _ (by omega)
      by_cases hs : a ∈ put.take k ∨ -a ∈ put.take k
      · have HN := Lib.hid (show ¬ Good M put from fun hg => HAT.out hg hs)
        rw [decide_eq_true hs] at z2
        clear hs qa hna hn3 h0 h1 h2 i1 i2 hf hl1
        go_wp2
        go_quiet ((go_at_call 75; with_reducible exact quiet_left (Qa.out _)))
        go_wp2
        go_ret
        exact ⟨false, rfl, by simp [HN.out], below_drewN (bthen HWW.out HB.out) _⟩
      · rw [decide_eq_false hs] at z2
        have HGN : Hid (Good M (put.take (k + 1))) := Lib.hid (by rw [HTK.out]; exact HG.out.snoc h0 (by omega) (by omega) (fun h9 => hs (.inl h9)) (fun h9 => hs (.inr h9)))
        have HSN : Hid (SeenOk M (put.take (k + 1)) (sn.set na.toNat true)) := Lib.hid (by rw [HTK.out, hn3]; exact HV.out.snoc a hl1)
        clear hs qa hna hn3 h0 h1 h2 i1 i2 hf hl1
        go_wp2
        go_quiet ((go_at_call 75; with_reducible exact quiet_left (Qa.out _)))
        have z3 : (wr.drewN nq).frozen? ⟨w.heap.size + 1, na.toNat, none⟩ = false := HO.out.frozenAt na.toNat
        have z4 : (wr.drewN nq).cell? ⟨w.heap.size + 1, na.toNat, none⟩ = some (.bool false) := z2
        have hc2 : (wr.drewN nq).cell? (ad.add k) = some (.int .i64 a) := hc
        have HO2 : Hid ((wr.drewN nq).ownsRow (w.heap.size + 1) 4 1 (.slice (some ⟨w.heap.size + 1, 0, none⟩) (M + 1) (M + 1)) (M + 1) (sn.map Value.bool)) := Lib.hid (own_below HO.out (below_drewN (Below.refl _ _) nq) (Nat.le_refl _))
        have HB2 := Lib.hid (below_drewN HB.out nq)
        clear e1 d0 d1 d2 z2 hc
        generalize wr.drewN nq = wq at *
        go_wp2_with fail
        refine (Qa.out _).mono ?_
        rintro e w' ⟨rfl, rfl⟩
        go_wp2
        go_roundw
        case rel => exact ⟨k + 1, _, by omega, by go_num, HB2.out.setCell HWL.out _, by rw [List.map_set]; exact (HO2.out.stored _ _).1, HSN.out, HGN.out⟩
        case measure => simp [intOf]; omega
    · have hke : k = put.length := by omega
      subst hke
      have hg := HG.out
      rw [List.take_length] at hg
      have HG2 := Lib.hid hg
      clear hg
      go_wp2
      go_ret
      exact ⟨true, rfl, by simp [HG2.out], bthen HWW.out HB.out⟩

end Go.Proofs.Ytbljfhmcebgdaaa

/-! The program's UnitAll. -/
namespace Go.Proofs.Ytbljfhmcebgdaaa
open Go Go.RowKit

end Go.Proofs.Ytbljfhmcebgdaaa

/-! The reference's UnitAll. -/
namespace Go.Proofs.Ytbljfhmcebgdaaa
open Go Go.RowKit

end Go.Proofs.Ytbljfhmcebgdaaa

/-! Marks on integers, on rows of integers, on formulas. -/
namespace Go.Proofs.Ytbljfhmcebgdaaa
open Go Go.RowKit

end Go.Proofs.Ytbljfhmcebgdaaa

/-! Formulas and rows of integers: what comes in, copies, comparisons, marks; one form for all. -/
namespace Go.Proofs.Ytbljfhmcebgdaaa
open Go Go.RowKit Go.ChangeShapes Go.WideShapes Go.ChangeAt Go.Deep

/-- A formula as a value: two cells. -/
def Lay.cnf : Lay C where
  size := 2
  R w F x vs := ∃ A c, vs = [.int .i64 x.many, .slice A x.list.length c] ∧ x.list.length ≤ c ∧ Lay.int.slice.Sl w F A x.list
  len := by rintro w F x vs ⟨A, c, rfl, _⟩; rfl
  keep := by rintro w w' F x vs hk ⟨A, c, rfl, h1, h2⟩; exact ⟨A, c, rfl, h1, h2.keep hk⟩
  mono := by rintro w F G x vs hk ⟨A, c, rfl, h1, h2⟩; exact ⟨A, c, rfl, h1, h2.mono hk⟩
def okCIn (x : C) : Prop := okInt x.many ∧ x.list.length ≤ maxLen ∧ ∀ l ∈ x.list, okList l
theorem Opens.cnf {P : Program} {t ti sg : TypeId} {fs : Array Field} (ht : P.underlying t = some (.struct fs)) (hc : P.cellsOf t = 2) (hti : P.underlying ti = some (.int .i64)) (htic : P.cellsOf ti = 1) (hsg : P.cellsOf sg = 1)
    (hf : fs.toList.map (fun f : Field => (f.type, f.offset)) = [(ti, 0), (sg, 1)]) (hg : Opens P sg Lay.int.slice.slice (fun xs => xs.length ≤ maxLen ∧ ∀ x ∈ xs, okList x)) : Opens P t Lay.cnf okCIn := by
  have hfi : ∀ i, (fs[i]?).map (fun f : Field => (f.type, f.offset)) = [(ti, 0), (sg, 1)][i]? := fun i => by
    rw [← hf, List.getElem?_map, Array.getElem?_toList]
  intro H enc w base spare held fuel cs x h
  obtain ⟨a, oka, ra⟩ := OpensF.field ht h (Nat.le_succ _) 0 ti 0 1 (hfi 0) htic ((Opens.int hti).at _)
  obtain ⟨gs, okg, A, c, r1, l1, s1⟩ := OpensF.field ht h (Nat.le_succ _) 1 sg 1 1 (hfi 1) hsg (hg.at _)
  have hlen := trod_cells ht h
  rw [hc] at hlen
  match cs, hlen with
  | [x0, x1], _ =>
    simp [Lay.int, Lay.flat] at ra r1
    subst ra r1
    exact ⟨⟨a, gs⟩, ⟨oka, okg⟩, A, c, rfl, l1, s1⟩
def smRows (xs : List (List Int)) : Prop := xs.length ≤ 1048576 ∧ (∀ l ∈ xs, smInts l) ∧ nsum (xs.map List.length) ≤ 1048576
def smCnf (x : C) : Prop := okInt x.many ∧ smRows x.list
theorem smCnf.short {x : C} (h : smCnf x) : shortC x := ⟨h.2.1, fun l hl => (h.2.2.1 l hl).1⟩
theorem smCnf.ints {x : C} (h : smCnf x) : ∀ cl ∈ x.list, cl.length ≤ 1048576 ∧ i64s cl := fun l hl => h.2.2.1 l hl
end Go.Proofs.Ytbljfhmcebgdaaa

/-! Where a search is: the plain law. -/
namespace Go.Proofs.Ytbljfhmcebgdaaa
open Go Go.RowKit

structure S where
  put : List Int
  why : List Int
  learned : List (List Int)
  code : Int
/-- A clause is why a mark is put, behind others. -/
def because (pre cl : List Int) (m : Int) : Bool := decide (m ∈ cl) && cl.all (fun l => l == m || decide (-l ∈ pre))
def whyOk (cs : List (List Int)) (pre : List Int) (m k : Int) : Bool := k == -1 || (decide (0 ≤ k) && decide (k < cs.length) && because pre (cs.getD k.toNat []) m)
def whysF (cs : List (List Int)) : List Int → List Int → List Int → Bool
  | pre, m :: ms, k :: ks => whyOk cs pre m k && whysF cs (pre ++ [m]) ms ks
  | _, _, _ => true
theorem whysF_drop {cs : List (List Int)} {pre put why : List Int} {i : Nat} (h : i < put.length) (h' : i < why.length) :
    whysF cs pre (put.drop i) (why.drop i) = (whyOk cs pre put[i] why[i] && whysF cs (pre ++ [put[i]]) (put.drop (i + 1)) (why.drop (i + 1))) := by
  rw [List.drop_eq_getElem_cons h, List.drop_eq_getElem_cons h', whysF]
def goodB (many : Int) (put : List Int) : Bool := put.all (fun l => decide (l ≠ 0) && decide (-many ≤ l) && decide (l ≤ many)) && decide (put.map Int.natAbs).Nodup
theorem goodB_iff {many : Int} {put : List Int} : goodB many put = true ↔ Good many put := by
  unfold goodB
  simp only [Bool.and_eq_true, List.all_eq_true, decide_eq_true_eq]
  exact ⟨fun h => ⟨fun l hl => ⟨(h.1 l hl).1.1, (h.1 l hl).1.2, (h.1 l hl).2⟩, h.2⟩, fun h => ⟨fun l hl => ⟨⟨(h.rng l hl).1, (h.rng l hl).2.1⟩, (h.rng l hl).2.2⟩, h.nodup⟩⟩
def satPre (s : S) : Bool := decide (s.learned.length ≤ 300) && decide (0 ≤ s.code) && decide (s.code ≤ 3) && decide (s.put.length = s.why.length)
def satOk (c : C) (s : S) : Bool := cnfOk c && (satPre s && (goodB c.many s.put && (s.learned.all (clOk c.many) && whysF (c.list ++ s.learned) [] s.put s.why)))
/-- What the marks say. -/
def valsP (c : C) (s : S) : List Bool := (List.range c.many.toNat).map fun i : Nat => decide (((i : Int) + 1) ∈ s.put)
theorem satPre_iff (s : S) : satPre s = true ↔ s.learned.length ≤ 300 ∧ 0 ≤ s.code ∧ s.code ≤ 3 ∧ s.put.length = s.why.length := by
  unfold satPre
  simp only [Bool.and_eq_true, decide_eq_true_eq, and_assoc]
/-- What is true of every valid search. -/
structure SatGood (c : C) (s : S) : Prop where
  cnf : cnfOk c = true
  learned : s.learned.length ≤ 300
  code0 : 0 ≤ s.code
  code1 : s.code ≤ 3
  len : s.put.length = s.why.length
  good : Good c.many s.put
  cls : ∀ cl ∈ s.learned, clOk c.many cl = true
  whys : whysF (c.list ++ s.learned) [] s.put s.why = true
theorem satOk_iff (c : C) (s : S) : satOk c s = true ↔ SatGood c s := by
  unfold satOk
  rw [Bool.and_eq_true, Bool.and_eq_true, Bool.and_eq_true, Bool.and_eq_true, satPre_iff, goodB_iff, List.all_eq_true]
  exact ⟨fun ⟨h1, ⟨h2, h3, h4, h5⟩, h6, h7, h8⟩ => ⟨h1, h2, h3, h4, h5, h6, h7, h8⟩, fun ⟨h1, h2, h3, h4, h5, h6, h7, h8⟩ => ⟨h1, ⟨h2, h3, h4, h5⟩, h6, h7, h8⟩⟩
theorem satOk_no {c : C} {s : S} (h : ¬ SatGood c s) : satOk c s = false := by
  rw [← satOk_iff] at h; simpa using h
theorem sg_neg_iff {many : Int} {pre : List Int} (h : Good many pre) (l : Int) : sg pre l < 0 ↔ -l ∈ pre := by
  unfold sg
  constructor
  · intro h1
    split at h1
    · omega
    · split at h1
      · assumption
      · omega
  · intro h1
    rw [if_neg (fun h2 => h.apart h2 h1), if_pos h1]; omega
theorem all_dropI {p : Int → Bool} {cl : List Int} {j : Nat} (h : j < cl.length) : (cl.drop j).all p = (p cl[j] && (cl.drop (j + 1)).all p) := by
  rw [List.drop_eq_getElem_cons h]; rfl
theorem all_drop' {p : List Int → Bool} {cl : List (List Int)} {j : Nat} (h : j < cl.length) : (cl.drop j).all p = (p cl[j] && (cl.drop (j + 1)).all p) := by
  rw [List.drop_eq_getElem_cons h]; rfl
/-- A search as a value: four cells. -/
def smS (s : S) : Prop := smInts s.put ∧ smInts s.why ∧ smRows s.learned ∧ okInt s.code
/-- How it reads. -/
structure SatR (w : World) (F : Nat → Prop) (A B D : Option Addr) (s : S) : Prop where
  a : Lay.int.Sl w F A s.put
  b : Lay.int.Sl w F B s.why
  d : Lay.int.slice.Sl w F D s.learned
theorem SatR.below {w w' : World} {F : Nat → Prop} {A B D : Option Addr} {s : S} {n : Nat} (h : SatR w F A B D s) (hb : Below n w w') (hF : ∀ b, F b → b < n) : SatR w' F A B D s := ⟨h.a.below hb hF, h.b.below hb hF, h.d.below hb hF⟩
theorem SatR.keep {w w' : World} {F : Nat → Prop} {A B D : Option Addr} {s : S} (h : SatR w F A B D s) (hk : ∀ b, F b → w'.heap[b]? = w.heap[b]?) : SatR w' F A B D s := ⟨h.a.keep hk, h.b.keep hk, h.d.keep hk⟩
theorem SatR.mono {w : World} {F G : Nat → Prop} {A B D : Option Addr} {s : S} (h : SatR w F A B D s) (hk : ∀ b, F b → G b) : SatR w G A B D s := ⟨h.a.mono hk, h.b.mono hk, h.d.mono hk⟩
/-- The k-th clause, given or learned. -/
theorem clause_at {w : World} {F : Nat → Prop} {A D : Option Addr} {xs ys : List (List Int)} (h : Lay.int.slice.Sl w F A xs) (h' : Lay.int.slice.Sl w F D ys) {k : Nat} (hk : k < xs.length + ys.length) :
    ∃ A' c', Lay.int.Sl w F A' ((xs ++ ys).getD k []) ∧ ((xs ++ ys).getD k []).length ≤ c' ∧ ((k < xs.length ∧ ∃ ad, A = some ad ∧ w.cell? (ad.add k) = some (.slice A' ((xs ++ ys).getD k []).length c')) ∨
      (xs.length ≤ k ∧ ∃ ad, D = some ad ∧ w.cell? (ad.add (k - xs.length)) = some (.slice A' ((xs ++ ys).getD k []).length c'))) := by
  rcases Nat.lt_or_ge k xs.length with h1 | h1
  · obtain ⟨ad, A', c', e, _, hc, hl, hs⟩ := h.at_slice h1
    have he : (xs ++ ys).getD k [] = xs[k] := by rw [List.getD_eq_getElem?_getD, List.getElem?_append_left h1, List.getElem?_eq_getElem h1]; rfl
    rw [he]
    exact ⟨A', c', hs, hl, .inl ⟨h1, ad, e, hc⟩⟩
  · have h2 : k - xs.length < ys.length := by omega
    obtain ⟨ad, A', c', e, _, hc, hl, hs⟩ := h'.at_slice h2
    have he : (xs ++ ys).getD k [] = ys[k - xs.length] := by rw [List.getD_eq_getElem?_getD, List.getElem?_append_right h1, List.getElem?_eq_getElem h2]; rfl
    rw [he]
    exact ⟨A', c', hs, hl, .inr ⟨h1, ad, e, hc⟩⟩
end Go.Proofs.Ytbljfhmcebgdaaa

/-! The program's trail: place, implies. -/
namespace Go.Proofs.Ytbljfhmcebgdaaa
open Go Go.RowKit

theorem Good.idx {many : Int} {put : List Int} (h : Good many put) {i j : Nat} (hi : i < put.length) (hj : j < put.length) (he : put[i].natAbs = put[j].natAbs) : i = j := by
  have hp := List.pairwise_iff_getElem.1 h.nodup
  rcases Nat.lt_trichotomy i j with h1 | h1 | h1
  · exact absurd (by rw [List.getElem_map, List.getElem_map]; exact he) (hp i j (by simpa using hi) (by simpa using hj) h1)
  · exact h1
  · exact absurd (by rw [List.getElem_map, List.getElem_map]; exact he.symm) (hp j i (by simpa using hj) (by simpa using hi) h1)
theorem place_any (lo : Nat) (S : Nat → Prop) (M t : Nat) (put ls : List Int) (l : Int) (k : Nat) (w : World) (h : Tr lo S M w t put ls) (hg : Good M put) (h0 : l ≠ 0) (h1 : -(M : Int) ≤ l) (h2 : l ≤ M) (hk : k < put.length) (hkl : put[k].natAbs = l.natAbs) (hM : M ≤ 1000000) :
    Calls Try.prog 113 #[.pointer (some ⟨t, 0, none⟩), .int .i64 l] w fun e w' => e = .returned (.int .i64 k) ∧ ∃ n, w' = w.drewN n := by
  obtain ⟨A, B, c, d, Q, pl, h⟩ := h
  obtain ⟨p, hp, hcase⟩ := places_at h.ok h0 h1 h2
  have hml := hg.length
  have z1 : w.cell? ⟨t, 1, none⟩ = some (.slice (some ⟨Q, 0, none⟩) (M + 1) (M + 1)) := (cell_of_block h.blk 1).1
  have z2 : w.cell? ⟨Q, l.natAbs, none⟩ = some (.int .i64 p) := by
    have := h.hpl.cellAt l.natAbs (by omega)
    rw [this, List.getElem?_map, hp]; rfl
  have hpk : p = (k : Int) + 1 := by
    rcases hcase with ⟨_, k', hk', hek, rfl⟩ | ⟨e, rfl⟩
    · have := hg.idx hk' hk (by rw [hek, hkl]); rw [this]
    · unfold isPut at e
      rw [decide_eq_false_iff_not] at e
      have hm : put[k] ∈ put := List.getElem_mem hk
      have : put[k] = l ∨ put[k] = -l := by omega
      rcases this with e9 | e9
      · exact absurd (.inl (e9 ▸ hm)) e
      · exact absurd (.inr (e9 ▸ hm)) e
  subst hpk
  clear hcase hkl hp
  obtain ⟨na, hna⟩ : ∃ na : Int, na = l.natAbs := ⟨_, rfl⟩
  have qa : ∀ W : World, Calls Try.prog 93 #[.int .i64 l] W fun e w' => e = .returned (.int .i64 na) ∧ W = w' := fun W => by rw [hna]; exact variable_any l W (by omega) (by omega)
  have Qa := Lib.hid qa
  have hn0 : 0 ≤ na := by omega
  have hn1 : na < (M : Int) + 1 := by omega
  have hn2 : na < ((M + 1 : Nat) : Int) := by omega
  have hn3 : na.toNat = l.natAbs := by omega
  rw [← hn3] at z2
  have hk0 : (0 : Int) ≤ k := by omega
  have hkb : k < 1000001 := by omega
  have e1 : IntKind.i64.wrap ((k : Int) + 1 - 1) = (k : Int) := by rw [Int.add_sub_cancel]; exact IntWalk.i64_in _ (by omega)
  clear qa hna hn3
  go_enter Try.func113, Try.ntmps113
  go_wp2
  go_quiet ((go_at_call 93; with_reducible exact quiet_left (Qa.out _)))
  go_wp2
  go_ret
  exact ⟨rfl, _, rfl⟩
/-- What the closure of 'implies' answers. -/
def notWhy (pre : List Int) (m l : Int) : Bool := !(l == m) && !decide (-l ∈ pre)
theorem because_any (pre cl : List Int) (m : Int) : because pre cl m = (decide (m ∈ cl) && !cl.any (notWhy pre m)) := by
  unfold because
  congr 1
  rw [Bool.eq_iff_iff]
  simp only [List.all_eq_true, Bool.not_eq_true', List.any_eq_false, notWhy, Bool.or_eq_true, beq_iff_eq, decide_eq_true_eq, Bool.and_eq_true, Bool.not_eq_true', decide_eq_false_iff_not, beq_eq_false_iff_ne, ne_eq, not_and, Decidable.not_not]
  constructor
  · intro h x hx hne
    rcases h x hx with h1 | h1
    · exact absurd h1 hne
    · exact h1
  · intro h x hx
    by_cases e : x = m
    · exact .inl e
    · exact .inr (h x hx e)
set_option maxRecDepth 100000 in
set_option maxHeartbeats 4000000 in
theorem implies1_any (lo : Nat) (S : Nat → Prop) (M t bt ba : Nat) (put ls : List Int) (l : Int) (k : Nat) (w : World) (h : Tr lo S M w t put ls) (hg : Good M put) (h0 : l ≠ 0) (h1 : -(M : Int) ≤ l) (h2 : l ≤ M) (hk : k < put.length) (hM : M ≤ 1000000)
    (ht : w.cell? ⟨bt, 0, none⟩ = some (.pointer (some ⟨t, 0, none⟩))) (ha : w.cell? ⟨ba, 0, none⟩ = some (.int .i64 k)) :
    Calls Try.prog 111 #[.int .i64 l, .pointer (some ⟨bt, 0, none⟩), .pointer (some ⟨ba, 0, none⟩)] w fun e w' => e = .returned (.bool (notWhy (put.take k) put[k] l)) ∧ ∃ n, w' = w.drewN n := by
  have hml := hg.length
  have HTR := Lib.hid h
  have HGD := Lib.hid hg
  have h' := h
  obtain ⟨A, B, c, d, Q, pl, h⟩ := h'
  have z0 : w.cell? ⟨t, 0, none⟩ = some (.slice A put.length c) := (cell_of_block h.blk 0).1
  obtain ⟨ad, rfl, _, z3⟩ := (OwnI.rd h.hput).at_int hk
  have hk0 : (0 : Int) ≤ k := by omega
  have hk1 : (k : Int) < put.length := by omega
  have hmem : put[k] ∈ put := List.getElem_mem hk
  have HAS : Hid (∀ n, Calls Try.prog 104 #[.pointer (some ⟨t, 0, none⟩), .int .i64 l] (w.drewN n) fun e w' => e = .returned (.bool (isPut put l)) ∧ ∃ k, w' = (w.drewN n).drewN k) :=
    Lib.hid fun n => assigned_any lo S M t put ls l (w.drewN n) (HTR.out.drewN n) h0 h1 h2 hM
  have HIT : Hid (∀ n, Calls Try.prog 112 #[.pointer (some ⟨t, 0, none⟩), .int .i64 l] (w.drewN n) fun e w' => e = .returned (.bool (decide (l ∈ put))) ∧ ∃ k, w' = (w.drewN n).drewN k) :=
    Lib.hid fun n => isTrue_any lo S M t put ls l (w.drewN n) (HTR.out.drewN n) HGD.out h0 h1 h2 hM
  have HPL : Hid (∀ (j : Nat) (hj : j < put.length), put[j].natAbs = l.natAbs → ∀ n, Calls Try.prog 113 #[.pointer (some ⟨t, 0, none⟩), .int .i64 l] (w.drewN n) fun e w' => e = .returned (.int .i64 j) ∧ ∃ k, w' = (w.drewN n).drewN k) :=
    Lib.hid fun j hj he n => place_any lo S M t put ls l j (w.drewN n) (HTR.out.drewN n) HGD.out h0 h1 h2 hj he hM
  clear h h0 h1 h2
  generalize hpm : put[k] = m at *
  have HPM := Lib.hid hpm
  clear hpm
  by_cases e1 : l = m
  · subst e1
    have HE := Lib.hid (show notWhy (put.take k) l l = false by simp [notWhy])
    clear hg hml hmem HAS HIT HPL
    go_enter Try.func111, Try.ntmps111
    go_wp2
    go_quiet (fail)
    go_wp2
    go_ret
    exact ⟨ret_bool (by rw [HE.out]), _, rfl⟩
  have e1b : (l != m) = true := by simpa using e1
  by_cases e2 : isPut put l = false
  · rw [e2] at HAS
    have hn : ¬ -l ∈ put.take k := fun h9 => by
      unfold isPut at e2
      rw [decide_eq_false_iff_not] at e2
      exact e2 (.inr (List.mem_of_mem_take h9))
    have HE := Lib.hid (show notWhy (put.take k) m l = true by simp [notWhy, e1, hn])
    clear hg hml hmem HIT HPL hn e1 e2
    go_enter Try.func111, Try.ntmps111
    go_wp2
    go_quiet ((go_at_call 104; with_reducible exact quiet_drawn (HAS.out _)))
    go_wp2
    go_ret
    exact ⟨ret_bool (by rw [HE.out]), _, rfl⟩
  rw [Bool.not_eq_false] at e2
  rw [e2] at HAS
  by_cases e3 : l ∈ put
  · rw [decide_eq_true e3] at HIT
    have hn : ¬ -l ∈ put.take k := fun h9 => HGD.out.apart e3 (List.mem_of_mem_take h9)
    have HE := Lib.hid (show notWhy (put.take k) m l = true by simp [notWhy, e1, hn])
    clear hg hml hmem HPL hn e1 e2 e3
    go_enter Try.func111, Try.ntmps111
    go_wp2
    go_quiet ((first | (go_at_call 104; with_reducible exact quiet_drawn (HAS.out _)) | (go_at_call 112; with_reducible exact quiet_drawn (HIT.out _))))
    go_wp2
    go_ret
    exact ⟨ret_bool (by rw [HE.out]), _, rfl⟩
  rw [decide_eq_false e3] at HIT
  have e4 : -l ∈ put := by
    unfold isPut at e2
    rw [decide_eq_true_eq] at e2
    exact e2.resolve_left e3
  obtain ⟨j, hj, hjl⟩ := List.getElem_of_mem e4
  have HPJ := Lib.hid (HPL.out j hj (by omega))
  have hjM : j < 1000001 := by omega
  have hiff : -l ∈ put.take k ↔ j < k := by
    constructor
    · intro h9
      obtain ⟨i, hi, hil⟩ := List.getElem_of_mem h9
      have hi2 : i < k := by rw [List.length_take] at hi; omega
      rw [List.getElem_take] at hil
      have := HGD.out.idx (i := i) (j := j) (by rw [List.length_take] at hi; omega) hj (by rw [hil, hjl])
      omega
    · intro h9
      rw [← hjl]
      exact List.mem_iff_getElem.2 ⟨j, by rw [List.length_take]; omega, by rw [List.getElem_take]⟩
  by_cases e5 : k ≤ j
  · have hn : ¬ -l ∈ put.take k := fun h9 => by have := hiff.1 h9; omega
    have HE := Lib.hid (show notWhy (put.take k) m l = true by simp [notWhy, e1, hn])
    have e5b : decide ((k : Int) ≤ (j : Int)) = true := by simpa using e5
    have e5c : decide (k ≤ j) = true := by simpa using e5
    clear hg hml hmem HPL hn e1 e2 e3 e4 hj hjl hiff
    go_enter Try.func111, Try.ntmps111
    go_wp2
    go_quiet ((first | (go_at_call 104; with_reducible exact quiet_drawn (HAS.out _)) | (go_at_call 112; with_reducible exact quiet_drawn (HIT.out _)) | (go_at_call 113; with_reducible exact quiet_drawn (HPJ.out _))))
    go_wp2
    go_ret
    exact ⟨ret_bool (by rw [HE.out]), _, rfl⟩
  · have hn : -l ∈ put.take k := hiff.2 (by omega)
    have HE := Lib.hid (show notWhy (put.take k) m l = false by simp [notWhy, hn])
    have e5b : decide ((k : Int) ≤ (j : Int)) = false := by simpa using e5
    have e5c : decide (k ≤ j) = false := by simpa using e5
    clear hg hml hmem HPL hn e1 e2 e3 e4 hj hjl hiff
    go_enter Try.func111, Try.ntmps111
    go_wp2
    go_quiet ((first | (go_at_call 104; with_reducible exact quiet_drawn (HAS.out _)) | (go_at_call 112; with_reducible exact quiet_drawn (HIT.out _)) | (go_at_call 113; with_reducible exact quiet_drawn (HPJ.out _))))
    go_wp2
    go_ret
    exact ⟨ret_bool (by rw [HE.out]), _, rfl⟩
end Go.Proofs.Ytbljfhmcebgdaaa

/-! The program's readSat: its parts. -/
namespace Go.Proofs.Ytbljfhmcebgdaaa
open Go Go.RowKit

theorem readSat1_any (cl : List Int) (m : Int) (A : Option Addr) (c b : Nat) (F : Nat → Prop) (w : World) (h : Lay.int.Sl w F A cl) (hn : cl.length ≤ 1048576) (hi : i64s cl) (m0 : 0 ≤ m) (m1 : m ≤ 700) (hm : w.cell? ⟨b, 0, none⟩ = some (.int .i64 m)) :
    Calls Try.prog 87 #[.slice A cl.length c, .pointer (some ⟨b, 0, none⟩)] w fun e w' => e = .returned (.bool (!clOk m cl)) ∧ w = w' := by
  go_enter Try.func87, Try.ntmps87
  go_wp2_with fail
  refine (clauseOk_any cl m A c F w h hn hi m0 m1).mono ?_
  rintro e w' ⟨rfl, rfl⟩
  go_wp2
  go_ret
  exact ⟨rfl, rfl⟩

set_option maxHeartbeats 1000000 in
theorem idxFuncR_any (xs : List (List Int)) (m : Int) (A : Option Addr) (c b : Nat) (F : Nat → Prop) (w : World) (h : Lay.int.slice.Sl w F A xs) (hx : xs.length ≤ 1048576) (hn : ∀ cl ∈ xs, cl.length ≤ 1048576 ∧ i64s cl) (m0 : 0 ≤ m) (m1 : m ≤ 700) (hm : w.cell? ⟨b, 0, none⟩ = some (.int .i64 m)) :
    Calls Try.prog 102 #[.slice A xs.length c, .func (.func 87) #[] #[.pointer (some ⟨b, 0, none⟩)]] w fun e w' => ∃ r : Int, e = .returned (.int .i64 r) ∧ decide (0 ≤ r) = !xs.all (clOk m) ∧ w = w' := by
  go_enter Try.func102, Try.ntmps102
  go_wp2
  go_loopw [8] (fun i wr => wr = w ∧ ∃ k : Nat, k ≤ xs.length ∧ i = .int .i64 k ∧ xs.all (clOk m) = (xs.drop k).all (clOk m)) (fun i _ => xs.length - (intOf i).toNat)
  case atStart => exact ⟨rfl, 0, Nat.zero_le _, rfl, rfl⟩
  case round =>
    obtain ⟨rfl, k, hk, rfl, ht⟩ := hrel
    have HT := Lib.hid ht
    clear ht
    by_cases hlt : k < xs.length
    · obtain ⟨ad, A', c', rfl, hf, k1, hl1, s1⟩ := h.at_slice hlt
      have hk1 : (k : Int) < xs.length := by omega
      obtain ⟨n1, n2⟩ := hn _ (List.getElem_mem hlt)
      have hd := all_drop (f := clOk m) hlt
      have hcall := readSat1_any xs[k] m A' c' b F wr s1 n1 n2 m0 m1 hm
      generalize xs[k] = cl at *
      have HD := Lib.hid hd
      clear hd
      by_cases h1 : clOk m cl = true
      · rw [h1] at hcall
        have HC := Lib.hid hcall
        have HE := Lib.hid (show xs.all (clOk m) = (xs.drop (k + 1)).all (clOk m) by rw [HT.out, HD.out, h1]; rfl)
        clear hcall h1
        go_wp2_with fail
        refine HC.out.mono ?_
        rintro e w' ⟨rfl, rfl⟩
        go_wp2
        go_roundw
        case rel => exact ⟨by trivial, k + 1, by omega, by go_num, HE.out⟩
        case measure => simp [intOf]; omega
      · rw [Bool.not_eq_true] at h1
        rw [h1] at hcall
        have HC := Lib.hid hcall
        have HE := Lib.hid (show xs.all (clOk m) = false by rw [HT.out, HD.out, h1]; rfl)
        clear hcall h1
        go_wp2_with fail
        refine HC.out.mono ?_
        rintro e w' ⟨rfl, rfl⟩
        go_wp2
        go_ret
        exact ⟨_, rfl, by rw [HE.out]; simp, rfl⟩
    · have hke : k = xs.length := by omega
      subst hke
      have HE := Lib.hid (show xs.all (clOk m) = true by rw [HT.out, List.drop_length]; rfl)
      go_wp2
      go_ret
      exact ⟨-1, rfl, by rw [HE.out]; rfl, rfl⟩
theorem hasFuncR_any (xs : List (List Int)) (m : Int) (A : Option Addr) (c b : Nat) (F : Nat → Prop) (w : World) (h : Lay.int.slice.Sl w F A xs) (hx : xs.length ≤ 1048576) (hn : ∀ cl ∈ xs, cl.length ≤ 1048576 ∧ i64s cl) (m0 : 0 ≤ m) (m1 : m ≤ 700) (hm : w.cell? ⟨b, 0, none⟩ = some (.int .i64 m)) :
    Calls Try.prog 76 #[.slice A xs.length c, .func (.func 87) #[] #[.pointer (some ⟨b, 0, none⟩)]] w fun e w' => e = .returned (.bool (!xs.all (clOk m))) ∧ w = w' := by
  go_enter Try.func76, Try.ntmps76
  go_wp2_with fail
  refine (idxFuncR_any xs m A c b F w h hx hn m0 m1 hm).mono ?_
  rintro e w' ⟨r, rfl, hr, rfl⟩
  have HR := Lib.hid hr
  clear hr
  go_wp2
  go_ret
  exact ⟨ret_bool (by rw [← HR.out]), rfl⟩


set_option maxHeartbeats 1000000 in
theorem index_any (xs : List Int) (m : Int) (A : Option Addr) (c : Nat) (F : Nat → Prop) (w : World) (h : Lay.int.Sl w F A xs) (hx : xs.length ≤ 1048576) :
    Calls Try.prog 120 #[.slice A xs.length c, .int .i64 m] w fun e w' => ∃ r : Int, e = .returned (.int .i64 r) ∧ decide (0 ≤ r) = decide (m ∈ xs) ∧ w = w' := by
  go_enter Try.func120, Try.ntmps120
  go_wp2
  go_loopw [8] (fun i wr => wr = w ∧ ∃ k : Nat, k ≤ xs.length ∧ i = .int .i64 k ∧ m ∉ xs.take k) (fun i _ => xs.length - (intOf i).toNat)
  case atStart => exact ⟨rfl, 0, Nat.zero_le _, rfl, by simp⟩
  case round =>
    obtain ⟨rfl, k, hk, rfl, ht⟩ := hrel
    have HT := Lib.hid ht
    clear ht
    by_cases hlt : k < xs.length
    · obtain ⟨ad, rfl, hf, hc⟩ := h.at_int hlt
      have hk1 : (k : Int) < xs.length := by omega
      have HM := Lib.hid (List.getElem_mem hlt)
      have HK := Lib.hid (show xs.take (k + 1) = xs.take k ++ [xs[k]] from List.take_succ_eq_append_getElem hlt)
      generalize xs[k] = a at *
      by_cases h1 : m = a
      · subst h1
        have HE := Lib.hid (show decide (m ∈ xs) = true from decide_eq_true HM.out)
        clear hf
        go_wp2
        go_ret
        exact ⟨_, rfl, by rw [HE.out]; simp, rfl⟩
      · have HN : Hid (m ∉ xs.take (k + 1)) := Lib.hid (by rw [HK.out]; simp [HT.out, h1])
        have h1b : (m == a) = false := by simpa using h1
        clear hf h1
        go_wp2
        go_roundw
        case rel => exact ⟨by trivial, k + 1, by omega, by go_num, HN.out⟩
        case measure => simp [intOf]; omega
    · have hke : k = xs.length := by omega
      subst hke
      have ht := HT.out
      rw [List.take_length] at ht
      have HE := Lib.hid (show decide (m ∈ xs) = false from decide_eq_false ht)
      clear ht
      go_wp2
      go_ret
      exact ⟨-1, rfl, by rw [HE.out]; rfl, rfl⟩
theorem contains_any (xs : List Int) (m : Int) (A : Option Addr) (c : Nat) (F : Nat → Prop) (w : World) (h : Lay.int.Sl w F A xs) (hx : xs.length ≤ 1048576) :
    Calls Try.prog 110 #[.slice A xs.length c, .int .i64 m] w fun e w' => e = .returned (.bool (decide (m ∈ xs))) ∧ w = w' := by
  go_enter Try.func110, Try.ntmps110
  go_wp2_with fail
  refine (index_any xs m A c F w h hx).mono ?_
  rintro e w' ⟨r, rfl, hr, rfl⟩
  have HR := Lib.hid hr
  clear hr
  go_wp2
  go_ret
  exact ⟨ret_bool (by rw [← HR.out]), rfl⟩
theorem any_drop {f : Int → Bool} {xs : List Int} {k : Nat} (h : k < xs.length) : (xs.drop k).any f = (f xs[k] || (xs.drop (k + 1)).any f) := by
  rw [List.drop_eq_getElem_cons h]; rfl
set_option maxHeartbeats 1000000 in
theorem idxWhy_any (lo : Nat) (S : Nat → Prop) (M t bt ba : Nat) (put ls xs : List Int) (k : Nat) (A : Option Addr) (c : Nat) (F : Nat → Prop) (w : World) (hs : Lay.int.Sl w F A xs) (hx : xs.length ≤ 1048576) (hr : ∀ l ∈ xs, l ≠ 0 ∧ -(M : Int) ≤ l ∧ l ≤ M) (h : Tr lo S M w t put ls) (hg : Good M put) (hk : k < put.length) (hM : M ≤ 1000000)
    (ht : w.cell? ⟨bt, 0, none⟩ = some (.pointer (some ⟨t, 0, none⟩))) (ha : w.cell? ⟨ba, 0, none⟩ = some (.int .i64 k)) :
    Calls Try.prog 109 #[.slice A xs.length c, .func (.func 111) #[] #[.pointer (some ⟨bt, 0, none⟩), .pointer (some ⟨ba, 0, none⟩)]] w fun e w' => ∃ r : Int, e = .returned (.int .i64 r) ∧ decide (0 ≤ r) = xs.any (notWhy (put.take k) put[k]) ∧ ∃ n, w' = w.drewN n := by
  have HC : Hid (∀ l ∈ xs, ∀ n, Calls Try.prog 111 #[.int .i64 l, .pointer (some ⟨bt, 0, none⟩), .pointer (some ⟨ba, 0, none⟩)] (w.drewN n) fun e w' => e = .returned (.bool (notWhy (put.take k) put[k] l)) ∧ ∃ m, w' = (w.drewN n).drewN m) :=
    Lib.hid fun l hl n => implies1_any lo S M t bt ba put ls l k (w.drewN n) (h.drewN n) hg (hr l hl).1 (hr l hl).2.1 (hr l hl).2.2 hk hM ht ha
  clear hr h hg ht ha
  generalize notWhy (put.take k) put[k] = f at *
  go_enter Try.func109, Try.ntmps109
  go_wp2
  go_loopw [8] (fun i wr => ∃ j n : Nat, wr = w.drewN n ∧ j ≤ xs.length ∧ i = .int .i64 j ∧ xs.any f = (xs.drop j).any f) (fun i _ => xs.length - (intOf i).toNat)
  case atStart => exact ⟨0, 0, rfl, Nat.zero_le _, rfl, rfl⟩
  case round =>
    obtain ⟨j, n, rfl, hj, rfl, ht⟩ := hrel
    have HT := Lib.hid ht
    clear ht
    by_cases hlt : j < xs.length
    · obtain ⟨ad, rfl, hf, hc⟩ := (hs.drewN n).at_int hlt
      have hj1 : (j : Int) < xs.length := by omega
      have hcall := HC.out _ (List.getElem_mem hlt) n
      have HD := Lib.hid (any_drop (f := f) hlt)
      generalize xs[j] = a at *
      cases hfa : f a
      · rw [hfa] at hcall
        have HCC := Lib.hid hcall
        have HE := Lib.hid (show xs.any f = (xs.drop (j + 1)).any f by rw [HT.out, HD.out, hfa]; rfl)
        clear hcall hfa hf
        go_wp2_with fail
        refine HCC.out.mono ?_
        rintro e w' ⟨rfl, m, rfl⟩
        go_wp2
        go_roundw
        case rel => exact ⟨j + 1, n + m, by first | rfl | rw [World.drewN_drewN], by omega, by go_num, HE.out⟩
        case measure => simp [intOf]; omega
      · rw [hfa] at hcall
        have HCC := Lib.hid hcall
        have HE := Lib.hid (show xs.any f = true by rw [HT.out, HD.out, hfa]; rfl)
        clear hcall hfa hf
        go_wp2_with fail
        refine HCC.out.mono ?_
        rintro e w' ⟨rfl, m, rfl⟩
        go_wp2
        go_ret
        exact ⟨_, rfl, by rw [HE.out]; simp, n + m, by first | rfl | rw [World.drewN_drewN]⟩
    · have hke : j = xs.length := by omega
      subst hke
      have HE := Lib.hid (show xs.any f = false by rw [HT.out, List.drop_length]; rfl)
      go_wp2
      go_ret
      exact ⟨-1, rfl, by rw [HE.out]; rfl, n, rfl⟩
theorem hasWhy_any (lo : Nat) (S : Nat → Prop) (M t bt ba : Nat) (put ls xs : List Int) (k : Nat) (A : Option Addr) (c : Nat) (F : Nat → Prop) (w : World) (hs : Lay.int.Sl w F A xs) (hx : xs.length ≤ 1048576) (hr : ∀ l ∈ xs, l ≠ 0 ∧ -(M : Int) ≤ l ∧ l ≤ M) (h : Tr lo S M w t put ls) (hg : Good M put) (hk : k < put.length) (hM : M ≤ 1000000)
    (ht : w.cell? ⟨bt, 0, none⟩ = some (.pointer (some ⟨t, 0, none⟩))) (ha : w.cell? ⟨ba, 0, none⟩ = some (.int .i64 k)) :
    Calls Try.prog 84 #[.slice A xs.length c, .func (.func 111) #[] #[.pointer (some ⟨bt, 0, none⟩), .pointer (some ⟨ba, 0, none⟩)]] w fun e w' => e = .returned (.bool (xs.any (notWhy (put.take k) put[k]))) ∧ ∃ n, w' = w.drewN n := by
  have HI := Lib.hid (idxWhy_any lo S M t bt ba put ls xs k A c F w hs hx hr h hg hk hM ht ha)
  clear hs hr h hg ht ha
  go_enter Try.func84, Try.ntmps84
  go_wp2_with fail
  refine HI.out.mono ?_
  rintro e w' ⟨r, rfl, hr, n, rfl⟩
  have HR := Lib.hid hr
  clear hr
  go_wp2
  go_ret
  exact ⟨ret_bool (by rw [← HR.out]), n, rfl⟩

end Go.Proofs.Ytbljfhmcebgdaaa

/-! Rows of the call's own whose elements may lead on to other blocks; append of one element. No program is named here. -/
namespace Go.Proofs.Ytbljfhmcebgdaaa
open Go Go.RowKit

/-- What is so of a block hangs on the block alone. -/
def Stay (Q : World → Nat → Prop) : Prop := ∀ w w' b, w'.heap[b]? = w.heap[b]? → Q w b → Q w' b
theorem Stay.any : Stay (fun _ _ => True) := fun _ _ _ _ _ => trivial
theorem Stay.own (lo : Nat) : Stay (fun w b => lo ≤ b ∧ ∀ o, w.frozen? ⟨b, o, none⟩ = false) := fun w w' b h hq => ⟨hq.1, fun o => by
  rw [← hq.2 o]; exact World.frozen?_of_block (a := ⟨b, o, none⟩) h⟩
/-- A row of the call's own, of elements that lead to other blocks. -/
def OwnL {α : Type} (L : Lay α) (Q : World → Nat → Prop) (e : TypeId) (w : World) (lo : Nat) (v : Value) (xs : List α) : Prop :=
  ∃ cs, w.ownsRow lo e L.size v xs.length cs ∧ ∀ i x, xs[i]? = some x → ∃ vs, L.R w (fun b => b < w.heap.size ∧ v.ownBlock ≠ some b ∧ Q w b) x vs ∧ ∀ j u, vs[j]? = some u → cs[i * L.size + j]? = some u
section
variable {α : Type} {L : Lay α} {Q : World → Nat → Prop} {e : TypeId} {lo : Nat} {w : World} {v : Value} {xs : List α}
theorem OwnL.nil (L : Lay α) (Q : World → Nat → Prop) (e : TypeId) (w : World) (lo : Nat) : OwnL L Q e w lo (.slice none 0 0) [] := ⟨[], World.ownsRow_nil _ _ _ _, fun i x h => by simp at h⟩
/-- Nothing that the row leads to has turned. -/
theorem OwnL.keep {w' : World} (h : OwnL L Q e w lo v xs) (hQ : Stay Q) (hg : w.grownBy w' none) : OwnL L Q e w' lo v xs := by
  obtain ⟨cs, h1, h2⟩ := h
  refine ⟨cs, rows_kept h1 hg (by simp), fun i x hx => ?_⟩
  obtain ⟨vs, hr, hu⟩ := h2 i x hx
  refine ⟨vs, L.mono (fun b hb => ?_) (L.keep (fun b hb => hg.block b hb.1 (by simp)) hr), hu⟩
  exact ⟨Nat.lt_of_lt_of_le hb.1 hg.size, hb.2.1, hQ _ _ _ (hg.block b hb.1 (by simp)) hb.2.2⟩
theorem grown_of_below {a b : World} {row : Option Nat} (h : Below a.heap.size a b) : a.grownBy b row := ⟨h.os, h.tape, h.output, h.size, fun i hi _ => h.block i hi⟩
theorem OwnL.up {w' : World} (h : OwnL L Q e w lo v xs) (hQ : Stay Q) (hb : Below w.heap.size w w') : OwnL L Q e w' lo v xs := h.keep hQ (grown_of_below hb)
theorem OwnL.form (h : OwnL L Q e w lo v xs) : ∃ A c, v = .slice A xs.length c ∧ xs.length ≤ c := by
  obtain ⟨cs, h1, h2⟩ := h
  rcases h1.2 with ⟨e1, e2⟩ | ⟨g, cap, cur, e1, _, _, h3, _⟩
  · exact ⟨none, 0, by rw [e1, e2], by omega⟩
  · exact ⟨_, cap, e1, h3⟩
theorem OwnL.cap {A : Option Addr} {n c : Nat} (h : OwnL L Q e w lo (.slice A n c) xs) : n = xs.length ∧ xs.length ≤ c := by
  obtain ⟨A', c', e1, h1⟩ := h.form
  injection e1 with e1 e2 e3
  exact ⟨e2, by omega⟩
/-- How it reads: the row's own block, and those of its elements. -/
theorem OwnL.sl {A : Option Addr} {c : Nat} (h : OwnL L Q e w lo (.slice A xs.length c) xs) : L.Sl w (fun b => b < w.heap.size ∧ (lo ≤ b ∧ (∀ o, w.frozen? ⟨b, o, .none⟩ = false) ∨ Q w b)) A xs := by
  obtain ⟨cs, h1, h2⟩ := h
  intro h0
  rcases h1.2 with ⟨e1, e2⟩ | ⟨g, cap, cur, e1, hg, _⟩
  · omega
  · injection e1 with e1 e2 e3
    subst e1
    refine ⟨_, rfl, ⟨(h1.lt g rfl).2, .inl ⟨hg, fun o => h1.frozenAt o⟩⟩, fun k x hx => ?_⟩
    obtain ⟨vs, hr, hu⟩ := h2 k x hx
    exact ⟨vs, L.mono (fun b hb => ⟨hb.1, .inr hb.2.2⟩) hr, fun j u hj => h1.cells (g := g) rfl _ _ (hu j u hj)⟩
theorem OwnL.rd {A : Option Addr} {c : Nat} (h : OwnL L Q e w lo (.slice A xs.length c) xs) : L.Rd w A xs := h.sl.mono fun _ h => h.1
theorem OwnL.own {A : Option Addr} {c : Nat} (h : OwnL L (fun w b => lo ≤ b ∧ ∀ o, w.frozen? ⟨b, o, none⟩ = false) e w lo (.slice A xs.length c) xs) : L.Sl w (Own lo w) A xs :=
  h.sl.mono fun _ h => ⟨h.2.elim (fun h => h.1) (fun h => h.1), h.1, h.2.elim (fun h => h.2) (fun h => h.2)⟩
/-- The element at a place, as cells. -/
theorem OwnL.at {A : Option Addr} {c : Nat} (h : OwnL L Q e w lo (.slice A xs.length c) xs) {k : Nat} (hk : k < xs.length) : ∃ ad, A = some ad ∧ ad.block < w.heap.size := by
  obtain ⟨ad, e1, hf, _⟩ := h.rd (by omega)
  exact ⟨ad, e1, hf⟩
end
theorem OwnL.lt {α : Type} {L : Lay α} {Q : World → Nat → Prop} {e : TypeId} {w : World} {lo : Nat} {v : Value} {xs : List α} (h : OwnL L Q e w lo v xs) : ∀ g, v.ownBlock = some g → lo ≤ g ∧ g < w.heap.size := by
  obtain ⟨cs, h1, _⟩ := h
  exact fun g hg => h1.lt g hg
/-- append of one element, which has just been laid in a block of its own. -/
theorem wpList_append_row {P : Program} {Q' : Exit → Act → World → Prop} {ops : Array Oper} {rest : List Oper} {o : Oper} {a : Act} {W : World} {α : Type} {L : Lay α} {Q : World → Nat → Prop} {t e : TypeId} {i : TypeInfo} {z : Value} {bytes : Nat} {G : Nat → Prop}
    {lo : Nat} {A : Option Addr} {c : Nat} {xs ys : List α} {x : α} {cs : Array Value} {e' : TypeId} (hgd : o.guard = none) (s y : Operand)
    (ho : o.op = .call { callee := .builtin .append, args := #[s, y], argTypes := #[t, t] }) (ht : P.underlying t = some (.slice e)) (hi : P.info? e = some i) (hz : i.zero = some z) (hsize : i.size = L.size) (hby : i.bytes = bytes) (hzs : z.cells.size = L.size) (hsz : 0 < L.size)
    (hs : a.eval s = .slice A xs.length c) (hy : a.eval y = .slice (some ⟨W.heap.size, 0, none⟩) 1 1)
    (hown : OwnL L Q e W lo (.slice A xs.length c) xs) (hQ : Stay Q) (hr : L.R W G x cs.toList) (hG : ∀ b, G b → b < W.heap.size ∧ (Value.slice A xs.length c).ownBlock ≠ some b ∧ Q W b) (h1 : ∀ u ∈ cs.toList, u.oneCell' = true)
    (hn : xs.length ≤ 2000000) (hb : bytes ≤ 128) (hlo : lo ≤ W.heap.size) (hys : ys = xs ++ [x])
    (h : ∀ A' c' w', OwnL L Q e w' lo (.slice A' ys.length c') ys → W.grownBy w' (Value.slice A xs.length c).ownBlock →
      ((Value.slice A' ys.length c').ownBlock = (Value.slice A xs.length c).ownBlock ∨ ∃ g, (Value.slice A' ys.length c').ownBlock = some g ∧ W.heap.size ≤ g) → wpList P ops Q' rest (a.put o.dst (.slice A' ys.length c')) w') :
    wpList P ops Q' (o :: rest) a (W.alloc (.cells cs e')) := by
  have hal : Below W.heap.size W (W.alloc (.cells cs e')) := (Below.refl _ _).alloc (Nat.le_refl _) _
  have hl : ys.length = xs.length + 1 := by rw [hys]; simp
  have hlc : cs.toList.length = L.size := L.len hr
  obtain ⟨ks, hk1, hk2⟩ := hown.up hQ hal
  have hbb : (xs.length + 1) * bytes ≤ 140737488355328 := by
    have : (xs.length + 1) * bytes ≤ 2000001 * 128 := Nat.mul_le_mul (by omega) hb
    omega
  refine wpList_plain hgd fun _ hK => ?_
  obtain ⟨v', w', hrun, ho', hg', _, hbk⟩ := run_append_own_at (P := P) (W.alloc (.cells cs e')) lo t o.type e i z L.size bytes ht hi hz hsize hby hzs hsz
    (.slice A xs.length c) xs.length ks hk1 ⟨W.heap.size, 0, none⟩ 1 1 cs.toList (by omega) (fun j u hu => World.news_of_block (heap_alloc_new W (.cells cs e')) j u hu) h1 (by unfold maxLen; omega) hbb (Nat.le_trans hlo hal.size)
  have hform : ∃ A' c', v' = .slice A' ys.length c' := by
    rcases ho'.2 with ⟨e1, e2⟩ | ⟨g, cap, cur, e1, _⟩
    · omega
    · exact ⟨_, cap, by rw [e1, hl]⟩
  obtain ⟨A', c', rfl⟩ := hform
  have hgW := grown_then hal hg'
  have hbk2 : (Value.slice A' ys.length c').ownBlock = (Value.slice A xs.length c).ownBlock ∨ ∃ g, (Value.slice A' ys.length c').ownBlock = some g ∧ W.heap.size ≤ g := by
    rcases hbk with e | e
    · exact .inl e
    · exact .inr ⟨_, e, hal.size⟩
  have hne : ∀ b, b < W.heap.size → (Value.slice A xs.length c).ownBlock ≠ some b → (Value.slice A' ys.length c').ownBlock ≠ some b := fun b h2 h3 h4 => by
    rcases hbk2 with e | ⟨g, e, hg⟩
    · exact h3 (e ▸ h4)
    · rw [e] at h4; injection h4 with h4; omega
  unfold Oper.wp execOp
  simp only [ho, resolve, invoke, builtin, Sem.run_bind, Sem.run_pure, Result.andThen_ok, List.map_toArray, List.map_cons, List.map_nil, hs, hy, hrun]
  refine hK _ _ (h A' c' w' ⟨ks ++ cs.toList, by rw [hl] at ho' ⊢; exact ho', fun k y hky => ?_⟩ hgW hbk2)
  have hkl : ks.length = xs.length * L.size := hk1.1
  rw [hys] at hky
  have hmove : ∀ {y : α} {vs : List Value}, L.R W (fun b => b < W.heap.size ∧ (Value.slice A xs.length c).ownBlock ≠ some b ∧ Q W b) y vs → L.R w' (fun b => b < w'.heap.size ∧ (Value.slice A' ys.length c').ownBlock ≠ some b ∧ Q w' b) y vs := fun hR =>
    L.mono (fun b h9 => ⟨Nat.lt_of_lt_of_le h9.1 hgW.size, hne b h9.1 h9.2.1, hQ _ _ _ (hgW.block b h9.1 (fun e9 => h9.2.1 e9.symm)) h9.2.2⟩) (L.keep (fun b h9 => hgW.block b h9.1 (fun e9 => h9.2.1 e9.symm)) hR)
  rcases Nat.lt_or_ge k xs.length with h2 | h2
  · rw [List.getElem?_append_left h2] at hky
    obtain ⟨cs0, h01, h02⟩ := hown
    obtain ⟨vs, hR, hu⟩ := hk2 k y hky
    obtain ⟨vs0, hR0, hu0⟩ := h02 k y hky
    refine ⟨vs, ?_, fun j u hj => ?_⟩
    · refine L.mono (fun b h9 => ?_) (L.keep (fun b h9 => hg'.block b h9.1 (fun e9 => h9.2.1 e9.symm)) hR)
      have hq := hQ _ _ _ (hg'.block b h9.1 (fun e9 => h9.2.1 e9.symm)) h9.2.2
      refine ⟨Nat.lt_of_lt_of_le h9.1 hg'.size, fun e9 => ?_, hq⟩
      rcases hbk with e | e
      · exact h9.2.1 (e ▸ e9)
      · rw [e] at e9; injection e9 with e9; have := h9.1; omega
    · have hjl : j < vs.length := by
        rcases Nat.lt_or_ge j vs.length with h | h
        · exact h
        · rw [List.getElem?_eq_none h] at hj; cases hj
      have hvl := L.len hR
      have hm : (k + 1) * L.size ≤ xs.length * L.size := Nat.mul_le_mul_right _ h2
      rw [Nat.add_mul, Nat.one_mul] at hm
      rw [List.getElem?_append_left (by omega)]
      exact hu j u hj
  · rw [List.getElem?_append_right h2] at hky
    have hk0 : k = xs.length := by
      rcases Nat.eq_or_lt_of_le h2 with h3 | h3
      · exact h3.symm
      · rw [List.getElem?_eq_none (by simp; omega)] at hky; cases hky
    subst hk0
    simp at hky
    subst hky
    refine ⟨cs.toList, hmove (L.mono hG hr), fun j u hj => ?_⟩
    rw [List.getElem?_append_right (by omega), show xs.length * L.size + j - ks.length = j by omega]
    exact hj
end Go.Proofs.Ytbljfhmcebgdaaa

/-! Contracts of the reference's reader of codes: l12Open, pick. -/
namespace Go.Proofs.Ytbljfhmcebgdaaa
open Go Go.RowKit

/-- Block r is a reader at place p, of at most 2000 bytes that lie below it. -/
def Rdr (w : World) (r : Nat) (p : Int) : Prop :=
  ∃ A c bs, w.heap[r]? = some (.cells #[.slice A bs.length c, .int .i64 p] 86 (0, 0)) ∧ bs.length ≤ 2000 ∧ Lay.byte.Sl w (fun b => b < r) A bs

/-- The reader stays over what leaves its block and the blocks below it alone. -/
theorem Rdr.keep {w w' : World} {r : Nat} {p : Int} (h : Rdr w r p) (hk : ∀ b, b ≤ r → w'.heap[b]? = w.heap[b]?) : Rdr w' r p := by
  obtain ⟨A, c, bs, hb, hl, hs⟩ := h
  exact ⟨A, c, bs, (hk r (Nat.le_refl _)).trans hb, hl, hs.keep fun b hb => hk b (Nat.le_of_lt hb)⟩
theorem Rdr.lt {w : World} {r : Nat} {p : Int} (h : Rdr w r p) : r < w.heap.size := by
  obtain ⟨A, c, bs, hb, _⟩ := h
  exact lt_of_block hb
theorem Rdr.up {w w' : World} {r : Nat} {p : Int} (h : Rdr w r p) (hb : Below w.heap.size w w') : Rdr w' r p :=
  h.keep fun b hbr => hb.block b (Nat.lt_of_le_of_lt hbr h.lt)

def OpenPost (w : World) (e : Ending) (w' : World) : Prop := ∃ r, e = .returned (.pointer (some ⟨r, 0, none⟩)) ∧ w.heap.size ≤ r ∧ Rdr w' r 0 ∧ Below w.heap.size w w'

theorem open_any (A : Option Addr) (c : Nat) (bs : List UInt8) (w : World) (h : Lay.byte.Rd w A bs) (hc : bs.length ≤ c) (hn : bs.length ≤ 9223372036854775807) :
    Calls Try.prog 36 #[.slice A bs.length c] w (OpenPost w) := by
  by_cases hl : 2000 < bs.length
  · go_enter Try.func36, Try.ntmps36
    go_wp2
    go_ret
    refine ⟨w.heap.size, rfl, Nat.le_refl _, ⟨A, c, bs.take 2000, ?_, by simp; omega, ?_⟩, (Below.refl _ _).alloc (Nat.le_refl _) _⟩
    · have e : (bs.take 2000).length = 2000 := by simp; omega
      rw [e]
      exact heap_alloc_new w _
    · exact (h.take 2000).keep fun b hb => Below.heap_alloc w _ b hb
  · go_enter Try.func36, Try.ntmps36
    go_wp2
    go_ret
    refine ⟨w.heap.size, rfl, Nat.le_refl _, ⟨A, c, bs, ?_, by omega, ?_⟩, (Below.refl _ _).alloc (Nat.le_refl _) _⟩
    · exact heap_alloc_new w _
    · exact h.keep fun b hb => Below.heap_alloc w _ b hb

/-- A number below n, and the reader one place on. -/
def PickPost (w : World) (r : Nat) (p n : Int) (e : Ending) (w' : World) : Prop :=
  ∃ k : Int, e = .returned (.int .i64 k) ∧ 0 ≤ k ∧ (1 ≤ n → k < n) ∧ (n < 1 → k = 0) ∧ Rdr w' r (p + 1) ∧ w.grownBy w' (some r)

theorem pick_end {w : World} {r : Nat} {p n k : Int} (m : Nat) (h : Rdr w r p) (k0 : 0 ≤ k) (k1 : 1 ≤ n → k < n) (k2 : n < 1 → k = 0) :
    PickPost w r p n (.returned (.int .i64 k)) ((w.setCell ⟨r, 1, none⟩ (.int .i64 (p + 1))).drewN m) := by
  have hlt := h.lt
  refine ⟨k, rfl, k0, k1, k2, ?_, ⟨rfl, rfl, rfl, by simp [World.setCell, World.drewN], fun i hi hne => Below.heap_setCell w ⟨r, 1, none⟩ _ i (fun e => hne (by rw [e]))⟩⟩
  obtain ⟨A, c, bs, hb, hl, hs⟩ := h
  refine ⟨A, c, bs, ?_, hl, hs.keep fun b hb => Below.heap_setCell w ⟨r, 1, none⟩ _ b (Nat.ne_of_lt hb)⟩
  show (w.setCell ⟨r, 1, none⟩ (.int .i64 (p + 1))).heap[r]? = _
  simp [World.setCell, Array.getElem?_modify, hb]

theorem far_cell {w : World} {a b : Addr} {v u : Value} (h : w.cell? a = some u) (hne : a.block ≠ b.block) : (w.setCell b v).cell? a = some u := by
  rw [World.cell?_setCell_other w b a v (fun e => hne (by rw [e]))]; exact h

theorem ofInt_i64 (a : Nat) (ha : a < 9223372036854775808) : (BitVec.ofInt 64 (a : Int)).toNat = a := by
  rw [BitVec.ofInt_natCast, BitVec.toNat_ofNat]; exact Nat.mod_eq_of_lt (by omega)
theorem i64_xor_nat (a b : Nat) (ha : a < 9223372036854775808) (hb : b < 9223372036854775808) : bits .xor .i64 (a : Int) (b : Int) = ((a ^^^ b : Nat) : Int) := by
  have hx : a ^^^ b < 2 ^ 63 := Nat.xor_lt_two_pow (by omega) (by omega)
  show IntKind.i64.wrap ((BitVec.ofInt 64 (a : Int) ^^^ BitVec.ofInt 64 (b : Int)).toNat : Int) = _
  rw [BitVec.toNat_xor, ofInt_i64 a ha, ofInt_i64 b hb, IntKind.wrap_i64]
  omega

theorem mix_wraps (P y z D : Nat) (hP : P ≤ 1000000000) (hy : y < 256) (hz : z < 256) (hD : D ≤ 1000000000) :
    IntKind.i64.wrap ((P : Int) * 7) = (P : Int) * 7 ∧ IntKind.i64.wrap ((P : Int) * 7 + 3) = (P : Int) * 7 + 3 ∧ IntKind.i64.wrap (y : Int) = (y : Int) ∧ IntKind.i64.wrap ((y : Int) * 131) = (y : Int) * 131 ∧
    IntKind.i64.wrap (z : Int) = (z : Int) ∧ IntKind.i64.wrap ((z : Int) * 1117) = (z : Int) * 1117 ∧ IntKind.i64.wrap ((y : Int) * 131 + (z : Int) * 1117) = (y : Int) * 131 + (z : Int) * 1117 ∧
    IntKind.i64.wrap ((P : Int) * 29) = (P : Int) * 29 ∧ IntKind.i64.wrap ((y : Int) * 131 + (z : Int) * 1117 + (P : Int) * 29) = (y : Int) * 131 + (z : Int) * 1117 + (P : Int) * 29 ∧
    IntKind.i64.wrap (D : Int) = (D : Int) ∧ IntKind.i64.wrap ((D : Int) * 53) = (D : Int) * 53 ∧
    IntKind.i64.wrap ((y : Int) * 131 + (z : Int) * 1117 + (P : Int) * 29 + (D : Int) * 53) = (y : Int) * 131 + (z : Int) * 1117 + (P : Int) * 29 + (D : Int) * 53 :=
  ⟨IntWalk.i64_in _ (by omega), IntWalk.i64_in _ (by omega), IntWalk.i64_in _ (by omega), IntWalk.i64_in _ (by omega), IntWalk.i64_in _ (by omega), IntWalk.i64_in _ (by omega),
    IntWalk.i64_in _ (by omega), IntWalk.i64_in _ (by omega), IntWalk.i64_in _ (by omega), IntWalk.i64_in _ (by omega), IntWalk.i64_in _ (by omega), IntWalk.i64_in _ (by omega)⟩

set_option maxRecDepth 100000 in
set_option maxHeartbeats 1000000 in
theorem pick_any (r : Nat) (p n : Int) (w : World) (h : Rdr w r p) (p0 : 0 ≤ p) (p1 : p ≤ 1000000000) (n1 : n ≤ 9223372036854775807) (n0 : -9223372036854775808 ≤ n) :
    Calls Try.prog 40 #[.pointer (some ⟨r, 0, none⟩), .int .i64 n] w (PickPost w r p n) := by
  obtain ⟨A, c, bs, hb, hl, hs⟩ := h
  have hc0 : w.cell? ⟨r, 0, none⟩ = some (.slice A bs.length c) := by simp [World.cell?, hb]
  have hc1 : w.cell? ⟨r, 1, none⟩ = some (.int .i64 p) := by simp [World.cell?, hb]
  have hf : w.frozen? ⟨r, 1, none⟩ = false := by simp [World.frozen?, hb]
  have Hb := Lib.hid hb
  clear hb
  have hR : Rdr w r p := ⟨A, c, bs, Hb.out, hl, hs⟩
  have HR := Lib.hid hR
  clear hR
  by_cases hn : n < 1
  · go_enter Try.func40, Try.ntmps40
    go_wp2
    go_ret
    exact pick_end 0 HR.out (by omega) (by omega) (fun _ => rfl)
  · by_cases he : bs.length = 0
    · go_enter Try.func40, Try.ntmps40
      go_wp2
      go_ret
      exact pick_end 0 HR.out (by omega) (by omega) (fun _ => rfl)
    · by_cases hk : p < bs.length
      · have hkn : p.toNat < bs.length := by omega
        obtain ⟨ad, rfl, hfr, hcb⟩ := hs.at_byte hkn
        have hcb' : (w.setCell ⟨r, 1, none⟩ (.int .i64 (p + 1))).cell? (ad.add p.toNat) = some (.int .u8 (bs[p.toNat].toNat : Int)) := far_cell hcb (by rw [block_of_add]; exact Nat.ne_of_lt hfr)
        have hb0 : (0 : Int) ≤ bs[p.toNat].toNat := by omega
        have hb1 : (bs[p.toNat].toNat : Int) < 256 := by have := bs[p.toNat].toNat_lt; omega
        generalize (bs[p.toNat].toNat : Int) = y at *
        go_enter Try.func40, Try.ntmps40
        go_wp2
        go_ret
        exact pick_end 0 HR.out (Int.emod_nonneg _ (by omega)) (fun _ => Int.emod_lt_of_pos _ (by omega)) (fun h => by omega)
      · have hq0 : 0 < bs.length := by omega
        obtain ⟨P, rfl⟩ := Int.eq_ofNat_of_zero_le p0
        obtain ⟨X, hx, t1⟩ : ∃ X : Nat, X < bs.length ∧ (P : Int).tmod bs.length = X := ⟨P % bs.length, Nat.mod_lt _ hq0, by rw [Int.tmod_eq_emod_of_nonneg (by omega)]; simp⟩
        obtain ⟨Y, hy, t2⟩ : ∃ Y : Nat, Y < bs.length ∧ ((P : Int) * 7 + 3).tmod bs.length = Y := ⟨(P * 7 + 3) % bs.length, Nat.mod_lt _ hq0, by rw [Int.tmod_eq_emod_of_nonneg (by omega)]; simp⟩
        obtain ⟨D, hd, t3⟩ : ∃ D : Nat, D ≤ P ∧ (P : Int).tdiv bs.length = D := ⟨P / bs.length, Nat.div_le_self _ _, by rw [Int.tdiv_eq_ediv_of_nonneg (by omega)]; simp⟩
        obtain ⟨ad, rfl, hfr, hcb⟩ := hs.at_byte hx
        obtain ⟨ad', e, _, hcb2⟩ := hs.at_byte hy
        cases e
        have hcb' : (w.setCell ⟨r, 1, none⟩ (.int .i64 ((P : Int) + 1))).cell? (ad.add _) = some _ := far_cell hcb (by rw [block_of_add]; exact Nat.ne_of_lt hfr)
        have hcb2' : (w.setCell ⟨r, 1, none⟩ (.int .i64 ((P : Int) + 1))).cell? (ad.add _) = some _ := far_cell hcb2 (by rw [block_of_add]; exact Nat.ne_of_lt hfr)
        have hb1 := bs[X].toNat_lt
        have hb2 := bs[Y].toNat_lt
        generalize bs[X].toNat = y at *
        generalize bs[Y].toNat = z at *
        clear hcb hcb2
        have hx' : (X : Int) < bs.length := by omega
        have hy' : (Y : Int) < bs.length := by omega
        obtain ⟨e1, e2, e3, e4, e5, e6, e7, e8, e9, e10, e11, e12⟩ := mix_wraps P y z D (by omega) hb1 hb2 (by omega)
        have hlen : ((bs.length : Int) == 0) = false := beq_eq_false_iff_ne.2 (by omega)
        go_enter Try.func40, Try.ntmps40
        go_wp2
        go_quiet (fail)
        clear e1 e2 e3 e4 e5 e6 e7 e8 e9 e10 e11 e12 t1 t2 t3 hlen
        go_wp2
        go_ret
        have hM : (y : Int) * 131 + (z : Int) * 1117 + (P : Int) * 29 + (D : Int) * 53 = ((y * 131 + z * 1117 + P * 29 + D * 53 : Nat) : Int) := by omega
        have hlt : y * 131 + z * 1117 + P * 29 + D * 53 < 9223372036854775808 := by omega
        show PickPost w r P n (.returned (.int .i64 ((bits BinOp.xor IntKind.i64 ((y : Int) * 131 + z * 1117 + P * 29 + D * 53) (((y : Int) * 131 + z * 1117 + P * 29 + D * 53) / 64)).tmod n))) _
        rw [hM]
        generalize y * 131 + z * 1117 + P * 29 + D * 53 = M at *
        rw [show ((M : Int) / 64) = ((M / 64 : Nat) : Int) from by omega, i64_xor_nat _ _ hlt (by omega)]
        generalize (M ^^^ M / 64) = Q
        rw [Int.tmod_eq_emod_of_nonneg (by omega)]
        exact pick_end nq HR.out (Int.emod_nonneg _ (by omega)) (fun _ => Int.emod_lt_of_pos _ (by omega)) (fun h => by omega)
end Go.Proofs.Ytbljfhmcebgdaaa
