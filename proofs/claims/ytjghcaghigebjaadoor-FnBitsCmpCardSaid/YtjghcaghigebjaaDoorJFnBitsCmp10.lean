/- FnBitsCmp: comparisons are right: for any bytes the law says true. -/
import Derived.Test.YtjghcaghigebjaaDoorRows
import Derived.ProofKit
import Derived.LaidMore
import Derived.OpenShut
import Derived.Stop.Joined
import Derived.ChangeSame
import Derived.ChangeVars
import Derived.RowKitTokens
import Derived.LaidLaws
import Derived.Test.YtjghcaghigebjaaDoorTie
import Derived.Test.YtjghcaghigebjaaDoorCards
import Derived.SevenTiedAt
import Derived.Test.YtjghcaghigebjaaDoorJFnBitsCmp0
import Derived.Test.YtjghcaghigebjaaDoorJFnBitsCmp1
import Derived.Test.YtjghcaghigebjaaDoorJFnBitsCmp3
import Derived.Test.YtjghcaghigebjaaDoorJFnBitsCmp4
import Derived.Test.YtjghcaghigebjaaDoorJFnBitsCmp5
import Derived.Test.YtjghcaghigebjaaDoorJFnBitsCmp6
import Derived.Test.YtjghcaghigebjaaDoorJFnBitsCmp7
import Derived.Test.YtjghcaghigebjaaDoorJFnBitsCmp8
import Derived.Test.YtjghcaghigebjaaDoorJFnBitsCmp9
/-! Sums, comparisons: what their programs say. -/
namespace Go.Proofs.YtjghcaghigebjaaDoor
open Go Go.RowKit

def addB : List Bool → List Bool → Bool → List Bool
  | x :: xs, y :: ys, c => ((x != y) != c) :: addB xs ys ((x && y) || ((x != y) && c))
  | _, _, _ => []
def lessB : List Bool → List Bool → Bool → Bool
  | x :: xs, y :: ys, r => lessB xs ys (if x != y then y else r)
  | _, _, r => r
def sameB : List Bool → List Bool → Bool → Bool
  | x :: xs, y :: ys, r => sameB xs ys (r && !(x != y))
  | _, _, r => r
theorem all_sum {w : List Bool} : ∀ (xs ys : List Int) (c : Int) (Φ : List Int → N → Prop) (n : N), xs.length = ys.length → netOk n = true → (∀ x ∈ xs, netMark n x = true) → (∀ y ∈ ys, netMark n y = true) → netMark n c = true →
    (∀ ms n', Ext n n' → ms.length = xs.length → (∀ m ∈ ms, netMark n' m = true) → (Obeys n' w → ms.map (netLit w) = addB (xs.map (netLit w)) (ys.map (netLit w)) (netLit w c)) → Φ ms n') → (sumP xs ys c).all w Φ n
  | [], [], _, _, n, _, h0, _, _, _, h => h [] n (.refl h0) rfl (fun _ h => by cases h) fun _ => rfl
  | x :: xs, y :: ys, c, Φ, n, hl, h0, hx, hy, hc, h => by
    have x0 := hx _ (.head _)
    have y0 := hy _ (.head _)
    refine ⟨⟨x0, y0⟩, fun d n1 e1 m1 v1 => ⟨⟨m1, e1.has hc⟩, fun s n2 e2 m2 v2 => ⟨⟨e2.has (e1.has x0), e2.has (e1.has y0)⟩, fun p n3 e3 m3 v3 => ⟨⟨e3.has (e2.has m1), e3.has (e2.has (e1.has hc))⟩, fun q n4 e4 m4 v4 => ?_⟩⟩⟩⟩
    refine all_bind _ _ _ (all_or (e4.has m3) m4 fun c' n5 e5 m5 v5 => ?_)
    have e15 := e1.trans (e2.trans (e3.trans (e4.trans e5)))
    refine all_bind _ _ _ (all_sum xs ys c' _ n5 (by simpa using hl) e5.ok (fun z hz => e15.has (hx z (.tail _ hz))) (fun z hz => e15.has (hy z (.tail _ hz))) m5 fun ms n6 e6 l6 m6 v6 => ?_)
    refine h (s :: ms) n6 (e15.trans e6) (by simp [l6]) (fun z hz => ?_) fun hw => ?_
    · rcases List.mem_cons.1 hz with rfl | hz
      · exact e6.has (e5.has (e4.has (e3.has m2)))
      · exact m6 z hz
    · have w5 := e6.obeys hw
      have w4 := e5.obeys w5
      have w3 := e4.obeys w4
      have w2 := e3.obeys w3
      have w1 := e2.obeys w2
      rw [List.map_cons, v6 hw, v5 w5, v4 w4, v3 w3, v2 w2, v1 w1]
      rfl
  | [], _ :: _, _, _, _, hl, _, _, _, _, _ => by simp at hl
  | _ :: _, [], _, _, _, hl, _, _, _, _, _ => by simp at hl
theorem all_less {w : List Bool} : ∀ (xs ys : List Int) (r : Int) (Φ : Int → N → Prop) (n : N), xs.length = ys.length → netOk n = true → (∀ x ∈ xs, netMark n x = true) → (∀ y ∈ ys, netMark n y = true) → netMark n r = true →
    (∀ m n', Ext n n' → netMark n' m = true → (Obeys n' w → netLit w m = lessB (xs.map (netLit w)) (ys.map (netLit w)) (netLit w r)) → Φ m n') → (lessP xs ys r).all w Φ n
  | [], [], r, _, n, _, h0, _, _, hr, h => h r n (.refl h0) hr fun _ => rfl
  | x :: xs, y :: ys, r, Φ, n, hl, h0, hx, hy, hr, h => by
    have x0 := hx _ (.head _)
    have y0 := hy _ (.head _)
    refine ⟨⟨x0, y0⟩, fun d n1 e1 m1 v1 => all_bind _ _ _ (all_mux m1 (e1.has y0) (e1.has hr) fun r' n2 e2 m2 v2 => ?_)⟩
    have e12 := e1.trans e2
    refine all_less xs ys r' Φ n2 (by simpa using hl) e2.ok (fun z hz => e12.has (hx z (.tail _ hz))) (fun z hz => e12.has (hy z (.tail _ hz))) m2 fun m n3 e3 m3 v3 => h m n3 (e12.trans e3) m3 fun hw => ?_
    have w2 := e3.obeys hw
    rw [v3 hw, v2 w2, v1 (e2.obeys w2)]
    rfl
  | [], _ :: _, _, _, _, hl, _, _, _, _, _ => by simp at hl
  | _ :: _, [], _, _, _, hl, _, _, _, _, _ => by simp at hl
theorem all_same {w : List Bool} : ∀ (xs ys : List Int) (r : Int) (Φ : Int → N → Prop) (n : N), xs.length = ys.length → netOk n = true → (∀ x ∈ xs, netMark n x = true) → (∀ y ∈ ys, netMark n y = true) → netMark n r = true →
    (∀ m n', Ext n n' → netMark n' m = true → (Obeys n' w → netLit w m = sameB (xs.map (netLit w)) (ys.map (netLit w)) (netLit w r)) → Φ m n') → (sameP xs ys r).all w Φ n
  | [], [], r, _, n, _, h0, _, _, hr, h => h r n (.refl h0) hr fun _ => rfl
  | x :: xs, y :: ys, r, Φ, n, hl, h0, hx, hy, hr, h => by
    have x0 := hx _ (.head _)
    have y0 := hy _ (.head _)
    refine ⟨⟨x0, y0⟩, fun d n1 e1 m1 v1 => ⟨⟨e1.has hr, netMark_neg m1⟩, fun r' n2 e2 m2 v2 => ?_⟩⟩
    have e12 := e1.trans e2
    refine all_same xs ys r' Φ n2 (by simpa using hl) e2.ok (fun z hz => e12.has (hx z (.tail _ hz))) (fun z hz => e12.has (hy z (.tail _ hz))) m2 fun m n3 e3 m3 v3 => h m n3 (e12.trans e3) m3 fun hw => ?_
    have w2 := e3.obeys hw
    have w1 := e2.obeys w2
    rw [v3 hw, v2 w2, netLit_turn (w1.sig m1), v1 w1]
    rfl
  | [], _ :: _, _, _, _, hl, _, _, _, _, _ => by simp at hl
  | _ :: _, [], _, _, _, hl, _, _, _, _, _ => by simp at hl

/-! Numbers. -/
def bitsB : List Bool → Int
  | [] => 0
  | b :: bs => (if b then 1 else 0) + 2 * bitsB bs
theorem bitsB_cons (b : Bool) (bs : List Bool) : bitsB (b :: bs) = (if b then 1 else 0) + 2 * bitsB bs := rfl
theorem bitsOf_map (f : Int → Bool) : ∀ a : List Int, bitsOf f a = bitsB (a.map f)
  | [] => rfl
  | m :: ms => by rw [List.map_cons]; unfold bitsOf bitsB; rw [bitsOf_map f ms]
theorem bitsB_lt : ∀ a : List Bool, 0 ≤ bitsB a ∧ bitsB a < 2 ^ a.length
  | [] => by simp [bitsB]
  | b :: bs => by
    have := bitsB_lt bs
    rw [bitsB_cons, List.length_cons, Int.pow_succ]
    cases b <;> simp only [Bool.false_eq_true, if_false, if_true] <;> omega
theorem lessB_val : ∀ (xs ys : List Bool) (r : Bool), xs.length = ys.length → lessB xs ys r = if bitsB xs = bitsB ys then r else decide (bitsB xs < bitsB ys)
  | [], [], r, _ => rfl
  | x :: xs, y :: ys, r, h => by
    have ih := lessB_val xs ys (if x != y then y else r) (by simpa using h)
    show lessB xs ys _ = _
    rw [ih, bitsB_cons, bitsB_cons]
    by_cases e : bitsB xs = bitsB ys
    · rw [if_pos e, e]
      cases x <;> cases y <;> cases r <;> simp <;> omega
    · rw [if_neg e, if_neg (by cases x <;> cases y <;> simp <;> omega)]
      by_cases hl : bitsB xs < bitsB ys
      · rw [decide_eq_true hl, eq_comm]; exact decide_eq_true (by cases x <;> cases y <;> simp <;> omega)
      · rw [decide_eq_false hl, eq_comm]; exact decide_eq_false (by cases x <;> cases y <;> simp <;> omega)
  | [], _ :: _, _, h => by simp at h
  | _ :: _, [], _, h => by simp at h
theorem sameB_val : ∀ (xs ys : List Bool) (r : Bool), xs.length = ys.length → sameB xs ys r = (r && decide (bitsB xs = bitsB ys))
  | [], [], r, _ => by simp [sameB, bitsB]
  | x :: xs, y :: ys, r, h => by
    have ih := sameB_val xs ys (r && !(x != y)) (by simpa using h)
    show sameB xs ys _ = _
    rw [ih, bitsB_cons, bitsB_cons]
    by_cases e : bitsB xs = bitsB ys
    · rw [e]
      cases x <;> cases y <;> cases r <;> simp <;> omega
    · rw [decide_eq_false e, decide_eq_false (by cases x <;> cases y <;> simp <;> omega)]; simp
  | [], _ :: _, _, h => by simp at h
  | _ :: _, [], _, h => by simp at h
theorem addB_len : ∀ (xs ys : List Bool) (c : Bool), xs.length = ys.length → (addB xs ys c).length = xs.length
  | [], [], _, _ => rfl
  | x :: xs, y :: ys, c, h => by simp [addB, addB_len xs ys _ (by simpa using h)]
  | [], _ :: _, _, h => by simp at h
  | _ :: _, [], _, h => by simp at h
theorem addB_val : ∀ (xs ys : List Bool) (c : Bool), xs.length = ys.length → ∃ q : Int, bitsB xs + bitsB ys + (if c then 1 else 0) = bitsB (addB xs ys c) + 2 ^ xs.length * q
  | [], [], c, _ => ⟨if c then 1 else 0, by simp [bitsB, addB]⟩
  | x :: xs, y :: ys, c, h => by
    obtain ⟨q, hq⟩ := addB_val xs ys ((x && y) || ((x != y) && c)) (by simpa using h)
    refine ⟨q, ?_⟩
    show bitsB (x :: xs) + bitsB (y :: ys) + _ = bitsB (((x != y) != c) :: addB xs ys _) + _
    rw [bitsB_cons, bitsB_cons, bitsB_cons]
    rw [List.length_cons, Int.pow_succ]
    generalize (2 : Int) ^ xs.length = P at *
    have e : P * 2 * q = 2 * (P * q) := by rw [Int.mul_comm P 2, Int.mul_assoc]
    rw [e]
    generalize P * q = R at *
    cases x <;> cases y <;> cases c <;> simp at hq ⊢ <;> omega
  | [], _ :: _, _, h => by simp at h
  | _ :: _, [], _, h => by simp at h
theorem neg_bits : ∀ xs : List Bool, bitsB (xs.map not) = 2 ^ xs.length - 1 - bitsB xs
  | [] => by simp [bitsB]
  | x :: xs => by
    rw [List.map_cons, bitsB_cons, bitsB_cons]
    rw [neg_bits xs, List.length_cons, Int.pow_succ]
    cases x <;> simp <;> omega
end Go.Proofs.YtjghcaghigebjaaDoor

/-! The multiplexer's law, plain: what BitsIf answers is right. -/
namespace Go.Proofs.YtjghcaghigebjaaDoor
open Go Go.RowKit

/-- What it says of an answer that a net and marks are grown out of another one. -/
structure GrB (n : N) (r : N × List Int) (k : Nat) : Prop where
  ok : netOk n = true
  ext : Ext n r.1
  len : r.2.length = k
  mks : ∀ m ∈ r.2, netMark r.1 m = true
theorem zip_left {w : List Bool} : ∀ (xs ys : List Int), xs.length = ys.length → List.zipWith (fun x _ => netLit w x) xs ys = xs.map (netLit w)
  | [], [], _ => rfl
  | x :: xs, y :: ys, h => by simp [zip_left xs ys (by simpa using h)]
  | [], _ :: _, h => by simp at h
  | _ :: _, [], h => by simp at h
theorem zip_right {w : List Bool} : ∀ (xs ys : List Int), xs.length = ys.length → List.zipWith (fun _ y => netLit w y) xs ys = ys.map (netLit w)
  | [], [], _ => rfl
  | x :: xs, y :: ys, h => by simp [zip_right xs ys (by simpa using h)]
  | [], _ :: _, h => by simp at h
  | _ :: _, [], h => by simp at h
/-- What an answer that is not empty tells of the call. -/
theorem bitsOk_yes {n : N} {b : Bool} {p : PG (List Int)} {r : N × List Int} (hr : r = pickN (netOk n) (bitsOk n b p)) (h : r.2 ≠ []) : netOk n = true ∧ b = true ∧ (run opsP p ⟨n, none⟩).1.e = none ∧ r = ((run opsP p ⟨n, none⟩).1.n, (run opsP p ⟨n, none⟩).2) := by
  cases hk : netOk n
  · rw [hr, hk] at h; exact absurd rfl h
  · rw [hk] at hr
    unfold pickN bitsOk at hr
    cases b
    · rw [hr] at h; exact absurd rfl h
    · simp only [if_true] at hr
      unfold bitsOut at hr
      split at hr
      · rename_i he; exact ⟨rfl, rfl, he, hr⟩
      · rw [hr] at h; exact absurd rfl h
theorem bitsOk_no {n : N} {b : Bool} {p : PG (List Int)} {r : N × List Int} (hr : r = pickN (netOk n) (bitsOk n b p)) (hp : ∀ s, (run opsP p s).2 ≠ []) (h : r.2 = []) : r.1 = ⟨0, []⟩ := by
  cases hk : netOk n
  · rw [hr, hk]; rfl
  · rw [hk] at hr
    unfold pickN bitsOk at hr
    cases b
    · rw [hr]; rfl
    · simp only [if_true] at hr
      unfold bitsOut at hr
      split at hr
      · rw [hr] at h; exact absurd h (hp _)
      · rw [hr]
theorem mux_all {n : N} {c : Int} {xs ys : List Int} {w : List Bool} (hok : netOk n = true) (hc : netMark n c = true) (hx : ∀ x ∈ xs, netMark n x = true) (hy : ∀ y ∈ ys, netMark n y = true) (hl : xs.length = ys.length) (he : (run opsP (eachP (muxP c) xs ys) ⟨n, none⟩).1.e = none) :
    (((run opsP (eachP (muxP c) xs ys) ⟨n, none⟩).2.length = xs.length ∧ (∀ m ∈ (run opsP (eachP (muxP c) xs ys) ⟨n, none⟩).2, netMark (run opsP (eachP (muxP c) xs ys) ⟨n, none⟩).1.n m = true) ∧ (Obeys (run opsP (eachP (muxP c) xs ys) ⟨n, none⟩).1.n w → (run opsP (eachP (muxP c) xs ys) ⟨n, none⟩).2.map (netLit w) = if netLit w c then xs.map (netLit w) else ys.map (netLit w)))) ∧ Ext n (run opsP (eachP (muxP c) xs ys) ⟨n, none⟩).1.n := by
  refine all_run (w := w) (Φ := fun ms n' => ms.length = xs.length ∧ (∀ m ∈ ms, netMark n' m = true) ∧ (Obeys n' w → ms.map (netLit w) = if netLit w c then xs.map (netLit w) else ys.map (netLit w))) (eachP (muxP c) xs ys) n ?_ hok he
  refine all_each (op := fun a b => if netLit w c then a else b) (n0 := n) (fun Ψ n1 x y e1 h1 h2 k => all_mux (e1.has hc) h1 h2 k) xs ys _ n hl (.refl hok) hx hy fun ms n' _ hl' hm' hv => ⟨hl', hm', fun hw => ?_⟩
  rw [hv hw]
  cases netLit w c
  · exact zip_right xs ys hl
  · exact zip_left xs ys hl
theorem bitsIf_law {n : N} {c : Int} {xs ys : List Int} {r : N × List Int} (hr : r = pickN (netOk n) (bitsIfR n c xs ys)) (h : r.2 ≠ []) :
    GrB n r xs.length ∧ xs.length ≤ 4 ∧ ys.length = xs.length ∧ ∀ ins : List Bool, (ins.length : Int) = n.ins → bitsVal (netVals r.1 ins) r.2 = if netLit (netVals r.1 ins) c then bitsVal (netVals r.1 ins) xs else bitsVal (netVals r.1 ins) ys := by
  obtain ⟨hok, hb, he, hv⟩ := bitsOk_yes hr h
  simp only [Bool.and_eq_true, decide_eq_true_eq] at hb
  obtain ⟨⟨⟨gx, gy⟩, gc⟩, hl⟩ := hb
  obtain ⟨l1, l2, m1⟩ := goodL_iff.1 gx
  obtain ⟨l3, l4, m2⟩ := goodL_iff.1 gy
  have A := fun w => mux_all (w := w) hok gc m1 m2 hl he
  rw [hv]
  refine ⟨⟨hok, (A []).2, (A []).1.1, (A []).1.2.1⟩, l2, hl.symm, fun ins hi => ?_⟩
  have hx := (A []).2
  have hob := (obeys_vals hx.ok (by rw [hx.ins]; exact hi)).1
  have hm := (A (netVals (run opsP (eachP (muxP c) xs ys) ⟨n, none⟩).1.n ins)).1
  generalize netVals (run opsP (eachP (muxP c) xs ys) ⟨n, none⟩).1.n ins = v at *
  have hm2 := hm.2.2 hob
  have hlen := hm.1
  have bv : ∀ l : List Int, l.length ≤ 4 → bitsVal v l = bitsB (l.map (netLit v)) := fun l hl4 => by unfold bitsVal; rw [if_neg (by omega), bitsOf_map]
  dsimp only
  rw [bv _ (by omega), bv xs l2, bv ys l4, hm2]
  cases netLit v c <;> rfl
/-- A right net's gates are small. -/
theorem okInts_of {n : N} (h : netOk n = true) : okInts n := fun g hg => by
  obtain ⟨h0, h1, h2, h3⟩ := netOk_all.1 h
  obtain ⟨k, hk, rfl⟩ := List.getElem_of_mem hg
  have h4 := (h3 k _ (List.getElem?_eq_getElem hk)).1
  unfold okG at h4
  simp only [Bool.and_eq_true, decide_eq_true_eq] at h4
  have : k ≤ 600 := by omega
  refine ⟨⟨?_, ?_⟩, ?_, ?_⟩ <;> omega
theorem bitsIf_empty {n : N} {c : Int} {xs ys : List Int} {r : N × List Int} (hr : r = pickN (netOk n) (bitsIfR n c xs ys)) (h : r.2 = []) : r.1 = ⟨0, []⟩ := by
  by_cases hx : xs.length = ys.length ∧ xs ≠ []
  · refine bitsOk_no hr (fun s e => ?_) h
    have := eachP_len (o := opsP) (f := muxP c) xs ys s hx.1
    rw [e] at this
    exact hx.2 (List.eq_nil_of_length_eq_zero (by simpa using this.symm))
  · rw [hr]
    cases netOk n
    · rfl
    · unfold pickN bitsIfR bitsOk
      rw [if_neg]
      simp only [Bool.and_eq_true, decide_eq_true_eq]
      rintro ⟨⟨⟨gx, _⟩, _⟩, hl⟩
      exact hx ⟨hl, fun e => by have := (goodL_iff.1 gx).1; rw [e] at this; simp at this⟩
end Go.Proofs.YtjghcaghigebjaaDoor

/-! The program's bit vectors: VecOk, VecSigned, VecCmp where the vectors are right. -/
namespace Go.Proofs.YtjghcaghigebjaaDoor
open Go Go.RowKit

theorem four_of {m : Nat} (h : 1 ≤ m) (h' : m ≤ 4) : m = 1 ∨ m = 2 ∨ m = 3 ∨ m = 4 := by omega
theorem two_pow_cases {m : Nat} {n : Int} (h : 1 ≤ m) (h' : m ≤ 4) (hn : n < 2 ^ m) : (m = 1 ∧ n < 2) ∨ (m = 2 ∧ n < 4) ∨ (m = 3 ∧ n < 8) ∨ (m = 4 ∧ n < 16) := by
  rcases four_of h h' with rfl | rfl | rfl | rfl <;> simp at hn ⊢ <;> omega
set_option maxHeartbeats 2000000 in
theorem vecOk_any (m : Nat) (n : Int) (w : World) (h : 1 ≤ m) (h' : m ≤ 4) (n0 : 0 ≤ n) (hn : n < 2 ^ m) :
    Calls Tryd.prog 71 #[.agg #[.int .i64 (m : Int), .int .i64 n]] w (RetB w true) := by
  have hc := two_pow_cases h h' hn
  clear h h' hn
  have hal : Below w.heap.size w (w.alloc (.cells #[.int .i64 (m : Int), .int .i64 n] 54)) := (Below.refl _ _).alloc (Nat.le_refl _) _
  have HAL := Lib.hid hal
  clear hal
  rcases hc with ⟨rfl, hn⟩ | ⟨rfl, hn⟩ | ⟨rfl, hn⟩ | ⟨rfl, hn⟩
  all_goals
    simp only [Int.cast_ofNat_Int] at HAL ⊢
    go_enter Tryd.func71, Tryd.ntmps71
    go_wp2
    go_quiet (fail)
    go_wp2
    go_ret
    exact ⟨rfl, below_drewN HAL.out _⟩
theorem raw_any (m : Nat) (n : Int) (w : World) (n0 : 0 ≤ n) (hn : n < 16) :
    Calls Tryd.prog 74 #[.agg #[.int .i64 (m : Int), .int .i64 n]] w fun e w' => e = .returned (.int .u64 n) ∧ Below w.heap.size w w' := by
  have hal : Below w.heap.size w (w.alloc (.cells #[.int .i64 (m : Int), .int .i64 n] 54)) := (Below.refl _ _).alloc (Nat.le_refl _) _
  have HAL := Lib.hid hal
  clear hal
  go_enter Tryd.func74, Tryd.ntmps74
  go_wp2
  go_ret
  exact ⟨rfl, HAL.out⟩
theorem sixteen {n : Int} (h0 : 0 ≤ n) (h : n < 16) : n = 0 ∨ n = 1 ∨ n = 2 ∨ n = 3 ∨ n = 4 ∨ n = 5 ∨ n = 6 ∨ n = 7 ∨ n = 8 ∨ n = 9 ∨ n = 10 ∨ n = 11 ∨ n = 12 ∨ n = 13 ∨ n = 14 ∨ n = 15 := by omega
/-- A number's bit. -/
def bitV (n : Int) (k : Nat) : Bool := n.toNat.testBit k
set_option maxHeartbeats 4000000 in
theorem bit_any (n : Int) (k : Nat) (w : World) (h0 : 0 ≤ n) (hn : n < 16) (hk : k < 4) :
    Calls Tryd.prog 102 #[.int .u64 n, .int .i64 (k : Int)] w fun e w' => e = .returned (.bool (bitV n k)) ∧ w = w' := by
  have hk4 : k = 0 ∨ k = 1 ∨ k = 2 ∨ k = 3 := by omega
  rcases hk4 with rfl | rfl | rfl | rfl <;> rcases sixteen h0 hn with rfl | rfl | rfl | rfl | rfl | rfl | rfl | rfl | rfl | rfl | rfl | rfl | rfl | rfl | rfl | rfl
  all_goals
    clear h0 hn hk
    simp only [Int.cast_ofNat_Int]
    go_enter Tryd.func102, Tryd.ntmps102
    go_wp2
    go_ret
    exact ⟨rfl, rfl⟩
/-- As a signed number. -/
def sgnV (m : Nat) (n : Int) : Int := if bitV n (m - 1) = true then n - 2 ^ m else n
def Fact.u64B (W : World) (n : Int) : Fact := .of (fun v x => v = .int .u64 n ∧ Below W.heap.size W x) fun _ _ _ ⟨h1, h2⟩ hb => ⟨h1, bthen h2 hb⟩
set_option maxHeartbeats 2000000 in
theorem vecSigned_1 (n : Int) (w : World) (n0 : 0 ≤ n) (hn : n < 2) :
    Calls Tryd.prog 72 #[.agg #[.int .i64 1, .int .i64 n]] w fun e w' => e = .returned (.int .i64 (sgnV 1 n)) ∧ Below w.heap.size w w' := by
  have hal : Below w.heap.size w (w.alloc (.cells #[.int .i64 1, .int .i64 n] 54)) := (Below.refl _ _).alloc (Nat.le_refl _) _
  have HAL := Lib.hid hal
  have HB := Lib.hid (heap_alloc_new w (.cells #[.int .i64 1, .int .i64 n] 54))
  have HOK := Lib.hid (fun z => vecOk_any 1 n z (by omega) (by omega) n0 (by simpa using hn))
  have HRAW := Lib.hid (fun z => raw_any 1 n z n0 (by omega))
  have HBIT := Lib.hid (fun z => bit_any n 0 z n0 (by omega) (by omega))
  clear hal
  simp only [Int.cast_ofNat_Int] at HOK HRAW HBIT
  have v0 := (cell_of_block HB.out 0).1
  have v1 := (cell_of_block HB.out 1).1
  go_enter Tryd.func72, Tryd.ntmps72
  go_wp2_with fail
  clear v0 v1
  refine (HOK.out _).mono ?_
  generalize w.alloc (.cells #[.int .i64 1, .int .i64 n] 54) = w0 at *
  rintro e w1 ⟨rfl, hb1⟩
  have HB1 := Lib.hid ((hb1.block _ (lt_of_block HB.out)).trans HB.out)
  have HBB := Lib.hid (bthen HAL.out hb1)
  have v0 := (cell_of_block HB1.out 0).1
  have v1 := (cell_of_block HB1.out 1).1
  have d0 := Later.cell v0
  have d1 := Later.cell v1
  clear hb1 HB HAL HOK
  go_wp2
  clear v0 v1
  refine wp_region_shares [[], [(0, 6)], [], [(2, 8)], [(3, 9)], [(1, 7), (4, 10)]]
    [.eq (.agg #[.int .i64 1, .int .i64 n]), Fact.u64B w1 n, .eq (.pointer (some ⟨w.heap.size, 0, none⟩)), .eq (.int .i64 1), .eq (.int .i64 0), Fact.boolC w1 (bitV n 0)]
    [] [] [] [5] [(0, 6), (1, 7), (2, 8), (3, 9), (4, 10), (5, 11)] (by kernel_rfl) (by kernel_rfl) (by kernel_rfl) (by kernel_rfl)
    ⟨?_, ?_, ?_, ?_, ?_, ?_, trivial⟩ ?_
  · intro vals x9 hC hF
    have hC := hC.resolve_left (by simp)
    have hsz := hC.size
    have e1 : x9.cell? _ = _ := d0 ⟨x9, hC⟩
    have e2 : x9.cell? _ = _ := d1 ⟨x9, hC⟩
    simp only [putsD, Act.put, List.setIfInBounds_toArray, List.set_cons_zero, List.set_cons_succ]
    go_wp2
    exact ⟨rfl, rfl, .inr (Below.refl _ _), .inr (.inl (by simp))⟩
  · intro vals x9 hC hF
    have hC := hC.resolve_left (by simp)
    have hsz := hC.size
    simp only [factsD, List.getD_cons_zero, List.getD_cons_succ, Fact.eq, Fact.row, Fact.lit, Fact.lit0, Fact.of, and_true, Fact.u64B, Fact.boolC] at hF
    simp only [putsD, Act.put, List.setIfInBounds_toArray, List.set_cons_zero, List.set_cons_succ]
    simp only [hF]
    go_wp2_with fail
    refine (HRAW.out _).mono ?_
    rintro e wx ⟨rfl, hb9⟩
    go_wp2
    exact ⟨rfl, ⟨rfl, bthen hC hb9⟩, .inr hb9, .inr (.inl (by simp))⟩
  · intro vals x9 hC hF
    simp only [putsD, Act.put, List.setIfInBounds_toArray, List.set_cons_zero, List.set_cons_succ]
    go_wp2
    exact ⟨rfl, rfl, .inr (Below.refl _ _), .inr (.inl (by simp))⟩
  · intro vals x9 hC hF
    have hC := hC.resolve_left (by simp)
    have hsz := hC.size
    have e1 : x9.cell? _ = _ := d0 ⟨x9, hC⟩
    simp only [factsD, List.getD_cons_zero, List.getD_cons_succ, Fact.eq, Fact.row, Fact.lit, Fact.lit0, Fact.of, and_true, Fact.u64B, Fact.boolC] at hF
    simp only [putsD, Act.put, List.setIfInBounds_toArray, List.set_cons_zero, List.set_cons_succ]
    simp only [hF]
    go_wp2
    exact ⟨rfl, rfl, .inr (Below.refl _ _), .inr (.inl (by simp))⟩
  · intro vals x9 hC hF
    simp only [factsD, List.getD_cons_zero, List.getD_cons_succ, Fact.eq, Fact.row, Fact.lit, Fact.lit0, Fact.of, and_true, Fact.u64B, Fact.boolC] at hF
    simp only [putsD, Act.put, List.setIfInBounds_toArray, List.set_cons_zero, List.set_cons_succ]
    simp only [hF]
    go_wp2
    exact ⟨rfl, rfl, .inr (Below.refl _ _), .inr (.inl (by simp))⟩
  · intro vals x9 hC hF
    have hC := hC.resolve_left (by simp)
    have hsz := hC.size
    simp only [factsD, List.getD_cons_zero, List.getD_cons_succ, Fact.eq, Fact.row, Fact.lit, Fact.lit0, Fact.of, and_true, Fact.u64B, Fact.boolC] at hF
    obtain ⟨⟨e7, hb7⟩, e10⟩ := hF
    simp only [putsD, Act.put, List.setIfInBounds_toArray, List.set_cons_zero, List.set_cons_succ]
    simp only [e7, e10]
    go_wp2_with fail
    refine (HBIT.out _).mono ?_
    rintro e wx ⟨rfl, rfl⟩
    go_wp2
    exact ⟨rfl, ⟨rfl, hb7⟩, .inr (Below.refl _ _), .inr (.inl (by simp))⟩
  · intro vals x9 hF
    simp only [facts, List.getD_cons_zero, List.getD_cons_succ, Fact.eq, Fact.row, Fact.lit, Fact.lit0, Fact.of, and_true, Fact.u64B, Fact.boolC] at hF
    obtain ⟨e11, hb9⟩ := hF
    simp only [putsD, Act.put, List.setIfInBounds_toArray, List.set_cons_zero, List.set_cons_succ]
    simp only [e11]
    have HB9 := Lib.hid ((hb9.block _ (lt_of_block HB1.out)).trans HB1.out)
    have HW9 := Lib.hid (bthen HBB.out hb9)
    have v0 := (cell_of_block HB9.out 0).1
    have v1 := (cell_of_block HB9.out 1).1
    clear hb9 e11 d0 d1
    cases hbit : bitV n 0
    · have hs : sgnV 1 n = n := if_neg (by rw [hbit]; simp)
      have HS := Lib.hid hs
      clear hs hbit
      go_wp2
      go_ret
      exact ⟨by rw [HS.out]; rfl, HW9.out⟩
    · have hs : sgnV 1 n = n - 2 := (if_pos hbit : sgnV 1 n = n - 2 ^ 1).trans (by simp)
      have HS := Lib.hid hs
      clear hs hbit
      go_wp2
      go_quiet (fail)
      go_wp2
      go_ret
      exact ⟨by rw [HS.out]; rfl, below_drewN HW9.out _⟩
set_option maxHeartbeats 2000000 in
theorem vecSigned_2 (n : Int) (w : World) (n0 : 0 ≤ n) (hn : n < 4) :
    Calls Tryd.prog 72 #[.agg #[.int .i64 2, .int .i64 n]] w fun e w' => e = .returned (.int .i64 (sgnV 2 n)) ∧ Below w.heap.size w w' := by
  have hal : Below w.heap.size w (w.alloc (.cells #[.int .i64 2, .int .i64 n] 54)) := (Below.refl _ _).alloc (Nat.le_refl _) _
  have HAL := Lib.hid hal
  have HB := Lib.hid (heap_alloc_new w (.cells #[.int .i64 2, .int .i64 n] 54))
  have HOK := Lib.hid (fun z => vecOk_any 2 n z (by omega) (by omega) n0 (by simpa using hn))
  have HRAW := Lib.hid (fun z => raw_any 2 n z n0 (by omega))
  have HBIT := Lib.hid (fun z => bit_any n 1 z n0 (by omega) (by omega))
  clear hal
  simp only [Int.cast_ofNat_Int] at HOK HRAW HBIT
  have v0 := (cell_of_block HB.out 0).1
  have v1 := (cell_of_block HB.out 1).1
  go_enter Tryd.func72, Tryd.ntmps72
  go_wp2_with fail
  clear v0 v1
  refine (HOK.out _).mono ?_
  generalize w.alloc (.cells #[.int .i64 2, .int .i64 n] 54) = w0 at *
  rintro e w1 ⟨rfl, hb1⟩
  have HB1 := Lib.hid ((hb1.block _ (lt_of_block HB.out)).trans HB.out)
  have HBB := Lib.hid (bthen HAL.out hb1)
  have v0 := (cell_of_block HB1.out 0).1
  have v1 := (cell_of_block HB1.out 1).1
  have d0 := Later.cell v0
  have d1 := Later.cell v1
  clear hb1 HB HAL HOK
  go_wp2
  clear v0 v1
  refine wp_region_shares [[], [(0, 6)], [], [(2, 8)], [(3, 9)], [(1, 7), (4, 10)]]
    [.eq (.agg #[.int .i64 2, .int .i64 n]), Fact.u64B w1 n, .eq (.pointer (some ⟨w.heap.size, 0, none⟩)), .eq (.int .i64 2), .eq (.int .i64 1), Fact.boolC w1 (bitV n 1)]
    [] [] [] [5] [(0, 6), (1, 7), (2, 8), (3, 9), (4, 10), (5, 11)] (by kernel_rfl) (by kernel_rfl) (by kernel_rfl) (by kernel_rfl)
    ⟨?_, ?_, ?_, ?_, ?_, ?_, trivial⟩ ?_
  · intro vals x9 hC hF
    have hC := hC.resolve_left (by simp)
    have hsz := hC.size
    have e1 : x9.cell? _ = _ := d0 ⟨x9, hC⟩
    have e2 : x9.cell? _ = _ := d1 ⟨x9, hC⟩
    simp only [putsD, Act.put, List.setIfInBounds_toArray, List.set_cons_zero, List.set_cons_succ]
    go_wp2
    exact ⟨rfl, rfl, .inr (Below.refl _ _), .inr (.inl (by simp))⟩
  · intro vals x9 hC hF
    have hC := hC.resolve_left (by simp)
    have hsz := hC.size
    simp only [factsD, List.getD_cons_zero, List.getD_cons_succ, Fact.eq, Fact.row, Fact.lit, Fact.lit0, Fact.of, and_true, Fact.u64B, Fact.boolC] at hF
    simp only [putsD, Act.put, List.setIfInBounds_toArray, List.set_cons_zero, List.set_cons_succ]
    simp only [hF]
    go_wp2_with fail
    refine (HRAW.out _).mono ?_
    rintro e wx ⟨rfl, hb9⟩
    go_wp2
    exact ⟨rfl, ⟨rfl, bthen hC hb9⟩, .inr hb9, .inr (.inl (by simp))⟩
  · intro vals x9 hC hF
    simp only [putsD, Act.put, List.setIfInBounds_toArray, List.set_cons_zero, List.set_cons_succ]
    go_wp2
    exact ⟨rfl, rfl, .inr (Below.refl _ _), .inr (.inl (by simp))⟩
  · intro vals x9 hC hF
    have hC := hC.resolve_left (by simp)
    have hsz := hC.size
    have e1 : x9.cell? _ = _ := d0 ⟨x9, hC⟩
    simp only [factsD, List.getD_cons_zero, List.getD_cons_succ, Fact.eq, Fact.row, Fact.lit, Fact.lit0, Fact.of, and_true, Fact.u64B, Fact.boolC] at hF
    simp only [putsD, Act.put, List.setIfInBounds_toArray, List.set_cons_zero, List.set_cons_succ]
    simp only [hF]
    go_wp2
    exact ⟨rfl, rfl, .inr (Below.refl _ _), .inr (.inl (by simp))⟩
  · intro vals x9 hC hF
    simp only [factsD, List.getD_cons_zero, List.getD_cons_succ, Fact.eq, Fact.row, Fact.lit, Fact.lit0, Fact.of, and_true, Fact.u64B, Fact.boolC] at hF
    simp only [putsD, Act.put, List.setIfInBounds_toArray, List.set_cons_zero, List.set_cons_succ]
    simp only [hF]
    go_wp2
    exact ⟨rfl, rfl, .inr (Below.refl _ _), .inr (.inl (by simp))⟩
  · intro vals x9 hC hF
    have hC := hC.resolve_left (by simp)
    have hsz := hC.size
    simp only [factsD, List.getD_cons_zero, List.getD_cons_succ, Fact.eq, Fact.row, Fact.lit, Fact.lit0, Fact.of, and_true, Fact.u64B, Fact.boolC] at hF
    obtain ⟨⟨e7, hb7⟩, e10⟩ := hF
    simp only [putsD, Act.put, List.setIfInBounds_toArray, List.set_cons_zero, List.set_cons_succ]
    simp only [e7, e10]
    go_wp2_with fail
    refine (HBIT.out _).mono ?_
    rintro e wx ⟨rfl, rfl⟩
    go_wp2
    exact ⟨rfl, ⟨rfl, hb7⟩, .inr (Below.refl _ _), .inr (.inl (by simp))⟩
  · intro vals x9 hF
    simp only [facts, List.getD_cons_zero, List.getD_cons_succ, Fact.eq, Fact.row, Fact.lit, Fact.lit0, Fact.of, and_true, Fact.u64B, Fact.boolC] at hF
    obtain ⟨e11, hb9⟩ := hF
    simp only [putsD, Act.put, List.setIfInBounds_toArray, List.set_cons_zero, List.set_cons_succ]
    simp only [e11]
    have HB9 := Lib.hid ((hb9.block _ (lt_of_block HB1.out)).trans HB1.out)
    have HW9 := Lib.hid (bthen HBB.out hb9)
    have v0 := (cell_of_block HB9.out 0).1
    have v1 := (cell_of_block HB9.out 1).1
    clear hb9 e11 d0 d1
    cases hbit : bitV n 1
    · have hs : sgnV 2 n = n := if_neg (by rw [hbit]; simp)
      have HS := Lib.hid hs
      clear hs hbit
      go_wp2
      go_ret
      exact ⟨by rw [HS.out]; rfl, HW9.out⟩
    · have hs : sgnV 2 n = n - 4 := (if_pos hbit : sgnV 2 n = n - 2 ^ 2).trans (by simp)
      have HS := Lib.hid hs
      clear hs hbit
      go_wp2
      go_quiet (fail)
      go_wp2
      go_ret
      exact ⟨by rw [HS.out]; rfl, below_drewN HW9.out _⟩
set_option maxHeartbeats 2000000 in
theorem vecSigned_3 (n : Int) (w : World) (n0 : 0 ≤ n) (hn : n < 8) :
    Calls Tryd.prog 72 #[.agg #[.int .i64 3, .int .i64 n]] w fun e w' => e = .returned (.int .i64 (sgnV 3 n)) ∧ Below w.heap.size w w' := by
  have hal : Below w.heap.size w (w.alloc (.cells #[.int .i64 3, .int .i64 n] 54)) := (Below.refl _ _).alloc (Nat.le_refl _) _
  have HAL := Lib.hid hal
  have HB := Lib.hid (heap_alloc_new w (.cells #[.int .i64 3, .int .i64 n] 54))
  have HOK := Lib.hid (fun z => vecOk_any 3 n z (by omega) (by omega) n0 (by simpa using hn))
  have HRAW := Lib.hid (fun z => raw_any 3 n z n0 (by omega))
  have HBIT := Lib.hid (fun z => bit_any n 2 z n0 (by omega) (by omega))
  clear hal
  simp only [Int.cast_ofNat_Int] at HOK HRAW HBIT
  have v0 := (cell_of_block HB.out 0).1
  have v1 := (cell_of_block HB.out 1).1
  go_enter Tryd.func72, Tryd.ntmps72
  go_wp2_with fail
  clear v0 v1
  refine (HOK.out _).mono ?_
  generalize w.alloc (.cells #[.int .i64 3, .int .i64 n] 54) = w0 at *
  rintro e w1 ⟨rfl, hb1⟩
  have HB1 := Lib.hid ((hb1.block _ (lt_of_block HB.out)).trans HB.out)
  have HBB := Lib.hid (bthen HAL.out hb1)
  have v0 := (cell_of_block HB1.out 0).1
  have v1 := (cell_of_block HB1.out 1).1
  have d0 := Later.cell v0
  have d1 := Later.cell v1
  clear hb1 HB HAL HOK
  go_wp2
  clear v0 v1
  refine wp_region_shares [[], [(0, 6)], [], [(2, 8)], [(3, 9)], [(1, 7), (4, 10)]]
    [.eq (.agg #[.int .i64 3, .int .i64 n]), Fact.u64B w1 n, .eq (.pointer (some ⟨w.heap.size, 0, none⟩)), .eq (.int .i64 3), .eq (.int .i64 2), Fact.boolC w1 (bitV n 2)]
    [] [] [] [5] [(0, 6), (1, 7), (2, 8), (3, 9), (4, 10), (5, 11)] (by kernel_rfl) (by kernel_rfl) (by kernel_rfl) (by kernel_rfl)
    ⟨?_, ?_, ?_, ?_, ?_, ?_, trivial⟩ ?_
  · intro vals x9 hC hF
    have hC := hC.resolve_left (by simp)
    have hsz := hC.size
    have e1 : x9.cell? _ = _ := d0 ⟨x9, hC⟩
    have e2 : x9.cell? _ = _ := d1 ⟨x9, hC⟩
    simp only [putsD, Act.put, List.setIfInBounds_toArray, List.set_cons_zero, List.set_cons_succ]
    go_wp2
    exact ⟨rfl, rfl, .inr (Below.refl _ _), .inr (.inl (by simp))⟩
  · intro vals x9 hC hF
    have hC := hC.resolve_left (by simp)
    have hsz := hC.size
    simp only [factsD, List.getD_cons_zero, List.getD_cons_succ, Fact.eq, Fact.row, Fact.lit, Fact.lit0, Fact.of, and_true, Fact.u64B, Fact.boolC] at hF
    simp only [putsD, Act.put, List.setIfInBounds_toArray, List.set_cons_zero, List.set_cons_succ]
    simp only [hF]
    go_wp2_with fail
    refine (HRAW.out _).mono ?_
    rintro e wx ⟨rfl, hb9⟩
    go_wp2
    exact ⟨rfl, ⟨rfl, bthen hC hb9⟩, .inr hb9, .inr (.inl (by simp))⟩
  · intro vals x9 hC hF
    simp only [putsD, Act.put, List.setIfInBounds_toArray, List.set_cons_zero, List.set_cons_succ]
    go_wp2
    exact ⟨rfl, rfl, .inr (Below.refl _ _), .inr (.inl (by simp))⟩
  · intro vals x9 hC hF
    have hC := hC.resolve_left (by simp)
    have hsz := hC.size
    have e1 : x9.cell? _ = _ := d0 ⟨x9, hC⟩
    simp only [factsD, List.getD_cons_zero, List.getD_cons_succ, Fact.eq, Fact.row, Fact.lit, Fact.lit0, Fact.of, and_true, Fact.u64B, Fact.boolC] at hF
    simp only [putsD, Act.put, List.setIfInBounds_toArray, List.set_cons_zero, List.set_cons_succ]
    simp only [hF]
    go_wp2
    exact ⟨rfl, rfl, .inr (Below.refl _ _), .inr (.inl (by simp))⟩
  · intro vals x9 hC hF
    simp only [factsD, List.getD_cons_zero, List.getD_cons_succ, Fact.eq, Fact.row, Fact.lit, Fact.lit0, Fact.of, and_true, Fact.u64B, Fact.boolC] at hF
    simp only [putsD, Act.put, List.setIfInBounds_toArray, List.set_cons_zero, List.set_cons_succ]
    simp only [hF]
    go_wp2
    exact ⟨rfl, rfl, .inr (Below.refl _ _), .inr (.inl (by simp))⟩
  · intro vals x9 hC hF
    have hC := hC.resolve_left (by simp)
    have hsz := hC.size
    simp only [factsD, List.getD_cons_zero, List.getD_cons_succ, Fact.eq, Fact.row, Fact.lit, Fact.lit0, Fact.of, and_true, Fact.u64B, Fact.boolC] at hF
    obtain ⟨⟨e7, hb7⟩, e10⟩ := hF
    simp only [putsD, Act.put, List.setIfInBounds_toArray, List.set_cons_zero, List.set_cons_succ]
    simp only [e7, e10]
    go_wp2_with fail
    refine (HBIT.out _).mono ?_
    rintro e wx ⟨rfl, rfl⟩
    go_wp2
    exact ⟨rfl, ⟨rfl, hb7⟩, .inr (Below.refl _ _), .inr (.inl (by simp))⟩
  · intro vals x9 hF
    simp only [facts, List.getD_cons_zero, List.getD_cons_succ, Fact.eq, Fact.row, Fact.lit, Fact.lit0, Fact.of, and_true, Fact.u64B, Fact.boolC] at hF
    obtain ⟨e11, hb9⟩ := hF
    simp only [putsD, Act.put, List.setIfInBounds_toArray, List.set_cons_zero, List.set_cons_succ]
    simp only [e11]
    have HB9 := Lib.hid ((hb9.block _ (lt_of_block HB1.out)).trans HB1.out)
    have HW9 := Lib.hid (bthen HBB.out hb9)
    have v0 := (cell_of_block HB9.out 0).1
    have v1 := (cell_of_block HB9.out 1).1
    clear hb9 e11 d0 d1
    cases hbit : bitV n 2
    · have hs : sgnV 3 n = n := if_neg (by rw [hbit]; simp)
      have HS := Lib.hid hs
      clear hs hbit
      go_wp2
      go_ret
      exact ⟨by rw [HS.out]; rfl, HW9.out⟩
    · have hs : sgnV 3 n = n - 8 := (if_pos hbit : sgnV 3 n = n - 2 ^ 3).trans (by simp)
      have HS := Lib.hid hs
      clear hs hbit
      go_wp2
      go_quiet (fail)
      go_wp2
      go_ret
      exact ⟨by rw [HS.out]; rfl, below_drewN HW9.out _⟩
set_option maxHeartbeats 2000000 in
theorem vecSigned_4 (n : Int) (w : World) (n0 : 0 ≤ n) (hn : n < 16) :
    Calls Tryd.prog 72 #[.agg #[.int .i64 4, .int .i64 n]] w fun e w' => e = .returned (.int .i64 (sgnV 4 n)) ∧ Below w.heap.size w w' := by
  have hal : Below w.heap.size w (w.alloc (.cells #[.int .i64 4, .int .i64 n] 54)) := (Below.refl _ _).alloc (Nat.le_refl _) _
  have HAL := Lib.hid hal
  have HB := Lib.hid (heap_alloc_new w (.cells #[.int .i64 4, .int .i64 n] 54))
  have HOK := Lib.hid (fun z => vecOk_any 4 n z (by omega) (by omega) n0 (by simpa using hn))
  have HRAW := Lib.hid (fun z => raw_any 4 n z n0 (by omega))
  have HBIT := Lib.hid (fun z => bit_any n 3 z n0 (by omega) (by omega))
  clear hal
  simp only [Int.cast_ofNat_Int] at HOK HRAW HBIT
  have v0 := (cell_of_block HB.out 0).1
  have v1 := (cell_of_block HB.out 1).1
  go_enter Tryd.func72, Tryd.ntmps72
  go_wp2_with fail
  clear v0 v1
  refine (HOK.out _).mono ?_
  generalize w.alloc (.cells #[.int .i64 4, .int .i64 n] 54) = w0 at *
  rintro e w1 ⟨rfl, hb1⟩
  have HB1 := Lib.hid ((hb1.block _ (lt_of_block HB.out)).trans HB.out)
  have HBB := Lib.hid (bthen HAL.out hb1)
  have v0 := (cell_of_block HB1.out 0).1
  have v1 := (cell_of_block HB1.out 1).1
  have d0 := Later.cell v0
  have d1 := Later.cell v1
  clear hb1 HB HAL HOK
  go_wp2
  clear v0 v1
  refine wp_region_shares [[], [(0, 6)], [], [(2, 8)], [(3, 9)], [(1, 7), (4, 10)]]
    [.eq (.agg #[.int .i64 4, .int .i64 n]), Fact.u64B w1 n, .eq (.pointer (some ⟨w.heap.size, 0, none⟩)), .eq (.int .i64 4), .eq (.int .i64 3), Fact.boolC w1 (bitV n 3)]
    [] [] [] [5] [(0, 6), (1, 7), (2, 8), (3, 9), (4, 10), (5, 11)] (by kernel_rfl) (by kernel_rfl) (by kernel_rfl) (by kernel_rfl)
    ⟨?_, ?_, ?_, ?_, ?_, ?_, trivial⟩ ?_
  · intro vals x9 hC hF
    have hC := hC.resolve_left (by simp)
    have hsz := hC.size
    have e1 : x9.cell? _ = _ := d0 ⟨x9, hC⟩
    have e2 : x9.cell? _ = _ := d1 ⟨x9, hC⟩
    simp only [putsD, Act.put, List.setIfInBounds_toArray, List.set_cons_zero, List.set_cons_succ]
    go_wp2
    exact ⟨rfl, rfl, .inr (Below.refl _ _), .inr (.inl (by simp))⟩
  · intro vals x9 hC hF
    have hC := hC.resolve_left (by simp)
    have hsz := hC.size
    simp only [factsD, List.getD_cons_zero, List.getD_cons_succ, Fact.eq, Fact.row, Fact.lit, Fact.lit0, Fact.of, and_true, Fact.u64B, Fact.boolC] at hF
    simp only [putsD, Act.put, List.setIfInBounds_toArray, List.set_cons_zero, List.set_cons_succ]
    simp only [hF]
    go_wp2_with fail
    refine (HRAW.out _).mono ?_
    rintro e wx ⟨rfl, hb9⟩
    go_wp2
    exact ⟨rfl, ⟨rfl, bthen hC hb9⟩, .inr hb9, .inr (.inl (by simp))⟩
  · intro vals x9 hC hF
    simp only [putsD, Act.put, List.setIfInBounds_toArray, List.set_cons_zero, List.set_cons_succ]
    go_wp2
    exact ⟨rfl, rfl, .inr (Below.refl _ _), .inr (.inl (by simp))⟩
  · intro vals x9 hC hF
    have hC := hC.resolve_left (by simp)
    have hsz := hC.size
    have e1 : x9.cell? _ = _ := d0 ⟨x9, hC⟩
    simp only [factsD, List.getD_cons_zero, List.getD_cons_succ, Fact.eq, Fact.row, Fact.lit, Fact.lit0, Fact.of, and_true, Fact.u64B, Fact.boolC] at hF
    simp only [putsD, Act.put, List.setIfInBounds_toArray, List.set_cons_zero, List.set_cons_succ]
    simp only [hF]
    go_wp2
    exact ⟨rfl, rfl, .inr (Below.refl _ _), .inr (.inl (by simp))⟩
  · intro vals x9 hC hF
    simp only [factsD, List.getD_cons_zero, List.getD_cons_succ, Fact.eq, Fact.row, Fact.lit, Fact.lit0, Fact.of, and_true, Fact.u64B, Fact.boolC] at hF
    simp only [putsD, Act.put, List.setIfInBounds_toArray, List.set_cons_zero, List.set_cons_succ]
    simp only [hF]
    go_wp2
    exact ⟨rfl, rfl, .inr (Below.refl _ _), .inr (.inl (by simp))⟩
  · intro vals x9 hC hF
    have hC := hC.resolve_left (by simp)
    have hsz := hC.size
    simp only [factsD, List.getD_cons_zero, List.getD_cons_succ, Fact.eq, Fact.row, Fact.lit, Fact.lit0, Fact.of, and_true, Fact.u64B, Fact.boolC] at hF
    obtain ⟨⟨e7, hb7⟩, e10⟩ := hF
    simp only [putsD, Act.put, List.setIfInBounds_toArray, List.set_cons_zero, List.set_cons_succ]
    simp only [e7, e10]
    go_wp2_with fail
    refine (HBIT.out _).mono ?_
    rintro e wx ⟨rfl, rfl⟩
    go_wp2
    exact ⟨rfl, ⟨rfl, hb7⟩, .inr (Below.refl _ _), .inr (.inl (by simp))⟩
  · intro vals x9 hF
    simp only [facts, List.getD_cons_zero, List.getD_cons_succ, Fact.eq, Fact.row, Fact.lit, Fact.lit0, Fact.of, and_true, Fact.u64B, Fact.boolC] at hF
    obtain ⟨e11, hb9⟩ := hF
    simp only [putsD, Act.put, List.setIfInBounds_toArray, List.set_cons_zero, List.set_cons_succ]
    simp only [e11]
    have HB9 := Lib.hid ((hb9.block _ (lt_of_block HB1.out)).trans HB1.out)
    have HW9 := Lib.hid (bthen HBB.out hb9)
    have v0 := (cell_of_block HB9.out 0).1
    have v1 := (cell_of_block HB9.out 1).1
    clear hb9 e11 d0 d1
    cases hbit : bitV n 3
    · have hs : sgnV 4 n = n := if_neg (by rw [hbit]; simp)
      have HS := Lib.hid hs
      clear hs hbit
      go_wp2
      go_ret
      exact ⟨by rw [HS.out]; rfl, HW9.out⟩
    · have hs : sgnV 4 n = n - 16 := (if_pos hbit : sgnV 4 n = n - 2 ^ 4).trans (by simp)
      have HS := Lib.hid hs
      clear hs hbit
      go_wp2
      go_quiet (fail)
      go_wp2
      go_ret
      exact ⟨by rw [HS.out]; rfl, below_drewN HW9.out _⟩
theorem vecSigned_any (m : Nat) (n : Int) (w : World) (h : 1 ≤ m) (h' : m ≤ 4) (n0 : 0 ≤ n) (hn : n < 2 ^ m) :
    Calls Tryd.prog 72 #[.agg #[.int .i64 (m : Int), .int .i64 n]] w fun e w' => e = .returned (.int .i64 (sgnV m n)) ∧ Below w.heap.size w w' := by
  rcases two_pow_cases h h' hn with ⟨rfl, hn⟩ | ⟨rfl, hn⟩ | ⟨rfl, hn⟩ | ⟨rfl, hn⟩
  · exact vecSigned_1 n w n0 hn
  · exact vecSigned_2 n w n0 hn
  · exact vecSigned_3 n w n0 hn
  · exact vecSigned_4 n w n0 hn
theorem eqlV (w : World) (m p q : Int) : (binOp .eql 54 (.agg #[.int .i64 m, .int .i64 p]) (.agg #[.int .i64 m, .int .i64 q])).run Tryd.prog w = .ok (.bool (decide (p = q))) w := by
  have hh : Tryd.prog.stoodInHeld 54 = false := by kernel_rfl
  simp [go_sem, hh]
  (repeat' split) <;> simp_all
/-- A comparison of two numbers. -/
def cmpV (op : Int) (m : Nat) (p q : Int) : Bool := if op = 15 then decide (p = q) else if op = 16 then decide (p < q) else decide (sgnV m p < sgnV m q)
end Go.Proofs.YtjghcaghigebjaaDoor

/-! The program's VecCmp where the vectors are right and of one width. -/
namespace Go.Proofs.YtjghcaghigebjaaDoor
open Go Go.RowKit

def Fact.i64B (W : World) (n : Int) : Fact := .of (fun v x => v = .int .i64 n ∧ Below W.heap.size W x) fun _ _ _ ⟨h1, h2⟩ hb => ⟨h1, bthen h2 hb⟩
def Fact.boolW (W : World) (b : Bool) : Fact := .of (fun v x => v = .bool b ∧ Below W.heap.size W x) fun _ _ _ ⟨h1, h2⟩ hb => ⟨h1, bthen h2 hb⟩
theorem sgnV_bnd (m : Nat) (n : Int) (h : m ≤ 4) (n0 : 0 ≤ n) (hn : n < 16) : -16 ≤ sgnV m n ∧ sgnV m n < 16 := by
  have h2 : (2 : Int) ^ m ≤ 16 ∧ (0 : Int) ≤ 2 ^ m := by
    have : m = 0 ∨ m = 1 ∨ m = 2 ∨ m = 3 ∨ m = 4 := by omega
    rcases this with rfl | rfl | rfl | rfl | rfl <;> simp
  unfold sgnV
  split <;> omega
theorem lt16_of {m : Nat} {n : Int} (h : m ≤ 4) (hn : n < 2 ^ m) : n < 16 := by
  have : m = 0 ∨ m = 1 ∨ m = 2 ∨ m = 3 ∨ m = 4 := by omega
  rcases this with rfl | rfl | rfl | rfl | rfl <;> simp at hn <;> omega
set_option maxHeartbeats 4000000 in
theorem vecCmp_15 (m : Nat) (p q : Int) (w : World) (h : 1 ≤ m) (h' : m ≤ 4) (p0 : 0 ≤ p) (hp : p < 2 ^ m) (q0 : 0 ≤ q) (hq : q < 2 ^ m) :
    Calls Tryd.prog 35 #[.int .i64 15, (.agg #[.int .i64 (m : Int), .int .i64 p]), (.agg #[.int .i64 (m : Int), .int .i64 q])] w fun e w' => e = .returned (.tuple #[.bool (cmpV 15 m p q), .bool true]) ∧ Below w.heap.size w w' := by
  have hal1 : Below w.heap.size w (w.alloc (.cells #[.int .i64 (m : Int), .int .i64 p] 54)) := (Below.refl _ _).alloc (Nat.le_refl _) _
  have hal : Below w.heap.size w ((w.alloc (.cells #[.int .i64 (m : Int), .int .i64 p] 54)).alloc (.cells #[.int .i64 (m : Int), .int .i64 q] 54)) := hal1.alloc hal1.size _
  have HAL := Lib.hid hal
  have HBQ := Lib.hid (heap_alloc_new (w.alloc (.cells #[.int .i64 (m : Int), .int .i64 p] 54)) (.cells #[.int .i64 (m : Int), .int .i64 q] 54))
  have HBP := Lib.hid ((((Below.refl (w.alloc (.cells #[.int .i64 (m : Int), .int .i64 p] 54)).heap.size _).alloc (Nat.le_refl _) (.cells #[.int .i64 (m : Int), .int .i64 q] 54)).block _ (lt_of_block (heap_alloc_new w (.cells #[.int .i64 (m : Int), .int .i64 p] 54)))).trans (heap_alloc_new w (.cells #[.int .i64 (m : Int), .int .i64 p] 54)))
  have HP := Lib.hid (fun z => vecOk_any m p z h h' p0 hp)
  have HQ := Lib.hid (fun z => vecOk_any m q z h h' q0 hq)
  have HSP := Lib.hid (fun z => vecSigned_any m p z h h' p0 hp)
  have HSQ := Lib.hid (fun z => vecSigned_any m q z h h' q0 hq)
  have HM1 := Lib.hid h'
  have HPB := Lib.hid (And.intro p0 (lt16_of h' hp))
  have HQB := Lib.hid (And.intro q0 (lt16_of h' hq))
  have HSB := Lib.hid (And.intro (sgnV_bnd m p h' p0 (lt16_of h' hp)) (sgnV_bnd m q h' q0 (lt16_of h' hq)))
  have HC15 := Lib.hid (show cmpV 15 m p q = decide (p = q) from rfl)
  have hsz1 : (w.alloc (.cells #[.int .i64 (m : Int), .int .i64 p] 54)).heap.size = w.heap.size + 1 := by simp
  rw [hsz1] at HBQ
  clear hal hal1 hsz1 p0 hp q0 hq h
  have v0 := (cell_of_block HBP.out 0).1
  have v1 := (cell_of_block HBP.out 1).1
  have u0 := (cell_of_block HBQ.out 0).1
  have u1 := (cell_of_block HBQ.out 1).1
  go_enter Tryd.func35, Tryd.ntmps35
  go_wp2_with fail
  clear v0 v1 u0 u1
  refine (HP.out _).mono ?_
  generalize (w.alloc (.cells #[.int .i64 (m : Int), .int .i64 p] 54)).alloc (.cells #[.int .i64 (m : Int), .int .i64 q] 54) = w0 at *
  rintro e w1 ⟨rfl, hb1⟩
  have HBP1 := Lib.hid ((hb1.block _ (lt_of_block HBP.out)).trans HBP.out)
  have HBQ1 := Lib.hid ((hb1.block _ (lt_of_block HBQ.out)).trans HBQ.out)
  have HW1 := Lib.hid (bthen HAL.out hb1)
  clear hb1 HBP HBQ HAL
  have v0 := (cell_of_block HBP1.out 0).1
  have v1 := (cell_of_block HBP1.out 1).1
  have u0 := (cell_of_block HBQ1.out 0).1
  have u1 := (cell_of_block HBQ1.out 1).1
  go_wp2_with fail
  clear v0 v1 u0 u1
  refine (HQ.out _).mono ?_
  rintro e w2 ⟨rfl, hb1⟩
  have HBP2 := Lib.hid ((hb1.block _ (lt_of_block HBP1.out)).trans HBP1.out)
  have HBQ2 := Lib.hid ((hb1.block _ (lt_of_block HBQ1.out)).trans HBQ1.out)
  have HW2 := Lib.hid (bthen HW1.out hb1)
  clear hb1 HBP1 HBQ1 HW1
  have v0 := (cell_of_block HBP2.out 0).1
  have v1 := (cell_of_block HBP2.out 1).1
  have u0 := (cell_of_block HBQ2.out 0).1
  have u1 := (cell_of_block HBQ2.out 1).1
  cases hpq : decide (p = q)
  · have HE := Lib.hid (fun z => (eqlV z m p q).trans (by rw [hpq]))
    rw [hpq] at HC15
    clear hpq
    have he := HE.out
    go_wp2
    refine bodyPost_ret (v := .tuple #[.bool false, .bool true]) (by simp [results, Tryd.results35, go_sem]) rfl ?_
    exact ⟨by rw [HC15.out], HW2.out⟩
  · have HE := Lib.hid (fun z => (eqlV z m p q).trans (by rw [hpq]))
    rw [hpq] at HC15
    clear hpq
    have he := HE.out
    go_wp2
    refine bodyPost_ret (v := .tuple #[.bool true, .bool true]) (by simp [results, Tryd.results35, go_sem]) rfl ?_
    exact ⟨by rw [HC15.out], HW2.out⟩
set_option maxHeartbeats 4000000 in
theorem vecCmp_16 (m : Nat) (p q : Int) (w : World) (h : 1 ≤ m) (h' : m ≤ 4) (p0 : 0 ≤ p) (hp : p < 2 ^ m) (q0 : 0 ≤ q) (hq : q < 2 ^ m) :
    Calls Tryd.prog 35 #[.int .i64 16, (.agg #[.int .i64 (m : Int), .int .i64 p]), (.agg #[.int .i64 (m : Int), .int .i64 q])] w fun e w' => e = .returned (.tuple #[.bool (cmpV 16 m p q), .bool true]) ∧ Below w.heap.size w w' := by
  have hal1 : Below w.heap.size w (w.alloc (.cells #[.int .i64 (m : Int), .int .i64 p] 54)) := (Below.refl _ _).alloc (Nat.le_refl _) _
  have hal : Below w.heap.size w ((w.alloc (.cells #[.int .i64 (m : Int), .int .i64 p] 54)).alloc (.cells #[.int .i64 (m : Int), .int .i64 q] 54)) := hal1.alloc hal1.size _
  have HAL := Lib.hid hal
  have HBQ := Lib.hid (heap_alloc_new (w.alloc (.cells #[.int .i64 (m : Int), .int .i64 p] 54)) (.cells #[.int .i64 (m : Int), .int .i64 q] 54))
  have HBP := Lib.hid ((((Below.refl (w.alloc (.cells #[.int .i64 (m : Int), .int .i64 p] 54)).heap.size _).alloc (Nat.le_refl _) (.cells #[.int .i64 (m : Int), .int .i64 q] 54)).block _ (lt_of_block (heap_alloc_new w (.cells #[.int .i64 (m : Int), .int .i64 p] 54)))).trans (heap_alloc_new w (.cells #[.int .i64 (m : Int), .int .i64 p] 54)))
  have HP := Lib.hid (fun z => vecOk_any m p z h h' p0 hp)
  have HQ := Lib.hid (fun z => vecOk_any m q z h h' q0 hq)
  have HSP := Lib.hid (fun z => vecSigned_any m p z h h' p0 hp)
  have HSQ := Lib.hid (fun z => vecSigned_any m q z h h' q0 hq)
  have HM1 := Lib.hid h'
  have HPB := Lib.hid (And.intro p0 (lt16_of h' hp))
  have HQB := Lib.hid (And.intro q0 (lt16_of h' hq))
  have HSB := Lib.hid (And.intro (sgnV_bnd m p h' p0 (lt16_of h' hp)) (sgnV_bnd m q h' q0 (lt16_of h' hq)))
  have HC16 := Lib.hid (show cmpV 16 m p q = decide (p < q) from rfl)
  have hsz1 : (w.alloc (.cells #[.int .i64 (m : Int), .int .i64 p] 54)).heap.size = w.heap.size + 1 := by simp
  rw [hsz1] at HBQ
  clear hal hal1 hsz1 p0 hp q0 hq h
  have v0 := (cell_of_block HBP.out 0).1
  have v1 := (cell_of_block HBP.out 1).1
  have u0 := (cell_of_block HBQ.out 0).1
  have u1 := (cell_of_block HBQ.out 1).1
  go_enter Tryd.func35, Tryd.ntmps35
  go_wp2_with fail
  clear v0 v1 u0 u1
  refine (HP.out _).mono ?_
  generalize (w.alloc (.cells #[.int .i64 (m : Int), .int .i64 p] 54)).alloc (.cells #[.int .i64 (m : Int), .int .i64 q] 54) = w0 at *
  rintro e w1 ⟨rfl, hb1⟩
  have HBP1 := Lib.hid ((hb1.block _ (lt_of_block HBP.out)).trans HBP.out)
  have HBQ1 := Lib.hid ((hb1.block _ (lt_of_block HBQ.out)).trans HBQ.out)
  have HW1 := Lib.hid (bthen HAL.out hb1)
  clear hb1 HBP HBQ HAL
  have v0 := (cell_of_block HBP1.out 0).1
  have v1 := (cell_of_block HBP1.out 1).1
  have u0 := (cell_of_block HBQ1.out 0).1
  have u1 := (cell_of_block HBQ1.out 1).1
  go_wp2_with fail
  clear v0 v1 u0 u1
  refine (HQ.out _).mono ?_
  rintro e w2 ⟨rfl, hb1⟩
  have HBP2 := Lib.hid ((hb1.block _ (lt_of_block HBP1.out)).trans HBP1.out)
  have HBQ2 := Lib.hid ((hb1.block _ (lt_of_block HBQ1.out)).trans HBQ1.out)
  have HW2 := Lib.hid (bthen HW1.out hb1)
  clear hb1 HBP1 HBQ1 HW1
  have v0 := (cell_of_block HBP2.out 0).1
  have v1 := (cell_of_block HBP2.out 1).1
  have u0 := (cell_of_block HBQ2.out 0).1
  have u1 := (cell_of_block HBQ2.out 1).1
  go_wp2
  refine bodyPost_ret (v := .tuple #[.bool (decide (p < q)), .bool true]) (by simp [results, Tryd.results35, go_sem]) rfl ?_
  exact ⟨by rw [HC16.out], HW2.out⟩
set_option maxHeartbeats 4000000 in
theorem vecCmp_17 (m : Nat) (p q : Int) (w : World) (h : 1 ≤ m) (h' : m ≤ 4) (p0 : 0 ≤ p) (hp : p < 2 ^ m) (q0 : 0 ≤ q) (hq : q < 2 ^ m) :
    Calls Tryd.prog 35 #[.int .i64 17, (.agg #[.int .i64 (m : Int), .int .i64 p]), (.agg #[.int .i64 (m : Int), .int .i64 q])] w fun e w' => e = .returned (.tuple #[.bool (cmpV 17 m p q), .bool true]) ∧ Below w.heap.size w w' := by
  have hal1 : Below w.heap.size w (w.alloc (.cells #[.int .i64 (m : Int), .int .i64 p] 54)) := (Below.refl _ _).alloc (Nat.le_refl _) _
  have hal : Below w.heap.size w ((w.alloc (.cells #[.int .i64 (m : Int), .int .i64 p] 54)).alloc (.cells #[.int .i64 (m : Int), .int .i64 q] 54)) := hal1.alloc hal1.size _
  have HAL := Lib.hid hal
  have HBQ := Lib.hid (heap_alloc_new (w.alloc (.cells #[.int .i64 (m : Int), .int .i64 p] 54)) (.cells #[.int .i64 (m : Int), .int .i64 q] 54))
  have HBP := Lib.hid ((((Below.refl (w.alloc (.cells #[.int .i64 (m : Int), .int .i64 p] 54)).heap.size _).alloc (Nat.le_refl _) (.cells #[.int .i64 (m : Int), .int .i64 q] 54)).block _ (lt_of_block (heap_alloc_new w (.cells #[.int .i64 (m : Int), .int .i64 p] 54)))).trans (heap_alloc_new w (.cells #[.int .i64 (m : Int), .int .i64 p] 54)))
  have HP := Lib.hid (fun z => vecOk_any m p z h h' p0 hp)
  have HQ := Lib.hid (fun z => vecOk_any m q z h h' q0 hq)
  have HSP := Lib.hid (fun z => vecSigned_any m p z h h' p0 hp)
  have HSQ := Lib.hid (fun z => vecSigned_any m q z h h' q0 hq)
  have HM1 := Lib.hid h'
  have HPB := Lib.hid (And.intro p0 (lt16_of h' hp))
  have HQB := Lib.hid (And.intro q0 (lt16_of h' hq))
  have HSB := Lib.hid (And.intro (sgnV_bnd m p h' p0 (lt16_of h' hp)) (sgnV_bnd m q h' q0 (lt16_of h' hq)))
  have HC17 := Lib.hid (show cmpV 17 m p q = decide (sgnV m p < sgnV m q) from rfl)
  have hsz1 : (w.alloc (.cells #[.int .i64 (m : Int), .int .i64 p] 54)).heap.size = w.heap.size + 1 := by simp
  rw [hsz1] at HBQ
  clear hal hal1 hsz1 p0 hp q0 hq h
  have v0 := (cell_of_block HBP.out 0).1
  have v1 := (cell_of_block HBP.out 1).1
  have u0 := (cell_of_block HBQ.out 0).1
  have u1 := (cell_of_block HBQ.out 1).1
  go_enter Tryd.func35, Tryd.ntmps35
  go_wp2_with fail
  clear v0 v1 u0 u1
  refine (HP.out _).mono ?_
  generalize (w.alloc (.cells #[.int .i64 (m : Int), .int .i64 p] 54)).alloc (.cells #[.int .i64 (m : Int), .int .i64 q] 54) = w0 at *
  rintro e w1 ⟨rfl, hb1⟩
  have HBP1 := Lib.hid ((hb1.block _ (lt_of_block HBP.out)).trans HBP.out)
  have HBQ1 := Lib.hid ((hb1.block _ (lt_of_block HBQ.out)).trans HBQ.out)
  have HW1 := Lib.hid (bthen HAL.out hb1)
  clear hb1 HBP HBQ HAL
  have v0 := (cell_of_block HBP1.out 0).1
  have v1 := (cell_of_block HBP1.out 1).1
  have u0 := (cell_of_block HBQ1.out 0).1
  have u1 := (cell_of_block HBQ1.out 1).1
  go_wp2_with fail
  clear v0 v1 u0 u1
  refine (HQ.out _).mono ?_
  rintro e w2 ⟨rfl, hb1⟩
  have HBP2 := Lib.hid ((hb1.block _ (lt_of_block HBP1.out)).trans HBP1.out)
  have HBQ2 := Lib.hid ((hb1.block _ (lt_of_block HBQ1.out)).trans HBQ1.out)
  have HW2 := Lib.hid (bthen HW1.out hb1)
  clear hb1 HBP1 HBQ1 HW1
  have v0 := (cell_of_block HBP2.out 0).1
  have v1 := (cell_of_block HBP2.out 1).1
  have u0 := (cell_of_block HBQ2.out 0).1
  have u1 := (cell_of_block HBQ2.out 1).1
  have d0 := Later.cell v0
  have d1 := Later.cell v1
  have f0 := Later.cell u0
  have f1 := Later.cell u1
  go_wp2
  clear v0 v1 u0 u1
  refine wp_region_shares [[], [(0, 38)], [], [(2, 40)], [(1, 39), (3, 41)], [(4, 42)], []]
    [.eq (.agg #[.int .i64 (m : Int), .int .i64 p]), Fact.i64B w2 (sgnV m p), .eq (.agg #[.int .i64 (m : Int), .int .i64 q]), Fact.i64B w2 (sgnV m q), Fact.boolW w2 (decide (sgnV m p < sgnV m q)), Fact.boolW w2 (decide (sgnV m p < sgnV m q)), .eq (.bool true)]
    [] [] [] [5, 6] [(0, 38), (1, 39), (2, 40), (3, 41), (4, 42), (5, 6), (6, 7)] (by kernel_rfl) (by kernel_rfl) (by kernel_rfl) (by kernel_rfl)
    ⟨?_, ?_, ?_, ?_, ?_, ?_, ?_, trivial⟩ ?_
  · intro vals x9 hC hF
    have hC := hC.resolve_left (by simp)
    have hsz := hC.size
    have e1 : x9.cell? _ = _ := d0 ⟨x9, hC⟩
    have e2 : x9.cell? _ = _ := d1 ⟨x9, hC⟩
    simp only [putsD, Act.put, List.setIfInBounds_toArray, List.set_cons_zero, List.set_cons_succ]
    go_wp2
    exact ⟨rfl, rfl, .inr (Below.refl _ _), .inr (.inl (by simp))⟩
  · intro vals x9 hC hF
    have hC := hC.resolve_left (by simp)
    have hsz := hC.size
    simp only [factsD, List.getD_cons_zero, List.getD_cons_succ, Fact.eq, Fact.row, Fact.lit, Fact.lit0, Fact.of, and_true, Fact.i64B, Fact.boolW] at hF
    simp only [putsD, Act.put, List.setIfInBounds_toArray, List.set_cons_zero, List.set_cons_succ]
    simp only [hF]
    go_wp2_with fail
    refine (HSP.out _).mono ?_
    rintro e wx ⟨rfl, hb9⟩
    go_wp2
    exact ⟨rfl, ⟨rfl, bthen hC hb9⟩, .inr hb9, .inr (.inl (by simp))⟩
  · intro vals x9 hC hF
    have hC := hC.resolve_left (by simp)
    have hsz := hC.size
    have e1 : x9.cell? _ = _ := f0 ⟨x9, hC⟩
    have e2 : x9.cell? _ = _ := f1 ⟨x9, hC⟩
    simp only [putsD, Act.put, List.setIfInBounds_toArray, List.set_cons_zero, List.set_cons_succ]
    go_wp2
    exact ⟨rfl, rfl, .inr (Below.refl _ _), .inr (.inl (by simp))⟩
  · intro vals x9 hC hF
    have hC := hC.resolve_left (by simp)
    have hsz := hC.size
    simp only [factsD, List.getD_cons_zero, List.getD_cons_succ, Fact.eq, Fact.row, Fact.lit, Fact.lit0, Fact.of, and_true, Fact.i64B, Fact.boolW] at hF
    simp only [putsD, Act.put, List.setIfInBounds_toArray, List.set_cons_zero, List.set_cons_succ]
    simp only [hF]
    go_wp2_with fail
    refine (HSQ.out _).mono ?_
    rintro e wx ⟨rfl, hb9⟩
    go_wp2
    exact ⟨rfl, ⟨rfl, bthen hC hb9⟩, .inr hb9, .inr (.inl (by simp))⟩
  · intro vals x9 hC hF
    have hC := hC.resolve_left (by simp)
    have hsz := hC.size
    simp only [factsD, List.getD_cons_zero, List.getD_cons_succ, Fact.eq, Fact.row, Fact.lit, Fact.lit0, Fact.of, and_true, Fact.i64B, Fact.boolW] at hF
    obtain ⟨⟨e39, hb7⟩, e41, hb8⟩ := hF
    simp only [putsD, Act.put, List.setIfInBounds_toArray, List.set_cons_zero, List.set_cons_succ]
    simp only [e39, e41]
    go_wp2
    exact ⟨rfl, ⟨rfl, hC⟩, .inr (Below.refl _ _), .inr (.inl (by simp))⟩
  · intro vals x9 hC hF
    have hC := hC.resolve_left (by simp)
    have hsz := hC.size
    simp only [factsD, List.getD_cons_zero, List.getD_cons_succ, Fact.eq, Fact.row, Fact.lit, Fact.lit0, Fact.of, and_true, Fact.i64B, Fact.boolW] at hF
    obtain ⟨e42, hb7⟩ := hF
    simp only [putsD, Act.put, List.setIfInBounds_toArray, List.set_cons_zero, List.set_cons_succ]
    simp only [e42]
    go_wp2
    exact ⟨rfl, ⟨rfl, hC⟩, .inr (Below.refl _ _), .inr (.inl (by simp))⟩
  · intro vals x9 hC hF
    simp only [putsD, Act.put, List.setIfInBounds_toArray, List.set_cons_zero, List.set_cons_succ]
    go_wp2
    exact ⟨rfl, rfl, .inr (Below.refl _ _), .inr (.inl (by simp))⟩
  · intro vals x9 hF
    simp only [facts, List.getD_cons_zero, List.getD_cons_succ, Fact.eq, Fact.row, Fact.lit, Fact.lit0, Fact.of, and_true, Fact.i64B, Fact.boolW] at hF
    obtain ⟨⟨e6, hb6⟩, e7⟩ := hF
    simp only [putsD, Act.put, List.setIfInBounds_toArray, List.set_cons_zero, List.set_cons_succ]
    simp only [e6, e7]
    have HF9 := Lib.hid (bthen HW2.out hb6)
    clear hb6
    go_wp2
    refine bodyPost_ret (v := .tuple #[.bool (decide (sgnV m p < sgnV m q)), .bool true]) (by simp [results, Tryd.results35, go_sem]) rfl ?_
    exact ⟨by rw [HC17.out], HF9.out⟩
end Go.Proofs.YtjghcaghigebjaaDoor

/-! The comparisons' law, plain: what BitsCmp answers is right. -/
namespace Go.Proofs.YtjghcaghigebjaaDoor
open Go Go.RowKit

theorem bitsB_end (l : List Bool) (b : Bool) : bitsB (l ++ [b]) = bitsB l + 2 ^ l.length * (if b then 1 else 0) := by
  induction l with
  | nil => simp [bitsB]
  | cons a l ih =>
    rw [List.cons_append, bitsB_cons, bitsB_cons, ih, List.length_cons, Int.pow_succ]
    cases b <;> simp <;> omega
theorem bitV_end (l : List Bool) (b : Bool) : bitV (bitsB (l ++ [b])) l.length = b := by
  unfold bitV
  rw [bitsB_end]
  obtain ⟨h0, h1⟩ := bitsB_lt l
  obtain ⟨a, ha⟩ := Int.eq_ofNat_of_zero_le h0
  rw [ha] at h1 ⊢
  have h2 : a < 2 ^ l.length := by exact_mod_cast h1
  have e : ((a : Int) + 2 ^ l.length * (if b then 1 else 0)) = ((a + 2 ^ l.length * (if b then 1 else 0) : Nat) : Int) := by
    cases b <;> simp
  rw [e, Int.toNat_natCast]
  cases b
  · simpa using Nat.testBit_lt_two_pow h2
  · rw [if_pos rfl, Nat.mul_one, Nat.add_comm, Nat.testBit_two_pow_add_eq, Nat.testBit_lt_two_pow h2]; rfl
theorem sgnV_end (l : List Bool) (b : Bool) : sgnV (l.length + 1) (bitsB (l ++ [b])) = bitsB l - 2 ^ l.length * (if b then 1 else 0) := by
  unfold sgnV
  rw [Nat.add_sub_cancel, bitV_end, bitsB_end, Int.pow_succ]
  cases b <;> simp <;> omega
theorem less_end (X Y : List Bool) (x y : Bool) (h : X.length = Y.length) : lessB (X ++ [y]) (Y ++ [x]) false = decide (sgnV (X.length + 1) (bitsB (X ++ [x])) < sgnV (X.length + 1) (bitsB (Y ++ [y]))) := by
  rw [lessB_val _ _ _ (by simp [h]), sgnV_end, h, sgnV_end, bitsB_end, bitsB_end, h]
  have h1 := bitsB_lt X
  have h2 := bitsB_lt Y
  rw [h] at h1
  have h0 : ∀ a b : Int, (if a = b then false else decide (a < b)) = decide (a < b) := fun a b => by
    split <;> rename_i e
    · rw [e]; simp
    · rfl
  rw [h0, decide_eq_decide]
  generalize (2 : Int) ^ Y.length = k at *
  cases x <;> cases y <;> simp only [Bool.false_eq_true, if_false, if_true] <;> omega
theorem topL_end (X Y : List Int) (x y : Int) (h : X.length = Y.length) : topL (X ++ [x]) (Y ++ [y]) = X ++ [y] := by
  unfold topL
  simp [h]
theorem end_of {l : List Int} (h : 1 ≤ l.length) : ∃ X x, l = X ++ [x] := ⟨l.dropLast, l.getLast (by intro e; rw [e] at h; simp at h), (List.dropLast_concat_getLast _).symm⟩
/-- The marks' comparison, told of the marks' values. -/
def cmpB (op : Int) (w : List Bool) (xs ys : List Int) : Bool := if op = 15 then sameB (xs.map (netLit w)) (ys.map (netLit w)) true else if op = 16 then lessB (xs.map (netLit w)) (ys.map (netLit w)) false else lessB ((topL xs ys).map (netLit w)) ((topL ys xs).map (netLit w)) false
theorem cmpB_val {op : Int} {w : List Bool} {xs ys : List Int} (h : xs.length = ys.length) (h1 : 1 ≤ xs.length) : cmpB op w xs ys = cmpV op xs.length (bitsB (xs.map (netLit w))) (bitsB (ys.map (netLit w))) := by
  unfold cmpB cmpV
  split
  · rw [sameB_val _ _ _ (by simp [h])]; simp
  · split
    · rw [lessB_val _ _ _ (by simp [h])]
      split <;> rename_i e
      · rw [e]; simp
      · rfl
    · obtain ⟨X, x, rfl⟩ := end_of h1
      obtain ⟨Y, y, rfl⟩ := end_of (h ▸ h1)
      have hl : X.length = Y.length := by simpa using h
      rw [topL_end _ _ _ _ hl, topL_end _ _ _ _ hl.symm]
      have := less_end (X.map (netLit w)) (Y.map (netLit w)) (netLit w x) (netLit w y) (by simp [hl])
      simpa using this
theorem one_mark {n : N} (h : netOk n = true) : netMark n 1 = true := netMark_iff.2 (by have := (netOk_all.1 h).1; omega)
theorem cmp_all {op : Int} {w : List Bool} {n : N} {xs ys : List Int} (h : xs.length = ys.length) (h1 : 1 ≤ xs.length) (h0 : netOk n = true) (hx : ∀ x ∈ xs, netMark n x = true) (hy : ∀ y ∈ ys, netMark n y = true) (Φ : Int → N → Prop)
    (k : ∀ m n', Ext n n' → netMark n' m = true → (Obeys n' w → netLit w m = cmpB op w xs ys) → Φ m n') : (cmpP op xs ys).all w Φ n := by
  unfold cmpP
  unfold cmpB at k
  split
  · rename_i e
    rw [if_pos e] at k
    exact all_same xs ys 1 Φ n h h0 hx hy (one_mark h0) fun m n' e1 m1 v1 => k m n' e1 m1 fun hw => by rw [v1 hw, netLit_one hw.one]
  · rename_i e
    rw [if_neg e] at k
    have hm1 : netMark n (-1) = true := netMark_neg (one_mark h0)
    have hv : ∀ n', Ext n n' → Obeys n' w → netLit w (-1) = false := fun n' e1 hw => by
      rw [netLit_turn ((e1.obeys hw).sig (one_mark h0)), netLit_one hw.one]; rfl
    split
    · rename_i e
      rw [if_pos e] at k
      exact all_less xs ys (-1) Φ n h h0 hx hy hm1 fun m n' e1 m1 v1 => k m n' e1 m1 fun hw => by rw [v1 hw, hv n' e1 hw]
    · rename_i e
      rw [if_neg e] at k
      exact all_less _ _ (-1) Φ n (by rw [topL_len, topL_len, h]) h0 (topL_mem hx hy h h1) (topL_mem hy hx h.symm (h ▸ h1)) hm1 fun m n' e1 m1 v1 => k m n' e1 m1 fun hw => by rw [v1 hw, hv n' e1 hw]
/-- What an answer of a comparison tells. -/
structure GrC (op : Int) (n : N) (xs ys : List Int) (r : N × Int) : Prop where
  ok : netOk n = true
  ext : Ext n r.1
  mark : netMark r.1 r.2 = true
  lx : 1 ≤ xs.length ∧ xs.length ≤ 4
  ly : ys.length = xs.length
  hop : 15 ≤ op ∧ op ≤ 17
  val : ∀ ins : List Bool, (ins.length : Int) = n.ins → netLit (netVals r.1 ins) r.2 = cmpV op xs.length (bitsVal (netVals r.1 ins) xs) (bitsVal (netVals r.1 ins) ys)
theorem bitsCmp_law {n : N} {op : Int} {xs ys : List Int} {r : N × Int} (hr : r = cmpOut (pickN (netOk n) (bitsCmp1R n op xs ys))) : r = (⟨0, []⟩, 0) ∨ GrC op n xs ys r := by
  by_cases h : (pickN (netOk n) (bitsCmp1R n op xs ys)).2 = []
  · left; rw [hr]; unfold cmpOut; rw [if_pos h]
  · right
    obtain ⟨hok, hb, he, hv⟩ := bitsOk_yes rfl h
    simp only [Bool.and_eq_true, decide_eq_true_eq] at hb
    obtain ⟨⟨⟨gx, gy⟩, hl⟩, ho⟩ := hb
    obtain ⟨l1, l2, m1⟩ := goodL_iff.1 gx
    obtain ⟨l3, l4, m2⟩ := goodL_iff.1 gy
    unfold opCmp at ho
    simp only [Bool.and_eq_true, decide_eq_true_eq] at ho
    have A := fun w => all_run (w := w) (Φ := fun ms n' => ∃ m, ms = [m] ∧ netMark n' m = true ∧ (Obeys n' w → netLit w m = cmpB op w xs ys)) ((cmpP op xs ys).bind fun m => .ret [m]) n
      (all_bind _ _ _ (cmp_all hl l1 hok m1 m2 _ fun m n' _ hm hv => ⟨m, rfl, hm, hv⟩)) hok he
    have hrr : r = cmpOut ((run opsP ((cmpP op xs ys).bind fun m => .ret [m]) ⟨n, none⟩).1.n, (run opsP ((cmpP op xs ys).bind fun m => .ret [m]) ⟨n, none⟩).2) := by rw [hr]; exact congrArg cmpOut hv
    generalize run opsP ((cmpP op xs ys).bind fun m => .ret [m]) ⟨n, none⟩ = R at *
    obtain ⟨⟨m, hm, hk, _⟩, hx⟩ := A []
    have hr2 : r = (R.1.n, m) := by rw [hrr, hm]; unfold cmpOut; simp
    rw [hr2]
    refine ⟨hok, hx, hk, ⟨l1, l2⟩, hl.symm, ho, fun ins hi => ?_⟩
    have hob := (obeys_vals hx.ok (by rw [hx.ins]; exact hi)).1
    obtain ⟨⟨m', hm', _, hv'⟩, _⟩ := A (netVals R.1.n ins)
    rw [hm] at hm'
    obtain rfl : m = m' := by simpa using hm'
    have bv : ∀ l : List Int, l.length ≤ 4 → bitsVal (netVals R.1.n ins) l = bitsB (l.map (netLit (netVals R.1.n ins))) := fun l hl4 => by unfold bitsVal; rw [if_neg (by omega), bitsOf_map]
    dsimp only
    rw [hv' hob, cmpB_val hl l1, bv xs l2, bv ys l4]
theorem GrC.pos {op : Int} {n : N} {xs ys : List Int} {r : N × Int} (h : GrC op n xs ys r) : r.2 ≠ 0 := fun e => by
  have := netMark_iff.1 h.mark
  omega
end Go.Proofs.YtjghcaghigebjaaDoor

/-! The two sentinels: what the condition on the package's variables gives; the variables read again; the world that the initialisers leave. -/
namespace Go.Proofs.YtjghcaghigebjaaDoor
open Go Go.ChangeShapes Go.WideShapes Go.ChangeAt Go.RowKit

theorem dr_own : ownKnob Tryd.prog.godebug = none := by kernel_rfl
theorem dr_g0 : Tryd.prog.globalNamed "loop.example/seedlip/impl.errBits" = some 0 := by kernel_rfl
theorem dr_g1 : Tryd.prog.globalNamed "loop.example/seedlip/impl.errRoom" = some 1 := by kernel_rfl
theorem dr_t0 : (Tryd.prog.globals[0]?).map (·.type) = some 80 := by kernel_rfl
theorem dr_t1 : (Tryd.prog.globals[1]?).map (·.type) = some 80 := by kernel_rfl
theorem dr_c0 : Tryd.prog.cellsOf 210 = 1 := by kernel_rfl
theorem dr_c1 : Tryd.prog.cellsOf 9 = 1 := by kernel_rfl
theorem dr_star : "*" ++ "errors.errorString" = "*errors.errorString" := by decide
theorem dr_row (u : TypeId) (h : Tryd.prog.typeName? 3 u = some "*errors.errorString") : u = 183 :=
  typeName_ptr_named (nm := "errors.errorString") (by rw [dr_star]; kernel_rfl) (by kernel_rfl) (by decide) u (by rw [dr_star]; exact h)
/-- What is listed of the package's variables. -/
abbrev laid2 : List (String × DataW Unit) := [("loop.example/seedlip/impl.errRoom", Rows.laid_loop_example_seedlip_impl_errRoom), ("loop.example/seedlip/impl.errBits", Rows.laid_loop_example_seedlip_impl_errBits)]
set_option maxRecDepth 100000 in
theorem glb_of_laid {W : World} (h : laidMetH Tryd.prog laid2 W) :
    ∃ a0 a1 : Addr, Glb a0 a1 W.heap.size W ∧ W.var? Tryd.prog "loop.example/seedlip/impl.errBits" = some #[sentV a0] ∧ W.var? Tryd.prog "loop.example/seedlip/impl.errRoom" = some #[sentV a1] := by
  rw [MakeChecks.laidMetH_plain _ _ _ (by kernel_rfl)] at h
  obtain ⟨ps, ⟨g1, t1, cs1, f1, p1, q1, hg1, ht1, hv1, hd1, ⟨g0, t0, cs0, f0, p0, q0, hg0, ht0, hv0, hd0, hq0, e0⟩, e1⟩, hnd, hrows⟩ := h
  obtain rfl := Option.some.inj (dr_g0.symm.trans hg0)
  obtain rfl := Option.some.inj (dr_g1.symm.trans hg1)
  obtain rfl := Option.some.inj (dr_t0.symm.trans ht0)
  obtain rfl := Option.some.inj (dr_t1.symm.trans ht1)
  have hq0' : q0 = [] := hq0
  subst hq0'
  subst e0
  subst e1
  obtain ⟨l0⟩ := cs0
  obtain ⟨l1⟩ := cs1
  have ok0 : ∀ u v, l0 = [.iface u v] → Value.okWide Tryd.prog W .any 0 u v := fun u v e => by
    subst e
    exact (hrows 0 0 (by simp [MemPlace.row])).2 u v (by simpa using World.var?_cell hg0 hv0 0)
  have ok1 : ∀ u v, l1 = [.iface u v] → Value.okWide Tryd.prog W .any 0 u v := fun u v e => by
    subst e
    exact (hrows 1 0 (by simp [MemPlace.row])).2 u v (by simpa using World.var?_cell hg1 hv1 0)
  obtain ⟨a0, s0, rfl, hc0, hs0, hz0, rfl⟩ := errorString_of_trod Tryd.underlying80 dr_row Tryd.underlying183 Tryd.underlying210 rfl rfl Tryd.underlying9 dr_c0 dr_c1 hd0 ok0
  obtain ⟨a1, s1, rfl, hc1, hs1, hz1, rfl⟩ := errorString_of_trod Tryd.underlying80 dr_row Tryd.underlying183 Tryd.underlying210 rfl rfl Tryd.underlying9 dr_c0 dr_c1 hd1 ok1
  obtain ⟨c0, t0, hb0⟩ := (hrows a0.block a0.off (by simp [MemPlace.row])).1
  obtain ⟨c1, t1, hb1⟩ := (hrows a1.block a1.off (by simp [MemPlace.row])).1
  have k0 : W.cell? ⟨0, 0, none⟩ = some (sentV a0) := by simpa using World.var?_cell dr_g0 hv0 0
  have k1 : W.cell? ⟨1, 0, none⟩ = some (sentV a1) := by simpa using World.var?_cell dr_g1 hv1 0
  refine ⟨a0, a1, ⟨k0, k1, ⟨c0, t0, hb0⟩, ⟨c1, t1, hb1⟩, ?_, ?_, (Array.getElem?_eq_some_iff.1 hb0).1, (Array.getElem?_eq_some_iff.1 hb1).1⟩, hv0, hv1⟩
  · rintro rfl
    simp [MemPlace.row] at hnd
  · have := World.block_lt_of_cell? W _ k1
    exact this
/-- The variables hold below a mark what they held. -/
theorem var_below {W W' : World} {n : String} {g : Nat} {cs : Array Value} (hg : Tryd.prog.globalNamed n = some g) (h : W.var? Tryd.prog n = some cs) (hb : Below W.heap.size W W') : W'.var? Tryd.prog n = some cs := by
  unfold World.var? at h ⊢
  rw [hg] at h ⊢
  simp only [Option.bind_some] at h ⊢
  have hlt : g < W.heap.size := by
    rcases Nat.lt_or_ge g W.heap.size with h' | h'
    · exact h'
    · simp [Array.getElem?_eq_none h'] at h
  rw [hb.block g hlt]; exact h
theorem vars_read {H : Type} (enc : TypeId × Value → H) {W : World} {x0 x1 : Value} (h0 : W.var? Tryd.prog "loop.example/seedlip/impl.errBits" = some #[x0]) (h1 : W.var? Tryd.prog "loop.example/seedlip/impl.errRoom" = some #[x1]) (i0 : IsIface x0) (i1 : IsIface x1) (sp : Nat → Bool) :
    DataW.TrodVars enc Tryd.prog W sp ["loop.example/seedlip/impl.errBits", "loop.example/seedlip/impl.errRoom"] [tok enc x0, tok enc x1] [.cell 0 0, .cell 1 0] :=
  ⟨0, 80, #[x0], 1, [], [.cell 1 0], dr_g0, dr_t0, h0, trod_held Tryd.underlying80 i0 0, ⟨1, 80, #[x1], 1, [], [], dr_g1, dr_t1, h1, trod_held Tryd.underlying80 i1 0, rfl, rfl⟩, rfl⟩
/-- The heap that the initialisers leave meets the condition. -/
theorem door_met (os : Os) (args : Array Value) : laidMetH Tryd.prog laid2 ((World.doorLaid Tryd.prog 400 os).forCall (fun _ _ => 0) ⟨#[], args, []⟩).memory :=
  laidMetH_of_parts3 (fuel := 8) (laidMet_of_run' 8 (by kernel_rfl) (by kernel_rfl)) (by kernel_rfl) (by kernel_rfl)
end Go.Proofs.YtjghcaghigebjaaDoor

/-! The laws' own comparison of integer rows. -/
namespace Go.Proofs.YtjghcaghigebjaaDoor
open Go Go.RowKit

set_option maxHeartbeats 400000 in
theorem wpInts_any (A B : Option Addr) (c d : Nat) (xs ys : List Int) (F G : Nat → Prop) (w : World) (h : Lay.int.Sl w F A xs) (h' : Lay.int.Sl w G B ys) (hn : xs.length ≤ 1048576) (hn' : ys.length ≤ 1048576) :
    Calls Tryd.prog 23 #[.slice A xs.length c, .slice B ys.length d] w fun e w' => e = .returned (.bool (decide (xs = ys))) ∧ ∃ n, w' = w.drewN n := by
  by_cases hl : xs.length = ys.length
  · have hne : (((xs.length : Int) != (ys.length : Int))) = false := by simp [hl]
    have HL := Lib.hid hl
    clear hl
    go_enter Tryd.func23, Tryd.ntmps23
    go_wp2
    clear hne
    go_loopw [5] (fun i wr => ∃ k m : Nat, k ≤ xs.length ∧ i = .int .i64 k ∧ wr = w.drewN m ∧ xs.take k = ys.take k) (fun i _ => xs.length - (intOf i).toNat)
    case atStart => exact ⟨0, 0, Nat.zero_le _, rfl, rfl, rfl⟩
    case round =>
      obtain ⟨k, m, hk, rfl, rfl, ht⟩ := hrel
      have HT := Lib.hid ht
      clear ht
      by_cases hlt : k < xs.length
      · have hlt' : k < ys.length := by have := HL.out; omega
        obtain ⟨ad, rfl, hf, hc⟩ := h.at_int hlt
        obtain ⟨ad', rfl, hf', hc'⟩ := h'.at_int hlt'
        have hk0 : (0 : Int) ≤ k := by omega
        have hk1 : (k : Int) < xs.length := by omega
        have hk2 : (k : Int) < ys.length := by omega
        clear h h' hf hf'
        by_cases hxy : xs[k] = ys[k]
        · have hb : (xs[k] != ys[k]) = false := by simp [hxy]
          have HX := Lib.hid hxy
          clear hxy
          go_wp2
          go_quiet (fail)
          go_wp2
          go_roundw
          case rel => exact ⟨k + 1, _, by omega, by go_num, rfl, take_eq_step hlt hlt' HT.out HX.out⟩
          case measure => simp [intOf]; omega
        · have hb : (xs[k] != ys[k]) = true := by simp [hxy]
          go_wp2
          go_quiet (fail)
          go_wp2
          go_ret
          exact ⟨ret_bool (by simp; rintro rfl; exact hxy rfl), m + nq, by rw [World.drewN_drewN]⟩
      · have : k = xs.length := by omega
        subst this
        go_wp2
        go_ret
        exact ⟨ret_bool (by have := HL.out; have := HT.out; simp [eq_of_take HL.out HT.out]), _, rfl⟩
  · have hne : (((xs.length : Int) != (ys.length : Int))) = true := by simp; omega
    go_enter Tryd.func23, Tryd.ntmps23
    go_wp2
    go_ret
    exact ⟨ret_bool (by simp; rintro rfl; exact hl rfl), 0, rfl⟩

theorem wpInts_u (xs ys : List Int) (A B : Option Addr) (c d : Nat) (w : World) (h : Lay.int.Rd w A xs) (h' : Lay.int.Rd w B ys) (hs : xs.length ≤ 1048576) (hs' : ys.length ≤ 1048576) :
    Calls Tryd.prog 23 #[.slice A xs.length c, .slice B ys.length d] w (RetB w (decide (xs = ys))) :=
  (wpInts_any A B c d xs ys _ _ w h h' hs hs').mono fun _ _ ⟨h, m, hm⟩ => ⟨h, by rw [hm]; exact below_drewN (Below.refl _ _) m⟩
end Go.Proofs.YtjghcaghigebjaaDoor

/-! FnBitsCmp: comparisons are right: for any bytes the law says true. -/
namespace Go.Proofs.YtjghcaghigebjaaDoor
open Go Go.RowKit Go.ChangeShapes Go.WideShapes Go.ChangeAt Go.Deep

theorem opens_bytes : Opens Tryd.prog 39 Lay.byte.slice (fun xs => xs.length ≤ maxLen ∧ ∀ x ∈ xs, True) := Opens.slice Tryd.underlying39 (by kernel_rfl) (by decide) (Opens.byte Tryd.underlying5)
def Fact.tup9 (W : World) (b : Bool) : Fact := .of (fun v x => v = .tuple #[.bool b, .bool true] ∧ Below W.heap.size W x) fun _ _ _ ⟨h1, h2⟩ hb => ⟨h1, bthen h2 hb⟩
theorem vecCmp_bits {op : Int} {xs ys : List Int} {w : List Bool} (ho : 15 ≤ op ∧ op ≤ 17) (h : 1 ≤ xs.length ∧ xs.length ≤ 4) (hl : ys.length = xs.length) (z : World) :
    Calls Tryd.prog 35 #[.int .i64 op, .agg #[.int .i64 (xs.length : Int), .int .i64 (bitsVal w xs)], .agg #[.int .i64 (ys.length : Int), .int .i64 (bitsVal w ys)]] z fun e w' => e = .returned (.tuple #[.bool (cmpV op xs.length (bitsVal w xs) (bitsVal w ys)), .bool true]) ∧ Below z.heap.size z w' := by
  have bv : ∀ l : List Int, l.length ≤ 4 → 0 ≤ bitsVal w l ∧ bitsVal w l < 2 ^ l.length := fun l hl4 => by unfold bitsVal; rw [if_neg (by omega)]; exact bitsOf_lt _ _
  have b1 := bv xs h.2
  have b2 := bv ys (by omega)
  rw [hl] at b2 ⊢
  have hc : op = 15 ∨ op = 16 ∨ op = 17 := by omega
  rcases hc with rfl | rfl | rfl
  · exact vecCmp_15 _ _ _ z h.1 h.2 b1.1 b1.2 b2.1 b2.2
  · exact vecCmp_16 _ _ _ z h.1 h.2 b1.1 b1.2 b2.1 b2.2
  · exact vecCmp_17 _ _ _ z h.1 h.2 b1.1 b1.2 b2.1 b2.2
def Fact.num9 (W : World) (M : Int) : Fact := .of (fun v x => ∃ k : Int, v = .int .i64 k ∧ 0 ≤ k ∧ k ≤ M) fun _ _ _ h _ => h
def Fact.ins9 (W : World) (m : Int) : Fact := .of (fun v x => ∃ (bs : List Bool) (A : Option Addr) (c : Nat), v = .slice A bs.length c ∧ bs.length ≤ 100 ∧ (bs.length : Int) = m ∧ Lay.bool.Rd x A bs) fun _ _ _ ⟨bs, A, c, h1, h2, h3, h4⟩ hb => ⟨bs, A, c, h1, h2, h3, h4.up hb⟩
def Fact.vals9 (W : World) (m : Int) (y : N) : Fact := .of (fun v x => ∃ (bs : List Bool) (A : Option Addr) (c : Nat), v = .slice A (netVals y bs).length c ∧ (bs.length : Int) = m ∧ Lay.bool.Rd x A (netVals y bs) ∧ Below W.heap.size W x) fun _ _ _ ⟨bs, A, c, h1, h2, h3, h4⟩ hb => ⟨bs, A, c, h1, h2, h3.up hb, bthen h4 hb⟩

set_option maxRecDepth 100000 in
set_option maxHeartbeats 8000000 in
theorem fnBitsCmp_walk (W : World) (a0 a1 : Addr) {A0 : Option Addr} {c0 : Nat} {x0 : List UInt8} {A1' : Option Addr} {c1 : Nat} {x1 : List UInt8} (hglb : Glb a0 a1 W.heap.size W) (hc0 : x0.length ≤ c0) (hok0 : x0.length ≤ maxLen ∧ ∀ z ∈ x0, True) (h0 : Lay.byte.Rd W A0 x0) (hc1 : x1.length ≤ c1) (hok1 : x1.length ≤ maxLen ∧ ∀ z ∈ x1, True) (h1 : Lay.byte.Rd W A1' x1) :
    Calls Tryd.prog 7 #[.slice A0 x0.length c0, .slice A1' x1.length c1] W (LawC W) := by
  have GLB := Lib.hid hglb
  clear hglb
  have hm0 : x0.length ≤ 9223372036854775807 := by have := hok0.1; unfold maxLen at this; omega
  clear hok0
  have hm1 : x1.length ≤ 9223372036854775807 := by have := hok1.1; unfold maxLen at this; omega
  clear hok1
  by_cases hbig0 : (1048576 : Int) < x0.length
  · go_enter Tryd.func7, Tryd.ntmps7
    go_wp2
    go_ret
    exact ⟨rfl, Below.refl _ _⟩
  by_cases hbig1 : (1048576 : Int) < x1.length
  · go_enter Tryd.func7, Tryd.ntmps7
    go_wp2
    go_ret
    exact ⟨rfl, Below.refl _ _⟩
  have hb : Below W.heap.size W W := Below.refl _ _
  go_enter Tryd.func7, Tryd.ntmps7
  go_wp2_with fail
  refine (drawBitsCmp_any A0 c0 x0 _ h0 hc0 hm0).mono ?_
  rintro e u1 ⟨n, A1, d1, a, xs, X1, e1, ys, Y1, k1, rfl, hn, hxs, hys, hbn, ha, hkx, hky, hcx, hcy, hb9⟩
  have hb := bthen hb hb9
  clear hb9
  clear h0
  have h1 := h1.up hb
  have hnl : n.gs.length ≤ 4 := hbn.2.2.1
  have hni : n.ins ≤ 9 := hbn.2.1
  have HI := Lib.hid hbn.2.2.2
  have HKX := Lib.hid hkx
  have HKY := Lib.hid hky
  have HA := Lib.hid ha
  have hx5 : xs.length ≤ 5 := hkx.1
  have hy5 : ys.length ≤ 5 := hky.1
  clear hbn hkx hky
  unfold okInt at ha
  obtain ⟨r, hr⟩ : ∃ r, r = cmpOut (pickN (netOk n) (bitsCmp1R n a xs ys)) := ⟨_, rfl⟩
  have HR := Lib.hid hr
  have HLEN := Lib.hid (show r.1.gs.length ≤ 1048576 by rw [hr]; exact bitsCmp_len)
  have HLW := Lib.hid (bitsCmp_law hr)
  have hrl := HLEN.out
  clear hr
  have hal : Below u1.heap.size u1 (u1.alloc (.cells #[.int .i64 n.ins, .slice A1 n.gs.length d1] 29)) := (Below.refl _ _).alloc (Nat.le_refl _) _
  have B9 : (u1.alloc (.cells #[.int .i64 n.ins, .slice A1 n.gs.length d1] 29)).heap[u1.heap.size]? = some (.cells #[.int .i64 n.ins, .slice A1 n.gs.length d1] 29 (0, 0)) := heap_alloc_new _ _
  have hb := bthen hb hal
  have h1 := h1.up hal
  have hn := hn.up hal
  have hxs := hxs.up hal
  have hys := hys.up hal
  clear hal
  have BN := Lib.hid B9
  clear B9
  go_wp2_with fail
  generalize u1.alloc (.cells #[.int .i64 n.ins, .slice A1 n.gs.length d1] 29) = u2 at *
  generalize u1.heap.size = iBN at *
  refine (implBitsCmp_any a0 a1 W.heap.size n a xs ys A1 X1 Y1 d1 e1 k1 _ (GLB.out.below hb) hb.size hn (by omega) (sl_nonnil hn) HI.out hxs hys (fun l hl => HKX.out.2 l hl) (fun l hl => HKY.out.2 l hl) HA.out (by omega) (by omega)).mono ?_
  rw [← HR.out]
  rintro e u3 ⟨A2, d2, rfl, hd2, g2, hb9⟩
  have hb := bthen hb hb9
  have h1 := h1.up hb9
  have hn := hn.up hb9
  have hxs := hxs.up hb9
  have hys := hys.up hb9
  have BN := Lib.hid ((hb9.block _ (lt_of_block BN.out)).trans BN.out)
  clear hb9
  have hx := g2.own_rd
  clear g2
  have kBN_0 : u3.cell? ⟨iBN, 0, none⟩ = some (.int .i64 n.ins) := (cell_of_block BN.out 0).1
  have kBN_1 : u3.cell? ⟨iBN, 1, none⟩ = some (.slice A1 n.gs.length d1) := (cell_of_block BN.out 1).1
  have ltBN : iBN < u3.heap.size := lt_of_block BN.out
  have hal : Below u3.heap.size u3 (u3.alloc (.cells #[.int .i64 r.1.ins, .slice A2 r.1.gs.length d2] 29)) := (Below.refl _ _).alloc (Nat.le_refl _) _
  have B9 : (u3.alloc (.cells #[.int .i64 r.1.ins, .slice A2 r.1.gs.length d2] 29)).heap[u3.heap.size]? = some (.cells #[.int .i64 r.1.ins, .slice A2 r.1.gs.length d2] 29 (0, 0)) := heap_alloc_new _ _
  have hb := bthen hb hal
  have h1 := h1.up hal
  have hn := hn.up hal
  have hxs := hxs.up hal
  have hys := hys.up hal
  have BN := Lib.hid ((hal.block _ (lt_of_block BN.out)).trans BN.out)
  have hx := hx.up hal
  clear hal
  have BX := Lib.hid B9
  clear B9
  go_wp2_with fail
  clear kBN_0 kBN_1 ltBN
  generalize u3.alloc (.cells #[.int .i64 r.1.ins, .slice A2 r.1.gs.length d2] 29) = u4 at *
  generalize u3.heap.size = iBX at *
  refine (specBitsCmp_any n a xs ys A1 X1 Y1 d1 e1 k1 _ hn (by omega) (sl_nonnil hn) HI.out hxs hys (fun l hl => HKX.out.2 l hl) (fun l hl => HKY.out.2 l hl) HA.out (by omega) (by omega) hcx hcy).mono ?_
  rw [← HR.out]
  rintro e u5 ⟨A3, d3, rfl, hd3, g3, hb9⟩
  have hb := bthen hb hb9
  have h1 := h1.up hb9
  have hn := hn.up hb9
  have hxs := hxs.up hb9
  have hys := hys.up hb9
  have BN := Lib.hid ((hb9.block _ (lt_of_block BN.out)).trans BN.out)
  have hx := hx.up hb9
  have BX := Lib.hid ((hb9.block _ (lt_of_block BX.out)).trans BX.out)
  clear hb9
  have hx3 := g3.own_rd
  clear g3
  have kBX_0 : u5.cell? ⟨iBX, 0, none⟩ = some (.int .i64 r.1.ins) := (cell_of_block BX.out 0).1
  have kBX_1 : u5.cell? ⟨iBX, 1, none⟩ = some (.slice A2 r.1.gs.length d2) := (cell_of_block BX.out 1).1
  have ltBX : iBX < u5.heap.size := lt_of_block BX.out
  have hal : Below u5.heap.size u5 (u5.alloc (.cells #[.int .i64 r.1.ins, .slice A3 r.1.gs.length d3] 29)) := (Below.refl _ _).alloc (Nat.le_refl _) _
  have B9 : (u5.alloc (.cells #[.int .i64 r.1.ins, .slice A3 r.1.gs.length d3] 29)).heap[u5.heap.size]? = some (.cells #[.int .i64 r.1.ins, .slice A3 r.1.gs.length d3] 29 (0, 0)) := heap_alloc_new _ _
  have hb := bthen hb hal
  have h1 := h1.up hal
  have hn := hn.up hal
  have hxs := hxs.up hal
  have hys := hys.up hal
  have BN := Lib.hid ((hal.block _ (lt_of_block BN.out)).trans BN.out)
  have hx := hx.up hal
  have BX := Lib.hid ((hal.block _ (lt_of_block BX.out)).trans BX.out)
  have hx3 := hx3.up hal
  clear hal
  have BY := Lib.hid B9
  clear B9
  go_wp2_with fail
  clear kBX_0 kBX_1 ltBX
  generalize u5.alloc (.cells #[.int .i64 r.1.ins, .slice A3 r.1.gs.length d3] 29) = u6 at *
  generalize u5.heap.size = iBY at *
  refine (netSame_any r.1 r.1 A2 A3 d2 d3 _ hx hx3 hrl hrl).mono ?_
  rintro e u7 ⟨rfl, hb9⟩
  have hb := bthen hb hb9
  have h1 := h1.up hb9
  have hn := hn.up hb9
  have hxs := hxs.up hb9
  have hys := hys.up hb9
  have BN := Lib.hid ((hb9.block _ (lt_of_block BN.out)).trans BN.out)
  have hx := hx.up hb9
  have BX := Lib.hid ((hb9.block _ (lt_of_block BX.out)).trans BX.out)
  have hx3 := hx3.up hb9
  have BY := Lib.hid ((hb9.block _ (lt_of_block BY.out)).trans BY.out)
  clear hb9
  rw [show decide (r.1 = r.1) = true by simp]
  have hne9 : ((r.2 : Int) != r.2) = false := by simp
  clear hx3
  clear BY
  rcases HLW.out with hz | hgr
  · skip
    have hz1 : r.1 = ⟨0, []⟩ := by rw [hz]
    have HZ := Lib.hid hz1
    have hz0 : (r.2 == 0) = true := by rw [hz]; rfl
    clear hz hz1
    have kBX_0 : u7.cell? ⟨iBX, 0, none⟩ = some (.int .i64 r.1.ins) := (cell_of_block BX.out 0).1
    have kBX_1 : u7.cell? ⟨iBX, 1, none⟩ = some (.slice A2 r.1.gs.length d2) := (cell_of_block BX.out 1).1
    go_wp2_with fail
    clear kBX_0 kBX_1
    refine (netSame_any r.1 ⟨0, []⟩ A2 none d2 0 _ hx (.nil _ _ _ _) hrl (by simp)).mono ?_
    rintro e u8 ⟨rfl, hb9⟩
    have hb := bthen hb hb9
    have h1 := h1.up hb9
    have hn := hn.up hb9
    have hxs := hxs.up hb9
    have hys := hys.up hb9
    have BN := Lib.hid ((hb9.block _ (lt_of_block BN.out)).trans BN.out)
    have hx := hx.up hb9
    have BX := Lib.hid ((hb9.block _ (lt_of_block BX.out)).trans BX.out)
    clear hb9
    rw [show decide (r.1 = (⟨0, []⟩ : N)) = true from decide_eq_true HZ.out]
    go_wp2
    go_ret
    exact ⟨rfl, hb⟩
  have hz0 : (r.2 == 0) = false := by have := hgr.pos; simpa using this
  have LG := Lib.hid hgr
  have HRI := Lib.hid (okInts_of hgr.ext.ok)
  have N09 := (netOk_all.1 hgr.ok).1
  have N19 := (netOk_all.1 hgr.ok).2.1
  have HMI : Hid (okInt r.2) := Lib.hid (by have h9 := netMark_iff.1 hgr.mark; have h8 := netOk_all.1 hgr.ext.ok; unfold okInt; omega)
  have HVL : Hid (∀ ins : List Bool, (ins.length : Int) = n.ins → (netVals r.1 ins).length ≤ 1048576) := Lib.hid (fun ins hi => by have h9 := (obeys_vals hgr.ext.ok (by rw [hgr.ext.ins]; exact hi)).2.1; have h8 := netOk_all.1 hgr.ext.ok; omega)
  clear hgr
  go_wp2
  have HB0 := Lib.hid hb
  clear hb
  have H_h1 := Lib.hid h1
  clear h1
  have H_hn := Lib.hid hn
  clear hn
  have H_hxs := Lib.hid hxs
  clear hxs
  have H_hys := Lib.hid hys
  clear hys
  have H_hx := Lib.hid hx
  clear hx
  go_loopw [13] (fun i wr => ∃ j : Nat, j ≤ 12 ∧ i = .int .i64 j ∧ Below u7.heap.size u7 wr) (fun i _ => 12 - (intOf i).toNat)
  case atStart => exact ⟨0, Nat.zero_le _, rfl, Below.refl _ _⟩
  case round =>
    obtain ⟨j, hj, rfl, hbr⟩ := hrel
    have h1 := H_h1.out.up hbr
    have hn := H_hn.out.up hbr
    have hxs := H_hxs.out.up hbr
    have hys := H_hys.out.up hbr
    have hx := H_hx.out.up hbr
    have B_N := Lib.hid ((hbr.block _ (lt_of_block BN.out)).trans BN.out)
    have B_X := Lib.hid ((hbr.block _ (lt_of_block BX.out)).trans BX.out)
    have HBR := Lib.hid hbr
    clear hbr
    by_cases hlt : j < 12
    · have hj1 : (j : Int) < 12 := by omega
      have dn0 := Later.cell (cell_of_block B_N.out 0).1
      have dn1 := Later.cell (cell_of_block B_N.out 1).1
      have dx0 := Later.cell (cell_of_block B_X.out 0).1
      have dx1 := Later.cell (cell_of_block B_X.out 1).1
      have H1 := Lib.hid h1
      have HX := Lib.hid hx
      clear h1 hx
      go_wp2
      refine wp_region_shares [[], [], [], [(2, 69)], [], [(4, 71)], [(3, 70), (5, 72)], [(1, 68), (6, 73)], [(0, 67), (7, 74)], [(8, 75)]]
        [.eq (.agg #[.int .i64 r.1.ins, .slice A2 r.1.gs.length d2]), .eq (.agg #[.int .i64 n.ins, .slice A1 n.gs.length d1]), .eq (.slice A1' x1.length c1), Fact.num9 wr 1048576, .eq (.int .i64 (j : Int)), .eq (.int .i64 (37 * (j : Int))), Fact.num9 wr 2097152, Fact.ins9 wr n.ins, Fact.vals9 wr n.ins r.1, Fact.vals9 wr n.ins r.1]
        [] [] [] [9] [(0, 67), (1, 68), (2, 69), (3, 70), (4, 71), (5, 72), (6, 73), (7, 74), (8, 75), (9, 14)] (by kernel_rfl) (by kernel_rfl) (by kernel_rfl) (by kernel_rfl)
        ⟨?_, ?_, ?_, ?_, ?_, ?_, ?_, ?_, ?_, ?_, trivial⟩ ?_
      · intro vals x9 hC hF
        have hC := hC.resolve_left (by simp)
        have hsz := hC.size
        have e1 : x9.cell? _ = _ := dx0 ⟨x9, hC⟩
        have e2 : x9.cell? _ = _ := dx1 ⟨x9, hC⟩
        simp only [putsD, Act.put, List.setIfInBounds_toArray, List.set_cons_zero, List.set_cons_succ]
        go_wp2
        exact ⟨rfl, rfl, .inr (Below.refl _ _), .inr (.inl (by simp))⟩
      · intro vals x9 hC hF
        have hC := hC.resolve_left (by simp)
        have hsz := hC.size
        have e1 : x9.cell? _ = _ := dn0 ⟨x9, hC⟩
        have e2 : x9.cell? _ = _ := dn1 ⟨x9, hC⟩
        simp only [putsD, Act.put, List.setIfInBounds_toArray, List.set_cons_zero, List.set_cons_succ]
        go_wp2
        exact ⟨rfl, rfl, .inr (Below.refl _ _), .inr (.inl (by simp))⟩
      · intro vals x9 hC hF
        simp only [putsD, Act.put, List.setIfInBounds_toArray, List.set_cons_zero, List.set_cons_succ]
        go_wp2
        exact ⟨rfl, rfl, .inr (Below.refl _ _), .inr (.inl (by simp))⟩
      · intro vals x9 hC hF
        have hC := hC.resolve_left (by simp)
        have hsz := hC.size
        simp only [factsD, List.getD_cons_zero, List.getD_cons_succ, Fact.eq, Fact.row, Fact.lit, Fact.lit0, Fact.of, and_true, Fact.num9, Fact.ins9, Fact.vals9] at hF
        simp only [putsD, Act.put, List.setIfInBounds_toArray, List.set_cons_zero, List.set_cons_succ]
        simp only [hF]
        go_wp2_with fail
        refine (wpHash_any A1' c1 x1 x9 (H1.out.up hC) (by omega)).mono ?_
        rintro e wx ⟨k9, rfl, k90, k91, hb9⟩
        go_wp2
        exact ⟨rfl, ⟨k9, rfl, k90, k91⟩, .inr hb9, .inr (.inl (by simp))⟩
      · intro vals x9 hC hF
        simp only [putsD, Act.put, List.setIfInBounds_toArray, List.set_cons_zero, List.set_cons_succ]
        go_wp2
        exact ⟨rfl, rfl, .inr (Below.refl _ _), .inr (.inl (by simp))⟩
      · intro vals x9 hC hF
        simp only [factsD, List.getD_cons_zero, List.getD_cons_succ, Fact.eq, Fact.row, Fact.lit, Fact.lit0, Fact.of, and_true, Fact.num9, Fact.ins9, Fact.vals9] at hF
        simp only [putsD, Act.put, List.setIfInBounds_toArray, List.set_cons_zero, List.set_cons_succ]
        simp only [hF]
        go_wp2
        exact ⟨rfl, rfl, .inr (Below.refl _ _), .inr (.inl (by simp))⟩
      · intro vals x9 hC hF
        have hC := hC.resolve_left (by simp)
        have hsz := hC.size
        simp only [factsD, List.getD_cons_zero, List.getD_cons_succ, Fact.eq, Fact.row, Fact.lit, Fact.lit0, Fact.of, and_true, Fact.num9, Fact.ins9, Fact.vals9] at hF
        obtain ⟨⟨k9, e70, k90, k91⟩, e72⟩ := hF
        simp only [putsD, Act.put, List.setIfInBounds_toArray, List.set_cons_zero, List.set_cons_succ]
        simp only [e70, e72]
        go_wp2
        exact ⟨rfl, ⟨k9 + 37 * (j : Int), rfl, by omega, by omega⟩, .inr (Below.refl _ _), .inr (.inl (by simp))⟩
      · intro vals x9 hC hF
        have hC := hC.resolve_left (by simp)
        have hsz := hC.size
        simp only [factsD, List.getD_cons_zero, List.getD_cons_succ, Fact.eq, Fact.row, Fact.lit, Fact.lit0, Fact.of, and_true, Fact.num9, Fact.ins9, Fact.vals9] at hF
        obtain ⟨e68, k9, e73, k90, k91⟩ := hF
        simp only [putsD, Act.put, List.setIfInBounds_toArray, List.set_cons_zero, List.set_cons_succ]
        simp only [e68, e73]
        go_wp2_with fail
        refine (wpIns_any n A1 d1 k9 x9 k90 (by omega) (by omega)).mono ?_
        rintro e wx ⟨bs, B9, c9, rfl, hl1, hl2, hrd, hb9⟩
        have HB9 := Lib.hid hb9
        have HRD := Lib.hid hrd
        have HL1 := Lib.hid (And.intro hl1 (hl2 N09))
        clear hb9 hrd hl1 hl2
        go_wp2
        exact ⟨rfl, ⟨bs, B9, c9, rfl, HL1.out.1, HL1.out.2, HRD.out⟩, .inr HB9.out, .inr (.inl (by simp))⟩
      · intro vals x9 hC hF
        have hC := hC.resolve_left (by simp)
        have hsz := hC.size
        simp only [factsD, List.getD_cons_zero, List.getD_cons_succ, Fact.eq, Fact.row, Fact.lit, Fact.lit0, Fact.of, and_true, Fact.num9, Fact.ins9, Fact.vals9] at hF
        obtain ⟨e67, bs, B9, c9, e74, hl1, hl2, hrd⟩ := hF
        simp only [putsD, Act.put, List.setIfInBounds_toArray, List.set_cons_zero, List.set_cons_succ]
        simp only [e67, e74]
        have HL2 := Lib.hid hl2
        have HC9 := Lib.hid (netVals_any r.1 bs A2 B9 d2 c9 x9 (HX.out.up hC) hrl HRI.out hrd (by omega))
        clear hl2 hrd
        go_wp2_with fail
        refine HC9.out.mono ?_
        rintro e wx ⟨V9, v9, rfl, _, hrd9, hb9⟩
        have HB9 := Lib.hid hb9
        have HRD := Lib.hid hrd9
        clear hb9 hrd9 HC9
        go_wp2
        exact ⟨rfl, ⟨bs, V9, v9, rfl, HL2.out, HRD.out, bthen hC HB9.out⟩, .inr HB9.out, .inr (.inl (by simp))⟩
      · intro vals x9 hC hF
        have hC := hC.resolve_left (by simp)
        have hsz := hC.size
        simp only [factsD, List.getD_cons_zero, List.getD_cons_succ, Fact.eq, Fact.row, Fact.lit, Fact.lit0, Fact.of, and_true, Fact.num9, Fact.ins9, Fact.vals9] at hF
        obtain ⟨bs, V9, v9, e75, hl2, hrd9, hb9⟩ := hF
        simp only [putsD, Act.put, List.setIfInBounds_toArray, List.set_cons_zero, List.set_cons_succ]
        simp only [e75]
        go_wp2
        exact ⟨rfl, ⟨bs, V9, v9, rfl, hl2, hrd9, hb9⟩, .inr (Below.refl _ _), .inr (.inl (by simp))⟩
      · intro vals x9 hF
        simp only [facts, List.getD_cons_zero, List.getD_cons_succ, Fact.eq, Fact.row, Fact.lit, Fact.lit0, Fact.of, and_true, Fact.num9, Fact.ins9, Fact.vals9] at hF
        obtain ⟨bs, V9, v9, e14, hl2, hrd9, hb9⟩ := hF
        simp only [putsD, Act.put, List.setIfInBounds_toArray, List.set_cons_zero, List.set_cons_succ]
        simp only [e14]
        clear e14
        have hlaw := LG.out.val bs hl2
        have hvl := HVL.out bs hl2
        generalize hvv : netVals r.1 bs = vv at *
        clear hvv hl2
        have HYS := Lib.hid (hys.up hb9)
        have HXS := Lib.hid (hxs.up hb9)
        have HV := Lib.hid hrd9
        have HB9 := Lib.hid hb9
        clear hb9 hxs hys hn hrd9
        have hrng : ∀ l : List Int, (∀ x ∈ l, okInt x) → ∀ x ∈ l, -9223372036854775808 ≤ x ∧ x ≤ 9223372036854775807 := fun l h x hx => by have := h x hx; unfold okInt at this; exact this
        have HRNG := Lib.hid hrng
        clear hrng
        have HVC := Lib.hid (vecCmp_bits (w := vv) LG.out.hop LG.out.lx LG.out.ly)
        generalize cmpV a xs.length (bitsVal vv xs) (bitsVal vv ys) = bb at *
        have HLAW := Lib.hid hlaw
        clear hlaw
        go_wp2_with fail
        refine (implBitsVal_any V9 X1 v9 e1 vv xs _ _ _ HV.out (by omega) HXS.out (HRNG.out xs HKX.out.2) (by omega)).mono ?_
        rintro e wx ⟨rfl, rfl⟩
        have hal : Below x9.heap.size x9 (x9.alloc (.cells #[.int .i64 (xs.length : Int), .int .i64 (bitsVal vv xs)] 54)) := (Below.refl _ _).alloc (Nat.le_refl _) _
        have hnew : (x9.alloc (.cells #[.int .i64 (xs.length : Int), .int .i64 (bitsVal vv xs)] 54)).heap[x9.heap.size]? = some (.cells #[.int .i64 (xs.length : Int), .int .i64 (bitsVal vv xs)] 54 (0, 0)) := heap_alloc_new _ _
        have HV := Lib.hid (HV.out.up hal)
        have HYS := Lib.hid (HYS.out.up hal)
        have HBW := Lib.hid (bthen HB9.out hal)
        clear hal HXS
        have dv0 := Later.cell (cell_of_block hnew 0).1
        have dv1 := Later.cell (cell_of_block hnew 1).1
        clear hnew
        go_wp2
        generalize x9.alloc (.cells #[.int .i64 (xs.length : Int), .int .i64 (bitsVal vv xs)] 54) = W5 at *
        refine wp_region_shares [[], [], [], [(2, 85)], [], [], [(4, 87), (5, 88)], [(3, 86), (6, 89)], [(0, 83), (1, 84), (7, 90)], [(8, 91)], [(9, 82)], [(9, 82)], [(10, 92)], [(11, 93)]]
          [.eq (.int .i64 a), .eq (.agg #[.int .i64 (xs.length : Int), .int .i64 (bitsVal vv xs)]), .eq (.slice Y1 ys.length k1), .eq (.int .i64 (ys.length : Int)), .eq (.slice V9 vv.length v9), .eq (.slice Y1 ys.length k1), .eq (.int .i64 (bitsVal vv ys)), .eq (.agg #[.int .i64 (ys.length : Int), .int .i64 (bitsVal vv ys)]), Fact.tup9 W5 bb, Fact.tup9 W5 bb, Fact.boolW W5 bb, Fact.boolW W5 true, Fact.boolW W5 bb, Fact.boolW W5 true]
          [] [] [] [12, 13] [(0, 83), (1, 84), (2, 85), (3, 86), (4, 87), (5, 88), (6, 89), (7, 90), (8, 91), (9, 82), (10, 92), (11, 93), (12, 16), (13, 17)] (by kernel_rfl) (by kernel_rfl) (by kernel_rfl) (by kernel_rfl)
          ⟨?_, ?_, ?_, ?_, ?_, ?_, ?_, ?_, ?_, ?_, ?_, ?_, ?_, ?_, trivial⟩ ?_
        · intro vals y9 hC hF
          simp only [putsD, Act.put, List.setIfInBounds_toArray, List.set_cons_zero, List.set_cons_succ]
          go_wp2
          exact ⟨rfl, rfl, .inr (Below.refl _ _), .inr (.inl (by simp))⟩
        · intro vals y9 hC hF
          have hC := hC.resolve_left (by simp)
          have hsz := hC.size
          have e1 : y9.cell? _ = _ := dv0 ⟨y9, hC⟩
          have e2 : y9.cell? _ = _ := dv1 ⟨y9, hC⟩
          simp only [putsD, Act.put, List.setIfInBounds_toArray, List.set_cons_zero, List.set_cons_succ]
          go_wp2
          exact ⟨rfl, rfl, .inr (Below.refl _ _), .inr (.inl (by simp))⟩
        · intro vals y9 hC hF
          simp only [putsD, Act.put, List.setIfInBounds_toArray, List.set_cons_zero, List.set_cons_succ]
          go_wp2
          exact ⟨rfl, rfl, .inr (Below.refl _ _), .inr (.inl (by simp))⟩
        · intro vals y9 hC hF
          simp only [factsD, List.getD_cons_zero, List.getD_cons_succ, Fact.eq, Fact.row, Fact.lit, Fact.lit0, Fact.of, and_true, Fact.tup9, Fact.boolW] at hF
          simp only [putsD, Act.put, List.setIfInBounds_toArray, List.set_cons_zero, List.set_cons_succ]
          simp only [hF]
          go_wp2
          exact ⟨rfl, rfl, .inr (Below.refl _ _), .inr (.inl (by simp))⟩
        · intro vals y9 hC hF
          simp only [putsD, Act.put, List.setIfInBounds_toArray, List.set_cons_zero, List.set_cons_succ]
          go_wp2
          exact ⟨rfl, rfl, .inr (Below.refl _ _), .inr (.inl (by simp))⟩
        · intro vals y9 hC hF
          simp only [putsD, Act.put, List.setIfInBounds_toArray, List.set_cons_zero, List.set_cons_succ]
          go_wp2
          exact ⟨rfl, rfl, .inr (Below.refl _ _), .inr (.inl (by simp))⟩
        · intro vals y9 hC hF
          have hC := hC.resolve_left (by simp)
          have hsz := hC.size
          simp only [factsD, List.getD_cons_zero, List.getD_cons_succ, Fact.eq, Fact.row, Fact.lit, Fact.lit0, Fact.of, and_true, Fact.tup9, Fact.boolW] at hF
          simp only [putsD, Act.put, List.setIfInBounds_toArray, List.set_cons_zero, List.set_cons_succ]
          simp only [hF.1, hF.2]
          have HC9 := Lib.hid (implBitsVal_any V9 Y1 v9 k1 vv ys _ _ y9 (HV.out.up hC) (by omega) (HYS.out.up hC) (HRNG.out ys HKY.out.2) (by omega))
          go_wp2_with fail
          refine HC9.out.mono ?_
          rintro e wx ⟨rfl, rfl⟩
          go_wp2
          exact ⟨rfl, rfl, .inr (Below.refl _ _), .inr (.inl (by simp))⟩
        · intro vals y9 hC hF
          simp only [factsD, List.getD_cons_zero, List.getD_cons_succ, Fact.eq, Fact.row, Fact.lit, Fact.lit0, Fact.of, and_true, Fact.tup9, Fact.boolW] at hF
          simp only [putsD, Act.put, List.setIfInBounds_toArray, List.set_cons_zero, List.set_cons_succ]
          simp only [hF]
          go_wp2
          exact ⟨rfl, rfl, .inr (Below.refl _ _), .inr (.inl (by simp))⟩
        · intro vals y9 hC hF
          have hC := hC.resolve_left (by simp)
          have hsz := hC.size
          simp only [factsD, List.getD_cons_zero, List.getD_cons_succ, Fact.eq, Fact.row, Fact.lit, Fact.lit0, Fact.of, and_true, Fact.tup9, Fact.boolW] at hF
          obtain ⟨e83, e84, e90⟩ := hF
          simp only [putsD, Act.put, List.setIfInBounds_toArray, List.set_cons_zero, List.set_cons_succ]
          simp only [e83, e84, e90]
          go_wp2_with fail
          refine (HVC.out _).mono ?_
          rintro e wx ⟨rfl, hb9⟩
          go_wp2
          exact ⟨rfl, ⟨rfl, bthen hC hb9⟩, .inr hb9, .inr (.inl (by simp))⟩
        · intro vals y9 hC hF
          have hC := hC.resolve_left (by simp)
          have hsz := hC.size
          simp only [factsD, List.getD_cons_zero, List.getD_cons_succ, Fact.eq, Fact.row, Fact.lit, Fact.lit0, Fact.of, and_true, Fact.tup9, Fact.boolW] at hF
          obtain ⟨e9, hb7⟩ := hF
          simp only [putsD, Act.put, List.setIfInBounds_toArray, List.set_cons_zero, List.set_cons_succ]
          simp only [e9]
          go_wp2
          exact ⟨rfl, ⟨rfl, hC⟩, .inr (Below.refl _ _), .inr (.inl (by simp))⟩
        · intro vals y9 hC hF
          have hC := hC.resolve_left (by simp)
          have hsz := hC.size
          simp only [factsD, List.getD_cons_zero, List.getD_cons_succ, Fact.eq, Fact.row, Fact.lit, Fact.lit0, Fact.of, and_true, Fact.tup9, Fact.boolW] at hF
          obtain ⟨e9, hb7⟩ := hF
          simp only [putsD, Act.put, List.setIfInBounds_toArray, List.set_cons_zero, List.set_cons_succ]
          simp only [e9]
          go_wp2
          exact ⟨rfl, ⟨rfl, hC⟩, .inr (Below.refl _ _), .inr (.inl (by simp))⟩
        · intro vals y9 hC hF
          have hC := hC.resolve_left (by simp)
          have hsz := hC.size
          simp only [factsD, List.getD_cons_zero, List.getD_cons_succ, Fact.eq, Fact.row, Fact.lit, Fact.lit0, Fact.of, and_true, Fact.tup9, Fact.boolW] at hF
          obtain ⟨e9, hb7⟩ := hF
          simp only [putsD, Act.put, List.setIfInBounds_toArray, List.set_cons_zero, List.set_cons_succ]
          simp only [e9]
          go_wp2
          exact ⟨rfl, ⟨rfl, hC⟩, .inr (Below.refl _ _), .inr (.inl (by simp))⟩
        · intro vals y9 hC hF
          have hC := hC.resolve_left (by simp)
          have hsz := hC.size
          simp only [factsD, List.getD_cons_zero, List.getD_cons_succ, Fact.eq, Fact.row, Fact.lit, Fact.lit0, Fact.of, and_true, Fact.tup9, Fact.boolW] at hF
          obtain ⟨e9, hb7⟩ := hF
          simp only [putsD, Act.put, List.setIfInBounds_toArray, List.set_cons_zero, List.set_cons_succ]
          simp only [e9]
          go_wp2
          exact ⟨rfl, ⟨rfl, hC⟩, .inr (Below.refl _ _), .inr (.inl (by simp))⟩
        · intro vals y9 hC hF
          have hC := hC.resolve_left (by simp)
          have hsz := hC.size
          simp only [factsD, List.getD_cons_zero, List.getD_cons_succ, Fact.eq, Fact.row, Fact.lit, Fact.lit0, Fact.of, and_true, Fact.tup9, Fact.boolW] at hF
          obtain ⟨e9, hb7⟩ := hF
          simp only [putsD, Act.put, List.setIfInBounds_toArray, List.set_cons_zero, List.set_cons_succ]
          simp only [e9]
          go_wp2
          exact ⟨rfl, ⟨rfl, hC⟩, .inr (Below.refl _ _), .inr (.inl (by simp))⟩
        · intro vals y9 hF
          simp only [facts, List.getD_cons_zero, List.getD_cons_succ, Fact.eq, Fact.row, Fact.lit, Fact.lit0, Fact.of, and_true, Fact.tup9, Fact.boolW] at hF
          obtain ⟨⟨e16, hb7⟩, e17, hb8⟩ := hF
          simp only [putsD, Act.put, List.setIfInBounds_toArray, List.set_cons_zero, List.set_cons_succ]
          simp only [e16, e17]
          clear e16 e17 hb8 dv0 dv1
          have HV7 := Lib.hid (HV.out.up hb7)
          have HW7 := Lib.hid (bthen HBW.out hb7)
          clear hb7
          have HC9 := Lib.hid (implNetLit_any V9 v9 vv r.2 _ y9 HV7.out (by omega) HMI.out.1 HMI.out.2)
          rw [HLAW.out] at HC9
          go_wp2_with fail
          refine HC9.out.mono ?_
          rintro e wx ⟨rfl, rfl⟩
          have hq9 : (bb != bb) = false := by simp
          clear HC9 HLAW HVC
          go_wp2
          go_roundw
          case rel => exact ⟨j + 1, by omega, by go_num, bthen HBR.out HW7.out⟩
          case measure => simp [intOf]; omega
    · have hj1 : ¬ (j : Int) < 12 := by omega
      have hb := bthen HB0.out HBR.out
      have v0 := (cell_of_block B_N.out 0).1
      have v1 := (cell_of_block B_N.out 1).1
      have u0 := (cell_of_block B_X.out 0).1
      have u1 := (cell_of_block B_X.out 1).1
      have HC9 := Lib.hid (wpGrown_any n r.1 A1 A2 d1 d2 wr hn (by omega) hx hrl hd2 HRI.out LG.out.ext.ok LG.out.ext.ins LG.out.ext.ext)
      clear hn hx h1 hxs hys
      go_wp2_with fail
      clear v0 v1 u0 u1
      refine HC9.out.mono ?_
      rintro e wx ⟨rfl, hb9⟩
      have HB9 := Lib.hid (bthen hb hb9)
      clear hb9 HC9 hb
      go_wp2
      go_ret
      exact ⟨rfl, HB9.out⟩

set_option maxRecDepth 100000 in
theorem fnBitsCmp_lifted (os : Os) (started : os.Started) (H : Type) (enc : TypeId × Value → H) :
    ReturnsInHanded {} Tryd.checked os 7 .any (fun w args => (Rows.fnBitsCmpSpec.pre enc Tryd.prog Tryd.f7 [] false w args ∧ laidMetH Tryd.prog laid2 w) ∧ sizedMet enc Tryd.prog Tryd.f7 (OpenSpec.ofChange Rows.fnBitsCmpSpec) false w args)
      (Rows.fnBitsCmpSpec.post enc Tryd.prog Tryd.f7 false true false false) := by
  refine returnsInHanded_of_change_and (C := Tryd.checked) (X := fun w _ => laidMetH Tryd.prog laid2 w) (fun _ _ _ hh h => h.of_heap hh) dr_own started (by kernel_rfl) Tryd.func7
    (ChangeSpec.witness_shaped (enc := enc) (C := Tryd.checked) (os := os) (X := fun w _ => laidMetH Tryd.prog laid2 w) false (World.doorLaid Tryd.prog 400 os) #[.slice none 0 0, .slice none 0 0] 16 rfl (World.shaped_of_RefB (by kernel_rfl) (by kernel_rfl)) (by kernel_rfl) (by kernel_rfl) (by kernel_rfl) (door_met os _)) ?_
  intro W base args ds gs before hval0 hW _ _ hL _
  have hval : ∀ (j : Nat) t v, Tryd.f7.params[j]? = some t → args[j]? = some v → Value.okWide Tryd.prog W .any base t v := hval0
  have hW' := hW
  obtain ⟨p, q, hA0, hV0, rfl, hfz, hnd⟩ := hW
  have hV : DataW.TrodVars enc Tryd.prog W (fun _ => true) ["loop.example/seedlip/impl.errBits", "loop.example/seedlip/impl.errRoom"] gs q := hV0
  obtain ⟨a0, a1, hglb, hv0, hv1⟩ := glb_of_laid hL
  have hA : DataW.TrodAll enc Tryd.prog W 0 (fun _ => true) true Tryd.f7.params.toList args.toList ds p := hA0
  rw [Tryd.params7] at hA hval
  obtain ⟨v0, vs0, d0, ds0, p0, q0, hargs, rfl, rfl, h0, r0⟩ := trodAll_cons hA
  obtain ⟨v1, vs1, d1, ds1, p1, q1, rfl, rfl, rfl, h1, r1⟩ := trodAll_cons r0
  obtain ⟨rfl, rfl, rfl⟩ := trodAll_nil r1
  obtain rfl : args = #[v0, v1] := by cases args; simp_all
  obtain ⟨rfl, rfl⟩ := hV.unique (vars_read enc hv0 hv1 trivial trivial _)
  have k0 := h0
  have lt0 : ∀ x ∈ p0, x.block < W.heap.size := by obtain ⟨m, hm⟩ := k0; exact DataW.trod_lt m _ _ _ hm
  have k1 := h1
  have lt1 : ∀ x ∈ p1, x.block < W.heap.size := by obtain ⟨m, hm⟩ := k1; exact DataW.trod_lt m _ _ _ hm
  obtain ⟨A0, c0, x0, rfl, hc0, ok0, rd0⟩ := open_arg Tryd.underlying39 opens_bytes (hval 0 39 v0 rfl rfl) h0
  obtain ⟨A1, c1, x1, rfl, hc1, ok1, rd1⟩ := open_arg Tryd.underlying39 opens_bytes (hval 1 39 v1 rfl rfl) h1
  clear hA0 hval0 hV0
  refine (fnBitsCmp_walk W a0 a1 hglb hc0 ok0 rd0 hc1 ok1 rd1).mono fun e W' ⟨he, bel⟩ => ?_
  subst he
  exact ⟨_, rfl, _, _, _, [], _, [.cell 0 0, .cell 1 0], hW', trodAll_mk1 (shut_bool Tryd.underlying4 _), (trodAll_cons_mk (Below.trod (by kernel_rfl) (by kernel_rfl) (of_decide_eq_true (by kernel_rfl)) k0 bel lt0) (trodAll_cons_mk (Below.trod (by kernel_rfl) (by kernel_rfl) (of_decide_eq_true (by kernel_rfl)) k1 bel lt1) trodAll_mk0)), vars_read enc (var_below dr_g0 hv0 bel) (var_below dr_g1 hv1 bel) trivial trivial _, bel.frame _, fun h => by cases h⟩

/-- The given row. -/
theorem fnBitsCmp_row : Rows.FnBitsCmpSaid :=
  OpenClaim.holds_of_wide 7 Tryd.f7 rfl rfl rfl rfl rfl rfl rfl ⟨rfl, rfl, rfl, rfl, rfl⟩ rfl rfl rfl rfl rfl (by kernel_rfl) Tryd.func7 (by kernel_rfl)
    (of_decide_eq_true (by kernel_rfl)) (by unfold Func.isWrapper; first | (rw [if_pos (by decide +kernel)]; kernel_rfl) | (rw [if_neg (by decide +kernel)]; exact ⟨rfl, rfl⟩))
    (fun os started H enc _ => fnBitsCmp_lifted os started H enc)
/-- The given statement: the row, what it lists tied to the program's text. -/
theorem fnBitsCmp_holds : Rows.FnBitsCmpCardSaid :=
  Claim7.holds_tied_plain_at .later [] [.sentinel, .sentinel] true Rows.fnBitsCmpCard.stood.harness Rows.fnBitsCmpCard.stood.looks
    fnBitsCmp_row (fun _ h => by cases h) (by kernel_rfl) (fun _ h => by cases h) fnBitsCmp_row_tie rfl ⟨rfl, rfl⟩ (by kernel_rfl) rfl
    (fun f fn hf hfn => by
      obtain rfl : f = 7 := Option.some.inj ((show Tryd.prog.funcNamed "loop.example/seedlip/laws.FnBitsCmp" = some 7 by kernel_rfl).symm.trans hf) |>.symm
      obtain rfl : fn = Tryd.f7 := (Option.some.inj (Tryd.func7.symm.trans hfn)).symm
      exact ⟨by kernel_rfl, fun j t ht => by
        rw [Tryd.params7] at ht
        have hm : t ∈ [39, 39] := by simpa using Array.mem_of_getElem? ht
        have hall : ([39, 39].all fun u => !Tryd.prog.wantsStandIn u) = true := by kernel_rfl
        exact (show Tryd.prog.wantsStandIn t = false by simpa using List.all_eq_true.1 hall t hm)⟩)
    (by kernel_rfl)
#print axioms fnBitsCmp_holds
end Go.Proofs.YtjghcaghigebjaaDoor
