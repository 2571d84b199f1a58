/- The program's signals turned, signals that are off. -/
import Derived.Test.YtjghcaghigebjaaGreatDoorChecked
import Derived.RangeFuncNested
import Derived.RangeFuncCalls
import Derived.RangeFuncLeaves
import Derived.WalkKit
import Derived.Lib.Mul64
import Derived.Laws.Bits64b
import Derived.Laws.CopyOwn
import Derived.Deep.OwnRows
import Derived.Test.YtjghcaghigebjaaGreatDoorJFnBitsAgain0
import Derived.Test.YtjghcaghigebjaaGreatDoorJFnBitsAgain1
import Derived.Test.YtjghcaghigebjaaGreatDoorJFnBitsAgain2
namespace Go.Proofs.YtjghcaghigebjaaGreatDoor
open Go Go.RowKit
def pickN (ok : Bool) (out : N × List Int) : N × List Int := match ok with | true => out | false => (⟨0, []⟩, [])
def bitsOut (t : BS × List Int) : N × List Int := if t.1.e = none then (t.1.n, t.2) else (⟨0, []⟩, [])
def Apart9 (A B : Option Addr) (n m : Nat) : Prop := ∀ a b, A = some a → B = some b → 0 < n → 0 < m → a.block ≠ b.block
theorem apart_of {α β : Type} {L : Lay α} {M : Lay β} {w w' : World} {F G : Nat → Prop} {A B : Option Addr} {xs : List α} {ys : List β} (h : L.Sl w F A xs) (h' : M.Sl w' G B ys) (hFG : ∀ b, F b → G b → False) : Apart9 A B xs.length ys.length := fun a b ha hb h1 h2 e => by
 obtain ⟨a', e1, f, _⟩ := h h1
 obtain ⟨b', e2, g, _⟩ := h' h2
 rw [ha] at e1
 injection e1 with e1
 subst e1
 rw [hb] at e2
 injection e2 with e2
 subst e2
 exact hFG _ f (e ▸ g)
theorem apart_nil {A B : Option Addr} {n m : Nat} (h : n = 0) : Apart9 A B n m := fun _ _ _ _ h1 => by omega
def RetBits (r : N × List Int) (w : World) (e : Ending) (w' : World) : Prop :=
 ∃ A B c d, e = .returned (.tuple #[.agg #[.int .i64 r.1.ins, .slice A r.1.gs.length c], .slice B r.2.length d]) ∧ r.1.gs.length ≤ c ∧ r.2.length ≤ d ∧ Lay.gate.Sl w' (Own w.heap.size w') A r.1.gs ∧ Lay.int.Sl w' (Own w.heap.size w') B r.2 ∧ Below w.heap.size w w' ∧ Apart9 A B r.1.gs.length r.2.length
def RetBC (a0 a1 : Addr) (lo : Nat) (w : World) (q r : Nat) (out : N × List Int) (e : Ending) (w' : World) : Prop :=
 ∃ (T : BS × List Int) (A : Option Addr) (c : Nat), e = .returned (.slice A T.2.length c) ∧ T.2.length ≤ 1000 ∧ Lay.int.Pl w' A T.2 ∧ BelB lo w w' ∧ Bd a0 a1 lo w' q r T.1 ∧ bitsOut T = out
def BuiltI (w5 : World) (bx : Nat) (v : Value) (cs : Array Value) (done : Bool) (x : World) : Prop :=
 w5.grownBy x (some bx) ∧ (done = false → x.heap[bx]? = some (.cells #[.int .i64 0, .slice none 0 0] 29 (0, 0))) ∧ (done = true → x.heap[bx]? = some (.cells cs 29 (0, 0)))
theorem grown_trans9 {a b c : World} {r : Option Nat} (h : a.grownBy b r) (k : b.grownBy c r) : a.grownBy c r := ⟨k.os.trans h.os, k.tape.trans h.tape, k.output.trans h.output, Nat.le_trans h.size k.size, fun i hi hn => (k.block i (Nat.lt_of_lt_of_le hi h.size) hn).trans (h.block i hi hn)⟩
theorem grown_of9 {a b : World} (h : Below a.heap.size a b) (r : Option Nat) : a.grownBy b r := ⟨h.os, h.tape, h.output, h.size, fun i hi _ => h.block i hi⟩
theorem BuiltI.up {w5 x x' : World} {bx : Nat} {v : Value} {cs : Array Value} {done : Bool} (h : BuiltI w5 bx v cs done x) (hb : Below x.heap.size x x') : BuiltI w5 bx v cs done x' :=
 ⟨grown_trans9 h.1 (grown_of9 hb _), fun hd => (hb.block _ (lt_of_block (h.2.1 hd))).trans (h.2.1 hd), fun hd => (hb.block _ (lt_of_block (h.2.2 hd))).trans (h.2.2 hd)⟩
theorem own_grown9 {α : Type} {L : Lay α} {x y : World} {lo bx : Nat} {A : Option Addr} {xs : List α} (h : L.Sl x (Own lo x) A xs) (hg : x.grownBy y (some bx)) (hb : bx < lo) : L.Sl y (Own lo y) A xs := by
 have hk : ∀ b, Own lo x b → y.heap[b]? = x.heap[b]? := fun b hb' => hg.block b hb'.2.1 (fun e => by injection e with e; have := hb'.1; omega)
 refine (h.keep hk).mono fun b hb' => ⟨hb'.1, Nat.lt_of_lt_of_le hb'.2.1 hg.size, fun o => ?_⟩
 have := hb'.2.2 o
 unfold World.frozen? at this ⊢
 rw [hk b hb']; exact this
theorem own_mono9 {α : Type} {L : Lay α} {w : World} {A : Option Addr} {xs : List α} {b b' : Nat} (h : L.Sl w (Own b w) A xs) (hb : b' ≤ b) : L.Sl w (Own b' w) A xs := h.mono fun _ ⟨h1, h2⟩ => ⟨Nat.le_trans hb h1, h2⟩
theorem Lay.Sl.upP {α : Type} {L : Lay α} {w w' : World} {A : Option Addr} {xs : List α} (h : L.Pl w A xs) (hb : Below w.heap.size w w') : L.Pl w' A xs :=
 (h.keep fun b hp => hb.block b hp.lt).mono fun b ⟨cs, fr, h1⟩ => ⟨cs, fr, (hb.block b (lt_of_block h1)).trans h1⟩
theorem mark_mb {n : N} {m : Int} (hn : NB n) (h : z04 n m = true) : MB m := by
 obtain ⟨h0, h1, h2⟩ := hn
 have : m ≠ 0 ∧ -(1 + n.ins + n.gs.length) ≤ m ∧ m ≤ 1 + n.ins + n.gs.length := by simpa [z04, sigOf] using h
 unfold MB; omega
theorem goodL_iff {n : N} {a : List Int} : goodL n a = true ↔ 1 ≤ a.length ∧ a.length ≤ 4 ∧ ∀ m ∈ a, z04 n m = true := by
 unfold goodL
 simp only [Bool.and_eq_true, decide_eq_true_eq, List.all_eq_true, and_assoc]
def TwoI (a0 a1 : Addr) (lo : Nat) (W : World) (q r : Nat) (n : N) (e : Option Nat) (x : World) : Prop := BelB lo W x ∧ Bx a0 a1 lo x q r e ∧ Circ lo x r n n.gs
theorem TwoI.up {a0 a1 : Addr} {lo : Nat} {W : World} {q r : Nat} {n : N} {e : Option Nat} {x x' : World} (h : TwoI a0 a1 lo W q r n e x) (hb : Below x.heap.size x x') : TwoI a0 a1 lo W q r n e x' := ⟨h.1.trans (.of hb h.2.1.size), h.2.1.up hb, h.2.2.up hb⟩
def stE (b : Bool) (e e' : Option Nat) : Option Nat := if b = true then e else e'
def bitsOk (n : N) (ok : Bool) (p : PG (List Int)) : N × List Int := if ok = true then bitsOut (run opsP p ⟨n, none⟩) else (⟨0, []⟩, [])
theorem five_boxes (w : World) (o0 o1 o2 o3 o4 : Obj) : Below w.heap.size w (((((w.alloc o0).alloc o1).alloc o2).alloc o3).alloc o4) ∧ (((((w.alloc o0).alloc o1).alloc o2).alloc o3).alloc o4).heap[w.heap.size]? = some o0 ∧ (((((w.alloc o0).alloc o1).alloc o2).alloc o3).alloc o4).heap[w.heap.size + 1]? = some o1 ∧
  (((((w.alloc o0).alloc o1).alloc o2).alloc o3).alloc o4).heap[w.heap.size + 1 + 1]? = some o2 ∧ (((((w.alloc o0).alloc o1).alloc o2).alloc o3).alloc o4).heap[w.heap.size + 1 + 1 + 1]? = some o3 ∧ (((((w.alloc o0).alloc o1).alloc o2).alloc o3).alloc o4).heap[w.heap.size + 1 + 1 + 1 + 1]? = some o4 ∧ (((((w.alloc o0).alloc o1).alloc o2).alloc o3).alloc o4).heap.size = w.heap.size + 1 + 1 + 1 + 1 + 1 := by
 have h0 := heap_alloc_new w o0
 have h1 := heap_alloc_new (w.alloc o0) o1
 have h2 := heap_alloc_new ((w.alloc o0).alloc o1) o2
 have h3 := heap_alloc_new (((w.alloc o0).alloc o1).alloc o2) o3
 have h4 := heap_alloc_new ((((w.alloc o0).alloc o1).alloc o2).alloc o3) o4
 have b1 : Below w.heap.size w (w.alloc o0) := (Below.refl _ _).alloc (Nat.le_refl _) _
 have old : ∀ (u : World) (o : Obj) (k : Nat) (x : Obj), u.heap[k]? = some x → (u.alloc o).heap[k]? = some x := fun u o k x hx => (((Below.refl _ _).alloc (Nat.le_refl u.heap.size) o : Below u.heap.size u (u.alloc o)).block k (Array.getElem?_eq_some_iff.1 hx).1).trans hx
 refine ⟨(((b1.alloc (by simp) _).alloc (by simp; omega) _).alloc (by simp; omega) _).alloc (by simp; omega) _, old _ _ _ _ (old _ _ _ _ (old _ _ _ _ (old _ _ _ _ h0))), old _ _ _ _ (old _ _ _ _ (old _ _ _ _ (by simpa using h1))), old _ _ _ _ (old _ _ _ _ (by simpa using h2)), old _ _ _ _ (by simpa using h3), by simpa using h4, by simp⟩
def RetK (F : Nat → Prop) (w : World) (res : (N × Bool) × Int) (e : Ending) (w' : World) : Prop :=
 ∃ A c, e = .returned (.tuple #[.agg #[.int .i64 res.1.1.ins, .slice A res.1.1.gs.length c, .bool res.1.2], .int .i64 res.2]) ∧ (A = none → res.1.1.gs.length = 0) ∧ Lay.gate.Sl w' (fun b => F b ∨ (w.heap.size ≤ b ∧ b < w'.heap.size)) A res.1.1.gs ∧ Below w.heap.size w w'
abbrev st3 (w : World) (h : Nat) (u0 u1 u2 : Value) : World := ((w.setCell ⟨h, 0, none⟩ u0).setCell ⟨h, 1, none⟩ u1).setCell ⟨h, 2, none⟩ u2
theorem z15 {w : World} {h : Nat} {v0 v1 v2 : Value} {t : TypeId} (hb : w.heap[h]? = some (.cells #[v0, v1, v2] t (0, 0))) (u0 u1 u2 : Value) : (st3 w h u0 u1 u2).heap[h]? = some (.cells #[u0, u1, u2] t (0, 0)) :=
 z03 _ h 2 u2 _ _ (z03 _ h 1 u1 _ _ (z03 w h 0 u0 _ _ hb))
theorem st3_other {w : World} {h b : Nat} {u0 u1 u2 : Value} (hb : b ≠ h) : (st3 w h u0 u1 u2).heap[b]? = w.heap[b]? :=
 (heap_setCell_other _ _ _ _ hb).trans ((heap_setCell_other _ _ _ _ hb).trans (heap_setCell_other _ _ _ _ hb))
theorem z09 {B : Nat} {a w : World} {h : Nat} (hb : Below B a w) (hh : B ≤ h) (u0 u1 u2 : Value) : Below B a (st3 w h u0 u1 u2) := z06 (z06 (z06 hb hh _) hh _) hh _
theorem st3_sl {α : Type} {L : Lay α} {w : World} {h : Nat} {F : Nat → Prop} {A : Option Addr} {xs : List α} (hs : L.Sl w F A xs) (hne : ∀ b, F b → b ≠ h) (u0 u1 u2 : Value) : L.Sl (st3 w h u0 u1 u2) F A xs := hs.keep fun b hb => st3_other (hne b hb)
theorem z13 {w : World} {h : Nat} {u0 u1 u2 : Value} : (st3 w h u0 u1 u2).heap.size = w.heap.size := by simp [st3, World.setCell]
set_option maxHeartbeats 2000000 in
theorem l7And_any (F : Nat → Prop) (A : Option Addr) (c : Nat) (k : N × Bool) (a b : Int) (w : World) (h : Lay.gate.Sl w F A k.1.gs) (hF : ∀ b, F b → b < w.heap.size) (hA : A = none → k.1.gs.length = 0) (hnb : NB k.1) (ha : RB a) (hb : RB b) :
  Calls Tryz.prog 133 #[.agg #[.int .i64 k.1.ins, .slice A k.1.gs.length c, .bool k.2], .int .i64 a, .int .i64 b] w (RetK F w (opsR.and k a b)) := by
 show Calls _ _ _ _ (RetK F w (stepR k (and1 k.1 a b)))
 obtain ⟨n, ok⟩ := k
 dsimp only at h hA hnb ⊢
 obtain ⟨n0, n1, n2⟩ := hnb
 obtain ⟨a0, a1⟩ := ha
 obtain ⟨b0, b1⟩ := hb
 obtain ⟨hW, hB0, hB1, hWS⟩ := two_boxes w (.cells #[.int .i64 n.ins, .slice A n.gs.length c, .bool ok] 95) (.cells #[.int .i64 0, .slice none 0 0, .bool false] 95)
 have HB0 := zH hB0
 have HB1 := zH hB1
 have HW := zH hW
 have HWS := zH hWS
 have H := zH h
 have HF := zH hF
 have z0 := (z00 hB0 0).1
 have z1 := (z00 hB0 1).1
 have z2 := (z00 hB0 2).1
 have HCL := zH (l6And_any F A c n a b _ (h.below hW hF) (fun b hb => Nat.lt_of_lt_of_le (hF b hb) hW.size) (by omega) hA n0 (by omega) (by omega) (by omega))
 clear h hF hB0 hB1 hWS hW
 cases ok
 ·
  have y0 := (z00 HB1.out 0).1
  have y1 := (z00 HB1.out 1).1
  have y2 := (z00 HB1.out 2).1
  have f0 := (z00 HB1.out 0).2
  have f1 := (z00 HB1.out 1).2
  have f2 := (z00 HB1.out 2).2
  clear HCL
  go_enter Tryz.func133, Tryz.ntmps133
  go_wp2
  refine bodyPost_ret (v := .tuple #[.agg #[.int .i64 n.ins, .slice A n.gs.length c, .bool false], .int .i64 1]) (by simp [results, Tryz.results133, go_sem]) rfl ?_
  rw [show stepR (n, false) (and1 n a b) = ((n, false), 1) from if_pos rfl]
  exact ⟨A, c, rfl, hA, (H.out.below (two_boxes w _ _).1 HF.out).mono fun _ => .inl, (two_boxes w _ _).1⟩
 ·
  go_enter Tryz.func133, Tryz.ntmps133
  go_wp2_with fail
  refine HCL.out.mono ?_
  generalize (w.alloc (.cells #[.int .i64 n.ins, .slice A n.gs.length c, .bool true] 95)).alloc (.cells #[.int .i64 0, .slice none 0 0, .bool false] 95) = W at *
  rw [show stepR (n, true) (and1 n a b) = (((and1 n a b).1, decide ((and1 n a b).2 ≠ 0)), (and1 n a b).2) from if_neg (by simp)]
  generalize and1 n a b = m at *
  rintro e w1 ⟨A1, c1, rfl, hA1, hs1, hb1⟩
  have HS1 := zH hs1
  have HX1 := zH ((hb1.block _ (lt_of_block HB1.out)).trans HB1.out)
  have HW1 := zH hb1
  clear hs1 hb1 HCL z0 z1 z2
  have hal : Below w1.heap.size w1 (w1.alloc (.cells #[.int .i64 m.1.ins, .slice A1 m.1.gs.length c1] 29)) := (Below.refl _ _).alloc (Nat.le_refl _) _
  have hx2 := (hal.block _ (lt_of_block HX1.out)).trans HX1.out
  have y0 := (z00 hx2 0).1
  have y1 := (z00 hx2 1).1
  have y2 := (z00 hx2 2).1
  have f0 := (z00 hx2 0).2
  have f1 := (z00 hx2 1).2
  have f2 := (z00 hx2 2).2
  have HX2 := zH hx2
  have HAL := zH hal
  clear hx2 hal
  go_wp2
  generalize hW2 : w1.alloc (.cells #[.int .i64 m.1.ins, .slice A1 m.1.gs.length c1] 29) = W2 at *
  have hs := z15 HX2.out (.int .i64 m.1.ins) (.slice A1 m.1.gs.length c1) (.bool (m.2 != 0))
  have k5 := (z00 hs 0).1
  have k6 := (z00 hs 1).1
  have k7 := (z00 hs 2).1
  have kf5 := (z00 hs 0).2
  have kf6 := (z00 hs 1).2
  have kf7 := (z00 hs 2).2
  refine bodyPost_ret (v := .tuple #[.agg #[.int .i64 m.1.ins, .slice A1 m.1.gs.length c1, .bool (m.2 != 0)], .int .i64 m.2]) (by simp [results, Tryz.results133, go_sem, k5, k6, k7, kf5, kf6, kf7]) rfl ?_
  have hd : (m.2 != 0) = decide (m.2 ≠ 0) := by by_cases h : m.2 = 0 <;> simp [h]
  rw [hd]
  have hsz := HAL.out.size
  have hsz1 := HW1.out.size
  refine ⟨A1, c1, rfl, hA1, (st3_sl (h := w.heap.size + 1) (HS1.out.below HAL.out (fun b hb => ?_)) (fun b hb => ?_) _ _ _).mono (fun b hb => ?_), z09 (bthen (bthen HW.out HW1.out) HAL.out) (by omega) _ _ _⟩
  ·
   rcases hb with hb | hb
   · have := HF.out b hb; have := HW.out.size; omega
   · exact hb.2
  ·
   rcases hb with hb | hb
   · have := HF.out b hb; omega
   · have := HWS.out; omega
  ·
   rcases hb with hb | hb
   · exact .inl hb
   · exact .inr ⟨by have := HWS.out; omega, by rw [z13]; omega⟩
set_option maxHeartbeats 2000000 in
theorem l7Xor_any (F : Nat → Prop) (A : Option Addr) (c : Nat) (k : N × Bool) (a b : Int) (w : World) (h : Lay.gate.Sl w F A k.1.gs) (hF : ∀ b, F b → b < w.heap.size) (hA : A = none → k.1.gs.length = 0) (hnb : NB k.1) (ha : RB a) (hb : RB b) :
  Calls Tryz.prog 132 #[.agg #[.int .i64 k.1.ins, .slice A k.1.gs.length c, .bool k.2], .int .i64 a, .int .i64 b] w (RetK F w (opsR.xor k a b)) := by
 show Calls _ _ _ _ (RetK F w (stepR k (xor1 k.1 a b)))
 obtain ⟨n, ok⟩ := k
 dsimp only at h hA hnb ⊢
 obtain ⟨n0, n1, n2⟩ := hnb
 obtain ⟨a0, a1⟩ := ha
 obtain ⟨b0, b1⟩ := hb
 obtain ⟨hW, hB0, hB1, hWS⟩ := two_boxes w (.cells #[.int .i64 n.ins, .slice A n.gs.length c, .bool ok] 95) (.cells #[.int .i64 0, .slice none 0 0, .bool false] 95)
 have HB0 := zH hB0
 have HB1 := zH hB1
 have HW := zH hW
 have HWS := zH hWS
 have H := zH h
 have HF := zH hF
 have z0 := (z00 hB0 0).1
 have z1 := (z00 hB0 1).1
 have z2 := (z00 hB0 2).1
 have HCL := zH (l6Xor_any F A c n a b _ (h.below hW hF) (fun b hb => Nat.lt_of_lt_of_le (hF b hb) hW.size) (by omega) hA n0 (by omega) (by omega) (by omega))
 clear h hF hB0 hB1 hWS hW
 cases ok
 ·
  have y0 := (z00 HB1.out 0).1
  have y1 := (z00 HB1.out 1).1
  have y2 := (z00 HB1.out 2).1
  have f0 := (z00 HB1.out 0).2
  have f1 := (z00 HB1.out 1).2
  have f2 := (z00 HB1.out 2).2
  clear HCL
  go_enter Tryz.func132, Tryz.ntmps132
  go_wp2
  refine bodyPost_ret (v := .tuple #[.agg #[.int .i64 n.ins, .slice A n.gs.length c, .bool false], .int .i64 1]) (by simp [results, Tryz.results132, go_sem]) rfl ?_
  rw [show stepR (n, false) (xor1 n a b) = ((n, false), 1) from if_pos rfl]
  exact ⟨A, c, rfl, hA, (H.out.below (two_boxes w _ _).1 HF.out).mono fun _ => .inl, (two_boxes w _ _).1⟩
 ·
  go_enter Tryz.func132, Tryz.ntmps132
  go_wp2_with fail
  refine HCL.out.mono ?_
  generalize (w.alloc (.cells #[.int .i64 n.ins, .slice A n.gs.length c, .bool true] 95)).alloc (.cells #[.int .i64 0, .slice none 0 0, .bool false] 95) = W at *
  rw [show stepR (n, true) (xor1 n a b) = (((xor1 n a b).1, decide ((xor1 n a b).2 ≠ 0)), (xor1 n a b).2) from if_neg (by simp)]
  generalize xor1 n a b = m at *
  rintro e w1 ⟨A1, c1, rfl, hA1, hs1, hb1⟩
  have HS1 := zH hs1
  have HX1 := zH ((hb1.block _ (lt_of_block HB1.out)).trans HB1.out)
  have HW1 := zH hb1
  clear hs1 hb1 HCL z0 z1 z2
  have hal : Below w1.heap.size w1 (w1.alloc (.cells #[.int .i64 m.1.ins, .slice A1 m.1.gs.length c1] 29)) := (Below.refl _ _).alloc (Nat.le_refl _) _
  have hx2 := (hal.block _ (lt_of_block HX1.out)).trans HX1.out
  have y0 := (z00 hx2 0).1
  have y1 := (z00 hx2 1).1
  have y2 := (z00 hx2 2).1
  have f0 := (z00 hx2 0).2
  have f1 := (z00 hx2 1).2
  have f2 := (z00 hx2 2).2
  have HX2 := zH hx2
  have HAL := zH hal
  clear hx2 hal
  go_wp2
  generalize hW2 : w1.alloc (.cells #[.int .i64 m.1.ins, .slice A1 m.1.gs.length c1] 29) = W2 at *
  have hs := z15 HX2.out (.int .i64 m.1.ins) (.slice A1 m.1.gs.length c1) (.bool (m.2 != 0))
  have k5 := (z00 hs 0).1
  have k6 := (z00 hs 1).1
  have k7 := (z00 hs 2).1
  have kf5 := (z00 hs 0).2
  have kf6 := (z00 hs 1).2
  have kf7 := (z00 hs 2).2
  refine bodyPost_ret (v := .tuple #[.agg #[.int .i64 m.1.ins, .slice A1 m.1.gs.length c1, .bool (m.2 != 0)], .int .i64 m.2]) (by simp [results, Tryz.results132, go_sem, k5, k6, k7, kf5, kf6, kf7]) rfl ?_
  have hd : (m.2 != 0) = decide (m.2 ≠ 0) := by by_cases h : m.2 = 0 <;> simp [h]
  rw [hd]
  have hsz := HAL.out.size
  have hsz1 := HW1.out.size
  refine ⟨A1, c1, rfl, hA1, (st3_sl (h := w.heap.size + 1) (HS1.out.below HAL.out (fun b hb => ?_)) (fun b hb => ?_) _ _ _).mono (fun b hb => ?_), z09 (bthen (bthen HW.out HW1.out) HAL.out) (by omega) _ _ _⟩
  ·
   rcases hb with hb | hb
   · have := HF.out b hb; have := HW.out.size; omega
   · exact hb.2
  ·
   rcases hb with hb | hb
   · have := HF.out b hb; omega
   · have := HWS.out; omega
  ·
   rcases hb with hb | hb
   · exact .inl hb
   · exact .inr ⟨by have := HWS.out; omega, by rw [z13]; omega⟩
structure KS (F : Nat → Prop) (w x : World) (k : N × Bool) (A : Option Addr) (c : Nat) : Prop where
 bel : Below w.heap.size w x
 var : x.heap[w.heap.size]? = some (.cells #[.int .i64 k.1.ins, .slice A k.1.gs.length c, .bool k.2] 95 (0, 0))
 res : x.heap[w.heap.size + 1]? = some (.cells #[.int .i64 0, .slice none 0 0, .bool false] 95 (0, 0))
 row : Lay.gate.Sl x (fun b => F b ∨ (w.heap.size + 2 ≤ b ∧ b < x.heap.size)) A k.1.gs
 nil : A = none → k.1.gs.length = 0
theorem KS.lt {F : Nat → Prop} {w x : World} {k : N × Bool} {A : Option Addr} {c : Nat} (h : KS F w x k A c) (hF : ∀ b, F b → b < w.heap.size) : ∀ b, (fun b => F b ∨ (w.heap.size + 2 ≤ b ∧ b < x.heap.size)) b → b < x.heap.size := fun b hb => by
 rcases hb with hb | hb
 · have := hF b hb; have := h.bel.size; omega
 · exact hb.2
theorem KS.up {F : Nat → Prop} {w x x' : World} {k : N × Bool} {A : Option Addr} {c : Nat} (h : KS F w x k A c) (hF : ∀ b, F b → b < w.heap.size) (hb : Below x.heap.size x x') : KS F w x' k A c :=
 ⟨bthen h.bel hb, (hb.block _ (lt_of_block h.var)).trans h.var, (hb.block _ (lt_of_block h.res)).trans h.res, (h.row.below hb (h.lt hF)).mono fun b hb' => hb'.imp id fun h9 => ⟨h9.1, Nat.lt_of_lt_of_le h9.2 hb.size⟩, h.nil⟩
theorem KS.step {F : Nat → Prop} {w x x' : World} {k k' : N × Bool} {A A' : Option Addr} {c c' : Nat} (h : KS F w x k A c) (hF : ∀ b, F b → b < w.heap.size) (hs : Lay.gate.Sl x' (fun b => (fun b => F b ∨ (w.heap.size + 2 ≤ b ∧ b < x.heap.size)) b ∨ (x.heap.size ≤ b ∧ b < x'.heap.size)) A' k'.1.gs) (hb : Below x.heap.size x x') (hn : A' = none → k'.1.gs.length = 0) :
  KS F w (st3 x' w.heap.size (.int .i64 k'.1.ins) (.slice A' k'.1.gs.length c') (.bool k'.2)) k' A' c' := by
 have hv := (hb.block _ (lt_of_block h.var)).trans h.var
 have hr := (hb.block _ (lt_of_block h.res)).trans h.res
 have hx := lt_of_block h.res
 have hsz := hb.size
 refine ⟨z09 (bthen h.bel hb) (Nat.le_refl _) _ _ _, z15 hv _ _ _, (st3_other (by omega)).trans hr, (st3_sl (h := w.heap.size) hs (fun b hb' => ?_) _ _ _).mono (fun b hb' => ?_), hn⟩
 ·
  rcases hb' with (hb' | hb') | hb'
  · have := hF b hb'; omega
  · omega
  · omega
 ·
  rw [z13]
  rcases hb' with (hb' | hb') | hb'
  · exact .inl hb'
  · exact .inr ⟨hb'.1, by omega⟩
  · exact .inr ⟨by omega, hb'.2⟩
theorem KS.two {F : Nat → Prop} {w : World} {k : N × Bool} {A : Option Addr} {c : Nat} (h : Lay.gate.Sl w F A k.1.gs) (hF : ∀ b, F b → b < w.heap.size) (hA : A = none → k.1.gs.length = 0) : KS F w ((w.alloc (.cells #[.int .i64 k.1.ins, .slice A k.1.gs.length c, .bool k.2] 95)).alloc (.cells #[.int .i64 0, .slice none 0 0, .bool false] 95)) k A c := by
 obtain ⟨hW, h0, h1, _⟩ := two_boxes w (.cells #[.int .i64 k.1.ins, .slice A k.1.gs.length c, .bool k.2] 95) (.cells #[.int .i64 0, .slice none 0 0, .bool false] 95)
 exact ⟨hW, h0, h1, (h.below hW hF).mono fun _ => .inl, hA⟩
theorem KS.done {F : Nat → Prop} {w x : World} {k : N × Bool} {A : Option Addr} {c : Nat} {m : Int} (h : KS F w x k A c) (hF : ∀ b, F b → b < w.heap.size) : RetK F w (k, m) (.returned (.tuple #[.agg #[.int .i64 k.1.ins, .slice A k.1.gs.length c, .bool k.2], .int .i64 m])) (st3 x (w.heap.size + 1) (.int .i64 k.1.ins) (.slice A k.1.gs.length c) (.bool k.2)) := by
 refine ⟨A, c, rfl, h.nil, (st3_sl (h := w.heap.size + 1) h.row (fun b hb => ?_) _ _ _).mono (fun b hb => ?_), z09 h.bel (by omega) _ _ _⟩
 ·
  rcases hb with hb | hb
  · have := hF b hb; omega
  · omega
 ·
  rw [z13]
  exact hb.imp id fun h9 => ⟨by omega, h9.2⟩
theorem KS.out {F : Nat → Prop} {w x x' : World} {k k' : N × Bool} {A A' : Option Addr} {c c' : Nat} {m : Int} (h : KS F w x k A c) (hF : ∀ b, F b → b < w.heap.size) (hs : Lay.gate.Sl x' (fun b => (fun b => F b ∨ (w.heap.size + 2 ≤ b ∧ b < x.heap.size)) b ∨ (x.heap.size ≤ b ∧ b < x'.heap.size)) A' k'.1.gs) (hb : Below x.heap.size x x') (hn : A' = none → k'.1.gs.length = 0) :
  RetK F w (k', m) (.returned (.tuple #[.agg #[.int .i64 k'.1.ins, .slice A' k'.1.gs.length c', .bool k'.2], .int .i64 m])) (st3 x' (w.heap.size + 1) (.int .i64 k'.1.ins) (.slice A' k'.1.gs.length c') (.bool k'.2)) := by
 have hx := lt_of_block h.res
 refine ⟨A', c', rfl, hn, (st3_sl (h := w.heap.size + 1) hs (fun b hb' => ?_) _ _ _).mono (fun b hb' => ?_), z09 (bthen h.bel hb) (by omega) _ _ _⟩
 ·
  rcases hb' with (hb' | hb') | hb'
  · have := hF b hb'; omega
  · omega
  · omega
 ·
  rw [z13]
  have hsz := hb.size
  rcases hb' with (hb' | hb') | hb'
  · exact .inl hb'
  · exact .inr ⟨by omega, by omega⟩
  · exact .inr ⟨by omega, hb'.2⟩
set_option maxHeartbeats 2000000 in
theorem l7Or_any (F : Nat → Prop) (A : Option Addr) (c : Nat) (k : N × Bool) (a b : Int) (w : World) (h : Lay.gate.Sl w F A k.1.gs) (hF : ∀ b, F b → b < w.heap.size) (hA : A = none → k.1.gs.length = 0) (hnb : NB k.1) (ha : RB a) (hb : RB b) :
  Calls Tryz.prog 134 #[.agg #[.int .i64 k.1.ins, .slice A k.1.gs.length c, .bool k.2], .int .i64 a, .int .i64 b] w (RetK F w (run opsR (orP a b) k)) := by
 have K0 := KS.two (c := c) h hF hA
 have HF := zH hF
 have HNB := zH hnb
 clear h hA
 have Ra := zH ha
 obtain ⟨a0, a1⟩ := ha
 have Rb := zH hb
 obtain ⟨b0, b1⟩ := hb
 show Calls _ _ _ _ (RetK F w ((opsR.and k (-a) (-b)).1, -(opsR.and k (-a) (-b)).2))
 have HM := zH (stepR_nb (r := and1 k.1 (-a) (-b)) (k := k) hnb (and1_nb hnb Ra.out.neg Rb.out.neg)).2
 rw [show stepR k (and1 k.1 (-a) (-b)) = opsR.and k (-a) (-b) from rfl] at HM
 have y0 := (z00 K0.var 0).1
 have y1 := (z00 K0.var 1).1
 have y2 := (z00 K0.var 2).1
 have HC := zH (l7And_any _ A c k (-a) (-b) _ K0.row (K0.lt HF.out) K0.nil hnb Ra.out.neg Rb.out.neg)
 generalize hm : opsR.and k (-a) (-b) = m at *
 have Hm := zH hm
 clear hm
 have K0 := zH K0
 go_enter Tryz.func134, Tryz.ntmps134
 go_wp2_with fail
 refine HC.out.mono ?_
 generalize hX0 : (w.alloc (.cells #[.int .i64 k.1.ins, .slice A k.1.gs.length c, .bool k.2] 95)).alloc (.cells #[.int .i64 0, .slice none 0 0, .bool false] 95) = X0 at *
 clear hX0
 rintro e z1 ⟨A1, c1, rfl, hn9, hs9, hb9⟩
 have hv9 := (hb9.block _ (lt_of_block K0.out.var)).trans K0.out.var
 clear y0 y1 y2
 have y0 := (z00 hv9 0).1
 have y1 := (z00 hv9 1).1
 have y2 := (z00 hv9 2).1
 have f0 := (z00 hv9 0).2
 have f1 := (z00 hv9 1).2
 have f2 := (z00 hv9 2).2
 have K9 := K0.out.step (c' := c1) HF.out hs9 hb9 hn9
 dsimp only [st3] at K9
 have K1 := zH K9
 clear K9 HC hs9 hb9 hn9 hv9 K0
 obtain ⟨hm0, hm1⟩ := HM.out
 have q0 := (z00 K1.out.var 0).1
 have q1 := (z00 K1.out.var 1).1
 have q2 := (z00 K1.out.var 2).1
 have r0 := (z00 K1.out.res 0).1
 have r1 := (z00 K1.out.res 1).1
 have r2 := (z00 K1.out.res 2).1
 have rf0 := (z00 K1.out.res 0).2
 have rf1 := (z00 K1.out.res 1).2
 have rf2 := (z00 K1.out.res 2).2
 go_wp2
 generalize hX9 : ((z1.setCell ⟨w.heap.size, 0, none⟩ (.int .i64 m.1.1.ins)).setCell ⟨w.heap.size, 1, none⟩ (.slice A1 m.1.1.gs.length c1)).setCell ⟨w.heap.size, 2, none⟩ (.bool m.1.2) = X9 at *
 clear hX9
 have hs := z15 K1.out.res (.int .i64 m.1.1.ins) (.slice A1 m.1.1.gs.length c1) (.bool m.1.2)
 have k5 := (z00 hs 0).1
 have kf5 := (z00 hs 0).2
 have k6 := (z00 hs 1).1
 have kf6 := (z00 hs 1).2
 have k7 := (z00 hs 2).1
 have kf7 := (z00 hs 2).2
 refine bodyPost_ret (v := .tuple #[.agg #[.int .i64 m.1.1.ins, .slice A1 m.1.1.gs.length c1, .bool m.1.2], .int .i64 (-m.2)]) (by simp [results, Tryz.results134, go_sem, k5, k6, k7, kf5, kf6, kf7]) rfl ?_
 exact K1.out.done HF.out
set_option maxHeartbeats 2000000 in
theorem l7One_any (F : Nat → Prop) (A : Option Addr) (c : Nat) (k : N × Bool) (a b d : Int) (w : World) (h : Lay.gate.Sl w F A k.1.gs) (hF : ∀ b, F b → b < w.heap.size) (hA : A = none → k.1.gs.length = 0) (hnb : NB k.1) (ha : RB a) (hb : RB b) (hd : RB d) :
  Calls Tryz.prog 138 #[.agg #[.int .i64 k.1.ins, .slice A k.1.gs.length c, .bool k.2], .int .i64 a, .int .i64 b, .int .i64 d] w (RetK F w (run opsR (muxP a b d) k)) := by
 have K0 := KS.two (c := c) h hF hA
 have HF := zH hF
 have HNB := zH hnb
 clear h hA
 have Ra := zH ha
 obtain ⟨a0, a1⟩ := ha
 have Rb := zH hb
 obtain ⟨b0, b1⟩ := hb
 have Rd := zH hd
 obtain ⟨d0, d1⟩ := hd
 show Calls _ _ _ _ (RetK F w (run opsR (orP (opsR.and k a b).2 (opsR.and (opsR.and k a b).1 (-a) d).2) (opsR.and (opsR.and k a b).1 (-a) d).1))
 have HM1 : Hid (NB (opsR.and k a b).1.1 ∧ RB (opsR.and k a b).2) := zH (stepR_nb (r := and1 k.1 a b) (k := k) hnb (and1_nb hnb Ra.out Rb.out))
 have HM2 : Hid (NB (opsR.and (opsR.and k a b).1 (-a) d).1.1 ∧ RB (opsR.and (opsR.and k a b).1 (-a) d).2) := zH (stepR_nb (r := and1 (opsR.and k a b).1.1 (-a) d) (k := (opsR.and k a b).1) HM1.out.1 (and1_nb HM1.out.1 Ra.out.neg Rd.out))
 have y0 := (z00 K0.var 0).1
 have y1 := (z00 K0.var 1).1
 have y2 := (z00 K0.var 2).1
 have HC := zH (l7And_any _ A c k (a) (b) _ K0.row (K0.lt HF.out) K0.nil hnb Ra.out Rb.out)
 generalize hm : opsR.and k a b = m at *
 have Hm := zH hm
 clear hm
 have K0 := zH K0
 go_enter Tryz.func138, Tryz.ntmps138
 go_wp2_with fail
 refine HC.out.mono ?_
 generalize hX0 : (w.alloc (.cells #[.int .i64 k.1.ins, .slice A k.1.gs.length c, .bool k.2] 95)).alloc (.cells #[.int .i64 0, .slice none 0 0, .bool false] 95) = X0 at *
 clear hX0
 rintro e z1 ⟨A1, c1, rfl, hn9, hs9, hb9⟩
 have hv9 := (hb9.block _ (lt_of_block K0.out.var)).trans K0.out.var
 clear y0 y1 y2
 have y0 := (z00 hv9 0).1
 have y1 := (z00 hv9 1).1
 have y2 := (z00 hv9 2).1
 have f0 := (z00 hv9 0).2
 have f1 := (z00 hv9 1).2
 have f2 := (z00 hv9 2).2
 have K9 := K0.out.step (c' := c1) HF.out hs9 hb9 hn9
 dsimp only [st3] at K9
 have K1 := zH K9
 clear K9 HC hs9 hb9 hn9 hv9 K0
 have y0 := (z00 K1.out.var 0).1
 have y1 := (z00 K1.out.var 1).1
 have y2 := (z00 K1.out.var 2).1
 have HC := zH (l7And_any _ A1 c1 m.1 (-a) (d) _ K1.out.row (K1.out.lt HF.out) K1.out.nil HM1.out.1 Ra.out.neg Rd.out)
 generalize hp : opsR.and m.1 (-a) d = p at *
 have Hp := zH hp
 clear hp
 go_wp2_with fail
 refine HC.out.mono ?_
 generalize hX1 : ((z1.setCell ⟨w.heap.size, 0, none⟩ (.int .i64 m.1.1.ins)).setCell ⟨w.heap.size, 1, none⟩ (.slice A1 m.1.1.gs.length c1)).setCell ⟨w.heap.size, 2, none⟩ (.bool m.1.2) = X1 at *
 clear hX1
 rintro e z2 ⟨A2, c2, rfl, hn9, hs9, hb9⟩
 have hv9 := (hb9.block _ (lt_of_block K1.out.var)).trans K1.out.var
 clear y0 y1 y2 f0 f1 f2
 have y0 := (z00 hv9 0).1
 have y1 := (z00 hv9 1).1
 have y2 := (z00 hv9 2).1
 have f0 := (z00 hv9 0).2
 have f1 := (z00 hv9 1).2
 have f2 := (z00 hv9 2).2
 have K9 := K1.out.step (c' := c2) HF.out hs9 hb9 hn9
 dsimp only [st3] at K9
 have K2 := zH K9
 clear K9 HC hs9 hb9 hn9 hv9 K1
 have y0 := (z00 K2.out.var 0).1
 have y1 := (z00 K2.out.var 1).1
 have y2 := (z00 K2.out.var 2).1
 have HC := zH (l7Or_any _ A2 c2 p.1 (m.2) (p.2) _ K2.out.row (K2.out.lt HF.out) K2.out.nil HM2.out.1 HM1.out.2 HM2.out.2)
 generalize hq : run opsR (orP m.2 p.2) p.1 = q at *
 have Hq := zH hq
 clear hq
 go_wp2_with fail
 refine HC.out.mono ?_
 generalize hX2 : ((z2.setCell ⟨w.heap.size, 0, none⟩ (.int .i64 p.1.1.ins)).setCell ⟨w.heap.size, 1, none⟩ (.slice A2 p.1.1.gs.length c2)).setCell ⟨w.heap.size, 2, none⟩ (.bool p.1.2) = X2 at *
 clear hX2
 rintro e z9 ⟨A9, c9, rfl, hn9, hs9, hb9⟩
 have hr9 := (hb9.block _ (lt_of_block K2.out.res)).trans K2.out.res
 clear y0 y1 y2 f0 f1 f2
 have r0 := (z00 hr9 0).1
 have r1 := (z00 hr9 1).1
 have r2 := (z00 hr9 2).1
 have rf0 := (z00 hr9 0).2
 have rf1 := (z00 hr9 1).2
 have rf2 := (z00 hr9 2).2
 have HS9 := zH hs9
 have HB9 := zH hb9
 have HR9 := zH hr9
 clear hs9 hb9 hr9 HC
 go_wp2
 have hs := z15 HR9.out (.int .i64 q.1.1.ins) (.slice A9 q.1.1.gs.length c9) (.bool q.1.2)
 have k5 := (z00 hs 0).1
 have kf5 := (z00 hs 0).2
 have k6 := (z00 hs 1).1
 have kf6 := (z00 hs 1).2
 have k7 := (z00 hs 2).1
 have kf7 := (z00 hs 2).2
 refine bodyPost_ret (v := .tuple #[.agg #[.int .i64 q.1.1.ins, .slice A9 q.1.1.gs.length c9, .bool q.1.2], .int .i64 q.2]) (by simp [results, Tryz.results138, go_sem, k5, k6, k7, kf5, kf6, kf7]) rfl ?_
 exact K2.out.out HF.out HS9.out HB9.out hn9
theorem z08 {Q : Exit → Act → World → Prop} {ops : Array Oper} {rest : List Oper} {o : Oper} {a : Act} {W : World} {lo : Nat} {A : Option Addr} {c : Nat} {xs ys : List Int} {x : Int} {e' : TypeId} (hgd : o.guard = none) (s y : Operand)
  (ho : o.op = .call { callee := .builtin .append, args := #[s, y], argTypes := #[34, 34] }) (hs : a.eval s = .slice A xs.length c) (hy : a.eval y = .slice (some ⟨W.heap.size, 0, none⟩) 1 1)
  (hown : OwnI W lo (.slice A xs.length c) xs) (hn : xs.length ≤ 2000000) (hlo : lo ≤ W.heap.size) (hys : ys = xs ++ [x])
  (h : ∀ A' c' w', OwnI w' lo (.slice A' ys.length c') ys → W.grownBy w' (Value.slice A xs.length c).ownBlock →
   ((Value.slice A' ys.length c').ownBlock = (Value.slice A xs.length c).ownBlock ∨ ∃ g, (Value.slice A' ys.length c').ownBlock = some g ∧ W.heap.size ≤ g) → wpList Tryz.prog ops Q rest (a.put o.dst (.slice A' ys.length c')) w') :
  wpList Tryz.prog ops Q (o :: rest) a (W.alloc (.cells #[.int .i64 x] e')) := by
 obtain ⟨i0, hi0, hz0, hz1, hz2⟩ := info_parts int_info
 have hal : Below W.heap.size W (W.alloc (.cells #[.int .i64 x] e')) := (Below.refl _ _).alloc (Nat.le_refl _) _
 have hl : ys.length = xs.length + 1 := by rw [hys]; simp
 have hm : ys.map (Value.int .i64) = xs.map (Value.int .i64) ++ [.int .i64 x] := by rw [hys]; simp
 refine wpList_plain hgd fun _ hK => ?_
 obtain ⟨v', w', hrun, ho', hg', _, hbk⟩ := run_append_own_at (P := Tryz.prog) (W.alloc (.cells #[.int .i64 x] e')) lo 34 o.type 3 i0 _ 1 8 Tryz.underlying34 hi0 hz0 hz1 hz2 (by rfl) (by omega)
  (.slice A xs.length c) xs.length (xs.map (Value.int .i64)) (hown.up hal) ⟨W.heap.size, 0, none⟩ 1 1 [.int .i64 x] (by rfl) (fun j u hu => by
   have := World.news_of_block (heap_alloc_new W (.cells #[.int .i64 x] e')) j u hu
   exact this) (by simp; rfl) (by unfold maxLen; omega) (by omega) (Nat.le_trans hlo hal.size)
 rw [← hl, ← hm] at ho'
 obtain ⟨A', c', rfl, _, _⟩ := OwnI.form (xs := ys) ho'
 unfold Oper.wp execOp
 simp only [ho, resolve, invoke, builtin, Sem.run_bind, Sem.run_pure, Result.andThen_ok, List.map_toArray, List.map_cons, List.map_nil, hs, hy, hrun]
 refine hK _ _ (h A' c' w' ho' (grown_then hal hg') ?_)
 rcases hbk with e | e
 · exact .inl e
 · exact .inr ⟨_, e, hal.size⟩
abbrev G2 (F : Nat → Prop) (w x : World) (S : Nat → Prop) (b : Nat) : Prop := F b ∨ (w.heap.size + 2 ≤ b ∧ b < x.heap.size ∧ ¬ S b)
structure KS2 (F : Nat → Prop) (w x : World) (k : N × Bool) (A : Option Addr) (c : Nat) (S : Nat → Prop) : Prop where
 bel : Below w.heap.size w x
 var : x.heap[w.heap.size]? = some (.cells #[.int .i64 k.1.ins, .slice A k.1.gs.length c, .bool k.2] 95 (0, 0))
 res : x.heap[w.heap.size + 1]? = some (.cells #[.int .i64 0, .slice none 0 0, .bool false] 95 (0, 0))
 row : Lay.gate.Sl x (G2 F w x S) A k.1.gs
 nil : A = none → k.1.gs.length = 0
theorem KS2.lt {F : Nat → Prop} {w x : World} {S : Nat → Prop} (h : Below w.heap.size w x) (hF : ∀ b, F b → b < w.heap.size) : ∀ b, G2 F w x S b → b < x.heap.size := fun b hb => by
 rcases hb with hb | hb
 · have := hF b hb; have := h.size; omega
 · exact hb.2.1
theorem G2.up {α : Type} {L : Lay α} {F : Nat → Prop} {w x x' : World} {S : Nat → Prop} {A : Option Addr} {xs : List α} (h : L.Sl x (G2 F w x S) A xs) (hw : Below w.heap.size w x) (hF : ∀ b, F b → b < w.heap.size) (hb : Below x.heap.size x x') : L.Sl x' (G2 F w x' S) A xs :=
 (h.below hb (KS2.lt hw hF)).mono fun b hb' => hb'.imp id fun h9 => ⟨h9.1, Nat.lt_of_lt_of_le h9.2.1 hb.size, h9.2.2⟩
theorem G2.up2 {α : Type} {L : Lay α} {F : Nat → Prop} {w x x' : World} {S : Nat → Prop} {A : Option Addr} {xs : List α} (h : L.Sl x (G2 F w x S) A xs) (hF : ∀ b, F b → b < x.heap.size) (hb : Below x.heap.size x x') : L.Sl x' (G2 F w x' S) A xs :=
 (h.below hb (fun b hb' => hb'.elim (hF b) (fun h9 => h9.2.1))).mono fun b hb' => hb'.imp id fun h9 => ⟨h9.1, Nat.lt_of_lt_of_le h9.2.1 hb.size, h9.2.2⟩
theorem KS2.up {F : Nat → Prop} {w x x' : World} {k : N × Bool} {A : Option Addr} {c : Nat} {S : Nat → Prop} (h : KS2 F w x k A c S) (hF : ∀ b, F b → b < w.heap.size) (hb : Below x.heap.size x x') : KS2 F w x' k A c S :=
 ⟨bthen h.bel hb, (hb.block _ (lt_of_block h.var)).trans h.var, (hb.block _ (lt_of_block h.res)).trans h.res, G2.up h.row h.bel hF hb, h.nil⟩
theorem KS2.set {F : Nat → Prop} {w x : World} {k k' : N × Bool} {A A' : Option Addr} {c c' : Nat} {S : Nat → Prop} (h : KS2 F w x k A c S) (hF : ∀ b, F b → b < w.heap.size) (hs : Lay.gate.Sl x (G2 F w x S) A' k'.1.gs) (hn : A' = none → k'.1.gs.length = 0) :
  KS2 F w (st3 x w.heap.size (.int .i64 k'.1.ins) (.slice A' k'.1.gs.length c') (.bool k'.2)) k' A' c' S := by
 refine ⟨z09 h.bel (Nat.le_refl _) _ _ _, z15 h.var _ _ _, (st3_other (by omega)).trans h.res, (st3_sl (h := w.heap.size) hs (fun b hb' => ?_) _ _ _).mono (fun b hb' => ?_), hn⟩
 ·
  rcases hb' with hb' | hb'
  · have := hF b hb'; omega
  · omega
 · rw [G2, z13]; exact hb'
theorem KS2.grown {F : Nat → Prop} {w x x' : World} {k : N × Bool} {A : Option Addr} {c : Nat} {v v' : Value} (h : KS2 F w x k A c (fun b => v.ownBlock = some b)) (hF : ∀ b, F b → b < w.heap.size) (hg : x.grownBy x' v.ownBlock) (hv : ∀ g, v.ownBlock = some g → w.heap.size + 2 ≤ g) (hbk : v'.ownBlock = v.ownBlock ∨ ∃ g, v'.ownBlock = some g ∧ x.heap.size ≤ g) :
  KS2 F w x' k A c (fun b => v'.ownBlock = some b) := by
 have hne : ∀ b, b < w.heap.size + 2 → some b ≠ v.ownBlock := fun b hb e => by have := hv b e.symm; omega
 have h1 := lt_of_block h.var
 have h2 := lt_of_block h.res
 have hk : ∀ b, G2 F w x (fun b => v.ownBlock = some b) b → x'.heap[b]? = x.heap[b]? := fun b hb => by
  rcases hb with hb | hb
  · have := hF b hb; exact hg.block b (by omega) (hne b (by omega))
  · exact hg.block b hb.2.1 fun e => hb.2.2 e.symm
 refine ⟨h.bel.grown hg h.bel.size fun g e => by have := hv g e; omega, (hg.block _ h1 (hne _ (by omega))).trans h.var, (hg.block _ h2 (hne _ (by omega))).trans h.res, (h.row.keep hk).mono fun b hb => hb.imp id fun h9 => ⟨h9.1, Nat.lt_of_lt_of_le h9.2.1 hg.size, fun e => ?_⟩, h.nil⟩
 rcases hbk with hbk | ⟨g, hbk, hle⟩
 · rw [hbk] at e; exact h9.2.2 e
 · rw [hbk] at e; injection e with e; omega
def RetKL (F : Nat → Prop) (w : World) (res : (N × Bool) × List Int) (e : Ending) (w' : World) : Prop :=
 ∃ A c B d, e = .returned (.tuple #[.agg #[.int .i64 res.1.1.ins, .slice A res.1.1.gs.length c, .bool res.1.2], .slice B res.2.length d]) ∧ (A = none → res.1.1.gs.length = 0) ∧ Lay.gate.Sl w' (fun b => F b ∨ (w.heap.size ≤ b ∧ b < w'.heap.size)) A res.1.1.gs ∧ res.2.length ≤ d ∧ Lay.int.Sl w' (fun b => w.heap.size ≤ b ∧ b < w'.heap.size) B res.2 ∧ (∀ m ∈ res.2, RB m) ∧ Below w.heap.size w w'
theorem mux_rb {c x y : Int} {k : N × Bool} (h : NB k.1) (hc : RB c) (hx : RB x) (hy : RB y) : NB (run opsR (muxP c x y) k).1.1 ∧ RB (run opsR (muxP c x y) k).2 := by
 have h1 : NB (opsR.and k c x).1.1 ∧ RB (opsR.and k c x).2 := stepR_nb h (and1_nb h hc hx)
 have h2 : NB (opsR.and (opsR.and k c x).1 (-c) y).1.1 ∧ RB (opsR.and (opsR.and k c x).1 (-c) y).2 := stepR_nb h1.1 (and1_nb h1.1 hc.neg hy)
 have h3 : NB (opsR.and (opsR.and (opsR.and k c x).1 (-c) y).1 (-(opsR.and k c x).2) (-(opsR.and (opsR.and k c x).1 (-c) y).2)).1.1 ∧ RB (opsR.and (opsR.and (opsR.and k c x).1 (-c) y).1 (-(opsR.and k c x).2) (-(opsR.and (opsR.and k c x).1 (-c) y).2)).2 := stepR_nb h2.1 (and1_nb h2.1 h1.2.neg h2.2.neg)
 exact ⟨h3.1, h3.2.neg⟩
set_option maxRecDepth 100000 in
set_option maxHeartbeats 4000000 in
theorem l7Ifs_any (F : Nat → Prop) (A : Option Addr) (c : Nat) (k : N × Bool) (c0 : Int) (X Y : Option Addr) (cx cy : Nat) (xs ys : List Int) (w : World) (h : Lay.gate.Sl w F A k.1.gs) (hF : ∀ b, F b → b < w.heap.size) (hA : A = none → k.1.gs.length = 0) (hnb : NB k.1) (hc : RB c0) (hX : Lay.int.Rd w X xs) (hY : Lay.int.Rd w Y ys) (hxm : ∀ x ∈ xs, RB x) (hym : ∀ y ∈ ys, RB y) (hl : xs.length = ys.length) (hn : xs.length ≤ 1000) :
  Calls Tryz.prog 137 #[.agg #[.int .i64 k.1.ins, .slice A k.1.gs.length c, .bool k.2], .int .i64 c0, .slice X xs.length cx, .slice Y ys.length cy] w (RetKL F w (run opsR (eachP (muxP c0) xs ys) k)) := by
 obtain ⟨T, hT⟩ : ∃ T, T = run opsR (eachP (muxP c0) xs ys) k := ⟨_, rfl⟩
 rw [← hT]
 have HT := zH hT
 have K0 := KS.two (c := c) h hF hA
 have HRW := zH (h.below K0.bel hF)
 have HNIL := zH hA
 have HF := zH hF
 have HNB := zH hnb
 have HX := zH hX
 have HY := zH hY
 have HXM := zH hxm
 have HYM := zH hym
 have HL := zH hl
 have HC0 := zH hc
 have K0 := zH K0
 have hX0s : ((w.alloc (.cells #[.int .i64 k.1.ins, .slice A k.1.gs.length c, .bool k.2] 95)).alloc (.cells #[.int .i64 0, .slice none 0 0, .bool false] 95)).heap.size = w.heap.size + 2 := by simp
 clear h hA hnb hX hY hxm hym hc hT
 rw [← hl]
 clear hl
 go_enter Tryz.func137, Tryz.ntmps137
 go_wp2
 generalize hX0 : (w.alloc (.cells #[.int .i64 k.1.ins, .slice A k.1.gs.length c, .bool k.2] 95)).alloc (.cells #[.int .i64 0, .slice none 0 0, .bool false] 95) = X0 at *
 clear hX0
 have hal : Below X0.heap.size X0 (X0.alloc (.cells #[] 3)) := (Below.refl _ _).alloc (Nat.le_refl _) _
 have hown0 : OwnI (X0.alloc (.cells #[] 3)) (w.heap.size + 2) (.slice (some ⟨w.heap.size + 1 + 1, 0, none⟩) 0 0) [] := own_lit0 hX0s
 have K1 := zH (K0.out.up HF.out hal)
 have HO0 := zH hown0
 have HRW := zH (HRW.out.below hal (fun b hb => by have := HF.out b hb; omega))
 clear hal hown0 K0
 go_loopw [10, 11] (fun out i wr => ∃ (j : Nat) (k1 : N × Bool) (l : List Int) (A1 B : Option Addr) (c1 d : Nat), j ≤ xs.length ∧ i = .int .i64 j ∧ out = .slice B l.length d ∧ l.length = j ∧ OwnI wr (w.heap.size + 2) (.slice B l.length d) l ∧ (∀ m ∈ l, RB m) ∧ KS2 F w wr k1 A1 c1 (fun b => (Value.slice B l.length d).ownBlock = some b) ∧ NB k1.1 ∧ Hid ((let z := run opsR (eachP (muxP c0) (xs.drop j) (ys.drop j)) k1; (z.1, l ++ z.2)) = T)) (fun _ i _ => xs.length - (intOf i).toNat)
 case atStart => exact ⟨0, k, [], A, some ⟨w.heap.size + 1 + 1, 0, none⟩, c, 0, Nat.zero_le _, rfl, rfl, rfl, HO0.out, (fun _ h => by cases h), ⟨K1.out.bel, K1.out.var, K1.out.res, HRW.out.mono fun _ => .inl, HNIL.out⟩, HNB.out, zH (by rw [HT.out]; rfl)⟩
 case round =>
  obtain ⟨j, k1, l, A1, B, c1, d, hj, rfl, rfl, hlj, hown, hlm, hks, hnb1, hst⟩ := hrel
  have HOWN := zH hown
  have HLM := zH hlm
  have HKS := zH hks
  have HLJ := zH hlj
  have HNB1 := zH hnb1
  clear hown hlm hks hlj hnb1
  by_cases hlt : j < xs.length
  ·
   have hlt2 : (j : Int) < xs.length := by omega
   have hlty : j < ys.length := by rw [← HL.out]; exact hlt
   obtain ⟨x, hx⟩ : ∃ x, xs[j]? = some x := ⟨_, List.getElem?_eq_getElem hlt⟩
   obtain ⟨y, hy⟩ : ∃ y, ys[j]? = some y := ⟨_, List.getElem?_eq_getElem hlty⟩
   have hxg : xs[j] = x := (List.getElem?_eq_some_iff.1 hx).2
   have hyg : ys[j] = y := (List.getElem?_eq_some_iff.1 hy).2
   have hxM : RB x := HXM.out x (List.mem_of_getElem? hx)
   have hyM : RB y := HYM.out y (List.mem_of_getElem? hy)
   obtain ⟨adx, rfl, -, -⟩ := HX.out.at_int hlt
   obtain ⟨ady, rfl, -, -⟩ := HY.out.at_int hlty
   obtain ⟨m, hm⟩ : ∃ m, m = run opsR ((muxP c0) x y) k1 := ⟨_, rfl⟩
   have HST := zH ((run_each (o := opsR) (f := (muxP c0)) xs ys j x y hx hy k1 l).symm.trans hst.out)
   have HM := zH hm
   have HMB : Hid (NB m.1.1 ∧ RB m.2) := zH (by rw [hm]; exact mux_rb HNB1.out HC0.out hxM hyM)
   have HRX : Hid (∀ z, Below w.heap.size w z → z.cell? (adx.add j) = some (.int .i64 x)) := zH fun z hz => by
    obtain ⟨ad, e, _, hc⟩ := (HX.out.up hz).at_int hlt
    injection e with e; subst e; rw [← hxg]; exact hc
   have HRY : Hid (∀ z, Below w.heap.size w z → z.cell? (ady.add j) = some (.int .i64 y)) := zH fun z hz => by
    obtain ⟨ad, e, _, hc⟩ := (HY.out.up hz).at_int hlty
    injection e with e; subst e; rw [← hyg]; exact hc
   obtain ⟨l2, hl2⟩ : ∃ l2, l2 = l ++ [m.2] := ⟨_, rfl⟩
   have HL2 := zH hl2
   have hll : l.length ≤ 1000 := by have := HLJ.out; omega
   have HXYM := zH (And.intro hxM hyM)
   clear hm hx hy hxg hyg hst hl2 hxM hyM hlty
   go_wp2
   refine z05 [[], [], [], [], [(2, 23), (3, 24)], [(4, 25)], [], [], [(6, 27), (7, 28)], [(8, 29)], [(0, 21), (1, 22), (5, 26), (9, 30)], [(10, 31)], [(11, 20)], [(11, 20)], [(12, 32)], [(13, 33)]]
    (fun x9 y9 => Below x9.heap.size x9 y9)
    [(14, fun x9 y9 => x9.grownBy y9 (some w.heap.size))]
    (fun f9 x9 => (f9 14 = false → KS2 F w x9 k1 A1 c1 (fun b => (Value.slice B l.length d).ownBlock = some b)) ∧ (f9 14 = true → ∃ A2 c2, KS2 F w x9 m.1 A2 c2 (fun b => (Value.slice B l.length d).ownBlock = some b)) ∧ OwnI x9 (w.heap.size + 2) (.slice B l.length d) l ∧ Below w.heap.size w x9)
    [fun vs9 _ => vs9 0 = (.agg #[.int .i64 k1.1.ins, .slice A1 k1.1.gs.length c1, .bool k1.2]),
  fun vs9 _ => vs9 1 = (.int .i64 c0),
  fun vs9 _ => vs9 2 = (.slice (some adx) xs.length cx),
  fun vs9 _ => vs9 3 = (.int .i64 (j : Int)),
  fun vs9 _ => vs9 4 = (.pointer (some (adx.add j))),
  fun vs9 _ => vs9 5 = (.int .i64 x),
  fun vs9 _ => vs9 6 = (.slice (some ady) xs.length cy),
  fun vs9 _ => vs9 7 = (.int .i64 (j : Int)),
  fun vs9 _ => vs9 8 = (.pointer (some (ady.add j))),
  fun vs9 _ => vs9 9 = (.int .i64 y),
  fun vs9 y9 => (fun v z => ∃ A2 c2, v = .tuple #[.agg #[.int .i64 m.1.1.ins, .slice A2 m.1.1.gs.length c2, .bool m.1.2], .int .i64 m.2] ∧ (A2 = none → m.1.1.gs.length = 0) ∧ Lay.gate.Sl z (G2 F w z (fun b => (Value.slice B l.length d).ownBlock = some b)) A2 m.1.1.gs ∧ w.heap.size ≤ z.heap.size) (vs9 10) y9,
  fun vs9 y9 => (fun v z => ∃ A2 c2, v = .tuple #[.agg #[.int .i64 m.1.1.ins, .slice A2 m.1.1.gs.length c2, .bool m.1.2], .int .i64 m.2] ∧ (A2 = none → m.1.1.gs.length = 0) ∧ Lay.gate.Sl z (G2 F w z (fun b => (Value.slice B l.length d).ownBlock = some b)) A2 m.1.1.gs ∧ w.heap.size ≤ z.heap.size) (vs9 11) y9,
  fun vs9 y9 => (fun v z => ∃ A2 c2, v = .agg #[.int .i64 m.1.1.ins, .slice A2 m.1.1.gs.length c2, .bool m.1.2] ∧ (A2 = none → m.1.1.gs.length = 0) ∧ Lay.gate.Sl z (G2 F w z (fun b => (Value.slice B l.length d).ownBlock = some b)) A2 m.1.1.gs ∧ w.heap.size ≤ z.heap.size) (vs9 12) y9,
  fun vs9 _ => vs9 13 = (.int .i64 m.2),
  fun _ _ => True,
  fun vs9 _ => vs9 15 = (.int .i64 m.2)]
    [(0, 21), (1, 22), (2, 23), (3, 24), (4, 25), (5, 26), (6, 27), (7, 28), (8, 29), (9, 30), (10, 31), (11, 20), (12, 32), (13, 33), (15, 12)] (by kernel_rfl) (by kernel_rfl) (by kernel_rfl) (by kernel_rfl)
    (fun _ => Below.refl _ _) ⟨fun _ => World.grownBy.refl _ _, trivial⟩
    ⟨⟨.inr zK, ⟨.inr (.inr zK), trivial⟩⟩,
  ⟨.inr zK, ⟨.inr (.inr zK), trivial⟩⟩,
  ⟨.inr zK, ⟨.inr (.inr zK), trivial⟩⟩,
  ⟨.inr zK, ⟨.inr (.inr zK), trivial⟩⟩,
  ⟨.inr zK, ⟨.inr (.inr zK), trivial⟩⟩,
  ⟨.inr zK, ⟨.inr (.inr zK), trivial⟩⟩,
  ⟨.inr zK, ⟨.inr (.inr zK), trivial⟩⟩,
  ⟨.inr zK, ⟨.inr (.inr zK), trivial⟩⟩,
  ⟨.inr zK, ⟨.inr (.inr zK), trivial⟩⟩,
  ⟨.inr zK, ⟨.inr (.inr zK), trivial⟩⟩,
  ⟨.inr (zS (fun v z => ∃ A2 c2, v = .tuple #[.agg #[.int .i64 m.1.1.ins, .slice A2 m.1.1.gs.length c2, .bool m.1.2], .int .i64 m.2] ∧ (A2 = none → m.1.1.gs.length = 0) ∧ Lay.gate.Sl z (G2 F w z (fun b => (Value.slice B l.length d).ownBlock = some b)) A2 m.1.1.gs ∧ w.heap.size ≤ z.heap.size) (fun _ _ _ ⟨A2, c2, h1, h2, h3, h4⟩ hR => ⟨A2, c2, h1, h2, G2.up2 h3 (fun b hb => Nat.lt_of_lt_of_le (HF.out b hb) h4) hR, Nat.le_trans h4 hR.size⟩)), ⟨.inr (.inr (zS (fun v z => ∃ A2 c2, v = .tuple #[.agg #[.int .i64 m.1.1.ins, .slice A2 m.1.1.gs.length c2, .bool m.1.2], .int .i64 m.2] ∧ (A2 = none → m.1.1.gs.length = 0) ∧ Lay.gate.Sl z (G2 F w z (fun b => (Value.slice B l.length d).ownBlock = some b)) A2 m.1.1.gs ∧ w.heap.size ≤ z.heap.size) (fun _ _ _ ⟨A2, c2, h1, h2, h3, h4⟩ hR => ⟨A2, c2, h1, h2, (h3.keep fun b hb => hR.block b (hb.elim (fun h9 => Nat.lt_of_lt_of_le (HF.out b h9) h4) (fun h9 => h9.2.1)) (fun e => by injection e with e; exact hb.elim (fun h9 => by have := HF.out b h9; omega) (fun h9 => by omega))).mono fun b hb => hb.imp id fun h9 => ⟨h9.1, Nat.lt_of_lt_of_le h9.2.1 hR.size, h9.2.2⟩, Nat.le_trans h4 hR.size⟩))), trivial⟩⟩,
  ⟨.inr (zS (fun v z => ∃ A2 c2, v = .tuple #[.agg #[.int .i64 m.1.1.ins, .slice A2 m.1.1.gs.length c2, .bool m.1.2], .int .i64 m.2] ∧ (A2 = none → m.1.1.gs.length = 0) ∧ Lay.gate.Sl z (G2 F w z (fun b => (Value.slice B l.length d).ownBlock = some b)) A2 m.1.1.gs ∧ w.heap.size ≤ z.heap.size) (fun _ _ _ ⟨A2, c2, h1, h2, h3, h4⟩ hR => ⟨A2, c2, h1, h2, G2.up2 h3 (fun b hb => Nat.lt_of_lt_of_le (HF.out b hb) h4) hR, Nat.le_trans h4 hR.size⟩)), ⟨.inr (.inr (zS (fun v z => ∃ A2 c2, v = .tuple #[.agg #[.int .i64 m.1.1.ins, .slice A2 m.1.1.gs.length c2, .bool m.1.2], .int .i64 m.2] ∧ (A2 = none → m.1.1.gs.length = 0) ∧ Lay.gate.Sl z (G2 F w z (fun b => (Value.slice B l.length d).ownBlock = some b)) A2 m.1.1.gs ∧ w.heap.size ≤ z.heap.size) (fun _ _ _ ⟨A2, c2, h1, h2, h3, h4⟩ hR => ⟨A2, c2, h1, h2, (h3.keep fun b hb => hR.block b (hb.elim (fun h9 => Nat.lt_of_lt_of_le (HF.out b h9) h4) (fun h9 => h9.2.1)) (fun e => by injection e with e; exact hb.elim (fun h9 => by have := HF.out b h9; omega) (fun h9 => by omega))).mono fun b hb => hb.imp id fun h9 => ⟨h9.1, Nat.lt_of_lt_of_le h9.2.1 hR.size, h9.2.2⟩, Nat.le_trans h4 hR.size⟩))), trivial⟩⟩,
  ⟨.inr (zS (fun v z => ∃ A2 c2, v = .agg #[.int .i64 m.1.1.ins, .slice A2 m.1.1.gs.length c2, .bool m.1.2] ∧ (A2 = none → m.1.1.gs.length = 0) ∧ Lay.gate.Sl z (G2 F w z (fun b => (Value.slice B l.length d).ownBlock = some b)) A2 m.1.1.gs ∧ w.heap.size ≤ z.heap.size) (fun _ _ _ ⟨A2, c2, h1, h2, h3, h4⟩ hR => ⟨A2, c2, h1, h2, G2.up2 h3 (fun b hb => Nat.lt_of_lt_of_le (HF.out b hb) h4) hR, Nat.le_trans h4 hR.size⟩)), ⟨.inr (.inr (zS (fun v z => ∃ A2 c2, v = .agg #[.int .i64 m.1.1.ins, .slice A2 m.1.1.gs.length c2, .bool m.1.2] ∧ (A2 = none → m.1.1.gs.length = 0) ∧ Lay.gate.Sl z (G2 F w z (fun b => (Value.slice B l.length d).ownBlock = some b)) A2 m.1.1.gs ∧ w.heap.size ≤ z.heap.size) (fun _ _ _ ⟨A2, c2, h1, h2, h3, h4⟩ hR => ⟨A2, c2, h1, h2, (h3.keep fun b hb => hR.block b (hb.elim (fun h9 => Nat.lt_of_lt_of_le (HF.out b h9) h4) (fun h9 => h9.2.1)) (fun e => by injection e with e; exact hb.elim (fun h9 => by have := HF.out b h9; omega) (fun h9 => by omega))).mono fun b hb => hb.imp id fun h9 => ⟨h9.1, Nat.lt_of_lt_of_le h9.2.1 hR.size, h9.2.2⟩, Nat.le_trans h4 hR.size⟩))), trivial⟩⟩,
  ⟨.inr zK, ⟨.inr (.inr zK), trivial⟩⟩,
  ⟨.inr zK, ⟨.inr (.inl rfl), trivial⟩⟩,
  ⟨.inr zK, ⟨.inr (.inr zK), trivial⟩⟩, trivial⟩ ⟨fun _ _ _ h _ v => (by simpa only [← h] using v),
  fun _ _ _ h _ v => (by simpa only [← h] using v),
  fun _ _ _ h _ v => (by simpa only [← h] using v),
  fun _ _ _ h _ v => (by simpa only [← h] using v),
  fun _ _ _ h _ v => (by simpa only [← h] using v),
  fun _ _ _ h _ v => (by simpa only [← h] using v),
  fun _ _ _ h _ v => (by simpa only [← h] using v),
  fun _ _ _ h _ v => (by simpa only [← h] using v),
  fun _ _ _ h _ v => (by simpa only [← h] using v),
  fun _ _ _ h _ v => (by simpa only [← h] using v),
  fun _ _ _ h _ v => (by simpa only [← h] using v),
  fun _ _ _ h _ v => (by simpa only [← h] using v),
  fun _ _ _ h _ v => (by simpa only [← h] using v),
  fun _ _ _ h _ v => (by simpa only [← h] using v),
  fun _ _ _ _ _ _ => trivial,
  fun _ _ _ h _ v => (by simpa only [← h] using v), trivial⟩ (⟨fun _ => HKS.out.up HF.out (z01 (Below.refl _ _) 1), (fun h => by cases h), HOWN.out.up (z01 (Below.refl _ _) 1), bthen HKS.out.bel (z01 (Below.refl _ _) 1)⟩) ⟨?_, ?_, ?_, ?_, ?_, ?_, ?_, ?_, ?_, ?_, ?_, ?_, ?_, ?_, ?_, ?_, trivial⟩ ?_
   ·
    intro vals xw f hf1 hf2 hf3 hI hF
    have k14 : f 14 = false := hf3 14 (by kernel_rfl)
    clear hf2 hf3
    dsimp only [owes4, bare]
    simp only [putsD, Act.put, zA, zB, zC]
    have hv9 := (hI.1 k14).var
    have y0 := (z00 hv9 0).1
    have y1 := (z00 hv9 1).1
    have y2 := (z00 hv9 2).1
    go_wp2
    exact ⟨rfl, rfl, ⟨zN rfl, fun _ => Below.refl _ _⟩, hI⟩
   ·
    rintro vals xw f hf1 - - hI hF
    dsimp only [owes4, bare]
    simp only [putsD, Act.put, zA, zB, zC]
    go_wp2
    exact ⟨rfl, rfl, ⟨zN rfl, fun _ => Below.refl _ _⟩, hI⟩
   ·
    rintro vals xw f hf1 - - hI hF
    dsimp only [owes4, bare]
    simp only [putsD, Act.put, zA, zB, zC]
    go_wp2
    exact ⟨rfl, rfl, ⟨zN rfl, fun _ => Below.refl _ _⟩, hI⟩
   ·
    rintro vals xw f hf1 - - hI hF
    dsimp only [owes4, bare]
    simp only [putsD, Act.put, zA, zB, zC]
    go_wp2
    exact ⟨rfl, rfl, ⟨zN rfl, fun _ => Below.refl _ _⟩, hI⟩
   ·
    rintro vals xw f hf1 - - hI hF
    simp only [saysD, zD, zE, and_true] at hF
    obtain ⟨e23, e24⟩ := hF
    dsimp only [owes4, bare]
    simp only [putsD, Act.put, zA, zB, zC]
    simp only [e23, e24]
    go_wp2
    exact ⟨rfl, rfl, ⟨zN rfl, fun _ => Below.refl _ _⟩, hI⟩
   ·
    rintro vals xw f hf1 - - hI hF
    simp only [saysD, zD, zE, and_true] at hF
    have e25 := hF
    dsimp only [owes4, bare]
    simp only [putsD, Act.put, zA, zB, zC]
    simp only [e25]
    have c9 := HRX.out _ hI.2.2.2
    go_wp2
    exact ⟨rfl, rfl, ⟨zN rfl, fun _ => Below.refl _ _⟩, hI⟩
   ·
    rintro vals xw f hf1 - - hI hF
    dsimp only [owes4, bare]
    simp only [putsD, Act.put, zA, zB, zC]
    go_wp2
    exact ⟨rfl, rfl, ⟨zN rfl, fun _ => Below.refl _ _⟩, hI⟩
   ·
    rintro vals xw f hf1 - - hI hF
    dsimp only [owes4, bare]
    simp only [putsD, Act.put, zA, zB, zC]
    go_wp2
    exact ⟨rfl, rfl, ⟨zN rfl, fun _ => Below.refl _ _⟩, hI⟩
   ·
    rintro vals xw f hf1 - - hI hF
    simp only [saysD, zD, zE, and_true] at hF
    obtain ⟨e27, e28⟩ := hF
    dsimp only [owes4, bare]
    simp only [putsD, Act.put, zA, zB, zC]
    simp only [e27, e28]
    go_wp2
    exact ⟨rfl, rfl, ⟨zN rfl, fun _ => Below.refl _ _⟩, hI⟩
   ·
    rintro vals xw f hf1 - - hI hF
    simp only [saysD, zD, zE, and_true] at hF
    have e29 := hF
    dsimp only [owes4, bare]
    simp only [putsD, Act.put, zA, zB, zC]
    simp only [e29]
    have c9 := HRY.out _ hI.2.2.2
    go_wp2
    exact ⟨rfl, rfl, ⟨zN rfl, fun _ => Below.refl _ _⟩, hI⟩
   ·
    intro vals xw f hf1 hf2 hf3 hI hF
    have k14 : f 14 = false := hf3 14 (by kernel_rfl)
    clear hf2 hf3
    simp only [saysD, zD, zE, and_true] at hF
    obtain ⟨e21, e22, e26, e30⟩ := hF
    dsimp only [owes4, bare]
    simp only [putsD, Act.put, zA, zB, zC]
    simp only [e21, e22, e26, e30]
    have HI := zH hI
    have HK := zH (hI.1 k14)
    have hsz9 := hI.2.2.2.size
    clear hI
    have HC := zH (l7One_any (G2 F w xw (fun b => (Value.slice B l.length d).ownBlock = some b)) A1 c1 k1 c0 x y xw HK.out.row (KS2.lt HK.out.bel HF.out) HK.out.nil HNB1.out HC0.out HXYM.out.1 HXYM.out.2)
    rw [← HM.out] at HC
    go_wp2_with fail
    refine HC.out.mono ?_
    rintro e wx ⟨A2, c2, rfl, h2, h3, h4⟩
    have H3 := zH h3
    have H4 := zH h4
    clear h3 h4 HC
    go_wp2
    refine ⟨rfl, ⟨A2, c2, rfl, h2, H3.out.mono ?_, Nat.le_trans hsz9 H4.out.size⟩, ⟨zN rfl, fun _ => H4.out⟩, (fun h => (HI.out.1 h).up HF.out H4.out), (fun h => absurd (k14.symm.trans h) (by simp)), HI.out.2.2.1.up H4.out, bthen HI.out.2.2.2 H4.out⟩
    intro b hb
    rcases hb with (h9 | h9) | h9
    · exact .inl h9
    · exact .inr ⟨h9.1, Nat.lt_of_lt_of_le h9.2.1 H4.out.size, h9.2.2⟩
    ·
     refine .inr ⟨by have := HK.out.bel.size; have := lt_of_block HK.out.res; omega, h9.2, fun e => ?_⟩
     have := (HI.out.2.2.1.lt b e).2; omega
   ·
    rintro vals xw f hf1 - - hI hF
    simp only [saysD, zD, zE, and_true] at hF
    obtain ⟨A2, c2, e31, h2, h3, h4⟩ := hF
    dsimp only [owes4, bare]
    simp only [putsD, Act.put, zA, zB, zC]
    simp only [e31]
    go_wp2
    exact ⟨rfl, ⟨A2, c2, rfl, h2, h3, h4⟩, ⟨zN rfl, fun _ => Below.refl _ _⟩, hI⟩
   ·
    rintro vals xw f hf1 - - hI hF
    simp only [saysD, zD, zE, and_true] at hF
    obtain ⟨A2, c2, e20, h2, h3, h4⟩ := hF
    dsimp only [owes4, bare]
    simp only [putsD, Act.put, zA, zB, zC]
    simp only [e20]
    go_wp2
    exact ⟨rfl, ⟨A2, c2, rfl, h2, h3, h4⟩, ⟨zN rfl, fun _ => Below.refl _ _⟩, hI⟩
   ·
    rintro vals xw f hf1 - - hI hF
    simp only [saysD, zD, zE, and_true] at hF
    obtain ⟨A2, c2, e20, h2, h3, h4⟩ := hF
    dsimp only [owes4, bare]
    simp only [putsD, Act.put, zA, zB, zC]
    simp only [e20]
    go_wp2
    exact ⟨rfl, rfl, ⟨zN rfl, fun _ => Below.refl _ _⟩, hI⟩
   ·
    rintro vals xw f hf1 - - hI hF
    simp only [saysD, zD, zE, and_true] at hF
    obtain ⟨A2, c2, e32, h2, h3, h4⟩ := hF
    dsimp only [owes4, bare]
    simp only [putsD, Act.put, zA, zB, zC]
    simp only [e32]
    have HI := zH hI
    have HK := zH (hI.1 hf1)
    have hv9 := HK.out.var
    have y0 := (z00 hv9 0).1
    have y1 := (z00 hv9 1).1
    have y2 := (z00 hv9 2).1
    have g0 := (z00 hv9 0).2
    have g1 := (z00 hv9 1).2
    have g2 := (z00 hv9 2).2
    have H3 := zH h3
    clear hI hv9 h3 h4
    go_wp2
    have hset := HK.out.set (c' := c2) HF.out H3.out h2
    have hgr : xw.grownBy (st3 xw w.heap.size (.int .i64 m.1.1.ins) (.slice A2 m.1.1.gs.length c2) (.bool m.1.2)) (some w.heap.size) := z02 (z02 (z02 (World.grownBy.refl _ _) _ _) _ _) _ _
    exact ⟨rfl, trivial, ⟨fun _ => hgr, fun h9 => absurd rfl h9⟩, fun h => absurd ((z10 f 14).symm.trans h) (by simp), fun _ => ⟨A2, c2, hset⟩, own_of_heap HI.out.2.2.1 fun g hg => hgr.block g (HI.out.2.2.1.lt g hg).2 (fun e => by injection e with e; have := (HI.out.2.2.1.lt g hg).1; omega), z09 HI.out.2.2.2 (Nat.le_refl _) _ _ _⟩
   ·
    rintro vals xw f hf1 - - hI hF
    simp only [saysD, zD, zE, and_true] at hF
    have e33 := hF
    dsimp only [owes4, bare]
    simp only [putsD, Act.put, zA, zB, zC]
    simp only [e33]
    go_wp2
    exact ⟨rfl, rfl, ⟨zN rfl, fun _ => Below.refl _ _⟩, hI⟩
   ·
    intro vals xw f hall hI hF
    rw [show List.range _ = [0, 1, 2, 3, 4, 5, 6, 7, 8, 9, 10, 11, 12, 13, 14, 15] from rfl] at hF
    simp only [says, zD, zE, and_true] at hF
    obtain ⟨A2, c2, hk2⟩ := hI.2.1 (hall 14 (by decide))
    have e12 : vals 15 = .int .i64 m.2 := by obtain ⟨_, _, _, _, _, _, _, _, _, _, _, _, _, _, _, e9⟩ := hF; exact e9
    have HK2 := zH hk2
    have hown9 := hI.2.2.1
    have hsz9 : w.heap.size + 2 ≤ xw.heap.size := by have := lt_of_block hk2.res; omega
    have HI := zH hI
    clear hF hk2 hI
    simp only [putsD, Act.put, zA, zB, zC]
    simp only [e12]
    go_wp2_with (at_builtin; refine z08 (ys := l2) (by rfl) (.tmp 34) (.tmp 36) (by rfl) (by rfl) (by rfl) hown9 (by omega) hsz9 HL2.out ?_; intro B2 d2 w2 hown2 hg2 hbk2)
    have hk3 := HK2.out.grown (v' := .slice B2 l2.length d2) HF.out hg2 (fun g hg => (HI.out.2.2.1.lt g hg).1) hbk2
    go_roundw
    case rel => exact ⟨j + 1, m.1, l2, A2, B2, c2, d2, by omega, by go_num, rfl, by rw [HL2.out, List.length_append, HLJ.out]; rfl, hown2, fun z hz => by
         rw [HL2.out] at hz
         rcases List.mem_append.1 hz with hz | hz
         · exact HLM.out z hz
         · rw [List.mem_singleton.1 hz]; exact HMB.out.2, hk3, HMB.out.1, zH (by rw [HL2.out, HM.out]; exact HST.out)⟩
    case measure => simp [intOf]; omega
  ·
   have hje : j = xs.length := by omega
   subst hje
   have hlt2 : ¬ ((xs.length : Nat) : Int) < xs.length := by omega
   have hv9 := HKS.out.var
   have y0 := (z00 hv9 0).1
   have y1 := (z00 hv9 1).1
   have y2 := (z00 hv9 2).1
   have hr9 := HKS.out.res
   have r0 := (z00 hr9 0).1
   have r1 := (z00 hr9 1).1
   have r2 := (z00 hr9 2).1
   have rf0 := (z00 hr9 0).2
   have rf1 := (z00 hr9 1).2
   have rf2 := (z00 hr9 2).2
   clear hv9 hr9
   go_wp2
   have hs := z15 HKS.out.res (.int .i64 k1.1.ins) (.slice A1 k1.1.gs.length c1) (.bool k1.2)
   have k5 := (z00 hs 0).1
   have k6 := (z00 hs 1).1
   have k7 := (z00 hs 2).1
   have kf5 := (z00 hs 0).2
   have kf6 := (z00 hs 1).2
   have kf7 := (z00 hs 2).2
   refine bodyPost_ret (v := .tuple #[.agg #[.int .i64 k1.1.ins, .slice A1 k1.1.gs.length c1, .bool k1.2], .slice B l.length d]) (by simp [results, Tryz.results137, go_sem, k5, k6, k7, kf5, kf6, kf7]) rfl ?_
   have hd1 : xs.drop xs.length = [] := List.drop_length
   have hd2 : ys.drop xs.length = [] := by rw [HL.out]; exact List.drop_length
   have hst2 := hst.out
   rw [hd1, hd2] at hst2
   have hT2 : T = (k1, l) := by rw [← hst2]; show (k1, l ++ []) = _; rw [List.append_nil]
   rw [hT2]
   obtain ⟨B', d', e9, hcap, hsl⟩ := HOWN.out.form
   injection e9 with e1 e2 e3
   subst e1 e3
   refine ⟨A1, c1, B, d, rfl, HKS.out.nil, (st3_sl (h := w.heap.size + 1) HKS.out.row (fun b hb => ?_) _ _ _).mono (fun b hb => ?_), hcap, (st3_sl (h := w.heap.size + 1) hsl (fun b hb => by omega) _ _ _).mono (fun b hb => by rw [z13]; omega), HLM.out, z09 HKS.out.bel (by omega) _ _ _⟩
   ·
    rcases hb with hb | hb
    · have := HF.out b hb; omega
    · omega
   ·
    rw [z13]
    exact hb.imp id fun h9 => ⟨by omega, h9.2.1⟩
set_option maxRecDepth 100000 in
set_option maxHeartbeats 2000000 in
theorem l7Right_any (A X : Option Addr) (c cx : Nat) (n : N) (xs : List Int) (w : World) (hX : Lay.int.Rd w X xs) (hxi : i64s xs) (hlx : xs.length ≤ 1048576) (hn : n.gs.length ≤ 1048576) (h0 : 0 ≤ n.ins) (h1 : n.ins ≤ 1000000) :
  Calls Tryz.prog 51 #[.agg #[.int .i64 n.ins, .slice A n.gs.length c], .slice X xs.length cx] w (RetB w (goodL n xs)) := by
 have hal : Below w.heap.size w (w.alloc (.cells #[.int .i64 n.ins, .slice A n.gs.length c] 29)) := (Below.refl _ _).alloc (Nat.le_refl _) _
 have HB0 := zH (heap_alloc_new w (.cells #[.int .i64 n.ins, .slice A n.gs.length c] 29))
 have HAL := zH hal
 have HX := zH hX
 have HXI := zH hxi
 clear hal hX hxi
 go_enter Tryz.func51, Tryz.ntmps51
 go_wp2
 generalize hX0 : w.alloc (.cells #[.int .i64 n.ins, .slice A n.gs.length c] 29) = X0 at *
 clear hX0
 go_loopw [5] (fun i wr => ∃ (j : Nat), j ≤ xs.length ∧ i = .int .i64 j ∧ Below w.heap.size w wr ∧ wr.heap[w.heap.size]? = some (.cells #[.int .i64 n.ins, .slice A n.gs.length c] 29 (0, 0)) ∧ ∀ m ∈ xs.take j, z04 n m = true) (fun i _ => xs.length - (intOf i).toNat)
 case atStart => exact ⟨0, Nat.zero_le _, rfl, HAL.out, HB0.out, (fun m hm => by simp at hm)⟩
 case round =>
  obtain ⟨j, hj, rfl, hb, hb0, hall⟩ := hrel
  have HB := zH hb
  have HB1 := zH hb0
  have HALL := zH hall
  clear hb hb0 hall
  by_cases hlt : j < xs.length
  ·
   have hlt2 : (j : Int) < xs.length := by omega
   obtain ⟨x, hx⟩ : ∃ x, xs[j]? = some x := ⟨_, List.getElem?_eq_getElem hlt⟩
   have hxg : xs[j] = x := (List.getElem?_eq_some_iff.1 hx).2
   have HMEM := zH (List.mem_of_getElem? hx)
   obtain ⟨x0, x1⟩ := HXI.out x HMEM.out
   obtain ⟨adx, rfl, -, -⟩ := HX.out.at_int hlt
   have HRX : Hid (∀ z, Below w.heap.size w z → z.cell? (adx.add j) = some (.int .i64 x)) := zH fun z hz => by
    obtain ⟨ad, e, _, hc⟩ := (HX.out.up hz).at_int hlt
    injection e with e; subst e; rw [← hxg]; exact hc
   have HTK : Hid (xs.take (j + 1) = xs.take j ++ [x]) := zH (by rw [← hxg]; simp)
   obtain ⟨mk, hmk⟩ : ∃ mk, z04 n x = mk := ⟨_, rfl⟩
   have HMK := zH hmk
   clear hx hxg hmk
   go_wp2
   refine z05 [[], [], [], [(1, 13), (2, 14)], [(3, 15)], [(0, 12), (4, 16)], [(5, 17)]]
    (fun x9 y9 => Below x9.heap.size x9 y9)
    []
    (fun _ x9 => Below w.heap.size w x9 ∧ x9.heap[w.heap.size]? = some (.cells #[.int .i64 n.ins, .slice A n.gs.length c] 29 (0, 0)))
    [fun vs9 _ => vs9 0 = (.agg #[.int .i64 n.ins, .slice A n.gs.length c]),
  fun vs9 _ => vs9 1 = (.slice (some adx) xs.length cx),
  fun vs9 _ => vs9 2 = (.int .i64 (j : Int)),
  fun vs9 _ => vs9 3 = (.pointer (some (adx.add j))),
  fun vs9 _ => vs9 4 = (.int .i64 x),
  fun vs9 _ => vs9 5 = (.bool mk),
  fun vs9 _ => vs9 6 = (.bool (!mk))]
    [(0, 12), (1, 13), (2, 14), (3, 15), (4, 16), (5, 17), (6, 18)] (by kernel_rfl) (by kernel_rfl) (by kernel_rfl) (by kernel_rfl)
    (fun _ => Below.refl _ _) trivial
    ⟨⟨.inr zK, trivial⟩,
  ⟨.inr zK, trivial⟩,
  ⟨.inr zK, trivial⟩,
  ⟨.inr zK, trivial⟩,
  ⟨.inr zK, trivial⟩,
  ⟨.inr zK, trivial⟩,
  ⟨.inr zK, trivial⟩, trivial⟩ ⟨fun _ _ _ h _ v => (by simpa only [← h] using v),
  fun _ _ _ h _ v => (by simpa only [← h] using v),
  fun _ _ _ h _ v => (by simpa only [← h] using v),
  fun _ _ _ h _ v => (by simpa only [← h] using v),
  fun _ _ _ h _ v => (by simpa only [← h] using v),
  fun _ _ _ h _ v => (by simpa only [← h] using v),
  fun _ _ _ h _ v => (by simpa only [← h] using v), trivial⟩ (⟨bthen HB.out (z01 (Below.refl _ _) 1), HB1.out⟩) ⟨?_, ?_, ?_, ?_, ?_, ?_, ?_, trivial⟩ ?_
   ·
    rintro vals xw f hf1 - - hI hF
    dsimp only [owes4, bare]
    simp only [putsD, Act.put, zA, zB, zC]
    have y0 := (z00 hI.2 0).1
    have y1 := (z00 hI.2 1).1
    go_wp2
    exact ⟨rfl, rfl, Below.refl _ _, hI⟩
   ·
    rintro vals xw f hf1 - - hI hF
    dsimp only [owes4, bare]
    simp only [putsD, Act.put, zA, zB, zC]
    go_wp2
    exact ⟨rfl, rfl, Below.refl _ _, hI⟩
   ·
    rintro vals xw f hf1 - - hI hF
    dsimp only [owes4, bare]
    simp only [putsD, Act.put, zA, zB, zC]
    go_wp2
    exact ⟨rfl, rfl, Below.refl _ _, hI⟩
   ·
    rintro vals xw f hf1 - - hI hF
    simp only [saysD, zD, zE, and_true] at hF
    obtain ⟨e13, e14⟩ := hF
    dsimp only [owes4, bare]
    simp only [putsD, Act.put, zA, zB, zC]
    simp only [e13, e14]
    go_wp2
    exact ⟨rfl, rfl, Below.refl _ _, hI⟩
   ·
    rintro vals xw f hf1 - - hI hF
    simp only [saysD, zD, zE, and_true] at hF
    have e15 := hF
    dsimp only [owes4, bare]
    simp only [putsD, Act.put, zA, zB, zC]
    simp only [e15]
    have c9 := HRX.out _ hI.1
    go_wp2
    exact ⟨rfl, rfl, Below.refl _ _, hI⟩
   ·
    rintro vals xw f hf1 - - hI hF
    simp only [saysD, zD, zE, and_true] at hF
    obtain ⟨e12, e16⟩ := hF
    dsimp only [owes4, bare]
    simp only [putsD, Act.put, zA, zB, zC]
    simp only [e12, e16]
    have HI := zH hI
    clear hI
    go_wp2_with fail
    refine (l6Mark_any A c n x xw hn h0 h1 x0 x1).mono ?_
    rintro e wx ⟨rfl, hb9⟩
    rw [HMK.out]
    have HB9 := zH hb9
    clear hb9
    go_wp2
    exact ⟨rfl, rfl, HB9.out, bthen HI.out.1 HB9.out, (HB9.out.block _ (lt_of_block HI.out.2)).trans HI.out.2⟩
   ·
    rintro vals xw f hf1 - - hI hF
    simp only [saysD, zD, zE, and_true] at hF
    have e17 := hF
    dsimp only [owes4, bare]
    simp only [putsD, Act.put, zA, zB, zC]
    simp only [e17]
    go_wp2
    exact ⟨rfl, rfl, Below.refl _ _, hI⟩
   ·
    intro vals xw f hall hI hF
    rw [show List.range _ = [0, 1, 2, 3, 4, 5, 6] from rfl] at hF
    simp only [says, zD, zE, and_true] at hF
    obtain ⟨i1, i2⟩ := hI
    obtain ⟨_, _, _, _, _, _, e18⟩ := hF
    have I1 := zH i1
    have I2 := zH i2
    clear i1 i2
    simp only [putsD, Act.put, zA, zB, zC]
    simp only [e18]
    clear e18
    cases mk
    ·
     go_wp2
     go_ret
     refine ⟨z16 ?_, I1.out⟩
     rw [eq_comm]
     unfold goodL
     have : xs.all (z04 n) = false := by rw [List.all_eq_false]; exact ⟨x, HMEM.out, by rw [HMK.out]; simp⟩
     rw [this, Bool.and_false]
    ·
     go_wp2
     go_roundw
     case rel => exact ⟨j + 1, by omega, by go_num, I1.out, I2.out, fun m hm => by
      rw [HTK.out] at hm
      rcases List.mem_append.1 hm with hm | hm
      · exact HALL.out m hm
      · rw [List.mem_singleton.1 hm]; exact HMK.out⟩
     case measure => simp [intOf]; omega
  ·
   have hje : j = xs.length := by omega
   subst hje
   have hlt2 : ¬ ((xs.length : Nat) : Int) < xs.length := by omega
   have HAL2 : Hid (xs.all (z04 n) = true) := zH (List.all_eq_true.2 fun m hm => HALL.out m (by rw [List.take_length]; exact hm))
   by_cases g1 : (1 : Int) ≤ xs.length
   ·
    by_cases g2 : (xs.length : Int) ≤ 4
    ·
     go_wp2
     go_ret
     exact ⟨z16 (by unfold goodL; rw [HAL2.out, decide_eq_true (by omega : 1 ≤ xs.length), decide_eq_true (by omega : xs.length ≤ 4)]; rfl), HB.out⟩
    ·
     go_wp2
     go_ret
     exact ⟨z16 (by unfold goodL; rw [decide_eq_false (by omega : ¬ xs.length ≤ 4)]; simp), HB.out⟩
   ·
    go_wp2
    go_ret
    exact ⟨z16 (by unfold goodL; rw [decide_eq_false (by omega : ¬ 1 ≤ xs.length)]; simp), HB.out⟩
def toldR (z : (N × Bool) × List Int) : N × List Int := if z.1.2 = true then (z.1.1, z.2) else (⟨0, []⟩, [])
set_option maxRecDepth 100000 in
set_option maxHeartbeats 2000000 in
theorem l7Told_any (A X : Option Addr) (c cx : Nat) (k : N × Bool) (xs : List Int) (w : World) (h : Lay.gate.Rd w A k.1.gs) (hA : A = none → k.1.gs.length = 0) (hn : k.1.gs.length ≤ 1048576) (hX : Lay.int.Rd w X xs) (hXn : X = none → xs.length = 0) (hlx : xs.length ≤ 1048576) :
  Calls Tryz.prog 52 #[.agg #[.int .i64 k.1.ins, .slice A k.1.gs.length c, .bool k.2], .slice X xs.length cx] w (RetBits (toldR (k, xs)) w) := by
 obtain ⟨n, ok⟩ := k
 dsimp only at h hA hn ⊢
 obtain ⟨hW, hB0, hB1, hWS⟩ := two_boxes w (.cells #[.int .i64 n.ins, .slice A n.gs.length c, .bool ok] 95) (.cells #[.int .i64 0, .slice none 0 0] 29)
 have z0 := (z00 hB0 0).1
 have z1 := (z00 hB0 1).1
 have z2 := (z00 hB0 2).1
 have HW := zH hW
 have HB1 := zH hB1
 have HWS := zH hWS
 have HX := zH hX
 have HFR := zH (l6Fresh_any A c n _ (h.up hW) hn hA)
 clear hW hB0 hB1 hX h hWS
 cases ok
 ·
  go_enter Tryz.func52, Tryz.ntmps52
  go_wp2
  refine bodyPost_ret (v := .tuple #[.agg #[.int .i64 0, .slice none 0 0], .slice (some ⟨w.heap.size + 1 + 1, 0, none⟩) 0 0]) (by simp [results, Tryz.results52, go_sem]) rfl ?_
  rw [show toldR ((n, false), xs) = (⟨0, []⟩, []) from if_neg (by simp)]
  refine ⟨none, some ⟨w.heap.size + 1 + 1, 0, none⟩, 0, 0, rfl, Nat.zero_le _, Nat.zero_le _, .nil _ _ _ _, .nil _ _ _ _, ?_, apart_nil rfl⟩
  first
   | exact HW.out.alloc (by simp; omega) _
   | exact z06 (z06 (HW.out.alloc (by simp; omega) _) (by show w.heap.size ≤ w.heap.size + 1; omega) _) (by show w.heap.size ≤ w.heap.size + 1; omega) _
 ·
  go_enter Tryz.func52, Tryz.ntmps52
  go_wp2_with fail
  refine HFR.out.mono ?_
  generalize hX0 : (w.alloc (.cells #[.int .i64 n.ins, .slice A n.gs.length c, .bool true] 95)).alloc (.cells #[.int .i64 0, .slice none 0 0] 29) = X0 at *
  clear hX0
  rintro e w1 ⟨A1, c1, rfl, ho1, hb1⟩
  have HO1 := zH ho1
  have HB2 := zH hb1
  have HX1 := zH ((hb1.block _ (lt_of_block HB1.out)).trans HB1.out)
  clear ho1 hb1 HFR z0 z1 z2
  have hal : Below w1.heap.size w1 (w1.alloc (.cells #[] 3)) := (Below.refl _ _).alloc (Nat.le_refl _) _
  have HAL := zH hal
  obtain ⟨i0, hi0, hz0, hz1, hz2⟩ := info_parts int_info
  have hsrc := src_ints (HX.out.up (bthen (bthen HW.out HB2.out) hal))
  have HSZ := zH (bthen HW.out HB2.out).size
  clear hal
  go_wp2_with (at_builtin; refine wpList_append_src _ (by rfl) (.tmp 14) (.tmp 15) _ (by rfl) w1.heap.size 3 i0 _ 1 8 Tryz.underlying34 hi0 hz0 hz1 hz2 (by rfl) (by omega) (.slice (some ⟨w1.heap.size, 0, none⟩) 0 0) 0 [] (by rfl) (own_lit0 rfl) X xs.length cx (xs.map (Value.int .i64)) (by rfl) hsrc (ints_one _) xs.length (by omega) (by unfold maxLen; omega) (by omega) (by simp) hXn ?_; intro X2 d2 w3 ho3 hbel3 hg3; have hv9 := (hbel3.block _ (lt_of_block HX1.out)).trans ((HAL.out.block _ (lt_of_block HX1.out)).trans HX1.out); have y0 := (z00 hv9 0).1; have y1 := (z00 hv9 1).1; have f0 := (z00 hv9 0).2; have f1 := (z00 hv9 1).2; have HV9 := zH hv9; have HO3 := zH ho3; have HB3 := zH hbel3; clear hv9 ho3 hbel3 hg3 hsrc)
  have hs1 := z03 w3 (w.heap.size + 1) 0 (.int .i64 n.ins) _ _ HV9.out
  have hs2 := z03 _ (w.heap.size + 1) 1 (.slice A1 n.gs.length c1) _ _ hs1
  have hgr : w3.grownBy ((w3.setCell ⟨w.heap.size + 1, 0, none⟩ (.int .i64 n.ins)).setCell ⟨w.heap.size + 1, 1, none⟩ (.slice A1 n.gs.length c1)) (some (w.heap.size + 1)) := z02 (z02 (World.grownBy.refl _ _) _ _) _ _
  have k5 := (z00 hs2 0).1
  have k6 := (z00 hs2 1).1
  have kf5 := (z00 hs2 0).2
  have kf6 := (z00 hs2 1).2
  refine bodyPost_ret (v := .tuple #[.agg #[.int .i64 n.ins, .slice A1 n.gs.length c1], .slice X2 xs.length d2]) (by simp [results, Tryz.results52, go_sem, k5, k6, kf5, kf6]) rfl ?_
  rw [show toldR ((n, true), xs) = (n, xs) from if_pos rfl]
  have hoi : OwnI w3 w1.heap.size (.slice X2 xs.length d2) xs := HO3.out
  have hlt : w.heap.size + 1 < X0.heap.size := by rw [HWS.out]; omega
  have hge : X0.heap.size ≤ w1.heap.size := HB2.out.size
  have hb13 : Below w1.heap.size w1 w3 := HAL.out.trans HB3.out
  exact ⟨A1, X2, c1, d2, rfl, HO1.out.sl.1, hoi.cap, own_mono9 (own_grown9 (HO1.out.own.own_up hb13) hgr hlt) HW.out.size, own_mono9 (own_grown9 hoi.own hgr (by omega)) HSZ.out, ((bthen (bthen HW.out HB2.out) hb13).grown hgr (bthen (bthen HW.out HB2.out) hb13).size (fun k hk => by injection hk with hk; omega)), apart_of HO1.out.own hoi.own (fun b h1 h2 => by have := h1.2.1; have := h2.1; omega)⟩
theorem told_out {n : N} (p : PG (List Int)) : toldR (run opsR p (n, true)) = bitsOut (run opsP p ⟨n, none⟩) := by
 rcases run_sim p ⟨n, none⟩ (n, true) (.inl ⟨rfl, rfl⟩) with ⟨h1, h2, h3, _⟩ | ⟨h1, h2⟩
 ·
  unfold toldR bitsOut
  rw [h2, if_pos rfl, if_pos h1, h3]
 ·
  unfold toldR bitsOut
  rw [if_neg (by rw [h2]; simp), if_neg h1]
end Go.Proofs.YtjghcaghigebjaaGreatDoor
namespace Go.Proofs.YtjghcaghigebjaaGreatDoor
open Go Go.RowKit Go.ChangeShapes Go.WideShapes Go.ChangeAt Go.Deep
theorem pickN_len {n : N} {o : N × List Int} (h : netOk n = true → o.1.gs.length ≤ 1048576 ∧ o.2.length ≤ 1048576) : (pickN (netOk n) o).1.gs.length ≤ 1048576 ∧ (pickN (netOk n) o).2.length ≤ 1048576 := by
 cases hk : netOk n
 · exact ⟨Nat.zero_le _, Nat.zero_le _⟩
 · exact h hk
end Go.Proofs.YtjghcaghigebjaaGreatDoor
namespace Go.Proofs.YtjghcaghigebjaaGreatDoor
open Go Go.RowKit
theorem yield_in {P : Program} {m l : Nat} {rec : Loop} {ps : Array Tmp} {tmps : Array Value} {assign body : Code} {args : Array Value} {W : World} {R : Ending → World → Prop} (hl : W.heap[l]? = some (.loop rec)) (e1 : rec.params = ps) (e2 : rec.tmps = tmps) (e3 : rec.assign = assign) (e4 : rec.body = body) (hs : args.size = ps.size)
  (h : assign.wpIn (Fence.wide.inRound l) m P (Exit.then (fun a₁ w₁ => ∃ w₂, (Instr.beginRound l).run P w₁ = .ok () w₂ ∧ body.wpIn (Fence.wide.inRound l) m P (roundPost P l R) a₁ w₂) (fun _ _ _ => False)) { tmps := (ps.zip args).foldl (fun t (p, v) => t.setIfInBounds p v) tmps, defers := [] } W) :
  YieldAt Fence.wide m P l args W R := by
 subst e1 e2 e3 e4
 exact ⟨_, _, _, _, run_yield hl hs, roundIn_of_wpIn trivial h⟩
def loopRec (fn : FuncId) (a : Act) (ps : Array Tmp) (assign body : Code) (D : Nat) (s : LoopState) : Loop := { state := s, pending := none, fn, tmps := a.tmps, params := ps, assign, body, defers := D }
theorem wpIn_rangeFunc_one {P : Program} {n : Nat} {g : Operand} {ps : Array Tmp} {assign body : Code} {Q : Exit → Act → World → Prop} {a : Act} {w : World} {gf : Nat} {lb : Array Value} {Fin : Loop → World → Prop}
  (hg : a.eval g = .func (.func gf) #[] lb) (eg : ∀ args w, (callFunc gf args).run P w = .ok (.enter gf args) w)
  (hit : ∀ fn rec, rec = loopRec fn a ps assign body w.heap.size .ready → CallsIn Fence.wide (n - 1) P gf (#[.func (.yield (w.heap.size + 1)) #[] #[]] ++ lb) ((w.alloc (.deferred (some []))).alloc (.loop rec)) fun e W =>
   (∃ v, e = .returned v) ∧ W.heap[w.heap.size + 1]? = some (.loop rec) ∧ W.heap[w.heap.size]? = some (.deferred (some [])) ∧ Fin rec W)
  (hfin : ∀ rec rec' W, Fin rec W → W.heap[w.heap.size + 1]? = some (.loop rec) → (W.putObj (w.heap.size + 1) (.loop rec')).heap[w.heap.size]? = some (.deferred (some [])) →
   Q .normal { a with defers := { target := .collected w.heap.size, args := #[] } :: a.defers } (W.putObj (w.heap.size + 1) (.loop rec'))) :
  (Code.rangeFunc g ps assign body).wpIn Fence.wide n P Q a w := by
 refine wpIn_rangeFunc fun fn _ => ?_
 obtain ⟨rec, hrec⟩ : ∃ rec, rec = loopRec fn a ps assign body w.heap.size .ready := ⟨_, rfl⟩
 obtain ⟨W1, hW1⟩ : ∃ W1, (w.alloc (.deferred (some []))).alloc (.loop rec) = W1 := ⟨_, rfl⟩
 have hit := hit fn rec hrec
 rw [hW1] at hit
 refine ⟨w.heap.size + 1, [{ target := .collected w.heap.size, args := #[] }], W1, { target := .fn (.func gf) lb, args := #[.func (.yield (w.heap.size + 1)) #[] #[]] }, W1, gf,
  #[.func (.yield (w.heap.size + 1)) #[] #[]] ++ lb, W1, ?_, ?_, ?_, ?_, (fun h => by cases h), ?_⟩
 · rw [← hW1, hrec]; exact run_enterLoop_outer _ _ _ _ _
 ·
  simp only [resolve, hg]
  simp [go_sem]
 · exact fun _ _ => trivial
 · simp [invoke, go_sem, eg]
 ·
  refine hit.mono ?_
  rintro e W ⟨⟨v, rfl⟩, hl, hk, hf⟩
  have hlt := (Array.getElem?_eq_some_iff.1 hl).1
  have hp : rec.pending = none := by rw [hrec]; rfl
  have he := run_endLoop (P := P) hl (by rw [hrec]; simp [loopRec])
  rw [hp] at he
  exact ⟨none, _, he, hfin rec _ W hf hl ((World.putObj_heap_other (by omega)).trans hk)⟩
theorem run_less {σ : Type} {o : Ops σ} (xs ys : List Int) (k : Nat) (x y : Int) (hx : xs[k]? = some x) (hy : ys[k]? = some y) (s : σ) (r : Int) :
  run o (lessP (xs.drop k) (ys.drop k) r) s = (let d := o.xor s x y; let p := run o (muxP d.2 y r) d.1; run o (lessP (xs.drop (k + 1)) (ys.drop (k + 1)) p.2) p.1) := by
 obtain ⟨hk, rfl⟩ := List.getElem?_eq_some_iff.1 hx
 obtain ⟨hk', rfl⟩ := List.getElem?_eq_some_iff.1 hy
 rw [List.drop_eq_getElem_cons hk, List.drop_eq_getElem_cons hk']
 simp only [lessP, run, run_bind]
def GateI (a0 a1 : Addr) (lo : Nat) (W : World) (q r : Nat) (s s' : BS) (called : Bool) (x : World) : Prop := BelB lo W x ∧ Bd a0 a1 lo x q r (if called = true then s' else s)
theorem GateI.up {a0 a1 : Addr} {lo : Nat} {W : World} {q r : Nat} {s s' : BS} {called : Bool} {x x' : World} (h : GateI a0 a1 lo W q r s s' called x) (hb : Below x.heap.size x x') : GateI a0 a1 lo W q r s s' called x' := ⟨h.1.trans (.of hb h.2.size), h.2.up hb⟩
set_option maxRecDepth 100000 in
set_option maxHeartbeats 4000000 in
theorem bLess_any (a0 a1 : Addr) (lo q r : Nat) (X Y : Option Addr) (cx cy : Nat) (xs ys : List Int) (s : BS) (w : World) (h : Bd a0 a1 lo w q r s) (hX : Lay.int.Pl w X xs) (hY : Lay.int.Pl w Y ys) (hxm : ∀ x ∈ xs, MB x) (hym : ∀ y ∈ ys, MB y) (hl : xs.length = ys.length) (hn : xs.length ≤ 1000) :
  Calls Tryz.prog 130 #[.pointer (some ⟨q, 0, none⟩), .slice X xs.length cx, .slice Y ys.length cy] w (RetM a0 a1 lo w q r (run opsP (lessP xs ys (-1)) s)) := by
 obtain ⟨T, hT⟩ : ∃ T, T = run opsP (lessP xs ys (-1)) s := ⟨_, rfl⟩
 rw [← hT]
 have HT := zH hT
 have HB := zH h
 have HX := zH hX
 have HY := zH hY
 have HXM := zH hxm
 have HYM := zH hym
 have HL := zH hl
 have hlo := h.size
 clear hT h hX hY hxm hym
 rw [← hl]
 clear hl
 go_enter Tryz.func130, Tryz.ntmps130
 go_wp2
 go_loopw [7, 12] (fun rv i wr => ∃ (k : Nat) (s1 : BS) (rr : Int), k ≤ xs.length ∧ i = .int .i64 k ∧ rv = .int .i64 rr ∧ MB rr ∧ BelB lo w wr ∧ Bd a0 a1 lo wr q r s1 ∧ Hid (run opsP (lessP (xs.drop k) (ys.drop k) rr) s1 = T)) (fun _ i _ => xs.length - (intOf i).toNat)
 case atStart => exact ⟨0, s, (-1), Nat.zero_le _, rfl, rfl, by unfold MB; omega, .refl _ _, HB.out, zH (by rw [HT.out]; rfl)⟩
 case round =>
  obtain ⟨k, s1, rr, hk, rfl, rfl, hrr, hbb, hbd, hst⟩ := hrel
  have HRR := zH hrr
  have HBB := zH hbb
  have HBD := zH hbd
  clear hbb hbd hrr
  by_cases hlt : k < xs.length
  ·
   have hlt2 : (k : Int) < xs.length := by omega
   have hlty : k < ys.length := by rw [← HL.out]; exact hlt
   obtain ⟨x, hx⟩ : ∃ x, xs[k]? = some x := ⟨_, List.getElem?_eq_getElem hlt⟩
   obtain ⟨y, hy⟩ : ∃ y, ys[k]? = some y := ⟨_, List.getElem?_eq_getElem hlty⟩
   have hxg : xs[k] = x := (List.getElem?_eq_some_iff.1 hx).2
   have hyg : ys[k] = y := (List.getElem?_eq_some_iff.1 hy).2
   have HXYM := zH (And.intro (HXM.out x (List.mem_of_getElem? hx)) (HYM.out y (List.mem_of_getElem? hy)))
   obtain ⟨adx, rfl, -, -⟩ := HX.out.at_int hlt
   obtain ⟨ady, rfl, -, -⟩ := HY.out.at_int hlty
   obtain ⟨m, hm⟩ : ∃ m, m = opsP.xor s1 x y := ⟨_, rfl⟩
   have HST := zH ((run_less (o := opsP) xs ys k x y hx hy s1 rr).symm.trans hst.out)
   have HM := zH hm
   have HMB : Hid (NB m.1.n ∧ MB m.2) := zH (by rw [hm]; exact opsP_xor_mb HBD.out.nb HXYM.out.1.rb HXYM.out.2.rb)
   have HRX : Hid (∀ z, BelB lo w z → z.cell? (adx.add k) = some (.int .i64 x)) := zH fun z hz => by
    obtain ⟨ad, e, _, hc⟩ := (HX.out.upB hz).at_int hlt
    injection e with e; subst e; rw [← hxg]; exact hc
   have HRY : Hid (∀ z, BelB lo w z → z.cell? (ady.add k) = some (.int .i64 y)) := zH fun z hz => by
    obtain ⟨ad, e, _, hc⟩ := (HY.out.upB hz).at_int hlty
    injection e with e; subst e; rw [← hyg]; exact hc
   clear hm hx hy hxg hyg hst hlty
   go_wp2
   refine z05 [[], [], [], [(1, 16), (2, 17)], [(3, 18)], [], [], [(5, 20), (6, 21)], [(7, 22)], [(0, 15), (4, 19), (8, 23)], [(9, 24)]]
    (fun x9 y9 => Below x9.heap.size x9 y9)
    [(9, fun x9 y9 => BelB lo x9 y9)]
    (fun f9 x9 => GateI a0 a1 lo w q r s1 m.1 (f9 9) x9)
    [fun vs9 _ => vs9 0 = (.pointer (some ⟨q, 0, none⟩)),
  fun vs9 _ => vs9 1 = (.slice (some adx) xs.length cx),
  fun vs9 _ => vs9 2 = (.int .i64 (k : Int)),
  fun vs9 _ => vs9 3 = (.pointer (some (adx.add k))),
  fun vs9 _ => vs9 4 = (.int .i64 x),
  fun vs9 _ => vs9 5 = (.slice (some ady) xs.length cy),
  fun vs9 _ => vs9 6 = (.int .i64 (k : Int)),
  fun vs9 _ => vs9 7 = (.pointer (some (ady.add k))),
  fun vs9 _ => vs9 8 = (.int .i64 y),
  fun vs9 _ => vs9 9 = (.int .i64 m.2),
  fun vs9 _ => vs9 10 = (.int .i64 m.2)]
    [(0, 15), (1, 16), (2, 17), (3, 18), (4, 19), (5, 20), (6, 21), (7, 22), (8, 23), (9, 24), (10, 9)] (by kernel_rfl) (by kernel_rfl) (by kernel_rfl) (by kernel_rfl)
    (fun _ => Below.refl _ _) ⟨fun _ => BelB.refl _ _, trivial⟩
    ⟨⟨.inr zK, ⟨.inr (.inr zK), trivial⟩⟩,
  ⟨.inr zK, ⟨.inr (.inr zK), trivial⟩⟩,
  ⟨.inr zK, ⟨.inr (.inr zK), trivial⟩⟩,
  ⟨.inr zK, ⟨.inr (.inr zK), trivial⟩⟩,
  ⟨.inr zK, ⟨.inr (.inr zK), trivial⟩⟩,
  ⟨.inr zK, ⟨.inr (.inr zK), trivial⟩⟩,
  ⟨.inr zK, ⟨.inr (.inr zK), trivial⟩⟩,
  ⟨.inr zK, ⟨.inr (.inr zK), trivial⟩⟩,
  ⟨.inr zK, ⟨.inr (.inr zK), trivial⟩⟩,
  ⟨.inr zK, ⟨.inr (.inl rfl), trivial⟩⟩,
  ⟨.inr zK, ⟨.inr (.inr zK), trivial⟩⟩, trivial⟩ ⟨fun _ _ _ h _ v => (by simpa only [← h] using v),
  fun _ _ _ h _ v => (by simpa only [← h] using v),
  fun _ _ _ h _ v => (by simpa only [← h] using v),
  fun _ _ _ h _ v => (by simpa only [← h] using v),
  fun _ _ _ h _ v => (by simpa only [← h] using v),
  fun _ _ _ h _ v => (by simpa only [← h] using v),
  fun _ _ _ h _ v => (by simpa only [← h] using v),
  fun _ _ _ h _ v => (by simpa only [← h] using v),
  fun _ _ _ h _ v => (by simpa only [← h] using v),
  fun _ _ _ h _ v => (by simpa only [← h] using v),
  fun _ _ _ h _ v => (by simpa only [← h] using v), trivial⟩ (⟨HBB.out.trans (.of (z01 (Below.refl _ _) 1) HBD.out.size), by rw [if_neg (by simp)]; exact HBD.out.up (z01 (Below.refl _ _) 1)⟩) ⟨?_, ?_, ?_, ?_, ?_, ?_, ?_, ?_, ?_, ?_, ?_, trivial⟩ ?_
   ·
    rintro vals xw f hf1 - - hI hF
    dsimp only [owes4, bare]
    simp only [putsD, Act.put, zA, zB, zC]
    go_wp2
    exact ⟨rfl, rfl, ⟨zN rfl, fun _ => Below.refl _ _⟩, hI⟩
   ·
    rintro vals xw f hf1 - - hI hF
    dsimp only [owes4, bare]
    simp only [putsD, Act.put, zA, zB, zC]
    go_wp2
    exact ⟨rfl, rfl, ⟨zN rfl, fun _ => Below.refl _ _⟩, hI⟩
   ·
    rintro vals xw f hf1 - - hI hF
    dsimp only [owes4, bare]
    simp only [putsD, Act.put, zA, zB, zC]
    go_wp2
    exact ⟨rfl, rfl, ⟨zN rfl, fun _ => Below.refl _ _⟩, hI⟩
   ·
    rintro vals xw f hf1 - - hI hF
    simp only [saysD, zD, zE, and_true] at hF
    obtain ⟨e16, e17⟩ := hF
    dsimp only [owes4, bare]
    simp only [putsD, Act.put, zA, zB, zC]
    simp only [e16, e17]
    go_wp2
    exact ⟨rfl, rfl, ⟨zN rfl, fun _ => Below.refl _ _⟩, hI⟩
   ·
    rintro vals xw f hf1 - - hI hF
    simp only [saysD, zD, zE, and_true] at hF
    have e18 := hF
    dsimp only [owes4, bare]
    simp only [putsD, Act.put, zA, zB, zC]
    simp only [e18]
    have c9 := HRX.out _ hI.1
    go_wp2
    exact ⟨rfl, rfl, ⟨zN rfl, fun _ => Below.refl _ _⟩, hI⟩
   ·
    rintro vals xw f hf1 - - hI hF
    dsimp only [owes4, bare]
    simp only [putsD, Act.put, zA, zB, zC]
    go_wp2
    exact ⟨rfl, rfl, ⟨zN rfl, fun _ => Below.refl _ _⟩, hI⟩
   ·
    rintro vals xw f hf1 - - hI hF
    dsimp only [owes4, bare]
    simp only [putsD, Act.put, zA, zB, zC]
    go_wp2
    exact ⟨rfl, rfl, ⟨zN rfl, fun _ => Below.refl _ _⟩, hI⟩
   ·
    rintro vals xw f hf1 - - hI hF
    simp only [saysD, zD, zE, and_true] at hF
    obtain ⟨e20, e21⟩ := hF
    dsimp only [owes4, bare]
    simp only [putsD, Act.put, zA, zB, zC]
    simp only [e20, e21]
    go_wp2
    exact ⟨rfl, rfl, ⟨zN rfl, fun _ => Below.refl _ _⟩, hI⟩
   ·
    rintro vals xw f hf1 - - hI hF
    simp only [saysD, zD, zE, and_true] at hF
    have e22 := hF
    dsimp only [owes4, bare]
    simp only [putsD, Act.put, zA, zB, zC]
    simp only [e22]
    have c9 := HRY.out _ hI.1
    go_wp2
    exact ⟨rfl, rfl, ⟨zN rfl, fun _ => Below.refl _ _⟩, hI⟩
   ·
    rintro vals xw f hf1 - - hI hF
    simp only [saysD, zD, zE, and_true] at hF
    obtain ⟨e15, e19, e23⟩ := hF
    dsimp only [owes4, bare]
    simp only [putsD, Act.put, zA, zB, zC]
    simp only [e15, e19, e23]
    obtain ⟨i1, i2⟩ := hI
    rw [hf1, if_neg (by simp)] at i2
    have I1 := zH i1
    have HC := zH (bXor_any a0 a1 lo q r s1 x y xw i2 HXYM.out.1 HXYM.out.2)
    rw [← HM.out] at HC
    clear i1 i2
    go_wp2_with fail
    refine HC.out.mono ?_
    rintro e wx ⟨rfl, hb9, hd9⟩
    have HB9 := zH hb9
    have HD9 := zH hd9
    clear hb9 hd9 HC
    go_wp2
    exact ⟨rfl, rfl, ⟨fun _ => HB9.out, fun h9 => absurd rfl h9⟩, I1.out.trans HB9.out, by rw [z10, if_pos rfl]; exact HD9.out⟩
   ·
    rintro vals xw f hf1 - - hI hF
    simp only [saysD, zD, zE, and_true] at hF
    have e24 := hF
    dsimp only [owes4, bare]
    simp only [putsD, Act.put, zA, zB, zC]
    simp only [e24]
    go_wp2
    exact ⟨rfl, rfl, ⟨zN rfl, fun _ => Below.refl _ _⟩, hI⟩
   ·
    intro vals xw f hall hI hF
    rw [show List.range _ = [0, 1, 2, 3, 4, 5, 6, 7, 8, 9, 10] from rfl] at hF
    simp only [says, zD, zE, and_true] at hF
    obtain ⟨i1, i2⟩ := hI
    rw [hall 9 (by decide), if_pos rfl] at i2
    obtain ⟨_, _, _, _, _, _, _, _, _, _, e9⟩ := hF
    simp only [putsD, Act.put, zA, zB, zC]
    simp only [e9]
    clear e9
    have hmn := HMB.out.2
    obtain ⟨_, hm0, hm1⟩ := hmn
    have c9 := HRY.out _ i1
    obtain ⟨p, hp⟩ : ∃ p, p = run opsP (muxP m.2 y rr) m.1 := ⟨_, rfl⟩
    have HP := zH hp
    have HC := zH (bMux_any a0 a1 lo q r m.1 m.2 y rr xw i2 HMB.out.2 HXYM.out.2 HRR.out)
    rw [← hp] at HC
    have HPM : Hid (MB p.2) := zH (by rw [hp]; exact (mux_mb HMB.out.1 HMB.out.2.rb HXYM.out.2.rb HRR.out.rb).2)
    have I1 := zH i1
    clear i1 i2 hp
    go_wp2_with fail
    refine HC.out.mono ?_
    rintro e w2 ⟨rfl, hb2, hd2⟩
    have HB2 := zH (I1.out.trans hb2)
    have HD2 := zH hd2
    clear hb2 hd2 HC c9
    go_wp2
    go_roundw
    case rel => exact ⟨k + 1, p.1, p.2, by omega, by go_num, rfl, HPM.out, HB2.out, HD2.out, zH (by rw [HP.out, HM.out]; exact HST.out)⟩
    case measure => simp [intOf]; omega
  ·
   have hke : k = xs.length := by omega
   subst hke
   have hlt2 : ¬ ((xs.length : Nat) : Int) < xs.length := by omega
   go_wp2
   go_ret
   have hd1 : xs.drop xs.length = [] := List.drop_length
   have hd2 : ys.drop xs.length = [] := by rw [HL.out]; exact List.drop_length
   have hst2 := hst.out
   rw [hd1, hd2] at hst2
   have hT2 : T = (s1, rr) := by rw [← hst2]; rfl
   rw [hT2]
   exact ⟨rfl, HBB.out, HBD.out⟩
def RetSg (w : World) (xs : List Int) (e : Ending) (w' : World) : Prop := ∃ A c, e = .returned (.slice A xs.length c) ∧ OwnSg w' w.heap.size (.slice A xs.length c) xs ∧ Below w.heap.size w w'
set_option maxRecDepth 100000 in
theorem cloneS_any (A : Option Addr) (c : Nat) (xs : List Int) (w : World) (h : Lay.int.Rd w A xs) (hn : xs.length ≤ 1048576) :
  Calls Tryz.prog 129 #[.slice A xs.length c] w (RetSg w xs) := by
 obtain ⟨i0, hi0, hz0, hz1, hz2⟩ := info_parts signal_info
 cases A with
 | none =>
  have h0 : xs = [] := List.eq_nil_of_length_eq_zero (sl_none h rfl)
  subst h0
  have he : ∀ w : World, (binOp .eql 77 (.slice none 0 c) (.slice none 0 0)).run Tryz.prog w = .ok (.bool true) w := fun _ => rfl
  go_enter Tryz.func129, Tryz.ntmps129
  go_wp2
  go_ret
  exact ⟨none, 0, rfl, World.ownsRow_nil _ _ _ _, Below.refl _ _⟩
 | some ad =>
  have he : ∀ w : World, (binOp .eql 77 (.slice (some ad) xs.length c) (.slice none 0 0)).run Tryz.prog w = .ok (.bool false) w := fun _ => rfl
  go_enter Tryz.func129, Tryz.ntmps129
  go_wp2_with (at_builtin; refine wpList_append_src _ (by rfl) (.tmp 5) (.tmp 6) _ (by rfl) w.heap.size 123 i0 _ 1 8 Tryz.underlying77 hi0 hz0 hz1 hz2 (by rfl) (by omega) (.slice (some ⟨w.heap.size, 0, none⟩) 0 0) 0 [] (by rfl) (own_lit0 rfl) (some ad) xs.length c (xs.map (Value.int .i64)) (by rfl) (src_ints (Lay.Sl.up h ((Below.refl _ _).alloc (Nat.le_refl _) _))) (ints_one _) xs.length (by omega) (by unfold maxLen; omega) (by omega) (by simp) (by simp) ?_; intro A1 c1 w1 hown1 hb1 hg1)
  have hbw : Below w.heap.size w w1 := ((Below.refl _ _).alloc (Nat.le_refl _) _).trans hb1
  go_ret
  exact ⟨A1, c1, rfl, by unfold OwnSg; simpa using hown1, hbw⟩
theorem OwnSg.other {w : World} {lo g k : Nat} {v : Value} {xs : List Int} (h : OwnSg w lo v xs) (hv : v.ownBlock ≠ some g) (u : Value) : OwnSg (w.setCell ⟨g, k, none⟩ u) lo v xs := rows_set h g k u hv
theorem OwnSg.first {w : World} {lo c : Nat} {A : Option Addr} {xs : List Int} (h : OwnSg w lo (.slice A xs.length c) xs) (hx : 0 < xs.length) : ∃ g, A = some ⟨g, 0, none⟩ ∧ lo ≤ g ∧ g < w.heap.size := by
 rcases h.2 with ⟨_, e⟩ | ⟨g, cap, cur, e, hb, hg, _⟩
 · omega
 · injection e with e; exact ⟨g, e, hb, (Array.getElem?_eq_some_iff.1 hg).1⟩
theorem getD_at {l : List Int} {k : Nat} (h : k < l.length) : l.getD k 0 = l[k] := by simp [List.getD, h]
set_option maxHeartbeats 1000000 in
theorem neg1_any (x y : Int) (w : World) (hx : RB x) : Calls Tryz.prog 126 #[.int .i64 x, .int .i64 y] w fun e w' => e = .returned (.int .i64 (-x)) ∧ w = w' := by
 obtain ⟨h0, h1⟩ := hx
 go_enter Tryz.func126, Tryz.ntmps126
 go_wp2
 go_ret
 exact ⟨rfl, rfl⟩
theorem run_turned : ∀ (xs ys : List Int) (s : BS), xs.length = ys.length → run opsP (eachP (fun x _ => .ret (-x)) xs ys) s = (s, xs.map Neg.neg)
 | [], [], s, _ => rfl
 | x :: xs, y :: ys, s, h => by
  show run opsP ((PG.ret (-x)).bind fun m => (eachP _ xs ys).bind fun l => .ret (m :: l)) s = _
  rw [run_bind, run_bind]
  simp only [run, run_turned xs ys s (by simpa using h), List.map_cons]
 | [], _ :: _, _, h => by simp at h
 | _ :: _, [], _, h => by simp at h
set_option maxRecDepth 100000 in
set_option maxHeartbeats 4000000 in
theorem each_negated (a0 a1 : Addr) (lo q r : Nat)  (X Y : Option Addr) (cx cy : Nat) (xs ys : List Int) (s : BS) (w : World) (K : World → Prop) (hK : K w) (hKs : ∀ x, BelB lo w x → K x) (h : Bd a0 a1 lo w q r s) (hX : Lay.int.Pl w X xs) (hY : Lay.int.Pl w Y ys) (hxm : ∀ x ∈ xs, MB x) (hym : ∀ y ∈ ys, MB y) (hl : xs.length = ys.length) (hn : xs.length ≤ 1000)
  (hcall : ∀ (x y : Int) (s : BS) (z : World), Bd a0 a1 lo z q r s → MB x → MB y → K z → Calls Tryz.prog 126 #[.int .i64 x, .int .i64 y] z (RetM a0 a1 lo z q r (run opsP ((fun x _ => .ret (-x)) x y) s)))
  (hnb : ∀ (x y : Int) (s : BS), NB s.n → MB x → MB y → MB (run opsP ((fun x _ => .ret (-x)) x y) s).2) :
  Calls Tryz.prog 92 #[.slice X xs.length cx, .slice Y ys.length cy, .func (.func 126) #[] #[]] w (RetL a0 a1 lo w q r (run opsP (eachP (fun x _ => .ret (-x)) xs ys) s)) := by
 obtain ⟨T, hT⟩ : ∃ T, T = run opsP (eachP (fun x _ => .ret (-x)) xs ys) s := ⟨_, rfl⟩
 rw [← hT]
 have HT := zH hT
 have HB := zH h
 have HX := zH hX
 have HY := zH hY
 have HK := zH hKs
 have HXM := zH hxm
 have HYM := zH hym
 have HCALL := zH hcall
 have HNB := zH hnb
 have HL := zH hl
 have hlo := h.size
 clear hT h hX hY hKs hxm hym hcall hnb hK
 rw [← hl]
 clear hl
 go_enter Tryz.func92, Tryz.ntmps92
 go_wp2
 go_loopw [7, 11] (fun out i wr => ∃ (k : Nat) (s1 : BS) (l : List Int) (A : Option Addr) (c : Nat), k ≤ xs.length ∧ i = .int .i64 k ∧ out = .slice A l.length c ∧ l.length = k ∧ OwnSg wr w.heap.size (.slice A l.length c) l ∧ (∀ m ∈ l, MB m) ∧ BelB lo w wr ∧ Bd a0 a1 lo wr q r s1 ∧ Hid ((let z := run opsP (eachP (fun x _ => .ret (-x)) (xs.drop k) (ys.drop k)) s1; (z.1, l ++ z.2)) = T)) (fun _ i _ => xs.length - (intOf i).toNat)
 case atStart => exact ⟨0, s, [], none, 0, Nat.zero_le _, rfl, rfl, rfl, OwnSg.nil _ _, (fun _ h => by cases h), .refl _ _, HB.out, zH (by rw [HT.out]; rfl)⟩
 case round =>
  obtain ⟨k, s1, l, A, c, hk, rfl, rfl, hlk, hown, hlm, hbb, hbd, hst⟩ := hrel
  have HOWN := zH hown
  have HLM := zH hlm
  have HBB := zH hbb
  have HBD := zH hbd
  have HLK := zH hlk
  have hsz := hbb.bel.size
  clear hown hlm hbb hbd hlk
  by_cases hlt : k < xs.length
  ·
   have hlt2 : (k : Int) < xs.length := by omega
   have hlty : k < ys.length := by rw [← HL.out]; exact hlt
   obtain ⟨x, hx⟩ : ∃ x, xs[k]? = some x := ⟨_, List.getElem?_eq_getElem hlt⟩
   obtain ⟨y, hy⟩ : ∃ y, ys[k]? = some y := ⟨_, List.getElem?_eq_getElem hlty⟩
   have hxg : xs[k] = x := (List.getElem?_eq_some_iff.1 hx).2
   have hyg : ys[k] = y := (List.getElem?_eq_some_iff.1 hy).2
   have hxM : MB x := HXM.out x (List.mem_of_getElem? hx)
   have hyM : MB y := HYM.out y (List.mem_of_getElem? hy)
   obtain ⟨adx, rfl, -, -⟩ := HX.out.at_int hlt
   obtain ⟨ady, rfl, -, -⟩ := HY.out.at_int hlty
   obtain ⟨m, hm⟩ : ∃ m, m = run opsP ((fun x _ => .ret (-x)) x y) s1 := ⟨_, rfl⟩
   have HST := zH ((run_each (o := opsP) (f := (fun x _ => .ret (-x))) xs ys k x y hx hy s1 l).symm.trans hst.out)
   have HM := zH hm
   have HMB : Hid (MB m.2) := zH (by rw [hm]; exact HNB.out x y s1 HBD.out.nb hxM hyM)
   have HRX : Hid (∀ z, BelB lo w z → z.cell? (adx.add k) = some (.int .i64 x)) := zH fun z hz => by
    obtain ⟨ad, e, _, hc⟩ := (HX.out.upB hz).at_int hlt
    injection e with e; subst e; rw [← hxg]; exact hc
   have HRY : Hid (∀ z, BelB lo w z → z.cell? (ady.add k) = some (.int .i64 y)) := zH fun z hz => by
    obtain ⟨ad, e, _, hc⟩ := (HY.out.upB hz).at_int hlty
    injection e with e; subst e; rw [← hyg]; exact hc
   obtain ⟨l2, hl2⟩ : ∃ l2, l2 = l ++ [m.2] := ⟨_, rfl⟩
   have HL2 := zH hl2
   have hky : (k : Int) < ys.length := by omega
   have hkx : (k : Int) < cx + 1 + xs.length := by omega
   have HXYM := zH (And.intro hxM hyM)
   clear hm hx hy hxg hyg hst hl2 hxM hyM hlty hkx
   go_wp2
   refine z05 [[], [], [], [], [(2, 16), (3, 17)], [(4, 18)], [], [], [(6, 20), (7, 21)], [(8, 22)], [(1, 15), (5, 19), (9, 23)], [(10, 24)], [(0, 14), (11, 25)], [(12, 26)]]
    (fun x9 y9 => Below x9.heap.size x9 y9)
    [(10, fun x9 y9 => BelB lo x9 y9), (12, fun x9 y9 => x9.grownBy y9 (Value.slice A l.length c).ownBlock)]
    (fun f9 x9 => EachI a0 a1 lo w q r s1 m.1 A c l (f9 10) (f9 12) x9)
    [fun vs9 _ => vs9 0 = (.slice A l.length c),
  fun vs9 _ => vs9 1 = (.func (.func 126) #[] #[]),
  fun vs9 _ => vs9 2 = (.slice (some adx) xs.length cx),
  fun vs9 _ => vs9 3 = (.int .i64 (k : Int)),
  fun vs9 _ => vs9 4 = (.pointer (some (adx.add k))),
  fun vs9 _ => vs9 5 = (.int .i64 x),
  fun vs9 _ => vs9 6 = (.slice (some ady) xs.length cy),
  fun vs9 _ => vs9 7 = (.int .i64 (k : Int)),
  fun vs9 _ => vs9 8 = (.pointer (some (ady.add k))),
  fun vs9 _ => vs9 9 = (.int .i64 y),
  fun vs9 _ => vs9 10 = (.int .i64 m.2),
  fun vs9 y9 => (fun v z => ∃ b : Nat, v = .slice (some ⟨b, 0, none⟩) 1 1 ∧ z.heap[b]? = some (.cells #[.int .i64 m.2] 123 (0, 0)) ∧ some b ≠ (Value.slice A l.length c).ownBlock) (vs9 11) y9,
  fun vs9 y9 => (fun v z => ∃ A' c', v = .slice A' l2.length c' ∧ OwnSg z w.heap.size (.slice A' l2.length c') l2) (vs9 12) y9,
  fun vs9 _ => vs9 13 = vs9 12]
    [(0, 14), (1, 15), (2, 16), (3, 17), (4, 18), (5, 19), (6, 20), (7, 21), (8, 22), (9, 23), (10, 24), (11, 25), (12, 26), (13, 7)] (by kernel_rfl) (by kernel_rfl) (by kernel_rfl) (by kernel_rfl)
    (fun _ => Below.refl _ _) ⟨fun _ => BelB.refl _ _, fun _ => World.grownBy.refl _ _, trivial⟩
    ⟨⟨.inr zK, ⟨.inr (.inr zK), .inr (.inr zK), trivial⟩⟩,
  ⟨.inr zK, ⟨.inr (.inr zK), .inr (.inr zK), trivial⟩⟩,
  ⟨.inr zK, ⟨.inr (.inr zK), .inr (.inr zK), trivial⟩⟩,
  ⟨.inr zK, ⟨.inr (.inr zK), .inr (.inr zK), trivial⟩⟩,
  ⟨.inr zK, ⟨.inr (.inr zK), .inr (.inr zK), trivial⟩⟩,
  ⟨.inr zK, ⟨.inr (.inr zK), .inr (.inr zK), trivial⟩⟩,
  ⟨.inr zK, ⟨.inr (.inr zK), .inr (.inr zK), trivial⟩⟩,
  ⟨.inr zK, ⟨.inr (.inr zK), .inr (.inr zK), trivial⟩⟩,
  ⟨.inr zK, ⟨.inr (.inr zK), .inr (.inr zK), trivial⟩⟩,
  ⟨.inr zK, ⟨.inr (.inr zK), .inr (.inr zK), trivial⟩⟩,
  ⟨.inr zK, ⟨.inr (.inl rfl), .inr (.inr zK), trivial⟩⟩,
  ⟨.inr (zS (fun v z => ∃ b : Nat, v = .slice (some ⟨b, 0, none⟩) 1 1 ∧ z.heap[b]? = some (.cells #[.int .i64 m.2] 123 (0, 0)) ∧ some b ≠ (Value.slice A l.length c).ownBlock) (fun _ _ _ ⟨b, h1, h2, h3⟩ hR => ⟨b, h1, (hR.block b (lt_of_block h2)).trans h2, h3⟩)), ⟨.inl (by kernel_rfl), .inr (.inr (zS (fun v z => ∃ b : Nat, v = .slice (some ⟨b, 0, none⟩) 1 1 ∧ z.heap[b]? = some (.cells #[.int .i64 m.2] 123 (0, 0)) ∧ some b ≠ (Value.slice A l.length c).ownBlock) (fun _ _ _ ⟨b, h1, h2, h3⟩ hR => ⟨b, h1, (hR.block b (lt_of_block h2) h3).trans h2, h3⟩))), trivial⟩⟩,
  ⟨.inr (zS (fun v z => ∃ A' c', v = .slice A' l2.length c' ∧ OwnSg z w.heap.size (.slice A' l2.length c') l2) (fun _ _ _ ⟨A', c', h1, h2⟩ hR => ⟨A', c', h1, z07 h2 hR (Nat.le_refl _)⟩)), ⟨.inl (by kernel_rfl), .inr (.inl rfl), trivial⟩⟩,
  ⟨.inr zK, ⟨.inr (.inr zK), .inr (.inr zK), trivial⟩⟩, trivial⟩ ⟨fun _ _ _ h _ v => (by simpa only [← h] using v),
  fun _ _ _ h _ v => (by simpa only [← h] using v),
  fun _ _ _ h _ v => (by simpa only [← h] using v),
  fun _ _ _ h _ v => (by simpa only [← h] using v),
  fun _ _ _ h _ v => (by simpa only [← h] using v),
  fun _ _ _ h _ v => (by simpa only [← h] using v),
  fun _ _ _ h _ v => (by simpa only [← h] using v),
  fun _ _ _ h _ v => (by simpa only [← h] using v),
  fun _ _ _ h _ v => (by simpa only [← h] using v),
  fun _ _ _ h _ v => (by simpa only [← h] using v),
  fun _ _ _ h _ v => (by simpa only [← h] using v),
  fun _ _ _ h _ v => (by simpa only [← h] using v),
  fun _ _ _ h _ v => (by simpa only [← h] using v),
  fun vs vs' x h hd hv => (by have h2 := hd 12 (by decide); show vs' 13 = vs' 12; exact h.symm.trans (Eq.trans hv h2)), trivial⟩ (⟨HBB.out.trans (.of (z01 (Below.refl _ _) 1) (Nat.le_trans hlo hsz)), by rw [if_neg (by simp)]; exact HBD.out.up (z01 (Below.refl _ _) 1), fun _ => z07 HOWN.out (z01 (Below.refl _ _) 1) (Nat.le_refl _)⟩) ⟨?_, ?_, ?_, ?_, ?_, ?_, ?_, ?_, ?_, ?_, ?_, ?_, ?_, ?_, trivial⟩ ?_
   ·
    rintro vals xw f hf1 - - hI hF
    dsimp only [owes4, bare]
    simp only [putsD, Act.put, zA, zB, zC]
    go_wp2
    exact ⟨rfl, rfl, ⟨zN rfl, fun _ => ⟨zN rfl, fun _ => Below.refl _ _⟩⟩, hI⟩
   ·
    rintro vals xw f hf1 - - hI hF
    dsimp only [owes4, bare]
    simp only [putsD, Act.put, zA, zB, zC]
    go_wp2
    exact ⟨rfl, rfl, ⟨zN rfl, fun _ => ⟨zN rfl, fun _ => Below.refl _ _⟩⟩, hI⟩
   ·
    rintro vals xw f hf1 - - hI hF
    dsimp only [owes4, bare]
    simp only [putsD, Act.put, zA, zB, zC]
    go_wp2
    exact ⟨rfl, rfl, ⟨zN rfl, fun _ => ⟨zN rfl, fun _ => Below.refl _ _⟩⟩, hI⟩
   ·
    rintro vals xw f hf1 - - hI hF
    dsimp only [owes4, bare]
    simp only [putsD, Act.put, zA, zB, zC]
    go_wp2
    exact ⟨rfl, rfl, ⟨zN rfl, fun _ => ⟨zN rfl, fun _ => Below.refl _ _⟩⟩, hI⟩
   ·
    rintro vals xw f hf1 - - hI hF
    simp only [saysD, zD, zE, and_true] at hF
    obtain ⟨e16, e17⟩ := hF
    dsimp only [owes4, bare]
    simp only [putsD, Act.put, zA, zB, zC]
    simp only [e16, e17]
    go_wp2
    exact ⟨rfl, rfl, ⟨zN rfl, fun _ => ⟨zN rfl, fun _ => Below.refl _ _⟩⟩, hI⟩
   ·
    rintro vals xw f hf1 - - hI hF
    simp only [saysD, zD, zE, and_true] at hF
    have e18 := hF
    dsimp only [owes4, bare]
    simp only [putsD, Act.put, zA, zB, zC]
    simp only [e18]
    have c9 := HRX.out _ hI.1
    go_wp2
    exact ⟨rfl, rfl, ⟨zN rfl, fun _ => ⟨zN rfl, fun _ => Below.refl _ _⟩⟩, hI⟩
   ·
    rintro vals xw f hf1 - - hI hF
    dsimp only [owes4, bare]
    simp only [putsD, Act.put, zA, zB, zC]
    go_wp2
    exact ⟨rfl, rfl, ⟨zN rfl, fun _ => ⟨zN rfl, fun _ => Below.refl _ _⟩⟩, hI⟩
   ·
    rintro vals xw f hf1 - - hI hF
    dsimp only [owes4, bare]
    simp only [putsD, Act.put, zA, zB, zC]
    go_wp2
    exact ⟨rfl, rfl, ⟨zN rfl, fun _ => ⟨zN rfl, fun _ => Below.refl _ _⟩⟩, hI⟩
   ·
    rintro vals xw f hf1 - - hI hF
    simp only [saysD, zD, zE, and_true] at hF
    obtain ⟨e20, e21⟩ := hF
    dsimp only [owes4, bare]
    simp only [putsD, Act.put, zA, zB, zC]
    simp only [e20, e21]
    go_wp2
    exact ⟨rfl, rfl, ⟨zN rfl, fun _ => ⟨zN rfl, fun _ => Below.refl _ _⟩⟩, hI⟩
   ·
    rintro vals xw f hf1 - - hI hF
    simp only [saysD, zD, zE, and_true] at hF
    have e22 := hF
    dsimp only [owes4, bare]
    simp only [putsD, Act.put, zA, zB, zC]
    simp only [e22]
    have c9 := HRY.out _ hI.1
    go_wp2
    exact ⟨rfl, rfl, ⟨zN rfl, fun _ => ⟨zN rfl, fun _ => Below.refl _ _⟩⟩, hI⟩
   ·
    intro vals xw f hf1 hf2 hf3 hI hF
    have k12 : f 12 = false := hf3 12 (by kernel_rfl)
    clear hf2 hf3
    simp only [saysD, zD, zE, and_true] at hF
    obtain ⟨e15, e19, e23⟩ := hF
    dsimp only [owes4, bare]
    simp only [putsD, Act.put, zA, zB, zC]
    simp only [e15, e19, e23]
    obtain ⟨i1, i2, i3⟩ := hI
    rw [hf1, if_neg (by simp)] at i2
    have I3 := zH (i3 k12)
    have I1 := zH i1
    have HC := zH (HCALL.out x y s1 xw i2 HXYM.out.1 HXYM.out.2 (HK.out xw i1))
    rw [← HM.out] at HC
    clear i1 i2 i3
    go_wp2_with fail
    refine HC.out.mono ?_
    rintro e wx ⟨rfl, hb9, hd9⟩
    have HB9 := zH hb9
    have HD9 := zH hd9
    clear hb9 hd9 HC
    go_wp2
    exact ⟨rfl, rfl, ⟨fun _ => HB9.out, fun h9 => absurd rfl h9⟩, I1.out.trans HB9.out, by rw [z10, if_pos rfl]; exact HD9.out, fun _ => I3.out.upB HB9.out⟩
   ·
    intro vals xw f hf1 hf2 hf3 hI hF
    have k12 : f 12 = false := hf3 12 (by kernel_rfl)
    clear hf2 hf3
    simp only [saysD, zD, zE, and_true] at hF
    have e24 := hF
    dsimp only [owes4, bare]
    simp only [putsD, Act.put, zA, zB, zC]
    simp only [e24]
    have k9 := hI.2.2 k12
    have h9 : some xw.heap.size ≠ (Value.slice A l.length c).ownBlock := fun e => by have := (k9.lt _ e.symm).2; omega
    have H9 := zH h9
    have hal : Below xw.heap.size xw (xw.alloc (.cells #[.int .i64 m.2] 123)) := (Below.refl _ _).alloc (Nat.le_refl _) _
    have HI := zH hI
    have HAL := zH hal
    clear k9 h9 hal hI
    go_wp2
    exact ⟨rfl, ⟨_, rfl, heap_alloc_new _ _, H9.out⟩, ⟨zN rfl, fun _ => ⟨zN rfl, fun _ => HAL.out⟩⟩, HI.out.up HAL.out⟩
   ·
    rintro vals xw f hf1 - - hI hF
    simp only [saysD, zD, zE, and_true] at hF
    obtain ⟨e14, b9, e25, hb9, _⟩ := hF
    dsimp only [owes4, bare]
    simp only [putsD, Act.put, zA, zB, zC]
    simp only [e14, e25]
    obtain ⟨i1, i2, i3⟩ := hI
    have hsz9 := i1.bel.size
    have hll : l.length ≤ 1048576 := by have := HLK.out; omega
    have I1 := zH i1
    have I2 := zH i2
    have I3 := zH (i3 hf1)
    clear i1 i2 i3
    at_builtin; refine wpList_append_sig2 (ys := l2) (by rfl) (.tmp 14) (.tmp 25) (by rfl) (by rfl) (by rfl) I3.out hb9 hll hsz9 HL2.out ?_; intro A9 c9 w9 hown9 hg9
    obtain ⟨hs9, hb8⟩ := I3.out.grown hg9 hsz9 hlo
    go_wp2
    exact ⟨rfl, ⟨A9, c9, rfl, hown9⟩, ⟨zN rfl, fun _ => ⟨fun _ => hg9, fun h9 => absurd rfl h9⟩⟩, I1.out.then hb8 hlo, I2.out.upS hs9, fun h => absurd ((z10 f 12).symm.trans h) (by simp)⟩
   ·
    rintro vals xw f hf1 - - hI hF
    simp only [saysD, zD, zE, and_true] at hF
    obtain ⟨A8, c8, e26, _⟩ := hF
    dsimp only [owes4, bare]
    simp only [putsD, Act.put, zA, zB, zC]
    simp only [e26]
    go_wp2
    exact ⟨rfl, e26.symm, ⟨zN rfl, fun _ => ⟨zN rfl, fun _ => Below.refl _ _⟩⟩, hI⟩
   ·
    intro vals xw f hall hI hF
    rw [show List.range _ = [0, 1, 2, 3, 4, 5, 6, 7, 8, 9, 10, 11, 12, 13] from rfl] at hF
    simp only [says, zD, zE, and_true] at hF
    obtain ⟨i1, i2, _⟩ := hI
    rw [hall 10 (by decide), if_pos rfl] at i2
    obtain ⟨_, _, _, _, _, _, _, _, _, _, _, _, ⟨A8, c8, e26, o26⟩, e7⟩ := hF
    rw [e26] at e7
    simp only [putsD, Act.put, zA, zB, zC]
    simp only [e7]
    have I1 := zH i1
    have I2 := zH i2
    have O26 := zH o26
    clear i1 i2 o26 e26 e7
    go_wp2
    go_roundw
    case rel => exact ⟨k + 1, m.1, l2, A8, c8, by omega, by go_num, rfl, by rw [HL2.out, List.length_append, HLK.out]; rfl, O26.out, fun z hz => by
        rw [HL2.out] at hz
        rcases List.mem_append.1 hz with hz | hz
        · exact HLM.out z hz
        · rw [List.mem_singleton.1 hz]; exact HMB.out, I1.out, I2.out, zH (by rw [HL2.out, HM.out]; exact HST.out)⟩
    case measure => simp [intOf]; omega
  ·
   have hke : k = xs.length := by omega
   subst hke
   have hlt2 : ¬ ((xs.length : Nat) : Int) < xs.length := by omega
   go_wp2
   go_ret
   have hd1 : xs.drop xs.length = [] := List.drop_length
   have hd2 : ys.drop xs.length = [] := by rw [HL.out]; exact List.drop_length
   have hst2 := hst.out
   rw [hd1, hd2] at hst2
   have hT2 : T = (s1, l) := by rw [← hst2]; show (s1, l ++ []) = _; rw [List.append_nil]
   rw [hT2]
   exact ⟨A, c, rfl, HOWN.out.pl.1, HOWN.out.pl.2, HLM.out, HBB.out, HBD.out⟩
set_option maxHeartbeats 1000000 in
theorem negated_any (a0 a1 : Addr) (lo q r : Nat) (X : Option Addr) (cx : Nat) (xs : List Int) (s : BS) (w : World) (h : Bd a0 a1 lo w q r s) (hX : Lay.int.Pl w X xs) (hxm : ∀ x ∈ xs, MB x) (hn : xs.length ≤ 1000) :
  Calls Tryz.prog 97 #[.slice X xs.length cx] w (RetL a0 a1 lo w q r (s, xs.map Neg.neg)) := by
 show Calls _ _ _ _ (RetL a0 a1 lo w q r (s, xs.map Neg.neg))
 have HC := zH (each_negated a0 a1 lo q r X X cx cx xs xs s w (fun _ => True) trivial (fun _ _ => trivial) h hX hX hxm hxm rfl hn
  (fun x y s z hz hx hy _ => (neg1_any x y z hx.rb).mono fun e z' ⟨h1, h2⟩ => by subst h2; exact ⟨h1, .refl _ _, hz⟩) (fun x y s _ hx _ => hx.neg))
 rw [run_turned xs xs s rfl] at HC
 clear h hX hxm
 go_enter Tryz.func97, Tryz.ntmps97
 go_wp2_with fail
 refine HC.out.mono ?_
 generalize hns : xs.map Neg.neg = ns at *
 rintro e w1 ⟨A, c, rfl, h1, h2, h3, h4, h5⟩
 dsimp only at h1 h2 h3 h5
 have H2 := zH h2
 have H4 := zH h4
 have H5 := zH h5
 have H3 := zH h3
 clear h2 h3 h4 h5 HC
 go_wp2
 go_ret
 exact ⟨A, c, rfl, h1, H2.out, H3.out, H4.out, H5.out⟩
theorem maskN9 (a : Nat) (ha : a < 18446744073709551616) : bits .and .u64 (a : Int) 4294967295 = ((a % 4294967296 : Nat) : Int) := by
 have h := bits_and_u64_nat a 4294967295 ha (by omega)
 have e : a &&& 4294967295 = a % 4294967296 := Nat.and_two_pow_sub_one_eq_mod a 32
 rw [e] at h
 exact h
theorem divN9 (a : Nat) : (a : Int) / 4294967296 = ((a / 4294967296 : Nat) : Int) := by omega
theorem mulN9 (a b : Nat) : (a : Int) * (b : Int) = ((a * b : Nat) : Int) := (Int.natCast_mul a b).symm
theorem addN9 (a b : Nat) : (a : Int) + (b : Int) = ((a + b : Nat) : Int) := (Int.natCast_add a b).symm
theorem wrapN9 (a : Nat) (ha : a < 18446744073709551616) : IntKind.u64.wrap (a : Int) = (a : Int) := by rw [IntKind.wrap_u64]; omega
theorem wrapM9 (a : Nat) : IntKind.u64.wrap (a : Int) = ((a % 18446744073709551616 : Nat) : Int) := by rw [IntKind.wrap_u64]; omega
set_option maxHeartbeats 2000000 in
theorem mul64_any (x y : Nat) (hx : x < 18446744073709551616) (hy : y < 18446744073709551616) (w : World) :
  Calls Tryz.prog 146 #[.int .u64 x, .int .u64 y] w fun e w' => e = .returned (.tuple #[.int .u64 ((x * y / 18446744073709551616 : Nat) : Int), .int .u64 ((x * y % 18446744073709551616 : Nat) : Int)]) ∧ w = w' := by
 obtain ⟨bd, bt, bw, hhi⟩ := Lib.mul64_hi x y hx hy
 have ba := Lib.half_mul_le (a := x / 4294967296) (b := y / 4294967296) (by omega) (by omega)
 have bb := Lib.half_mul_le (a := x / 4294967296) (b := y % 4294967296) (by omega) (by omega)
 have bc := Lib.half_mul_le (a := x % 4294967296) (b := y / 4294967296) (by omega) (by omega)
 have ba' : x / 4294967296 * (y / 4294967296) < 18446744073709551616 := by omega
 have bb' : x / 4294967296 * (y % 4294967296) < 18446744073709551616 := by omega
 have bc' : x % 4294967296 * (y / 4294967296) < 18446744073709551616 := by omega
 have bh1 : x / 4294967296 * (y / 4294967296) + (x / 4294967296 * (y % 4294967296) + x % 4294967296 * (y % 4294967296) / 4294967296) / 4294967296 < 18446744073709551616 := by omega
 have bh : x / 4294967296 * (y / 4294967296) + (x / 4294967296 * (y % 4294967296) + x % 4294967296 * (y % 4294967296) / 4294967296) / 4294967296 + ((x / 4294967296 * (y % 4294967296) + x % 4294967296 * (y % 4294967296) / 4294967296) % 4294967296 + x % 4294967296 * (y / 4294967296)) / 4294967296 < 18446744073709551616 := by omega
 go_enter Tryz.func146, Tryz.ntmps146
 go_wp2
 simp only [maskN9 x hx, maskN9 y hy, divN9, mulN9, addN9, wrapN9 _ bd, wrapN9 _ bb', wrapN9 _ bt, maskN9 _ bt, wrapN9 _ bc', wrapN9 _ bw, wrapN9 _ ba', wrapN9 _ bh1, wrapN9 _ bh, wrapM9 (x * y)]
 rw [hhi]
 go_ret2
 exact ⟨rfl, rfl⟩
set_option maxHeartbeats 1000000 in
theorem mulOne_any (n : Nat) (hn : n ≤ 1000) (w : World) :
  Calls Tryz.prog 144 #[.int .u64 1, .int .u64 n] w fun e w' => e = .returned (.tuple #[.int .u64 0, .int .u64 (n : Int)]) ∧ w = w' := by
 have HC := zH (mul64_any 1 n (by omega) (by omega) w)
 have e1 : (1 * n / 18446744073709551616 : Nat) = 0 := by omega
 have e2 : (1 * n % 18446744073709551616 : Nat) = n := by omega
 rw [e1, e2] at HC
 clear e1 e2
 go_enter Tryz.func144, Tryz.ntmps144
 go_wp2_with fail
 refine HC.out.mono ?_
 rintro e w' ⟨rfl, rfl⟩
 clear HC
 go_wp2
 go_ret2
 exact ⟨rfl, rfl⟩
def rowH (m : Int) (n k : Nat) : List Value := List.replicate k (.int .i64 m) ++ List.replicate (n - k) (.int .i64 0)
theorem rowH_len {m : Int} {n k : Nat} (h : k ≤ n) : (rowH m n k).length = n := by unfold rowH; simp; omega
theorem rowH_splice {m : Int} {n k j : Nat} (h : k + j ≤ n) : splice (rowH m n k) k (List.replicate j (.int .i64 m)) = rowH m n (k + j) := by
 unfold splice rowH
 rw [List.length_replicate, List.take_left' (by simp), List.drop_append, List.drop_replicate, List.drop_replicate, List.length_replicate]
 rw [show k - (k + j) = 0 by omega, show n - k - (k + j - k) = n - (k + j) by omega, ← List.append_assoc, ← List.append_assoc, List.replicate_append_replicate]
 simp
theorem rowH_get {m : Int} {n k j : Nat} (h : j < k) : (rowH m n k)[j]? = some (.int .i64 m) := by
 unfold rowH; rw [List.getElem?_append_left (by simpa using h)]; simp [h]
theorem own_of_cells {w : World} {base g n : Nat} {e : TypeId} {L : List Value} (h : w.heap[g]? = some (.cells L.toArray e (0, 0))) (hl : L.length = n) (hb : base ≤ g) (hm : n ≤ maxLen) : w.ownsRow base e 1 (.slice (some ⟨g, 0, none⟩) n n) n L :=
 ⟨by simp [hl], .inr ⟨g, n, L.toArray, rfl, hb, h, Nat.le_refl _, hm, by simp [hl], by rw [Nat.mul_one, ← hl]; simp⟩⟩
def RetOw (xs : List Int) (w : World) (e : Ending) (w' : World) : Prop := ∃ A c, e = .returned (.slice A xs.length c) ∧ OwnSg w' w.heap.size (.slice A xs.length c) xs ∧ Below w.heap.size w w'
theorem copy_one (m : Int) (n g b : Nat) (t : TypeId) (W : World) (hg : W.heap[g]? = some (.cells (rowH m n 0).toArray 123 (0, 0))) (hb : W.heap[b]? = some (.cells #[.int .i64 m] t (0, 0))) :
  ∃ w2, (Builtin.copy_ #[77, 77] 3 #[.slice (some ⟨g, 0, none⟩) n n, .slice (some ⟨b, 0, none⟩) 1 1]).run Tryz.prog W = .ok (.int .i64 (Nat.min 1 n : Nat)) w2 ∧ w2.heap[g]? = some (.cells (rowH m n (Nat.min 1 n)).toArray 123 (0, 0)) ∧ Below g W w2 := by
 have hs : (Tryz.prog.info? 123).map (·.size) = some 1 := by kernel_rfl
 have hl := rowH_len (m := m) (n := n) (Nat.zero_le n)
 rcases n with _ | n
 · exact ⟨W, run_copy_none _ _ _ _ _ _ _ _ _ _ _ Tryz.underlying77 hs rfl, hg, Below.refl _ _⟩
 ·
  have h1 : Nat.min 1 (n + 1) = 1 := Nat.min_eq_left (by omega)
  rw [h1]
  have hfit : 0 + 1 ≤ (rowH m (n + 1) 0).toArray.size := by simp only [List.size_toArray]; omega
  have hr := run_copy_row (P := Tryz.prog) W 77 77 3 123 g 0 (n + 1) (n + 1) ⟨b, 0, none⟩ 1 1 (rowH m (n + 1) 0).toArray 123 [.int .i64 m] Tryz.underlying77 hs hg (by rw [h1]; rfl)
   (fun j v hj => by
    rcases j with _ | j
    ·
     have e : Value.int .i64 m = v := Option.some.inj hj
     subst e
     exact (z00 hb 0).1
    · simp at hj) hfit (fun v hv => by have e : v = .int .i64 m := List.mem_singleton.1 hv; subst e; rfl)
  refine ⟨_, hr, ?_, below_setRow (Below.refl _ _) (Nat.le_refl _) _⟩
  rw [setRow_heap _ _ _ _ _ _ hg]
  refine congrArg (fun l : List Value => some (Obj.cells l.toArray 123 (0, 0))) ?_
  have := rowH_splice (m := m) (n := n + 1) (k := 0) (j := 1) (by omega)
  rw [Nat.zero_add] at this
  rw [← this]
  simp [splice]
theorem copy_in (m : Int) (n g k q1 q2 : Nat) (hk : 0 < k) (hkn : k < n) (W : World) (hg : W.heap[g]? = some (.cells (rowH m n k).toArray 123 (0, 0))) :
  ∃ w2, (Builtin.copy_ #[77, 77] 3 #[.slice (some ⟨g, k, none⟩) (n - k) q1, .slice (some ⟨g, 0, none⟩) k q2]).run Tryz.prog W = .ok (.int .i64 (Nat.min k (n - k) : Nat)) w2 ∧ w2.heap[g]? = some (.cells (rowH m n (k + Nat.min k (n - k))).toArray 123 (0, 0)) ∧ Below g W w2 := by
 have hs : (Tryz.prog.info? 123).map (·.size) = some 1 := by kernel_rfl
 have hl := rowH_len (m := m) (Nat.le_of_lt hkn)
 have h1 : Nat.min k (n - k) ≤ k := Nat.min_le_left _ _
 have h2 : Nat.min k (n - k) ≤ n - k := Nat.min_le_right _ _
 have hr := run_copy_row (P := Tryz.prog) W 77 77 3 123 g k (n - k) q1 ⟨g, 0, none⟩ k q2 (rowH m n k).toArray 123 (List.replicate (Nat.min k (n - k)) (.int .i64 m)) Tryz.underlying77 hs hg (by rw [List.length_replicate])
  (fun j v hj => by
   obtain ⟨hj1, rfl⟩ := List.getElem?_eq_some_iff.1 hj
   rw [List.length_replicate] at hj1
   have h8 := (z00 hg j).1
   rw [List.getElem?_toArray, rowH_get (by omega)] at h8
   have ha : (⟨g, 0, none⟩ : Addr).add j = ⟨g, j, none⟩ := by unfold Addr.add; split <;> simp_all
   rw [ha, h8, List.getElem_replicate]) (by simp only [List.length_replicate, List.size_toArray]; omega) (by intro v hv; rw [List.eq_of_mem_replicate hv]; rfl)
 rw [List.length_replicate] at hr
 refine ⟨_, hr, ?_, below_setRow (Below.refl _ _) (Nat.le_refl _) _⟩
 rw [setRow_heap _ _ _ _ _ _ hg]
 refine congrArg (fun l : List Value => some (Obj.cells l.toArray 123 (0, 0))) ?_
 rw [← rowH_splice (m := m) (n := n) (k := k) (j := Nat.min k (n - k)) (by omega)]
 simp [splice]
set_option maxRecDepth 100000 in
set_option maxHeartbeats 4000000 in
theorem repeat_any (m : Int) (n b : Nat) (t : TypeId) (w : World) (hb : w.heap[b]? = some (.cells #[.int .i64 m] t (0, 0))) (hn : n ≤ 1000) :
  Calls Tryz.prog 142 #[.slice (some ⟨b, 0, none⟩) 1 1, .int .i64 (n : Int)] w (RetOw (List.replicate n m) w) := by
 have hmk := run_make_row' (P := Tryz.prog) 77 123 (.int .i64 0) 8 Tryz.underlying77 signal_info rfl .i64 .i64 n (by omega) (by omega)
 have HM := zH (mulOne_any n hn w)
 have hw1 : Below w.heap.size w (w.alloc (.cells (madeCells #[.int .i64 0] n) 123)) := (Below.refl _ _).alloc (Nat.le_refl _) _
 have hg0 : (w.alloc (.cells (madeCells #[.int .i64 0] n) 123)).heap[w.heap.size]? = some (.cells (rowH m n 0).toArray 123 (0, 0)) := by
  rw [heap_alloc_new, show madeCells #[.int .i64 0] n = (rowH m n 0).toArray by rw [← Array.toArray_toList (xs := madeCells _ _), toList_madeCells_one]; rfl]
 obtain ⟨w2, hcp, hg2, hb2⟩ := copy_one m n w.heap.size b t _ hg0 ((hw1.block b (lt_of_block hb)).trans hb)
 obtain ⟨k0, hk0⟩ : ∃ k0, k0 = Nat.min 1 n := ⟨_, rfl⟩
 rw [← hk0] at hcp hg2
 have HG2 := zH hg2
 have HB2 := zH (hw1.trans hb2)
 have HKL := zH (show k0 ≤ n ∧ (0 < n → 0 < k0) by rw [hk0]; exact ⟨Nat.min_le_right 1 n, fun h => by have h9 : Nat.min 1 n = 1 := Nat.min_eq_left h; omega⟩)
 clear hb hw1 hg0 hg2 hb2 hk0
 go_enter Tryz.func142, Tryz.ntmps142
 go_wp2_with fail
 refine HM.out.mono ?_
 rintro e w' ⟨rfl, rfl⟩
 clear HM
 go_wp2
 clear hmk hcp
 go_loopw [8] (fun kk wr => ∃ k : Nat, kk = .int .i64 k ∧ k ≤ n ∧ (0 < n → 0 < k) ∧ Hid (wr.heap[w.heap.size]? = some (.cells (rowH m n k).toArray 123 (0, 0))) ∧ Below w.heap.size w wr) (fun kk _ => n - (intOf kk).toNat)
 case atStart => exact ⟨k0, rfl, HKL.out.1, HKL.out.2, HG2, HB2.out⟩
 case round =>
  obtain ⟨k, rfl, hk, hk0, hg, hbr⟩ := hrel
  by_cases hlt : k < n
  ·
   have hlt2 : (k : Int) < n := by omega
   have hpos : 0 < k := hk0 (by omega)
   have HBR := zH hbr
   obtain ⟨j, hj⟩ : ∃ j, j = Nat.min k (n - k) := ⟨_, rfl⟩
   have hj1 : j ≤ k ∧ k + j ≤ n ∧ 0 < j := by have h1 : Nat.min k (n - k) ≤ k := Nat.min_le_left _ _; have h2 : Nat.min k (n - k) ≤ n - k := Nat.min_le_right _ _; have h3 : 0 < Nat.min k (n - k) := Nat.lt_min.2 ⟨hpos, by omega⟩; omega
   have HCI := zH (fun q1 q2 W => copy_in m n w.heap.size k q1 q2 hpos hlt W)
   rw [← hj] at HCI
   obtain ⟨L1, hL1⟩ : ∃ L1, L1 = rowH m n k := ⟨_, rfl⟩
   obtain ⟨L2, hL2⟩ : ∃ L2, L2 = rowH m n (k + j) := ⟨_, rfl⟩
   have HL2 := zH hL2
   rw [← hL1] at hg HCI
   rw [← hL2] at HCI
   have HG := zH hg.out
   clear hj hbr hg hL1 hL2
   go_wp2
   refine z05 [[], [], [], [(1, 39), (2, 40)], [], [], [(4, 42), (5, 43)], [(3, 41), (6, 44)], [(0, 38), (7, 45)], [(8, 46)]]
    (fun _ _ => True)
    []
    (fun f9 x9 => Below w.heap.size w x9 ∧ (f9 7 = false → x9.heap[w.heap.size]? = some (.cells L1.toArray 123 (0, 0))) ∧ (f9 7 = true → x9.heap[w.heap.size]? = some (.cells L2.toArray 123 (0, 0))))
    [fun vs9 _ => vs9 0 = (.int .i64 (k : Int)),
  fun vs9 _ => vs9 1 = (.slice (some ⟨w.heap.size, 0, none⟩) n n),
  fun vs9 _ => vs9 2 = (.int .i64 (k : Int)),
  fun vs9 y9 => (fun v z => ∃ q : Nat, v = .slice (some ⟨w.heap.size, k, none⟩) (n - k) q) (vs9 3) y9,
  fun vs9 _ => vs9 4 = (.slice (some ⟨w.heap.size, 0, none⟩) n n),
  fun vs9 _ => vs9 5 = (.int .i64 (k : Int)),
  fun vs9 y9 => (fun v z => ∃ q : Nat, v = .slice (some ⟨w.heap.size, 0, none⟩) k q) (vs9 6) y9,
  fun vs9 _ => vs9 7 = (.int .i64 (j : Int)),
  fun vs9 _ => vs9 8 = (.int .i64 ((k : Int) + (j : Int))),
  fun vs9 _ => vs9 9 = (.int .i64 ((k : Int) + (j : Int)))]
    [(0, 38), (1, 39), (2, 40), (3, 41), (4, 42), (5, 43), (6, 44), (7, 45), (8, 46), (9, 8)] (by kernel_rfl) (by kernel_rfl) (by kernel_rfl) (by kernel_rfl)
    (fun _ => trivial) trivial
    ⟨⟨.inr zK, trivial⟩,
  ⟨.inr zK, trivial⟩,
  ⟨.inr zK, trivial⟩,
  ⟨.inr (zS (fun v z => ∃ q : Nat, v = .slice (some ⟨w.heap.size, k, none⟩) (n - k) q) (fun _ _ _ h _ => h)), trivial⟩,
  ⟨.inr zK, trivial⟩,
  ⟨.inr zK, trivial⟩,
  ⟨.inr (zS (fun v z => ∃ q : Nat, v = .slice (some ⟨w.heap.size, 0, none⟩) k q) (fun _ _ _ h _ => h)), trivial⟩,
  ⟨.inr zK, trivial⟩,
  ⟨.inr zK, trivial⟩,
  ⟨.inr zK, trivial⟩, trivial⟩ ⟨fun _ _ _ h _ v => (by simpa only [← h] using v),
  fun _ _ _ h _ v => (by simpa only [← h] using v),
  fun _ _ _ h _ v => (by simpa only [← h] using v),
  fun _ _ _ h _ v => (by simpa only [← h] using v),
  fun _ _ _ h _ v => (by simpa only [← h] using v),
  fun _ _ _ h _ v => (by simpa only [← h] using v),
  fun _ _ _ h _ v => (by simpa only [← h] using v),
  fun _ _ _ h _ v => (by simpa only [← h] using v),
  fun _ _ _ h _ v => (by simpa only [← h] using v),
  fun _ _ _ h _ v => (by simpa only [← h] using v), trivial⟩ (⟨HBR.out.trans (z01 (Below.refl _ _) 1), fun _ => HG.out, fun h => by cases h⟩) ⟨?_, ?_, ?_, ?_, ?_, ?_, ?_, ?_, ?_, ?_, trivial⟩ ?_
   ·
    rintro vals xw f hf1 - - hI hF
    dsimp only [owes4, bare]
    simp only [putsD, Act.put, zA, zB, zC]
    go_wp2
    exact ⟨rfl, rfl, trivial, hI⟩
   ·
    rintro vals xw f hf1 - - hI hF
    dsimp only [owes4, bare]
    simp only [putsD, Act.put, zA, zB, zC]
    go_wp2
    exact ⟨rfl, rfl, trivial, hI⟩
   ·
    rintro vals xw f hf1 - - hI hF
    dsimp only [owes4, bare]
    simp only [putsD, Act.put, zA, zB, zC]
    go_wp2
    exact ⟨rfl, rfl, trivial, hI⟩
   ·
    rintro vals xw f hf1 - - hI hF
    simp only [saysD, zD, zE, and_true] at hF
    obtain ⟨e39, e40⟩ := hF
    dsimp only [owes4, bare]
    simp only [putsD, Act.put, zA, zB, zC]
    simp only [e39, e40]
    go_wp2
    exact ⟨rfl, ⟨_, rfl⟩, trivial, hI⟩
   ·
    rintro vals xw f hf1 - - hI hF
    dsimp only [owes4, bare]
    simp only [putsD, Act.put, zA, zB, zC]
    go_wp2
    exact ⟨rfl, rfl, trivial, hI⟩
   ·
    rintro vals xw f hf1 - - hI hF
    dsimp only [owes4, bare]
    simp only [putsD, Act.put, zA, zB, zC]
    go_wp2
    exact ⟨rfl, rfl, trivial, hI⟩
   ·
    rintro vals xw f hf1 - - hI hF
    simp only [saysD, zD, zE, and_true] at hF
    obtain ⟨e39, e40⟩ := hF
    dsimp only [owes4, bare]
    simp only [putsD, Act.put, zA, zB, zC]
    simp only [e39, e40]
    go_wp2
    exact ⟨rfl, ⟨_, rfl⟩, trivial, hI⟩
   ·
    rintro vals xw f hf1 - - hI hF
    simp only [saysD, zD, zE, and_true] at hF
    obtain ⟨⟨q1, e41⟩, ⟨q2, e44⟩⟩ := hF
    dsimp only [owes4, bare]
    simp only [putsD, Act.put, zA, zB, zC]
    simp only [e41, e44]
    obtain ⟨i1, i2, _⟩ := hI
    have HI2 := zH (i2 hf1)
    clear i2
    obtain ⟨w9, hcp9, hg9, hb9⟩ := HCI.out q1 q2 xw HI2.out
    have HG9 := zH hg9
    have HB9 := zH (i1.trans hb9)
    clear hg9 hb9
    go_wp2
    exact ⟨rfl, rfl, trivial, HB9.out, fun h => absurd ((z10 f 7).symm.trans h) (by simp), fun _ => HG9.out⟩
   ·
    rintro vals xw f hf1 - - hI hF
    simp only [saysD, zD, zE, and_true] at hF
    obtain ⟨e38, e45⟩ := hF
    dsimp only [owes4, bare]
    simp only [putsD, Act.put, zA, zB, zC]
    simp only [e38, e45]
    go_wp2
    exact ⟨rfl, rfl, trivial, hI⟩
   ·
    rintro vals xw f hf1 - - hI hF
    simp only [saysD, zD, zE, and_true] at hF
    have e46 := hF
    dsimp only [owes4, bare]
    simp only [putsD, Act.put, zA, zB, zC]
    simp only [e46]
    go_wp2
    exact ⟨rfl, rfl, trivial, hI⟩
   ·
    intro vals xw f hall hI hF
    rw [show List.range _ = [0, 1, 2, 3, 4, 5, 6, 7, 8, 9] from rfl] at hF
    simp only [says, zD, zE, and_true] at hF
    obtain ⟨i1, _, i3⟩ := hI
    have HI3 := zH (i3 (hall 7 (by decide)))
    have e9 : vals 9 = .int .i64 ((k : Int) + (j : Int)) := by obtain ⟨_, _, _, _, _, _, _, _, _, e9⟩ := hF; exact e9
    simp only [putsD, Act.put, zA, zB, zC]
    simp only [e9]
    clear e9 hF i3
    go_wp2
    go_roundw
    case rel => exact ⟨k + j, by go_num, hj1.2.1, fun _ => by omega, zH (by rw [← HL2.out]; exact HI3.out), i1⟩
    case measure => simp [intOf]; omega
  ·
   have hkn : k = n := by omega
   subst hkn
   have hlt2 : ¬ ((k : Nat) : Int) < k := by omega
   have HBR := zH hbr
   clear hbr
   go_wp2
   go_ret
   have hg9 := hg.out
   have hrow : rowH m k k = (List.replicate k m).map (Value.int .i64) := by unfold rowH; simp
   rw [hrow] at hg9
   have hl : (List.replicate k m).length = k := by simp
   refine ⟨some ⟨w.heap.size, 0, none⟩, k, by rw [hl]; rfl, ?_, HBR.out⟩
   unfold OwnSg
   rw [hl]
   exact own_of_cells hg9 (by simp) (Nat.le_refl _) (by unfold maxLen; omega)
end Go.Proofs.YtjghcaghigebjaaGreatDoor
