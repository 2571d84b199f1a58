/- For every code, FnBitsVal returns true and the code reads as it did; no condition. -/
import Derived.Test.YtohchplomjenfaaDrawBits
import Derived.Test.YtohchplomjenfaaRows
import Derived.Test.YtohchplomjenfaaOpen
namespace Go.Proofs.Ytohchplomjenfaa
open Go Go.RowKit Go.ChangeShapes Go.WideShapes Go.ChangeAt

def inB (L : Nat) (x : Int) : Bool := decide (x ≠ 0) && decide (x ≤ L) && decide (-(L : Int) ≤ x)

theorem netLit_neg_inB {vals : List Bool} {m : Int} (h : inB vals.length m = true) : netLit vals (-m) = !netLit vals m := by
  simp only [inB, Bool.and_eq_true, decide_eq_true_eq] at h
  obtain ⟨⟨h0, h1⟩, h2⟩ := h
  have s1 : sigOf m vals.length = true := by simp [sigOf]; omega
  have s2 : sigOf (-m) vals.length = true := by simp [sigOf]; omega
  by_cases hp : 0 < m
  · have hq : ¬ m < 0 := by omega
    simp [netLit, s1, s2, hp, hq]
  · have hq : m < 0 := by omega
    simp [netLit, s1, s2, hp, hq]
theorem bitsOf_neg (vals : List Bool) (a : List Int) (h : a.all (inB vals.length) = true) : bitsOf (netLit vals) (a.map (fun x => -x)) = 2 ^ a.length - 1 - bitsOf (netLit vals) a := by
  induction a with
  | nil => simp [bitsOf]
  | cons x xs ih =>
    rw [List.all_cons, Bool.and_eq_true] at h
    have e : (2 : Int) ^ (x :: xs).length = 2 * 2 ^ xs.length := by rw [List.length_cons, Int.pow_succ, Int.mul_comm]
    rw [List.map_cons, e]
    unfold bitsOf
    rw [ih h.2, netLit_neg_inB h.1]
    cases netLit vals x <;> simp <;> omega
/-- 's[k:]'. -/
theorem Lay.Sl.cut {α : Type} {L : Lay α} {w : World} {F : Nat → Prop} {A : Option Addr} {xs : List α} (h : L.Sl w F A xs) {k c : Nat} (hk : k ≤ xs.length) (hc : xs.length ≤ c) :
    L.Sl w F (if c = k then A else A.map (·.add (k * L.size))) (xs.drop k) := fun hn => by
  have hl : k < xs.length := by simp at hn; omega
  obtain ⟨ad, rfl, hf, hcell⟩ := h (by omega)
  rw [if_neg (by omega)]
  refine ⟨_, rfl, by rw [block_of_add]; exact hf, fun j x hx => ?_⟩
  rw [List.getElem?_drop] at hx
  obtain ⟨vs, hr, hv⟩ := hcell _ x hx
  refine ⟨vs, hr, fun i u hu => ?_⟩
  rw [add_of_add, ← hv i u hu, Nat.add_mul, Nat.add_assoc]

theorem Lay.Sl.drewN {α : Type} {L : Lay α} {w : World} {F : Nat → Prop} {A : Option Addr} {xs : List α} (h : L.Sl w F A xs) (n : Nat) : L.Sl (w.drewN n) F A xs := h.keep fun _ _ => rfl
theorem quiet_left {P : Program} {f : FuncId} {args : Array Value} {w : World} {n : Nat} {v : Value}
    (h : Calls P f args (w.drewN n) fun e w' => e = .returned v ∧ w.drewN n = w') : Calls P f args (w.drewN n) fun e w'' => e = .returned v ∧ ∃ m, w'' = w.drewN m :=
  h.mono fun _ _ ⟨he, hm⟩ => ⟨he, n, hm.symm⟩
theorem implBitsVal_n (A B : Option Addr) (c d : Nat) (vals : List Bool) (a : List Int) (n : Nat) (hl : a.length = n) (F G : Nat → Prop) (w : World) (h : Lay.bool.Sl w F A vals) (hn : vals.length ≤ 9223372036854775807)
    (h' : Lay.int.Sl w G B a) (hr : ∀ x ∈ a, -9223372036854775808 ≤ x ∧ x ≤ 9223372036854775807) (hn' : a.length ≤ 9223372036854775807) :
    Calls Try.prog 10 #[.slice A vals.length c, .slice B n d] w fun e w' => e = .returned (.int .i64 (bitsVal vals a)) ∧ w = w' := by
  subst hl; exact implBitsVal_any A B c d vals a F G w h hn h' hr hn'

def LawTrue (w : World) (e : Ending) (w' : World) : Prop := e = .returned (.bool true) ∧ Below w.heap.size w w'

set_option maxRecDepth 100000 in
set_option maxHeartbeats 2000000 in
theorem bitsVal_law (A : Option Addr) (c : Nat) (code : List UInt8) (w : World) (h : Lay.byte.Rd w A code) (hc : code.length ≤ c) (hn : code.length ≤ 9223372036854775807) :
    Calls Try.prog 3 #[.slice A code.length c] w (LawTrue w) := by
  obtain ⟨i0, hi0, hz0, hz1, hz2⟩ := info_parts int_info
  by_cases hl : 1048576 < code.length
  · go_enter Try.func3, Try.ntmps3
    go_wp2
    go_ret
    exact ⟨rfl, Below.refl _ _⟩
  go_enter Try.func3, Try.ntmps3
  go_wp2_with fail
  refine (drawBits_any A c code w h hc hn).mono ?_
  rintro e w1 ⟨A1, c1, vals, B, d, a, rfl, hvl, hal, har, hvc, had, hv, ha, hb1⟩
  clear h hc hn hl
  have har' : ∀ x ∈ a, -9223372036854775808 ≤ x ∧ x ≤ 9223372036854775807 := fun x hx => by have := har x hx; omega
  go_wp2_with fail
  refine (implBitsVal_any _ _ _ _ _ _ _ _ _ hv (by omega) ha har' (by omega)).mono ?_
  rintro e w1 ⟨rfl, rfl⟩
  go_wp2_with fail
  refine (specBitsVal_any _ _ _ _ _ _ _ _ _ hv (by omega) ha har' (by omega)).mono ?_
  rintro e w1 ⟨rfl, rfl⟩
  by_cases h4 : 4 < a.length
  · have HB := Lib.hid (show bitsVal vals a = 0 by simp [bitsVal, h4])
    go_wp2
    go_ret
    exact ⟨ret_bool (by rw [HB.out]; rfl), hb1⟩
  go_wp2_with fail
  have hown0 : (w1.alloc (Obj.cells #[] 3)).ownsRow w1.heap.size 3 1 (.slice (some ⟨w1.heap.size, 0, none⟩) 0 0) 0 (((a.take 0).map (fun x => -x)).map (Value.int .i64)) :=
    World.ownsRow_lit w1 #[] 0 (Nat.le_refl _) (by unfold maxLen; omega) rfl
  have hbb : Below w1.heap.size w1 (w1.alloc (Obj.cells #[] 3)) := (Below.refl _ _).alloc (Nat.le_refl _) _
  have hsz : (w1.alloc (Obj.cells #[] 3)).heap.size = w1.heap.size + 1 := World.size_alloc _ _
  go_loopw [6, 7, 8, 9] (fun top all t i wr => ∃ k : Nat, k ≤ a.length ∧ i = .int .i64 k ∧ top = .int .i64 (2 ^ k) ∧ all = .bool ((a.take k).all (inB vals.length)) ∧ Below w1.heap.size w1 wr ∧ w1.heap.size + 1 ≤ wr.heap.size ∧
      wr.ownsRow w1.heap.size 3 1 t k (((a.take k).map (fun x => -x)).map (Value.int .i64))) (fun _ _ _ i _ => a.length - (intOf i).toNat)
  case atStart => exact ⟨0, Nat.zero_le _, rfl, rfl, rfl, hbb, by omega, hown0⟩
  case round =>
    obtain ⟨k, hk, rfl, rfl, rfl, hb, hsz, ho⟩ := hrel
    by_cases hlt : k < a.length
    · obtain ⟨ad, rfl, hf, hcell⟩ := ha.at_int hlt
      have hc' : wr.cell? (ad.add k) = some (.int .i64 a[k]) := (hb.cell (by rw [block_of_add]; exact hf)).trans hcell
      have hck : (wr.alloc (Obj.cells #[.int .i64 (-a[k])] 3)).cell? (ad.add k) = some (.int .i64 a[k]) := by
        rw [World.cell?_alloc_lt _ _ _ (by rw [block_of_add]; have := hf; have := hb.size; omega)]; exact hc'
      have hrk := har a[k] (List.getElem_mem _)
      have HN := Lib.hid (show (a.take (k + 1)).all (inB vals.length) = ((a.take k).all (inB vals.length) && inB vals.length a[k]) by rw [take_snoc a k hlt, List.all_append]; simp)
      have HM := Lib.hid (show ((a.take (k + 1)).map (fun x => -x)).map (Value.int .i64) = ((a.take k).map (fun x => -x)).map (Value.int .i64) ++ [.int .i64 (-a[k])] by rw [take_snoc a k hlt, List.map_append, List.map_append]; rfl)
      have HT := Lib.hid (show (2 : Int) ^ (k + 1) = 2 ^ k * 2 from Int.pow_succ _ _)
      have htop : (1 : Int) ≤ 2 ^ k ∧ (2 : Int) ^ k ≤ 16 := by
        have : k = 0 ∨ k = 1 ∨ k = 2 ∨ k = 3 := by omega
        rcases this with rfl | rfl | rfl | rfl <;> decide
      obtain ⟨ht0, ht1⟩ := htop
      generalize (2 : Int) ^ k = T at *
      generalize (a.take k).all (inB vals.length) = A0 at *
      go_wp2_with (at_builtin; refine wpList_append1 rfl _ _ 24 rfl w1.heap.size 3 i0 _ 8 Try.underlying24 hi0 hz0 hz1 hz2 rfl u8 k _ (.int .i64 (-a[k])) _ rfl ho rfl rfl (by unfold maxLen; omega) (by omega) (by omega) ?_; intro v6 w6 hown6 hb6; have hc6 : w6.cell? (ad.add k) = some (.int .i64 a[k]) := (hb6.cell (by rw [block_of_add]; exact hf)).trans hc')
      all_goals
        go_roundw
        case rel => exact ⟨k + 1, by omega, by go_num, by rw [HT.out], by rw [HN.out]; simp [inB, *], hb.trans hb6, Nat.le_trans hsz hb6.size, by rw [HM.out]; exact hown6⟩
        case measure => simp [intOf]; omega
    · have : k = a.length := by omega
      subst this
      rw [List.take_length] at ho ⊢
      obtain ⟨A2, c2, hu8, hc2, hr2⟩ := ints_of_own ho
      rw [hu8]
      clear hu8 ho
      have hv2 := hv.up hb
      have ha2 := ha.up hb
      have hbw := bthen hb1 hb
      have hbd := bitsOf_lt (netLit vals) a
      have hbv : bitsVal vals a = bitsOf (netLit vals) a := by simp [bitsVal, h4]
      have hneg : a.all (inB vals.length) = true → bitsVal vals (a.map (fun x => -x)) = 2 ^ a.length - 1 - bitsVal vals a := by
        intro hall; rw [hbv, ← bitsOf_neg vals a hall]; simp [bitsVal, h4]
      have har2 : ∀ x ∈ a.map (fun x => -x), -9223372036854775808 ≤ x ∧ x ≤ 9223372036854775807 := by
        intro x hx; obtain ⟨y, hy, rfl⟩ := List.mem_map.1 hx; have := har y hy; omega
      have hlen2 : (a.map (fun x => -x)).length = a.length := List.length_map _
      rw [hlen2] at hc2 ⊢
      by_cases h0 : a.length = 0
      · have h0' : a = [] := List.eq_nil_of_length_eq_zero h0
        subst h0'
        have E0 := Lib.hid (show bitsVal vals [] = 0 from rfl)
        have hdr : decide ((0 : Int) < (([] : List Int).length : Int)) = false := rfl
        clear hbv hbd hneg hlen2 h0 hk hlt hown0 hbb hal h4
        rw [E0.out]
        go_wp2
        go_quiet (fail)
        go_wp2_with fail
        refine (implBitsVal_any A1 A2 c1 c2 vals [] _ _ _ (hv2.drewN nq) (by omega) (hr2.drewN nq) (by simp) (by simp)).mono ?_
        rintro e w' ⟨rfl, rfl⟩
        rw [E0.out]
        go_wp2
        go_ret
        exact ⟨rfl, below_drewN hbw _⟩
      · have hdr : decide (0 < a.length) = true := by simp; omega
        have d1 : (1 : Int) ≤ d := by omega
        have d2 : 1 ≤ d := by omega
        have d3 : 0 < d := by omega
        have l1 : (1 : Int) ≤ a.length := by omega
        have l2 : 1 ≤ a.length := by omega
        have l3 : 0 < a.length := by omega
        have htk := ha2.take 1
        have hdp : Lay.int.Sl wr (fun b => b < wr.heap.size) (if d = 1 then B else B.map (fun x => ({ block := x.block, off := x.off + 1 } : Addr))) (a.drop 1) := Lay.Sl.cut ha2 (k := 1) (c := d) (by omega) had
        have hl1 : (a.take 1).length = 1 := by simp; omega
        have hl2 : (a.drop 1).length = a.length - 1 := by simp
        have hsum : bitsVal vals a = bitsVal vals (a.take 1) + 2 * bitsVal vals (a.drop 1) := by
          cases a with
          | nil => exact absurd rfl h0
          | cons x xs =>
            have l1 : ¬ 4 < (List.take 1 (x :: xs)).length := by simp
            have l2 : ¬ 4 < (List.drop 1 (x :: xs)).length := by simp at h4 ⊢; omega
            simp only [bitsVal, h4, l1, l2, if_false]
            simp [bitsOf]
        have b1 := bitsOf_small (netLit vals) (a.take 1) (by omega)
        have b2 := bitsOf_small (netLit vals) (a.drop 1) (by omega)
        rw [show bitsOf (netLit vals) (a.take 1) = bitsVal vals (a.take 1) by simp [bitsVal, hl1]] at b1
        rw [show bitsOf (netLit vals) (a.drop 1) = bitsVal vals (a.drop 1) by simp only [bitsVal, hl2]; rw [if_neg (by omega)]] at b2
        have q1 := fun n => quiet_left (implBitsVal_n A1 B c1 d vals (a.take 1) 1 hl1 _ _ (wr.drewN n) (hv2.drewN n) (by omega) (htk.drewN n) (fun x hx => har' x (List.mem_of_mem_take hx)) (by omega))
        have q2 := fun n => quiet_left (implBitsVal_n A1 _ c1 (d - 1) vals (a.drop 1) (a.length - 1) hl2 _ _ (wr.drewN n) (hv2.drewN n) (by omega) (hdp.drewN n) (fun x hx => har' x (List.mem_of_mem_drop hx)) (by omega))
        have Q1 := Lib.hid q1
        have Q2 := Lib.hid q2
        clear q1 q2 hl1 hl2 htk hdp
        rw [← hbv] at hbd
        clear hbv
        generalize bitsVal vals (a.take 1) = N1 at *
        generalize bitsVal vals (a.drop 1) = N2 at *
        generalize bitsVal vals a = N at *
        have hne : (N != N1 + 2 * N2) = false := by simp [hsum]
        have w1' : IntKind.i64.wrap (2 * N2) = 2 * N2 := IntWalk.i64_in _ (by omega)
        have w2' : IntKind.i64.wrap (N1 + 2 * N2) = N1 + 2 * N2 := IntWalk.i64_in _ (by omega)
        have Hs := Lib.hid hsum
        have Hn := Lib.hid hneg
        clear hsum hneg
        go_wp2
        go_quiet (first | (go_at_call 10; with_reducible exact Q1.out _) | (go_at_call 10; with_reducible exact Q2.out _))
        clear w1' w2' hne
        generalize (if d = 1 then B else B.map (fun x => ({ block := x.block, off := x.off + 1 } : Addr))) = B'
        generalize ht : (2 : Int) ^ a.length = T at *
        have hT : (1 : Int) ≤ T ∧ T ≤ 16 := by
          have : a.length = 1 ∨ a.length = 2 ∨ a.length = 3 ∨ a.length = 4 := by omega
          rw [← ht]
          rcases this with e | e | e | e <;> rw [e] <;> decide
        obtain ⟨hT0, hT1⟩ := hT
        obtain ⟨hN0, hN1⟩ := hbd
        clear ht
        cases hall : a.all (inB vals.length) with
        | false =>
          clear hall
          go_wp2_with fail
          go_ret
          exact ⟨rfl, below_drewN hbw _⟩
        | true =>
          have HM := Lib.hid (Hn.out hall)
          clear hall
          go_wp2_with fail
          refine (implBitsVal_n A1 A2 c1 c2 vals (a.map (fun x => -x)) a.length hlen2 _ _ _ (hv2.drewN _) (by omega) (hr2.drewN _) har2 (by omega)).mono ?_
          rintro e w' ⟨rfl, rfl⟩
          rw [HM.out]
          go_wp2
          go_ret
          exact ⟨rfl, below_drewN hbw _⟩

theorem opens_bytes : Opens Try.prog 22 Lay.byte.slice (fun xs => xs.length ≤ maxLen ∧ ∀ x ∈ xs, True) := Opens.slice Try.underlying22 (by kernel_rfl) (by decide) (Opens.byte Try.underlying5)
theorem le_maxLen {n : Nat} (h : n ≤ maxLen) : n ≤ 9223372036854775807 := by unfold maxLen at h; omega
theorem bitsVal_walk {A : Option Addr} {c : Nat} {code : List UInt8} (w : World) (hc : code.length ≤ c) (hv : code.length ≤ maxLen ∧ ∀ x ∈ code, True) (h : Lay.byte.Rd w A code) :
    Calls Try.prog 3 #[.slice A code.length c] w (LawTrue w) := bitsVal_law A c code w h hc (le_maxLen hv.1)

set_option maxRecDepth 100000 in
theorem fnBitsVal_lifted (os : Os) (started : os.Started) (H : Type) (enc : TypeId × Value → H) :
    ReturnsInHanded {} Try.checked os 3 .any (Rows.fnBitsValSpec.pre6 enc Try.prog Try.f3 Rows.fnBitsValRow.domain false) (Rows.fnBitsValSpec.post enc Try.prog Try.f3 false true false false) := by
  refine returnsInHanded_of_change (C := Try.checked) (by kernel_rfl) started (by kernel_rfl) Try.func3
    (ChangeSpec.witness6 (enc := enc) (C := Try.checked) false ⟨#[], #[.slice none 0 0], []⟩ 16 (by kernel_rfl) (by kernel_rfl) (by kernel_rfl) (by kernel_rfl)) ?_
  intro W base args ds gs before hval0 hW hcnd _
  have hval : ∀ (j : Nat) t v, Try.f3.params[j]? = some t → args[j]? = some v → Value.okWide Try.prog W .any base t v := hval0
  have hW' := hW
  obtain ⟨p, q, hA0, hV, rfl, hfz, hnd⟩ := hW
  have hA : DataW.TrodAll enc Try.prog W 0 (fun _ => true) true Try.f3.params.toList args.toList ds p := hA0
  rw [Try.params3] at hA hval
  obtain ⟨v0, vs0, d0, ds0, p0, q0, hargs, rfl, rfl, h0, r0⟩ := trodAll_cons hA
  obtain ⟨rfl, rfl, rfl⟩ := trodAll_nil r0
  obtain rfl : args = #[v0] := by cases args; simp_all
  obtain ⟨rfl, rfl⟩ := trodVars_none hV
  have k0 := h0
  have lt0 : ∀ x ∈ p0, x.block < W.heap.size := by obtain ⟨m, hm⟩ := k0; exact DataW.trod_lt m _ _ _ hm
  obtain ⟨A0, c0, x0, rfl, hc0, ok0, rd0⟩ := open_arg Try.underlying22 opens_bytes (hval 0 22 v0 rfl rfl) h0
  clear hA0 hval0
  refine (bitsVal_walk W hc0 ok0 rd0).mono fun e W' ⟨he, bel⟩ => ?_
  subst he
  exact ⟨_, rfl, _, _, _, [], _, [], hW', trodAll_mk1 (shut_bool Try.underlying4 _), (trodAll_cons_mk (Below.trod (by kernel_rfl) (by kernel_rfl) (of_decide_eq_true (by kernel_rfl)) k0 bel lt0) trodAll_mk0), rfl, bel.frame _, fun h => by cases h⟩

/-- The given statement. -/
theorem fnBitsVal_holds : Rows.FnBitsValSaid :=
  OpenClaim.holds_of_wide 3 Try.f3 rfl rfl rfl rfl rfl rfl rfl ⟨rfl, rfl, rfl, rfl, rfl⟩ rfl rfl rfl rfl rfl (by kernel_rfl) Try.func3 (by kernel_rfl)
    (of_decide_eq_true (by kernel_rfl)) (by unfold Func.isWrapper; first | (rw [if_pos (by decide +kernel)]; kernel_rfl) | (rw [if_neg (by decide +kernel)]; exact ⟨rfl, rfl⟩))
    (fun os started H enc _ => fnBitsVal_lifted os started H enc)
#print axioms fnBitsVal_holds
end Go.Proofs.Ytohchplomjenfaa
