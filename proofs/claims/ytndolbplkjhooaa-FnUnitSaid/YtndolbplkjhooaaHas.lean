/- The program's ClauseHas, CnfHas. -/
import Derived.Test.YtndolbplkjhooaaHasP
import Derived.Test.YtndolbplkjhooaaTrail9
import Derived.Test.YtndolbplkjhooaaUniC
namespace Go.Proofs.Ytndolbplkjhooaa
open Go Go.RowKit

theorem litOk_inV (l : Int) (n : Nat) : litOk l n = inV n l := rfl
set_option maxRecDepth 100000 in
theorem holds_any (vs : List Bool) (l : Int) (A : Option Addr) (c : Nat) (F : Nat → Prop) (w : World) (h : Lay.bool.Sl w F A vs) (hn : vs.length ≤ 1048576) (h0 : -9223372036854775808 ≤ l) (h1 : l ≤ 9223372036854775807) :
    Calls Try.prog 88 #[.int .i64 l, .slice A vs.length c] w fun e w' => e = .returned (.bool (holdsL vs l)) ∧ w = w' := by
  have HO := Lib.hid (litOf_any l vs.length w h0 h1 (by omega) (by omega))
  rw [litOk_inV] at HO
  have HE : Hid (holdsL vs l = (inV vs.length l && (vs.getD (l.natAbs - 1) false == decide (0 < l)))) := Lib.hid rfl
  by_cases hv : inV vs.length l = true
  · rw [hv] at HO HE
    unfold inV at hv
    rw [decide_eq_true_eq] at hv
    have hk : l.natAbs - 1 < vs.length := by omega
    obtain ⟨ad, rfl, _, hc⟩ := h.at_bool hk
    have hget : vs.getD (l.natAbs - 1) false = vs[l.natAbs - 1] := by rw [List.getD_eq_getElem?_getD, List.getElem?_eq_getElem hk]; rfl
    rw [hget] at HE
    generalize vs[l.natAbs - 1] = z at *
    obtain ⟨na, hna⟩ : ∃ na : Int, na = l.natAbs := ⟨_, rfl⟩
    have qa : ∀ V : World, Calls Try.prog 90 #[.int .i64 l] V fun e w' => e = .returned (.int .i64 na) ∧ V = w' := fun V => by rw [hna]; exact variable_any l V (by omega) (by omega)
    have Qa := Lib.hid qa
    have hn0 : 0 ≤ na - 1 := by omega
    have hn1 : na - 1 < vs.length := by omega
    have e1 : IntKind.i64.wrap (na - 1) = na - 1 := IntWalk.i64_in _ (by omega)
    have e2 : na.toNat - 1 = l.natAbs - 1 := by omega
    rw [← e2] at hc
    clear qa hna e2 hget hv
    go_enter Try.func88, Try.ntmps88
    go_wp2_with fail
    refine HO.out.mono ?_
    rintro e w' ⟨rfl, rfl⟩
    go_wp2_with fail
    refine (Qa.out _).mono ?_
    rintro e w' ⟨rfl, rfl⟩
    go_wp2
    go_ret
    exact ⟨ret_bool (by rw [HE.out]; simp), rfl⟩
  · rw [Bool.not_eq_true] at hv
    rw [hv] at HO HE
    clear hv
    go_enter Try.func88, Try.ntmps88
    go_wp2_with fail
    refine HO.out.mono ?_
    rintro e w' ⟨rfl, rfl⟩
    go_wp2
    go_ret
    exact ⟨ret_bool (by rw [HE.out]; simp), rfl⟩
theorem clauseHas1_any (vs : List Bool) (l : Int) (A : Option Addr) (c b : Nat) (F : Nat → Prop) (w : World) (h : Lay.bool.Sl w F A vs) (hn : vs.length ≤ 1048576) (h0 : -9223372036854775808 ≤ l) (h1 : l ≤ 9223372036854775807) (hb : w.cell? ⟨b, 0, none⟩ = some (.slice A vs.length c)) :
    Calls Try.prog 87 #[.int .i64 l, .pointer (some ⟨b, 0, none⟩)] w fun e w' => e = .returned (.bool (holdsL vs l)) ∧ w = w' := by
  go_enter Try.func87, Try.ntmps87
  go_wp2_with fail
  refine (holds_any vs l A c F w h hn h0 h1).mono ?_
  rintro e w' ⟨rfl, rfl⟩
  go_wp2
  go_ret
  exact ⟨rfl, rfl⟩

set_option maxHeartbeats 1000000 in
theorem idxHas_any (vs : List Bool) (xs : List Int) (V : Option Addr) (v b : Nat) (A : Option Addr) (c : Nat) (F G : Nat → Prop) (w : World) (hs : Lay.int.Sl w F A xs) (hx : xs.length ≤ 1048576) (hr : i64s xs) (h : Lay.bool.Sl w G V vs) (hvn : vs.length ≤ 1048576) (hb : w.cell? ⟨b, 0, none⟩ = some (.slice V vs.length v)) :
    Calls Try.prog 99 #[.slice A xs.length c, .func (.func 87) #[] #[.pointer (some ⟨b, 0, none⟩)]] w fun e w' => ∃ r : Int, e = .returned (.int .i64 r) ∧ decide (0 ≤ r) = xs.any (holdsL vs) ∧ ∃ n, w' = w.drewN n := by
  have HC : Hid (∀ l ∈ xs, ∀ n, Calls Try.prog 87 #[.int .i64 l, .pointer (some ⟨b, 0, none⟩)] (w.drewN n) fun e w' => e = .returned (.bool (holdsL vs l)) ∧ ∃ m, w' = (w.drewN n).drewN m) :=
    Lib.hid fun l hl n => (clauseHas1_any vs l V v b G (w.drewN n) (h.drewN n) hvn (hr l hl).1 (hr l hl).2 hb).mono fun _ _ ⟨h1, h2⟩ => ⟨h1, 0, by rw [← h2]; rfl⟩
  clear hr h hb
  generalize holdsL vs = f at *
  go_enter Try.func99, Try.ntmps99
  go_wp2
  go_loopw [8] (fun i wr => ∃ j n : Nat, wr = w.drewN n ∧ j ≤ xs.length ∧ i = .int .i64 j ∧ xs.any f = (xs.drop j).any f) (fun i _ => xs.length - (intOf i).toNat)
  case atStart => exact ⟨0, 0, rfl, Nat.zero_le _, rfl, rfl⟩
  case round =>
    obtain ⟨j, n, rfl, hj, rfl, ht⟩ := hrel
    have HT := Lib.hid ht
    clear ht
    by_cases hlt : j < xs.length
    · obtain ⟨ad, rfl, hf, hc⟩ := (hs.drewN n).at_int hlt
      have hj1 : (j : Int) < xs.length := by omega
      have hcall := HC.out _ (List.getElem_mem hlt) n
      have HD := Lib.hid (any_drop (f := f) hlt)
      generalize xs[j] = a at *
      cases hfa : f a
      · rw [hfa] at hcall
        have HCC := Lib.hid hcall
        have HE := Lib.hid (show xs.any f = (xs.drop (j + 1)).any f by rw [HT.out, HD.out, hfa]; rfl)
        clear hcall hfa hf
        go_wp2_with fail
        refine HCC.out.mono ?_
        rintro e w' ⟨rfl, m, rfl⟩
        go_wp2
        go_roundw
        case rel => exact ⟨j + 1, n + m, by first | rfl | rw [World.drewN_drewN], by omega, by go_num, HE.out⟩
        case measure => simp [intOf]; omega
      · rw [hfa] at hcall
        have HCC := Lib.hid hcall
        have HE := Lib.hid (show xs.any f = true by rw [HT.out, HD.out, hfa]; rfl)
        clear hcall hfa hf
        go_wp2_with fail
        refine HCC.out.mono ?_
        rintro e w' ⟨rfl, m, rfl⟩
        go_wp2
        go_ret
        exact ⟨_, rfl, by rw [HE.out]; simp, n + m, by first | rfl | rw [World.drewN_drewN]⟩
    · have hke : j = xs.length := by omega
      subst hke
      have HE := Lib.hid (show xs.any f = false by rw [HT.out, List.drop_length]; rfl)
      go_wp2
      go_ret
      exact ⟨-1, rfl, by rw [HE.out]; rfl, n, rfl⟩
theorem hasHas_any (vs : List Bool) (xs : List Int) (V : Option Addr) (v b : Nat) (A : Option Addr) (c : Nat) (F G : Nat → Prop) (w : World) (hs : Lay.int.Sl w F A xs) (hx : xs.length ≤ 1048576) (hr : i64s xs) (h : Lay.bool.Sl w G V vs) (hvn : vs.length ≤ 1048576) (hb : w.cell? ⟨b, 0, none⟩ = some (.slice V vs.length v)) :
    Calls Try.prog 86 #[.slice A xs.length c, .func (.func 87) #[] #[.pointer (some ⟨b, 0, none⟩)]] w fun e w' => e = .returned (.bool (xs.any (holdsL vs))) ∧ ∃ n, w' = w.drewN n := by
  have HI := Lib.hid (idxHas_any vs xs V v b A c F G w hs hx hr h hvn hb)
  clear hs hr h hb
  go_enter Try.func86, Try.ntmps86
  go_wp2_with fail
  refine HI.out.mono ?_
  rintro e w' ⟨r, rfl, hr, n, rfl⟩
  have HR := Lib.hid hr
  clear hr
  go_wp2
  go_ret
  exact ⟨ret_bool (by rw [← HR.out]), n, rfl⟩



theorem clauseHas_any (cl : List Int) (vs : List Bool) (A B : Option Addr) (c d : Nat) (w : World) (h : Lay.int.Rd w A cl) (hn : cl.length ≤ 1048576) (hi : i64s cl) (hv : Lay.bool.Rd w B vs) (hvn : vs.length ≤ 1048576) :
    Calls Try.prog 58 #[.slice A cl.length c, .slice B vs.length d] w (RetB w (clHas vs cl)) := by
  have hw : Below w.heap.size w (w.alloc (.cells #[.slice B vs.length d] 51)) := (Below.refl _ _).alloc (Nat.le_refl _) _
  have hb0 : (w.alloc (.cells #[.slice B vs.length d] 51)).heap[w.heap.size]? = some (.cells #[.slice B vs.length d] 51 (0, 0)) := heap_alloc_new _ _
  have HH := Lib.hid (hasHas_any vs cl B d w.heap.size A c _ _ _ (h.up hw) hn hi (hv.up hw) hvn (cell_of_block hb0 0).1)
  have HW := Lib.hid hw
  clear h hv hb0 hw
  go_enter Try.func58, Try.ntmps58
  go_wp2_with fail
  refine HH.out.mono ?_
  rintro e w' ⟨rfl, n, rfl⟩
  go_wp2
  go_ret
  exact ⟨rfl, below_drewN HW.out _⟩
theorem holdsAll1_any (cl : List Int) (vs : List Bool) (A B : Option Addr) (c d b : Nat) (w : World) (h : Lay.int.Rd w A cl) (hn : cl.length ≤ 1048576) (hi : i64s cl) (hv : Lay.bool.Rd w B vs) (hvn : vs.length ≤ 1048576) (hb : w.cell? ⟨b, 0, none⟩ = some (.slice B vs.length d)) :
    Calls Try.prog 89 #[.slice A cl.length c, .pointer (some ⟨b, 0, none⟩)] w (RetB w (!clHas vs cl)) := by
  go_enter Try.func89, Try.ntmps89
  go_wp2_with fail
  refine (clauseHas_any cl vs A B c d w h hn hi hv hvn).mono ?_
  rintro e w' ⟨rfl, hb⟩
  go_wp2
  go_ret
  exact ⟨rfl, hb⟩
theorem all_dropC {f : List Int → Bool} {xs : List (List Int)} {k : Nat} (h : k < xs.length) : (xs.drop k).all f = (f xs[k] && (xs.drop (k + 1)).all f) := by
  rw [List.drop_eq_getElem_cons h]; rfl
set_option maxHeartbeats 1000000 in
theorem idxAll_any (xs : List (List Int)) (vs : List Bool) (A B : Option Addr) (c d b : Nat) (w : World) (h : Lay.int.slice.Rd w A xs) (hx : xs.length ≤ 1048576) (hn : ∀ cl ∈ xs, cl.length ≤ 1048576 ∧ i64s cl) (hv : Lay.bool.Rd w B vs) (hvn : vs.length ≤ 1048576) (hb : w.cell? ⟨b, 0, none⟩ = some (.slice B vs.length d)) :
    Calls Try.prog 91 #[.slice A xs.length c, .func (.func 89) #[] #[.pointer (some ⟨b, 0, none⟩)]] w fun e w' => ∃ r : Int, e = .returned (.int .i64 r) ∧ decide (0 ≤ r) = !xs.all (clHas vs) ∧ Below w.heap.size w w' := by
  go_enter Try.func91, Try.ntmps91
  go_wp2
  go_loopw [8] (fun i wr => ∃ k : Nat, k ≤ xs.length ∧ i = .int .i64 k ∧ xs.all (clHas vs) = (xs.drop k).all (clHas vs) ∧ Below w.heap.size w wr) (fun i _ => xs.length - (intOf i).toNat)
  case atStart => exact ⟨0, Nat.zero_le _, rfl, rfl, Below.refl _ _⟩
  case round =>
    obtain ⟨k, hk, rfl, ht, hB⟩ := hrel
    have HT := Lib.hid ht
    clear ht
    by_cases hlt : k < xs.length
    · obtain ⟨ad, A', c', rfl, hf, k1, hl1, s1⟩ := (h.up hB).at_slice hlt
      have hk1 : (k : Int) < xs.length := by omega
      obtain ⟨n1, n2⟩ := hn _ (List.getElem_mem hlt)
      have hcall := holdsAll1_any xs[k] vs A' B c' d b wr s1 n1 n2 (hv.up hB) hvn ((hB.cell (World.block_lt_of_cell? w _ hb)).trans hb)
      have HD := Lib.hid (all_dropC (f := clHas vs) hlt)
      generalize xs[k] = cl at *
      cases h1 : clHas vs cl
      · rw [h1] at hcall
        have HC := Lib.hid hcall
        have HE := Lib.hid (show xs.all (clHas vs) = false by rw [HT.out, HD.out, h1]; rfl)
        clear hcall h1
        go_wp2_with fail
        refine HC.out.mono ?_
        rintro e w' ⟨rfl, hb2⟩
        have hbb := bthen hB hb2
        clear hb2
        go_wp2
        go_ret
        exact ⟨_, rfl, by rw [HE.out]; simp, hbb⟩
      · rw [h1] at hcall
        have HC := Lib.hid hcall
        have HE := Lib.hid (show xs.all (clHas vs) = (xs.drop (k + 1)).all (clHas vs) by rw [HT.out, HD.out, h1]; rfl)
        clear hcall h1
        go_wp2_with fail
        refine HC.out.mono ?_
        rintro e w' ⟨rfl, hb2⟩
        have hbb := bthen hB hb2
        clear hb2
        go_wp2
        go_roundw
        case rel => exact ⟨k + 1, by omega, by go_num, HE.out, hbb⟩
        case measure => simp [intOf]; omega
    · have hke : k = xs.length := by omega
      subst hke
      have HE := Lib.hid (show xs.all (clHas vs) = true by rw [HT.out, List.drop_length]; rfl)
      go_wp2
      go_ret
      exact ⟨-1, rfl, by rw [HE.out]; rfl, hB⟩
theorem hasAll_any (xs : List (List Int)) (vs : List Bool) (A B : Option Addr) (c d b : Nat) (w : World) (h : Lay.int.slice.Rd w A xs) (hx : xs.length ≤ 1048576) (hn : ∀ cl ∈ xs, cl.length ≤ 1048576 ∧ i64s cl) (hv : Lay.bool.Rd w B vs) (hvn : vs.length ≤ 1048576) (hb : w.cell? ⟨b, 0, none⟩ = some (.slice B vs.length d)) :
    Calls Try.prog 65 #[.slice A xs.length c, .func (.func 89) #[] #[.pointer (some ⟨b, 0, none⟩)]] w (RetB w (!xs.all (clHas vs))) := by
  go_enter Try.func65, Try.ntmps65
  go_wp2_with fail
  refine (idxAll_any xs vs A B c d b w h hx hn hv hvn hb).mono ?_
  rintro e w' ⟨r, rfl, hr, hB⟩
  have HR := Lib.hid hr
  clear hr
  go_wp2
  go_ret
  exact ⟨ret_bool (by rw [← HR.out]), hB⟩
theorem holdsAll_any (xs : List (List Int)) (vs : List Bool) (A B : Option Addr) (c d : Nat) (w : World) (h : Lay.int.slice.Rd w A xs) (hx : xs.length ≤ 1048576) (hn : ∀ cl ∈ xs, cl.length ≤ 1048576 ∧ i64s cl) (hv : Lay.bool.Rd w B vs) (hvn : vs.length ≤ 1048576) :
    Calls Try.prog 60 #[.slice A xs.length c, .slice B vs.length d] w (RetB w (xs.all (clHas vs))) := by
  have hw : Below w.heap.size w (w.alloc (.cells #[.slice B vs.length d] 51)) := (Below.refl _ _).alloc (Nat.le_refl _) _
  have hb0 : (w.alloc (.cells #[.slice B vs.length d] 51)).heap[w.heap.size]? = some (.cells #[.slice B vs.length d] 51 (0, 0)) := heap_alloc_new _ _
  have HH := Lib.hid (hasAll_any xs vs A B c d w.heap.size _ (h.up hw) hx hn (hv.up hw) hvn (cell_of_block hb0 0).1)
  have HW := Lib.hid hw
  clear h hv hb0 hw
  go_enter Try.func60, Try.ntmps60
  go_wp2_with fail
  refine HH.out.mono ?_
  rintro e w' ⟨rfl, hb2⟩
  go_wp2
  go_ret
  exact ⟨ret_bool (by simp), bthen HW.out hb2⟩
set_option maxRecDepth 100000 in
theorem cnfHas_any (x : C) (vs : List Bool) (A B : Option Addr) (c d : Nat) (w : World) (h : Lay.int.slice.Rd w A x.list) (sx : smCnf x) (hv : Lay.bool.Rd w B vs) (hvn : vs.length ≤ 1048576) :
    Calls Try.prog 57 #[.agg #[.int .i64 x.many, .slice A x.list.length c], .slice B vs.length d] w (RetB w (cnfHas x vs)) := by
  have hw : Below w.heap.size w (w.alloc (.cells #[.int .i64 x.many, .slice A x.list.length c] 28)) := (Below.refl _ _).alloc (Nat.le_refl _) _
  have hb0 : (w.alloc (.cells #[.int .i64 x.many, .slice A x.list.length c] 28)).heap[w.heap.size]? = some (.cells #[.int .i64 x.many, .slice A x.list.length c] 28 (0, 0)) := heap_alloc_new _ _
  have hX := h.up hw
  have hV := hv.up hw
  have HOK := Lib.hid (cnfOkP_any x A c _ _ hX (fun _ h => h) sx.1 (by have := sx.2.1; omega) sx.ints)
  have HE : Hid (cnfHas x vs = (cnfOk x && (decide ((vs.length : Int) = x.many) && x.list.all (clHas vs)))) := Lib.hid rfl
  have HW := Lib.hid hw
  have HB0 := Lib.hid hb0
  have SX := Lib.hid sx
  clear h hv hb0 hw sx
  go_enter Try.func57, Try.ntmps57
  go_wp2_with fail
  generalize w.alloc (.cells #[.int .i64 x.many, .slice A x.list.length c] 28) = W at *
  refine HOK.out.mono ?_
  rintro e w1 ⟨rfl, hb1⟩
  have HB0 := Lib.hid ((hb1.block _ (lt_of_block HB0.out)).trans HB0.out)
  have c0 : w1.cell? ⟨w.heap.size, 0, none⟩ = some (.int .i64 x.many) := (cell_of_block HB0.out 0).1
  have c1 : w1.cell? ⟨w.heap.size, 1, none⟩ = some (.slice A x.list.length c) := (cell_of_block HB0.out 1).1
  have hX := hX.up hb1
  have hV := hV.up hb1
  have HBB := Lib.hid (bthen HW.out hb1)
  clear hb1 HOK
  cases hok : cnfOk x
  · rw [hok] at HE
    clear hok
    go_wp2
    go_ret
    exact ⟨ret_bool (by rw [HE.out]; rfl), HBB.out⟩
  rw [hok] at HE
  clear hok
  by_cases hl : (vs.length : Int) = x.many
  · rw [decide_eq_true hl] at HE
    have hlb : ((vs.length : Int) == x.many) = true := by simp [hl]
    have HA := Lib.hid (holdsAll_any x.list vs A B c d w1 hX (by have := SX.out.2.1; omega) SX.out.ints hV hvn)
    clear hl hX hV
    go_wp2_with fail
    refine HA.out.mono ?_
    rintro e w2 ⟨rfl, hb2⟩
    go_wp2
    go_ret
    exact ⟨ret_bool (by rw [HE.out]; simp), bthen HBB.out hb2⟩
  · rw [decide_eq_false hl] at HE
    have hlb : ((vs.length : Int) == x.many) = false := by simp [hl]
    clear hl
    go_wp2
    go_ret
    exact ⟨ret_bool (by rw [HE.out]; rfl), HBB.out⟩

end Go.Proofs.Ytndolbplkjhooaa
