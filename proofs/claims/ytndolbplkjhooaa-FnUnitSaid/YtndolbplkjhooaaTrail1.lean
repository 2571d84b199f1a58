/- The program's trail: what lies in memory; what is asked of it. -/
import Derived.Test.YtndolbplkjhooaaCnf5
namespace Go.Proofs.Ytndolbplkjhooaa
open Go Go.RowKit

theorem variable_any (n : Int) (w : World) (h0 : -9223372036854775808 < n) (h1 : n ≤ 9223372036854775807) :
    Calls Try.prog 90 #[.int .i64 n] w fun e w' => e = .returned (.int .i64 n.natAbs) ∧ w = w' := by
  by_cases h : n < 0
  all_goals
    go_enter Try.func90, Try.ntmps90
    go_wp2
    go_ret
    exact ⟨ret_int (by omega), rfl⟩
def litOk (s m : Int) : Bool := decide (s ≠ 0 ∧ -m ≤ s ∧ s ≤ m)
theorem litOf_any (s m : Int) (w : World) (h0 : -9223372036854775808 ≤ s) (h1 : s ≤ 9223372036854775807) (m0 : 0 ≤ m) (m1 : m ≤ 9223372036854775807) :
    Calls Try.prog 73 #[.int .i64 s, .int .i64 m] w fun e w' => e = .returned (.bool (litOk s m)) ∧ w = w' := by
  by_cases hs : s = 0
  · subst hs
    go_enter Try.func73, Try.ntmps73
    go_wp2
    go_ret
    exact ⟨by simp [litOk], rfl⟩
  · by_cases ha : -m ≤ s
    · go_enter Try.func73, Try.ntmps73
      go_wp2
      go_ret
      exact ⟨ret_bool (by simp [litOk, hs, ha]), rfl⟩
    · go_enter Try.func73, Try.ntmps73
      go_wp2
      go_ret
      exact ⟨ret_bool (by simp [litOk, hs]; omega), rfl⟩

theorem cell_of_block {w : World} {r : Nat} {cs : Array Value} {t : TypeId} (h : w.heap[r]? = some (.cells cs t (0, 0))) (i : Nat) : w.cell? ⟨r, i, none⟩ = cs[i]? ∧ w.frozen? ⟨r, i, none⟩ = false := by
  unfold World.cell? World.frozen?
  simp [h]
/-- The places say of each variable where it is put, plus one; 0 if it is not. -/
def PlacesOk (M : Nat) (put pl : List Int) : Prop :=
  pl.length = M + 1 ∧ ∀ v : Nat, 1 ≤ v → v ≤ M → (∃ k, ∃ h : k < put.length, put[k].natAbs = v ∧ pl[v]? = some ((k : Int) + 1)) ∨ ((∀ l ∈ put, l.natAbs ≠ v) ∧ pl[v]? = some 0)
/-- Block t leads to three rows. -/
structure TrB (lo : Nat) (S : Nat → Prop) (M : Nat) (w : World) (t : Nat) (put ls : List Int) (A B : Option Addr) (c d Q : Nat) (pl : List Int) : Prop where
  blk : w.heap[t]? = some (.cells #[.slice A put.length c, .slice (some ⟨Q, 0, none⟩) (M + 1) (M + 1), .slice B ls.length d] 74 (0, 0))
  hlo : lo ≤ t
  hput : OwnI w lo (.slice A put.length c) put
  hpl : w.ownsRow lo 3 1 (.slice (some ⟨Q, 0, none⟩) (M + 1) (M + 1)) (M + 1) (pl.map (Value.int .i64))
  hls : OwnI w lo (.slice B ls.length d) ls
  d1 : (Value.slice A put.length c).ownBlock ≠ some Q
  d2 : (Value.slice B ls.length d).ownBlock ≠ some Q
  d3 : ∀ g, (Value.slice A put.length c).ownBlock = some g → (Value.slice B ls.length d).ownBlock ≠ some g
  d4 : ∀ x, S x → x < w.heap.size ∧ x ≠ t ∧ x ≠ Q ∧ (Value.slice A put.length c).ownBlock ≠ some x ∧ (Value.slice B ls.length d).ownBlock ≠ some x
/-- Block t is a trail. -/
structure TrAt (lo : Nat) (S : Nat → Prop) (M : Nat) (w : World) (t : Nat) (put ls : List Int) (A B : Option Addr) (c d Q : Nat) (pl : List Int) : Prop extends TrB lo S M w t put ls A B c d Q pl where
  ok : PlacesOk M put pl
  len : ls.length = put.length
  lv : ∀ x ∈ ls, 0 ≤ x ∧ x ≤ ls.length
theorem TrB.up {lo M : Nat} {S : Nat → Prop} {w w' : World} {t : Nat} {put ls : List Int} {A B : Option Addr} {c d Q : Nat} {pl : List Int} (h : TrB lo S M w t put ls A B c d Q pl) (hb : Below w.heap.size w w') : TrB lo S M w' t put ls A B c d Q pl :=
  ⟨(hb.block t (lt_of_block h.blk)).trans h.blk, h.hlo, h.hput.up hb, own_below h.hpl hb (Nat.le_refl _), h.hls.up hb, h.d1, h.d2, h.d3, fun x hx => ⟨Nat.lt_of_lt_of_le (h.d4 x hx).1 hb.size, (h.d4 x hx).2⟩⟩
def Tr (lo : Nat) (S : Nat → Prop) (M : Nat) (w : World) (t : Nat) (put ls : List Int) : Prop := ∃ A B c d Q pl, TrAt lo S M w t put ls A B c d Q pl
theorem TrAt.up {lo M : Nat} {S : Nat → Prop} {w w' : World} {t : Nat} {put ls : List Int} {A B : Option Addr} {c d Q : Nat} {pl : List Int} (h : TrAt lo S M w t put ls A B c d Q pl) (hb : Below w.heap.size w w') : TrAt lo S M w' t put ls A B c d Q pl :=
  ⟨h.toTrB.up hb, h.ok, h.len, h.lv⟩
theorem Tr.up {lo M : Nat} {S : Nat → Prop} {w w' : World} {t : Nat} {put ls : List Int} (h : Tr lo S M w t put ls) (hb : Below w.heap.size w w') : Tr lo S M w' t put ls := by
  obtain ⟨A, B, c, d, Q, pl, h⟩ := h
  exact ⟨A, B, c, d, Q, pl, h.up hb⟩
theorem Tr.lt {lo M : Nat} {S : Nat → Prop} {w : World} {t : Nat} {put ls : List Int} (h : Tr lo S M w t put ls) : lo ≤ t ∧ t < w.heap.size := by
  obtain ⟨A, B, c, d, Q, pl, h⟩ := h
  exact ⟨h.hlo, lt_of_block h.blk⟩
theorem quiet_drawn {P : Program} {f : FuncId} {args : Array Value} {w : World} {n : Nat} {v : Value}
    (h : Calls P f args (w.drewN n) fun e w' => e = .returned v ∧ ∃ k, w' = (w.drewN n).drewN k) : Calls P f args (w.drewN n) fun e w'' => e = .returned v ∧ ∃ m, w'' = w.drewN m :=
  h.mono fun _ _ ⟨he, k, hk⟩ => ⟨he, n + k, by rw [hk, World.drewN_drewN]⟩
/-- The mark's variable is put. -/
def isPut (put : List Int) (l : Int) : Bool := decide (l ∈ put ∨ -l ∈ put)
theorem places_at {M : Nat} {put pl : List Int} (h : PlacesOk M put pl) {l : Int} (h0 : l ≠ 0) (h1 : -(M : Int) ≤ l) (h2 : l ≤ M) :
    ∃ p : Int, pl[l.natAbs]? = some p ∧ ((isPut put l = true ∧ ∃ k, ∃ hk : k < put.length, put[k].natAbs = l.natAbs ∧ p = (k : Int) + 1) ∨ (isPut put l = false ∧ p = 0)) := by
  rcases h.2 l.natAbs (by omega) (by omega) with ⟨k, hk, he, hp⟩ | ⟨hn, hp⟩
  · refine ⟨_, hp, .inl ⟨?_, k, hk, he, rfl⟩⟩
    unfold isPut
    rw [decide_eq_true_eq]
    have hm : put[k] ∈ put := List.getElem_mem hk
    have : put[k] = l ∨ put[k] = -l := by omega
    rcases this with e | e
    · exact .inl (e ▸ hm)
    · exact .inr (e ▸ hm)
  · refine ⟨_, hp, .inr ⟨?_, rfl⟩⟩
    unfold isPut
    rw [decide_eq_false_iff_not]
    rintro (hm | hm)
    · exact hn _ hm rfl
    · exact hn _ hm (by omega)

theorem assigned_any (lo : Nat) (S : Nat → Prop) (M t : Nat) (put ls : List Int) (l : Int) (w : World) (h : Tr lo S M w t put ls) (h0 : l ≠ 0) (h1 : -(M : Int) ≤ l) (h2 : l ≤ M) (hM : M ≤ 1000000) :
    Calls Try.prog 74 #[.pointer (some ⟨t, 0, none⟩), .int .i64 l] w fun e w' => e = .returned (.bool (isPut put l)) ∧ ∃ n, w' = w.drewN n := by
  obtain ⟨A, B, c, d, Q, pl, h⟩ := h
  obtain ⟨p, hp, hcase⟩ := places_at h.ok h0 h1 h2
  have z1 : w.cell? ⟨t, 1, none⟩ = some (.slice (some ⟨Q, 0, none⟩) (M + 1) (M + 1)) := (cell_of_block h.blk 1).1
  have hlt : l.natAbs < M + 1 := by omega
  have z2 : w.cell? ⟨Q, l.natAbs, none⟩ = some (.int .i64 p) := by
    have := h.hpl.cellAt l.natAbs (by omega)
    rw [this, List.getElem?_map, hp]; rfl
  have hq : (p != 0) = isPut put l := by
    rcases hcase with ⟨e, k, _, _, rfl⟩ | ⟨e, rfl⟩
    · rw [e]; simp; omega
    · rw [e]; simp
  obtain ⟨na, hna⟩ : ∃ na : Int, na = l.natAbs := ⟨_, rfl⟩
  have qa : ∀ W : World, Calls Try.prog 90 #[.int .i64 l] W fun e w' => e = .returned (.int .i64 na) ∧ W = w' := fun W => by rw [hna]; exact variable_any l W (by omega) (by omega)
  have Qa := Lib.hid qa
  have hn0 : 0 ≤ na := by omega
  have hn1 : na < (M : Int) + 1 := by omega
  have hn2 : na < ((M + 1 : Nat) : Int) := by omega
  have hn3 : na.toNat = l.natAbs := by omega
  rw [← hn3] at z2
  have HQ := Lib.hid hq
  clear qa hna hp hcase hq hn3
  go_enter Try.func74, Try.ntmps74
  go_wp2
  go_quiet ((go_at_call 90; with_reducible exact quiet_left (Qa.out _)))
  go_wp2
  go_ret
  exact ⟨ret_bool (by rw [← HQ.out]), _, rfl⟩

theorem isTrue_any (lo : Nat) (S : Nat → Prop) (M t : Nat) (put ls : List Int) (l : Int) (w : World) (h : Tr lo S M w t put ls) (hg : Good M put) (h0 : l ≠ 0) (h1 : -(M : Int) ≤ l) (h2 : l ≤ M) (hM : M ≤ 1000000) :
    Calls Try.prog 97 #[.pointer (some ⟨t, 0, none⟩), .int .i64 l] w fun e w' => e = .returned (.bool (decide (l ∈ put))) ∧ ∃ n, w' = w.drewN n := by
  have has : ∀ n, Calls Try.prog 74 #[.pointer (some ⟨t, 0, none⟩), .int .i64 l] (w.drewN n) fun e w' => e = .returned (.bool (isPut put l)) ∧ ∃ k, w' = (w.drewN n).drewN k :=
    fun n => assigned_any lo S M t put ls l (w.drewN n) (h.up (below_drewN (Below.refl _ _) n)) h0 h1 h2 hM
  obtain ⟨A, B, c, d, Q, pl, h⟩ := h
  obtain ⟨p, hp, hcase⟩ := places_at h.ok h0 h1 h2
  rcases hcase with ⟨e, k, hk, hek, rfl⟩ | ⟨e, rfl⟩
  · have HAS := Lib.hid has
    have z0 : w.cell? ⟨t, 0, none⟩ = some (.slice A put.length c) := (cell_of_block h.blk 0).1
    have z1 : w.cell? ⟨t, 1, none⟩ = some (.slice (some ⟨Q, 0, none⟩) (M + 1) (M + 1)) := (cell_of_block h.blk 1).1
    have z2 : w.cell? ⟨Q, l.natAbs, none⟩ = some (.int .i64 ((k : Int) + 1)) := by
      have := h.hpl.cellAt l.natAbs (by omega)
      rw [this, List.getElem?_map, hp]; rfl
    obtain ⟨ad, rfl, _, z3⟩ := (OwnI.rd h.hput).at_int hk
    have hml := hg.length
    have hkb : k < 1000001 := by omega
    have hmem : (put[k] == l) = decide (l ∈ put) := by
      have hm : put[k] ∈ put := List.getElem_mem hk
      have hor : put[k] = l ∨ put[k] = -l := by omega
      rw [Bool.eq_iff_iff]
      simp only [beq_iff_eq, decide_eq_true_eq]
      constructor
      · intro e; exact e ▸ hm
      · intro hl
        rcases hor with e | e
        · exact e
        · exact (hg.apart hl (e ▸ hm)).elim
    have HMEM := Lib.hid hmem
    obtain ⟨na, hna⟩ : ∃ na : Int, na = l.natAbs := ⟨_, rfl⟩
    have qa : ∀ W : World, Calls Try.prog 90 #[.int .i64 l] W fun e w' => e = .returned (.int .i64 na) ∧ W = w' := fun W => by rw [hna]; exact variable_any l W (by omega) (by omega)
    have Qa := Lib.hid qa
    have hn0 : 0 ≤ na := by omega
    have hn1 : na < (M : Int) + 1 := by omega
    have hn2 : na < ((M + 1 : Nat) : Int) := by omega
    have hn3 : na.toNat = l.natAbs := by omega
    rw [← hn3] at z2
    have hk0 : (0 : Int) ≤ k := by omega
    have hk1 : (k : Int) < put.length := by omega
    have e1 : IntKind.i64.wrap ((k : Int) + 1 - 1) = (k : Int) := by rw [Int.add_sub_cancel]; exact IntWalk.i64_in _ (by omega)
    have hee := e
    rw [e] at has HAS
    have HAS := HAS
    generalize put[k] = a at *
    clear qa hna hp hn3 has e hee hek hmem
    go_enter Try.func97, Try.ntmps97
    go_wp2
    go_quiet ((first | (go_at_call 90; with_reducible exact quiet_left (Qa.out _)) | (go_at_call 74; with_reducible exact quiet_drawn (HAS.out _))))
    go_wp2
    go_ret
    exact ⟨ret_bool (by rw [← HMEM.out]), _, rfl⟩
  · rw [e] at has
    have HAS := Lib.hid has
    have HM : Hid (decide (l ∈ put) = false) := Lib.hid (by unfold isPut at e; rw [decide_eq_false_iff_not] at e ⊢; exact fun h9 => e (.inl h9))
    clear has e hp
    go_enter Try.func97, Try.ntmps97
    go_wp2
    go_quiet ((go_at_call 74; with_reducible exact quiet_drawn (HAS.out _)))
    go_wp2
    go_ret
    exact ⟨ret_bool (by rw [HM.out]), _, rfl⟩

theorem Tr.drewN {lo M : Nat} {S : Nat → Prop} {w : World} {t : Nat} {put ls : List Int} (h : Tr lo S M w t put ls) (n : Nat) : Tr lo S M (w.drewN n) t put ls := h.up (below_drewN (Below.refl _ _) n)
/-- What the program's look gives. -/
def lkT (put cl : List Int) : Bool × Int × Int := match lk put cl 0 0 with | none => (true, 0, 0) | some p => (false, p.1, p.2)
theorem ret_look {a a' : Bool} {b b' c c' : Int} (h1 : a = a') (h2 : b = b') (h3 : c = c') : Ending.returned (.tuple #[.bool a, .int .i64 b, .int .i64 c]) = .returned (.tuple #[.bool a', .int .i64 b', .int .i64 c']) := by rw [h1, h2, h3]
set_option maxHeartbeats 1000000 in
theorem look_any (lo : Nat) (S : Nat → Prop) (M t : Nat) (put ls cl : List Int) (B : Option Addr) (q : Nat) (G : Nat → Prop) (w : World) (h : Tr lo S M w t put ls) (hcl : Lay.int.Sl w G B cl) (hg : Good M put) (hr : ∀ l ∈ cl, l ≠ 0 ∧ -(M : Int) ≤ l ∧ l ≤ M) (hn : cl.length ≤ 1048576) (hM : M ≤ 1000000) :
    Calls Try.prog 92 #[.pointer (some ⟨t, 0, none⟩), .slice B cl.length q] w fun e w' => e = .returned (.tuple #[.bool (lkT put cl).1, .int .i64 (lkT put cl).2.1, .int .i64 (lkT put cl).2.2]) ∧ ∃ n, w' = w.drewN n := by
  go_enter Try.func92, Try.ntmps92
  go_wp2
  go_loopw [5, 6, 11] (fun x y i wr => ∃ (k m : Nat) (n f : Int), k ≤ cl.length ∧ i = .int .i64 k ∧ x = .int .i64 n ∧ y = .int .i64 f ∧ wr = w.drewN m ∧ 0 ≤ n ∧ n ≤ k ∧ lk put cl 0 0 = lk put (cl.drop k) n f) (fun _ _ i _ => cl.length - (intOf i).toNat)
  case atStart => exact ⟨0, 0, 0, 0, Nat.zero_le _, rfl, rfl, rfl, rfl, by omega, by simp, by simp⟩
  case round =>
    obtain ⟨k, m, n, f, hk, rfl, rfl, rfl, rfl, n0, n1, ht⟩ := hrel
    have HT := Lib.hid ht
    clear ht
    by_cases hlt : k < cl.length
    · obtain ⟨ad, rfl, hf, hc⟩ := (hcl.drewN m).at_int hlt
      have hk1 : (k : Int) < cl.length := by omega
      obtain ⟨r0, r1, r2⟩ := hr _ (List.getElem_mem hlt)
      have hd := lk_drop (put := put) (n := n) (f := f) hlt
      generalize cl[k] = a at *
      have hs := fun m => isTrue_any lo S M t put ls a (w.drewN m) (h.drewN m) hg r0 r1 r2 hM
      have ha := fun m => assigned_any lo S M t put ls a (w.drewN m) (h.drewN m) r0 r1 r2 hM
      unfold isPut at ha
      by_cases h1 : a ∈ put
      · rw [if_pos h1] at hd
        rw [decide_eq_true h1] at hs
        have HD := Lib.hid (show lkT put cl = (true, 0, 0) by unfold lkT; rw [HT.out, hd])
        have HS := Lib.hid hs
        clear hd hs ha
        go_wp2_with fail
        refine (HS.out m).mono ?_
        rintro e w' ⟨rfl, k9, rfl⟩
        go_wp2
        go_ret3
        exact ⟨ret_look (by rw [HD.out]) (by rw [HD.out]) (by rw [HD.out]), m + k9, by first | rfl | rw [World.drewN_drewN]⟩
      rw [decide_eq_false h1] at hs
      by_cases h2 : -a ∈ put
      · rw [if_neg h1, if_pos h2] at hd
        rw [decide_eq_true (Or.inr h2)] at ha
        have HD := Lib.hid hd
        have HS := Lib.hid hs
        have HA := Lib.hid ha
        clear hd hs ha
        go_wp2_with fail
        refine (HS.out m).mono ?_
        rintro e w' ⟨rfl, k9, rfl⟩
        rw [World.drewN_drewN]
        go_wp2_with fail
        refine (HA.out _).mono ?_
        rintro e w' ⟨rfl, k8, rfl⟩
        rw [World.drewN_drewN]
        go_wp2
        go_roundw
        case rel => exact ⟨k + 1, _, n, f, by omega, by go_num, rfl, rfl, rfl, n0, by omega, by rw [HT.out, HD.out]⟩
        case measure => simp [intOf]; omega
      · rw [if_neg h1, if_neg h2] at hd
        rw [decide_eq_false (fun h9 => h9.elim h1 h2)] at ha
        have HD := Lib.hid hd
        have HS := Lib.hid hs
        have HA := Lib.hid ha
        clear hd hs ha
        go_wp2_with fail
        refine (HS.out m).mono ?_
        rintro e w' ⟨rfl, k9, rfl⟩
        rw [World.drewN_drewN]
        go_wp2_with fail
        refine (HA.out _).mono ?_
        rintro e w' ⟨rfl, k8, rfl⟩
        rw [World.drewN_drewN]
        go_wp2
        go_roundw
        case rel => exact ⟨k + 1, _, n + 1, a, by omega, by go_num, rfl, rfl, rfl, by omega, by omega, by rw [HT.out, HD.out]⟩
        case measure => simp [intOf]; omega
    · have hke : k = cl.length := by omega
      subst hke
      have HE := Lib.hid (show lkT put cl = (false, n, f) by unfold lkT; rw [HT.out, List.drop_length]; rfl)
      go_wp2
      go_ret3
      exact ⟨ret_look (by rw [HE.out]) (by rw [HE.out]) (by rw [HE.out]), m, rfl⟩
end Go.Proofs.Ytndolbplkjhooaa
