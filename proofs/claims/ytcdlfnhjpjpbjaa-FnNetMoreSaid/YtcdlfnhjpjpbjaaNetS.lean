/- Contracts of the reference's nets. -/
import Derived.Test.YtcdlfnhjpjpbjaaNet
import Derived.Test.YtcdlfnhjpjpbjaaApp
import Derived.Test.YtcdlfnhjpjpbjaaAbs
namespace Go.Proofs.Ytcdlfnhjpjpbjaa
open Go Go.RowKit

theorem src_gates {w : World} {F : Nat → Prop} {A : Option Addr} {xs : List G} (h : Lay.gate.Sl w F A xs) : Src w 3 A xs.length (xs.flatMap gcells) := by
  refine ⟨gcells_len xs, fun h0 => ?_⟩
  obtain ⟨ad, rfl, _, hc⟩ := h h0
  refine ⟨ad, rfl, fun j u hu => ?_⟩
  have hj : j < (xs.flatMap gcells).length := by
    rcases Nat.lt_or_ge j (xs.flatMap gcells).length with h | h
    · exact h
    · rw [List.getElem?_eq_none h] at hu; cases hu
  rw [gcells_len] at hj
  have hk : j / 3 < xs.length := by omega
  obtain ⟨vs, rfl, hcell⟩ := hc (j / 3) xs[j / 3] (List.getElem?_eq_getElem hk)
  have hl : ((xs.take (j / 3)).flatMap gcells).length = j / 3 * 3 := by rw [gcells_len]; simp; omega
  have e : xs = xs.take (j / 3) ++ (xs[j / 3] :: xs.drop (j / 3 + 1)) := by rw [← List.drop_eq_getElem_cons hk, List.take_append_drop]
  rw [e, List.flatMap_append, List.flatMap_cons, List.getElem?_append_right (by omega), hl, List.getElem?_append_left (by simp [gcells]; omega)] at hu
  have := hcell (j - j / 3 * 3) u hu
  rw [show Lay.gate.size = 3 from rfl, show j / 3 * 3 + (j - j / 3 * 3) = j from by omega] at this
  exact this
theorem gcells_one (xs : List G) : ∀ u ∈ xs.flatMap gcells, u.oneCell' = true := by
  intro u hu
  obtain ⟨g, _, hg⟩ := List.mem_flatMap.1 hu
  simp [gcells] at hg
  rcases hg with rfl | rfl | rfl <;> rfl

set_option maxRecDepth 100000 in
set_option maxHeartbeats 1000000 in
theorem l6Fresh_any (A : Option Addr) (c : Nat) (n : N) (w : World) (h : Lay.gate.Rd w A n.gs) (hn : n.gs.length ≤ 1048576) (hA : A = none → n.gs.length = 0) :
    Calls Try.prog 31 #[.agg #[.int .i64 n.ins, .slice A n.gs.length c]] w (RetNet w n) := by
  obtain ⟨i0, hi0, hz0, hz1, hz2⟩ := info_parts gate_info
  go_enter Try.func31, Try.ntmps31
  go_wp2
  go_region_held3 (fun w' => w'.cell? ⟨w.heap.size, 0, none⟩ = some (.int .i64 n.ins) ∧ w'.cell? ⟨w.heap.size, 1, none⟩ = some (.slice A n.gs.length c))
    (first | go_keep | (go_split_ands; refine ⟨?_, ?_⟩ <;> (rw [hb1.cell (by show w.heap.size < _; omega)]; assumption)))
    ((refine step_append_src _ (by rfl) _ _ _ (by rfl) (w.heap.size + 1 + 1) 58 i0 _ 3 24 Try.underlying23 hi0 hz0 hz1 hz2 (by rfl) (by omega) (.slice (some ⟨w.heap.size + 1 + 1, 0, none⟩) 0 0) 0 [] (by rfl) (by first | exact own_lit0 (by simp) | exact (own_lit0 (by simp)).drew) A n.gs.length c (n.gs.flatMap gcells) (by rfl) (src_gates (Lay.Sl.up h (by go_grown))) (gcells_one _) n.gs.length (by omega) (by unfold maxLen; omega) (by omega) (by simp) hA ?_; intro A1 c1 w1 hown1 hb1 _; obtain ⟨hcc, hff⟩ := bcell hb1; have hz : w.heap.size + 1 < w1.heap.size := by have := hb1.size; simp at this; omega))
  have hbw : Below w.heap.size w w1 := by
    refine Below.trans (b := (((w.alloc (Obj.cells #[.int .i64 n.ins, .slice A n.gs.length c] 25)).alloc (Obj.cells #[.int .i64 0, .slice none 0 0] 25)).alloc (Obj.cells #[] 58)).drew) ?_ (hb1.mono (by omega))
    exact ((((Below.refl _ _).alloc (Nat.le_refl _) _).alloc (by simp) _).alloc (by simp; omega) _).drew
  go_wp2
  refine bodyPost_ret (v := .agg #[.int .i64 n.ins, .slice A1 n.gs.length c1]) (by simp [results, Try.results31, go_sem, hcc, hff, hz]) rfl ⟨A1, c1, rfl, ?_, ?_⟩
  · exact own_mono (own_far (own_far hown1 _ _ (by simp)) _ _ (by simp)) (by omega)
  · exact (hbw.setCell (by simp) _).setCell (by simp) _

theorem eqlG (w : World) (g h : G) : (binOp .eql 58 (.agg #[.bool g.x, .int .i64 g.a, .int .i64 g.b]) (.agg #[.bool h.x, .int .i64 h.a, .int .i64 h.b])).run Try.prog w = .ok (.bool (decide (g = h))) w := by
  have hh : Try.prog.stoodInHeld 58 = false := by kernel_rfl
  rw [decide_G]
  simp [go_sem, hh]
  (repeat' split) <;> simp_all
def l4abs (m : Int) : Int := m.natAbs

theorem l6Many_any (A : Option Addr) (c n : Nat) (ins : Int) (w : World) (hn : n ≤ 1048576) (h0 : -1000000 ≤ ins) (h1 : ins ≤ 1000000) :
    Calls Try.prog 56 #[.agg #[.int .i64 ins, .slice A n c]] w fun e w' => e = .returned (.int .i64 (1 + ins + n)) ∧ Below w.heap.size w w' := by
  have hw : Below w.heap.size w (w.alloc (.cells #[.int .i64 ins, .slice A n c] 25)) := (Below.refl _ _).alloc (Nat.le_refl _) _
  go_enter Try.func56, Try.ntmps56
  go_wp2
  go_ret
  exact ⟨rfl, hw⟩

def netMark (n : N) (m : Int) : Bool := sigOf m (1 + n.ins + n.gs.length)
theorem l6Mark_any (A : Option Addr) (c : Nat) (n : N) (m : Int) (w : World) (hn : n.gs.length ≤ 1048576) (h0 : 0 ≤ n.ins) (h1 : n.ins ≤ 1000000) (m0 : -9223372036854775808 ≤ m) (m1 : m ≤ 9223372036854775807) :
    Calls Try.prog 29 #[.agg #[.int .i64 n.ins, .slice A n.gs.length c], .int .i64 m] w fun e w' => e = .returned (.bool (netMark n m)) ∧ Below w.heap.size w w' := by
  have hw : Below w.heap.size w (w.alloc (.cells #[.int .i64 n.ins, .slice A n.gs.length c] 25)) := (Below.refl _ _).alloc (Nat.le_refl _) _
  unfold netMark
  generalize hK : (1 + n.ins + (n.gs.length : Int)) = K
  have HK := Lib.hid hK
  have k0 : 0 ≤ K := by omega
  have k1 : K ≤ 3000000 := by omega
  clear hK
  go_enter Try.func29, Try.ntmps29
  go_wp2_with (go_at_call 56; refine (l6Many_any A c n.gs.length n.ins _ hn (by omega) h1).mono ?_; rw [HK.out]; rintro e w' ⟨rfl, hb⟩)
  all_goals
    go_ret
    refine ⟨ret_bool ?_, bthen hw hb⟩
    first
      | (simp [sigOf, *]; done)
      | (simp [sigOf, *]; omega)

/-- Is the gate right at place k of a net with so much coming in? -/
def okG (ins : Int) (k : Nat) (g : G) : Bool :=
  decide (-(1 + ins + k) ≤ g.a) && decide (g.a ≤ 1 + ins + k) && decide (-(1 + ins + k) ≤ g.b) && decide (g.b ≤ 1 + ins + k) && decide (2 ≤ (g.a.natAbs : Int)) && decide ((g.a.natAbs : Int) < g.b.natAbs) && !(g.x && (decide (g.a < 0) || decide (g.b < 0)))
def goodG (n : N) (k : Nat) (g : G) : Bool := okG n.ins k g && !(n.gs.take k).contains g
def okInts (n : N) : Prop := ∀ g ∈ n.gs, (-9223372036854775808 ≤ g.a ∧ g.a ≤ 9223372036854775807) ∧ (-9223372036854775808 ≤ g.b ∧ g.b ≤ 9223372036854775807)

theorem okG_no {K a b na nb : Int} {gx : Bool} (h : a < -K ∨ K < a ∨ b < -K ∨ K < b ∨ na < 2 ∨ nb ≤ na) :
    (decide (-K ≤ a) && decide (a ≤ K) && decide (-K ≤ b) && decide (b ≤ K) && decide (2 ≤ na) && decide (na < nb) && !(gx && (decide (a < 0) || decide (b < 0)))) = false := by
  rw [Bool.eq_false_iff]
  intro e
  simp only [Bool.and_eq_true, decide_eq_true_eq] at e
  omega
theorem okG_yes {K a b na nb : Int} {gx : Bool} (h1 : -K ≤ a) (h2 : a ≤ K) (h3 : -K ≤ b) (h4 : b ≤ K) (h5 : 2 ≤ na) (h6 : na < nb) :
    (decide (-K ≤ a) && decide (a ≤ K) && decide (-K ≤ b) && decide (b ≤ K) && decide (2 ≤ na) && decide (na < nb) && !(gx && (decide (a < 0) || decide (b < 0)))) = !(gx && (decide (a < 0) || decide (b < 0))) := by
  simp [h1, h2, h3, h4, h5, h6]

set_option maxRecDepth 100000 in
set_option maxHeartbeats 4000000 in
theorem l6Gate_any (A : Option Addr) (c : Nat) (n : N) (k : Nat) (hk : k < n.gs.length) (w : World) (h : Lay.gate.Rd w A n.gs) (hn : n.gs.length ≤ 1048576) (hi : okInts n) (h0 : 0 ≤ n.ins) (h1 : n.ins ≤ 1000000) :
    Calls Try.prog 43 #[.agg #[.int .i64 n.ins, .slice A n.gs.length c], .int .i64 k] w fun e w' => e = .returned (.bool (goodG n k n.gs[k])) ∧ Below w.heap.size w w' := by
  obtain ⟨ad, rfl, hf, hc⟩ := h.at_gate hk
  have hw : Below w.heap.size w (w.alloc (.cells #[.int .i64 n.ins, .slice (some ad) n.gs.length c] 25)) := (Below.refl _ _).alloc (Nat.le_refl _) _
  obtain ⟨c1, c2, c3⟩ := gate_up hw hf hc
  obtain ⟨⟨a0, a1⟩, b0, b1⟩ := hi n.gs[k] (List.getElem_mem _)
  have HG := Lib.hid (show goodG n k n.gs[k] = (okG n.ins k n.gs[k] && !(n.gs.take k).contains n.gs[k]) from rfl)
  unfold okG at HG
  have hk1 : (k : Int) < n.gs.length := by omega
  have hK0 : (0 : Int) ≤ 1 + n.ins + k := by omega
  have hK1 : 1 + n.ins + (k : Int) ≤ 3000000 := by omega
  generalize hgg : n.gs[k] = g at *
  obtain ⟨gx, ga, gb⟩ := g
  have HGG := Lib.hid hgg
  clear hgg hc hi
  dsimp only at c1 c2 c3 a0 a1 b0 b1 HG
  have hab : -9223372036854775808 < ga → ga.natAbs < 9223372036854775808 := by omega
  generalize hna : (ga.natAbs : Int) = na at *
  generalize hnb : (gb.natAbs : Int) = nb at *
  have qa : ∀ W : World, -9223372036854775808 < ga → Calls Try.prog 57 #[.int .i64 ga] W fun e w' => e = .returned (.int .i64 na) ∧ W = w' := fun W h => by rw [← hna]; exact l4Abs_any ga W h a1
  have qb : ∀ W : World, -9223372036854775808 < gb → Calls Try.prog 57 #[.int .i64 gb] W fun e w' => e = .returned (.int .i64 nb) ∧ W = w' := fun W h => by rw [← hnb]; exact l4Abs_any gb W h b1
  have Qa := Lib.hid qa
  have Qb := Lib.hid qb
  generalize hKK : 1 + n.ins + (k : Int) = K at *
  have HKK := Lib.hid hKK
  clear qa qb hna hnb hab hKK
  have hww := ((Below.refl w.heap.size w).alloc (Nat.le_refl _) (.cells #[.int .i64 n.ins, .slice (some ad) n.gs.length c] 25)).alloc (by simp) (.cells #[.bool gx, .int .i64 ga, .int .i64 gb] 58)
  go_enter Try.func43, Try.ntmps43
  go_wp2
  rw [show Value.int IntKind.i64 (1 + n.ins + (k : Int)) = .int .i64 K from by rw [HKK.out]]
  by_cases q0 : ga < -K
  · have d0 : decide (ga < -K) = true := decide_eq_true q0
    go_quiet (fail)
    go_wp2
    go_ret
    exact ⟨ret_bool (by rw [HG.out, okG_no (by omega)]; rfl), below_drewN hww _⟩
  have d0 : decide (ga < -K) = false := decide_eq_false q0
  by_cases q1 : K < ga
  · have d1 : decide (K < ga) = true := decide_eq_true q1
    go_quiet (fail)
    go_wp2
    go_ret
    exact ⟨ret_bool (by rw [HG.out, okG_no (by omega)]; rfl), below_drewN hww _⟩
  have d1 : decide (K < ga) = false := decide_eq_false q1
  by_cases q2 : gb < -K
  · have d2 : decide (gb < -K) = true := decide_eq_true q2
    go_quiet (fail)
    go_wp2
    go_ret
    exact ⟨ret_bool (by rw [HG.out, okG_no (by omega)]; rfl), below_drewN hww _⟩
  have d2 : decide (gb < -K) = false := decide_eq_false q2
  by_cases q3 : K < gb
  · have d3 : decide (K < gb) = true := decide_eq_true q3
    go_quiet (fail)
    go_wp2
    go_ret
    exact ⟨ret_bool (by rw [HG.out, okG_no (by omega)]; rfl), below_drewN hww _⟩
  have d3 : decide (K < gb) = false := decide_eq_false q3
  by_cases q4 : na < 2
  · have d4 : decide (na < 2) = true := decide_eq_true q4
    go_quiet ((first | (go_at_call 57; with_reducible exact quiet_left (Qa.out _ (by omega))) | (go_at_call 57; with_reducible exact quiet_left (Qb.out _ (by omega)))))
    go_wp2
    go_ret
    exact ⟨ret_bool (by rw [HG.out, okG_no (by omega)]; rfl), below_drewN hww _⟩
  have d4 : decide (na < 2) = false := decide_eq_false q4
  by_cases q5 : nb ≤ na
  · have d5 : decide (nb ≤ na) = true := decide_eq_true q5
    go_quiet ((first | (go_at_call 57; with_reducible exact quiet_left (Qa.out _ (by omega))) | (go_at_call 57; with_reducible exact quiet_left (Qb.out _ (by omega)))))
    go_wp2
    go_ret
    exact ⟨ret_bool (by rw [HG.out, okG_no (by omega)]; rfl), below_drewN hww _⟩
  have d5 : decide (nb ≤ na) = false := decide_eq_false q5
  go_quiet ((first | (go_at_call 57; with_reducible exact quiet_left (Qa.out _ (by omega))) | (go_at_call 57; with_reducible exact quiet_left (Qb.out _ (by omega)))))
  clear d0 d1 d2 d3 d4 d5
  have HG2 := Lib.hid (show goodG n k ⟨gx, ga, gb⟩ = (!(gx && (decide (ga < 0) || decide (gb < 0))) && !(n.gs.take k).contains ⟨gx, ga, gb⟩) by rw [HG.out, okG_yes (by omega) (by omega) (by omega) (by omega) (by omega) (by omega)])
  clear HG
  by_cases hx : (gx && (decide (ga < 0) || decide (gb < 0))) = true
  · have HX := Lib.hid (show goodG n k ⟨gx, ga, gb⟩ = false by rw [HG2.out, hx]; rfl)
    simp only [Bool.and_eq_true, Bool.or_eq_true, decide_eq_true_eq] at hx
    obtain ⟨rfl, hx⟩ := hx
    clear HG2
    by_cases hx1 : ga < 0
    all_goals
      go_wp2
      go_ret
      exact ⟨ret_bool (by rw [HX.out]), below_drewN hww _⟩
  · have HX := Lib.hid (show goodG n k ⟨gx, ga, gb⟩ = !(n.gs.take k).contains ⟨gx, ga, gb⟩ by rw [HG2.out, Bool.eq_false_iff.2 hx]; rfl)
    have hx' : gx = true → 0 ≤ ga ∧ 0 ≤ gb := by
      intro e; subst e
      simp only [Bool.true_and, Bool.or_eq_true, decide_eq_true_eq] at hx
      omega
    clear HG2 hx
    have v1 : ((w.alloc (.cells #[.int .i64 n.ins, .slice (some ad) n.gs.length c] 25)).alloc (.cells #[.bool gx, .int .i64 ga, .int .i64 gb] 58)).cell? ⟨w.heap.size, 1, none⟩ = some (.slice (some ad) n.gs.length c) := by simp [go_sem]
    have v2 : ((w.alloc (.cells #[.int .i64 n.ins, .slice (some ad) n.gs.length c] 25)).alloc (.cells #[.bool gx, .int .i64 ga, .int .i64 gb] 58)).cell? ⟨w.heap.size + 1, 0, none⟩ = some (.bool gx) := by simp [go_sem]
    have v3 : ((w.alloc (.cells #[.int .i64 n.ins, .slice (some ad) n.gs.length c] 25)).alloc (.cells #[.bool gx, .int .i64 ga, .int .i64 gb] 58)).cell? ⟨w.heap.size + 1, 1, none⟩ = some (.int .i64 ga) := by simp [go_sem]
    have v4 : ((w.alloc (.cells #[.int .i64 n.ins, .slice (some ad) n.gs.length c] 25)).alloc (.cells #[.bool gx, .int .i64 ga, .int .i64 gb] 58)).cell? ⟨w.heap.size + 1, 2, none⟩ = some (.int .i64 gb) := by simp [go_sem]
    generalize ((w.alloc (.cells #[.int .i64 n.ins, .slice (some ad) n.gs.length c] 25)).alloc (.cells #[.bool gx, .int .i64 ga, .int .i64 gb] 58)) = W at *
    have hxx : gx = false ∨ (gx = true ∧ 0 ≤ ga ∧ 0 ≤ gb) := by
      cases gx
      · exact .inl rfl
      · exact .inr ⟨rfl, hx' rfl⟩
    clear hx'
    have hkk : (n.gs.take k).contains ⟨gx, ga, gb⟩ = true ↔ ∃ i', i' < k ∧ n.gs[i']? = some ⟨gx, ga, gb⟩ := by
      rw [List.contains_iff_mem, List.mem_iff_getElem?]
      constructor
      · rintro ⟨i', hi'⟩
        rw [List.getElem?_take] at hi'
        split at hi'
        · exact ⟨i', by assumption, hi'⟩
        · cases hi'
      · rintro ⟨i', h1, h2⟩
        exact ⟨i', by rw [List.getElem?_take, if_pos h1, h2]⟩
    have HKK := Lib.hid hkk
    have hW : Below w.heap.size w W := hww
    have HE := Lib.hid (fun (W : World) (g : G) => eqlG W g ⟨gx, ga, gb⟩)
    clear hkk
    rcases hxx with hxf | ⟨hxf, hx1, hx2⟩
    all_goals
      go_wp2
      clear hxf
      go_loopw [7] (fun i wr => ∃ j m : Nat, j ≤ k ∧ i = .int .i64 j ∧ wr = W.drewN m ∧ ∀ i', i' < j → n.gs[i']? ≠ some ⟨gx, ga, gb⟩) (fun i _ => k - (intOf i).toNat)
      case atStart => exact ⟨0, nq, Nat.zero_le _, rfl, rfl, fun i' h => absurd h (by omega)⟩
      case round =>
        obtain ⟨j, m, hj, rfl, rfl, hnot⟩ := hrel
        have HN := Lib.hid hnot
        clear hnot
        by_cases hlt : j < k
        · have hjl : j < n.gs.length := by omega
          obtain ⟨ad', e, hf', hcj⟩ := h.at_gate hjl
          cases e
          obtain ⟨j1, j2, j3⟩ := gate_up hW hf' hcj
          have hj0 : (0 : Int) ≤ j := by omega
          have hj1 : (j : Int) < n.gs.length := by omega
          have hgj : n.gs[j]? = some n.gs[j] := List.getElem?_eq_getElem hjl
          have HGJ := Lib.hid hgj
          clear hgj hcj
          generalize n.gs[j] = gj at *
          by_cases hq : gj = ⟨gx, ga, gb⟩
          · have he : ∀ W' : World, (binOp .eql 58 (.agg #[.bool gj.x, .int .i64 gj.a, .int .i64 gj.b]) (.agg #[.bool gx, .int .i64 ga, .int .i64 gb])).run Try.prog W' = .ok (.bool true) W' := fun W' => by rw [HE.out W' gj, decide_eq_true hq]
            have HQ := Lib.hid hq
            clear hq
            go_wp2
            go_quiet (fail)
            go_wp2
            go_ret
            exact ⟨ret_bool (by rw [HX.out, HKK.out.2 ⟨j, hlt, by rw [HGJ.out, HQ.out]⟩]; rfl), below_drewN (below_drewN hW _) _⟩
          · have he : ∀ W' : World, (binOp .eql 58 (.agg #[.bool gj.x, .int .i64 gj.a, .int .i64 gj.b]) (.agg #[.bool gx, .int .i64 ga, .int .i64 gb])).run Try.prog W' = .ok (.bool false) W' := fun W' => by rw [HE.out W' gj, decide_eq_false hq]
            have HQ := Lib.hid hq
            clear hq
            go_wp2
            go_quiet (fail)
            go_wp2
            go_roundw
            case rel => exact ⟨j + 1, _, by omega, by go_num, rfl, fun i' hi' => by
              rcases Nat.lt_or_ge i' j with h' | h'
              · exact HN.out i' h'
              · have : i' = j := by omega
                subst this; rw [HGJ.out]; intro e; injection e with e; exact HQ.out e⟩
            case measure => simp [intOf]; omega
        · have : j = k := by omega
          subst this
          go_wp2
          go_ret
          refine ⟨ret_bool ?_, below_drewN hW _⟩
          rw [HX.out]
          have : ¬ (n.gs.take j).contains ⟨gx, ga, gb⟩ = true := by
            rw [HKK.out]; rintro ⟨i', h1, h2⟩; exact HN.out i' h1 h2
          simpa using this
end Go.Proofs.Ytcdlfnhjpjpbjaa
