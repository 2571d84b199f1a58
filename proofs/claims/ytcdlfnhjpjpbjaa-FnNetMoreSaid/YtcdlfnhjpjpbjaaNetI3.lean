/- The program's reader of nets. -/
import Derived.Test.YtcdlfnhjpjpbjaaNetI2
namespace Go.Proofs.Ytcdlfnhjpjpbjaa
open Go Go.RowKit Go.Maps

/-- What the reader of a net leaves. -/
def RetReadN (w : World) (n : N) (e : Ending) (w' : World) : Prop :=
  Below w.heap.size w w' ∧ ((netOk n = true ∧ ∃ r, e = .returned (.tuple #[.pointer (some ⟨r, 0, none⟩), .bool true]) ∧ Circ w.heap.size w' r n n.gs) ∨ (netOk n = false ∧ e = .returned (.tuple #[.pointer none, .bool false])))
theorem read_no {w w' : World} {n : N} (h : netOk n = false) (hb : Below w.heap.size w w') : RetReadN w n (.returned (.tuple #[.pointer none, .bool false])) w' := ⟨hb, .inr ⟨h, rfl⟩⟩

def Fact.rowG (lo : Nat) (xs : List G) : Fact :=
  .of (fun v x => ∃ A c, v = .slice A xs.length c ∧ OwnGs x lo (.slice A xs.length c) xs) fun _ _ _ ⟨A, c, h1, h2⟩ hb => ⟨A, c, h1, h2.up hb⟩
def Fact.netG (lo : Nat) (n : N) : Fact :=
  .of (fun v x => ∃ A c, v = .agg #[.int .i64 n.ins, .slice A n.gs.length c] ∧ OwnGs x lo (.slice A n.gs.length c) n.gs) fun _ _ _ ⟨A, c, h1, h2⟩ hb => ⟨A, c, h1, h2.up hb⟩
def Fact.mapG (lo : Nat) (ins : Int) : Fact :=
  .of (fun v x => ∃ b, v = .map (some b) ∧ lo ≤ b ∧ KnownAt x b ins []) fun _ _ _ ⟨b, h1, h2, h3⟩ hb => ⟨b, h1, h2, h3.keep (hb.block b h3.lt)⟩
def Fact.circG (lo : Nat) (n : N) : Fact :=
  .of (fun v x => ∃ A c b, v = .agg #[.int .i64 n.ins, .slice A n.gs.length c, .map (some b)] ∧ OwnGs x lo (.slice A n.gs.length c) n.gs ∧ lo ≤ b ∧ KnownAt x b n.ins []) fun _ _ _ ⟨A, c, b, h1, h2, h3, h4⟩ hb => ⟨A, c, b, h1, h2.up hb, h3, h4.keep (hb.block b h4.lt)⟩
def Fact.ptrG (W : World) (n : N) : Fact :=
  .of (fun v x => ∃ r, v = .pointer (some ⟨r, 0, none⟩) ∧ Circ W.heap.size x r n [] ∧ Below W.heap.size W x) fun _ _ _ ⟨r, h1, h2, h3⟩ hb => ⟨r, h1, h2.up hb, bthen h3 hb⟩

theorem good_no_ok {n : N} {k : Nat} {g : G} (hg : n.gs[k]? = some g) (hk : k < n.gs.length) (h : g.a < -(1 + n.ins + k) ∨ 1 + n.ins + k < g.a ∨ g.b < -(1 + n.ins + k) ∨ 1 + n.ins + k < g.b ∨ (g.a.natAbs : Int) < 2 ∨ (g.b.natAbs : Int) ≤ g.a.natAbs) : netOk n = false := by
  refine netOk_no (.inr (.inr (.inr ⟨k, hk, ?_⟩)))
  unfold goodAt goodG okG
  rw [hg]
  simp only [okG_no h, Bool.false_and]
theorem good_no_x {n : N} {k : Nat} {g : G} (hg : n.gs[k]? = some g) (hk : k < n.gs.length) (h : g.x = true ∧ (g.a < 0 ∨ g.b < 0)) : netOk n = false := by
  refine netOk_no (.inr (.inr (.inr ⟨k, hk, ?_⟩)))
  unfold goodAt goodG okG
  rw [hg, Bool.eq_false_iff]
  intro e
  simp only [Bool.and_eq_true, Bool.not_eq_true', Bool.and_eq_false_iff, Bool.or_eq_false_iff, decide_eq_false_iff_not] at e
  obtain ⟨⟨_, e⟩, _⟩ := e
  rcases e with e | ⟨e1, e2⟩
  · rw [h.1] at e; cases e
  · omega
theorem good_no_mem {n : N} {k : Nat} {g : G} (hg : n.gs[k]? = some g) (hk : k < n.gs.length) (h : g ∈ n.gs.take k) : netOk n = false := by
  refine netOk_no (.inr (.inr (.inr ⟨k, hk, ?_⟩)))
  unfold goodAt goodG
  rw [hg]
  have : (n.gs.take k).contains g = true := List.contains_iff_mem.2 h
  simp only [this, Bool.not_true, Bool.and_false]
theorem good_yes {n : N} {k : Nat} {g : G} (hg : n.gs[k]? = some g) (h1 : -(1 + n.ins + k) ≤ g.a) (h2 : g.a ≤ 1 + n.ins + k) (h3 : -(1 + n.ins + k) ≤ g.b) (h4 : g.b ≤ 1 + n.ins + k) (h5 : 2 ≤ (g.a.natAbs : Int)) (h6 : (g.a.natAbs : Int) < g.b.natAbs)
    (hx : ¬ (g.x = true ∧ (g.a < 0 ∨ g.b < 0))) (hm : g ∉ n.gs.take k) : goodAt n k = true := by
  unfold goodAt goodG okG
  rw [hg]
  simp only [okG_yes h1 h2 h3 h4 h5 h6]
  have hc : (n.gs.take k).contains g = false := by
    cases h : (n.gs.take k).contains g with
    | false => rfl
    | true => exact absurd (List.contains_iff_mem.1 h) hm
  rw [hc]
  cases hgx : g.x with
  | false => rfl
  | true =>
    have : ¬ (g.a < 0 ∨ g.b < 0) := fun h => hx ⟨hgx, h⟩
    have h7 : decide (g.a < 0) = false := by simp; omega
    have h8 : decide (g.b < 0) = false := by simp; omega
    rw [h7, h8]; rfl

set_option maxRecDepth 100000 in
set_option maxHeartbeats 8000000 in
theorem readNet_any (A : Option Addr) (c : Nat) (n : N) (w : World) (h : Lay.gate.Rd w A n.gs) (hn : n.gs.length ≤ 1048576) (hA : A = none → n.gs.length = 0) (hi : okInts n) :
    Calls Try.prog 33 #[.agg #[.int .i64 n.ins, .slice A n.gs.length c]] w (RetReadN w n) := by
  have hw : Below w.heap.size w (w.alloc (.cells #[.int .i64 n.ins, .slice A n.gs.length c] 25)) := (Below.refl _ _).alloc (Nat.le_refl _) _
  by_cases h0 : n.ins < 0
  · have HN := Lib.hid (netOk_no (.inl h0))
    go_enter Try.func33, Try.ntmps33
    go_wp2
    go_ret2
    exact read_no HN.out hw
  by_cases h1 : 8 < n.ins
  · have HN := Lib.hid (netOk_no (.inr (.inl h1)))
    go_enter Try.func33, Try.ntmps33
    go_wp2
    go_ret2
    exact read_no HN.out hw
  by_cases h2 : 600 < n.gs.length
  · have HN := Lib.hid (netOk_no (.inr (.inr (.inl h2))))
    go_enter Try.func33, Try.ntmps33
    go_wp2
    go_ret2
    exact read_no HN.out hw
  have v0 : (w.alloc (.cells #[.int .i64 n.ins, .slice A n.gs.length c] 25)).cell? ⟨w.heap.size, 0, none⟩ = some (.int .i64 n.ins) := by simp [go_sem]
  have v1 : (w.alloc (.cells #[.int .i64 n.ins, .slice A n.gs.length c] 25)).cell? ⟨w.heap.size, 1, none⟩ = some (.slice A n.gs.length c) := by simp [go_sem]
  have hlo1 : w.heap.size ≤ (w.alloc (.cells #[.int .i64 n.ins, .slice A n.gs.length c] 25)).heap.size := by simp
  have H := h.up hw
  go_enter Try.func33, Try.ntmps33
  go_wp2
  generalize w.alloc (.cells #[.int .i64 n.ins, .slice A n.gs.length c] 25) = W1 at *
  have d0 := Later.cell v0
  have d1 := Later.cell v1

  refine wp_region_shares [[], [(0, 25)], [], [(2, 27)], [(3, 28)], [(1, 26), (4, 29)], [], [(5, 30), (6, 31)], [(7, 32)], [(8, 33)]]
    [.eq (.pointer (some ⟨w.heap.size, 0, none⟩)), .eq (.int .i64 n.ins), .eq (.pointer (some ⟨w.heap.size, 1, none⟩)), .eq (.slice A n.gs.length c), Fact.rowG W1.heap.size n.gs, Fact.netG W1.heap.size n, Fact.mapG W1.heap.size n.ins, Fact.circG W1.heap.size n, Fact.ptrG W1 n, Fact.ptrG W1 n]
    [] [] [] [9] [(0, 25), (1, 26), (2, 27), (3, 28), (4, 29), (5, 30), (6, 31), (7, 32), (8, 33), (9, 4)] (by kernel_rfl) (by kernel_rfl) (by kernel_rfl) (by kernel_rfl)
    ⟨?_, ?_, ?_, ?_, ?_, ?_, ?_, ?_, ?_, ?_, trivial⟩ ?_
  · intro vals x hC hF
    simp only [putsD, Act.put, List.setIfInBounds_toArray, List.set_cons_zero, List.set_cons_succ]
    go_wp2
    exact ⟨rfl, rfl, .inr (Below.refl _ _), .inr (.inl (by simp))⟩
  · intro vals x hC hF
    have hC := hC.resolve_left (by simp)
    have hsz := hC.size
    have e1 : x.cell? _ = _ := d0 ⟨x, hC⟩
    simp only [factsD, List.getD_cons_zero, List.getD_cons_succ, Fact.eq, Fact.row, Fact.lit, Fact.lit0, Fact.of, and_true, Fact.rowG, Fact.netG, Fact.mapG, Fact.circG, Fact.ptrG] at hF
    simp only [putsD, Act.put, List.setIfInBounds_toArray, List.set_cons_zero, List.set_cons_succ]
    simp only [hF]
    go_wp2
    exact ⟨rfl, rfl, .inr (Below.refl _ _), .inr (.inl (by simp))⟩
  · intro vals x hC hF
    simp only [putsD, Act.put, List.setIfInBounds_toArray, List.set_cons_zero, List.set_cons_succ]
    go_wp2
    exact ⟨rfl, rfl, .inr (Below.refl _ _), .inr (.inl (by simp))⟩
  · intro vals x hC hF
    have hC := hC.resolve_left (by simp)
    have hsz := hC.size
    have e1 : x.cell? _ = _ := d1 ⟨x, hC⟩
    simp only [factsD, List.getD_cons_zero, List.getD_cons_succ, Fact.eq, Fact.row, Fact.lit, Fact.lit0, Fact.of, and_true, Fact.rowG, Fact.netG, Fact.mapG, Fact.circG, Fact.ptrG] at hF
    simp only [putsD, Act.put, List.setIfInBounds_toArray, List.set_cons_zero, List.set_cons_succ]
    simp only [hF]
    go_wp2
    exact ⟨rfl, rfl, .inr (Below.refl _ _), .inr (.inl (by simp))⟩
  · intro vals x hC hF
    have hC := hC.resolve_left (by simp)
    have hsz := hC.size
    simp only [factsD, List.getD_cons_zero, List.getD_cons_succ, Fact.eq, Fact.row, Fact.lit, Fact.lit0, Fact.of, and_true, Fact.rowG, Fact.netG, Fact.mapG, Fact.circG, Fact.ptrG] at hF
    simp only [putsD, Act.put, List.setIfInBounds_toArray, List.set_cons_zero, List.set_cons_succ]
    simp only [hF]
    go_wp2_with fail
    refine (clone_any A c n.gs x (H.up hC) hn hA).mono ?_
    rintro e w9 ⟨A9, c9, rfl, ho9, hb9⟩
    go_wp2
    exact ⟨rfl, ⟨A9, c9, rfl, own_mono ho9 hsz⟩, .inr hb9, .inr (.inl (by simp))⟩
  · intro vals x hC hF
    have hC := hC.resolve_left (by simp)
    have hsz := hC.size
    simp only [factsD, List.getD_cons_zero, List.getD_cons_succ, Fact.eq, Fact.row, Fact.lit, Fact.lit0, Fact.of, and_true, Fact.rowG, Fact.netG, Fact.mapG, Fact.circG, Fact.ptrG] at hF
    obtain ⟨e26, A9, c9, e29, ho9⟩ := hF
    simp only [putsD, Act.put, List.setIfInBounds_toArray, List.set_cons_zero, List.set_cons_succ]
    simp only [e26, e29]
    go_wp2
    exact ⟨rfl, ⟨A9, c9, rfl, ho9⟩, .inr (Below.refl _ _), .inr (.inl (by simp))⟩
  · intro vals x hC hF
    have hC := hC.resolve_left (by simp)
    have hsz := hC.size
    simp only [putsD, Act.put, List.setIfInBounds_toArray, List.set_cons_zero, List.set_cons_succ]
    have hmm := @run_makeMap Try.prog
    go_wp2
    exact ⟨rfl, ⟨_, rfl, hsz, _, World.ownsMap_made x _ _ _, Known.nil _⟩, .inr ((Below.refl _ _).alloc (Nat.le_refl _) _), .inr (.inl (by simp))⟩
  · intro vals x hC hF
    have hC := hC.resolve_left (by simp)
    have hsz := hC.size
    simp only [factsD, List.getD_cons_zero, List.getD_cons_succ, Fact.eq, Fact.row, Fact.lit, Fact.lit0, Fact.of, and_true, Fact.rowG, Fact.netG, Fact.mapG, Fact.circG, Fact.ptrG] at hF
    obtain ⟨⟨A9, c9, e30, ho9⟩, b9, e31, hb9, hk9⟩ := hF
    simp only [putsD, Act.put, List.setIfInBounds_toArray, List.set_cons_zero, List.set_cons_succ]
    simp only [e30, e31]
    go_wp2
    exact ⟨rfl, ⟨A9, c9, b9, rfl, ho9, hb9, hk9⟩, .inr (Below.refl _ _), .inr (.inl (by simp))⟩
  · intro vals x hC hF
    have hC := hC.resolve_left (by simp)
    have hsz := hC.size
    simp only [factsD, List.getD_cons_zero, List.getD_cons_succ, Fact.eq, Fact.row, Fact.lit, Fact.lit0, Fact.of, and_true, Fact.rowG, Fact.netG, Fact.mapG, Fact.circG, Fact.ptrG] at hF
    obtain ⟨A9, c9, b9, e32, ho9, hb9, hk9⟩ := hF
    simp only [putsD, Act.put, List.setIfInBounds_toArray, List.set_cons_zero, List.set_cons_succ]
    simp only [e32]
    go_wp2
    have hal : Below x.heap.size x (x.alloc (.cells #[.int .i64 n.ins, .slice A9 n.gs.length c9, .map (some b9)] 87)) := (Below.refl _ _).alloc (Nat.le_refl _) _
    exact ⟨rfl, ⟨_, rfl, ⟨A9, c9, b9, heap_alloc_new _ _, hsz, hb9, ho9.up hal, hk9.keep (hal.block b9 hk9.lt)⟩, bthen hC hal⟩, .inr hal, .inr (.inl (by simp))⟩
  · intro vals x hC hF
    have hC := hC.resolve_left (by simp)
    have hsz := hC.size
    simp only [factsD, List.getD_cons_zero, List.getD_cons_succ, Fact.eq, Fact.row, Fact.lit, Fact.lit0, Fact.of, and_true, Fact.rowG, Fact.netG, Fact.mapG, Fact.circG, Fact.ptrG] at hF
    obtain ⟨r9, e33, hc9, hb9⟩ := hF
    simp only [putsD, Act.put, List.setIfInBounds_toArray, List.set_cons_zero, List.set_cons_succ]
    simp only [e33]
    go_wp2
    exact ⟨rfl, ⟨r9, rfl, hc9, hb9⟩, .inr (Below.refl _ _), .inr (.inl (by simp))⟩
  · intro vals x hF
    simp only [facts, List.getD_cons_zero, List.getD_cons_succ, Fact.eq, Fact.row, Fact.lit, Fact.lit0, Fact.of, and_true, Fact.rowG, Fact.netG, Fact.mapG, Fact.circG, Fact.ptrG] at hF
    obtain ⟨r, e9, hC, hB⟩ := hF
    simp only [putsD, Act.put, List.setIfInBounds_toArray, List.set_cons_zero, List.set_cons_succ]
    simp only [e9]
    clear e9
    have z1 := (hB.cell (World.block_lt_of_cell? W1 _ v1)).trans v1
    go_wp2
    clear z1
    go_loopw [37] (fun i wr => ∃ k : Nat, k ≤ n.gs.length ∧ i = .int .i64 k ∧ Below W1.heap.size W1 wr ∧ Circ W1.heap.size wr r n (n.gs.take k) ∧ ∀ i', i' < k → goodAt n i' = true) (fun i _ => n.gs.length - (intOf i).toNat)
    case atStart => exact ⟨0, Nat.zero_le _, rfl, hB, hC, fun i' h => absurd h (by omega)⟩
    case round =>
      obtain ⟨k, hk, rfl, hb, hCk, hg⟩ := hrel
      have HG := Lib.hid hg
      clear hg hB hC d0 d1
      by_cases hlt : k < n.gs.length
      · obtain ⟨ad, rfl, hf, g1, g2, g3⟩ := (H.up hb).at_gate hlt
        have hgk : n.gs[k]? = some n.gs[k] := List.getElem?_eq_getElem hlt
        obtain ⟨⟨a0, a1⟩, b0, b1⟩ := hi n.gs[k] (List.getElem_mem _)
        generalize n.gs[k] = g at *
        obtain ⟨gx, ga, gb⟩ := g
        dsimp only at g1 g2 g3 a0 a1 b0 b1
        have HGK := Lib.hid hgk
        obtain ⟨na, hna⟩ : ∃ na : Int, na = ga.natAbs := ⟨_, rfl⟩
        obtain ⟨nb, hnb⟩ : ∃ nb : Int, nb = gb.natAbs := ⟨_, rfl⟩
        have qa : ∀ W : World, -9223372036854775808 < ga → Calls Try.prog 62 #[.int .i64 ga] W fun e w' => e = .returned (.int .i64 na) ∧ W = w' := fun W h9 => by rw [hna]; exact node_any ga W h9 a1
        have qb : ∀ W : World, -9223372036854775808 < gb → Calls Try.prog 62 #[.int .i64 gb] W fun e w' => e = .returned (.int .i64 nb) ∧ W = w' := fun W h9 => by rw [hnb]; exact node_any gb W h9 b1
        have Qa := Lib.hid qa
        have Qb := Lib.hid qb
        have NA := Lib.hid hna
        have NB := Lib.hid hnb
        clear qa qb hgk hna hnb
        have hk1 : (k : Int) < n.gs.length := by omega
        have y0 := (hb.cell (World.block_lt_of_cell? W1 _ v0)).trans v0
        have y1 := (hb.cell (World.block_lt_of_cell? W1 _ v1)).trans v1
        have hS1 : w.heap.size < W1.heap.size := World.block_lt_of_cell? W1 _ v0
        have hS2 : W1.heap.size ≤ wr.heap.size := hb.size
        have hS3 : w.heap.size < wr.heap.size := Nat.lt_of_lt_of_le hS1 hS2
        have hal : Below wr.heap.size wr (wr.alloc (.cells #[.bool gx, .int .i64 ga, .int .i64 gb] 58)) := (Below.refl _ _).alloc (Nat.le_refl _) _
        have hSg : (wr.alloc (.cells #[.bool gx, .int .i64 ga, .int .i64 gb] 58)).heap[wr.heap.size]? = some (.cells #[.bool gx, .int .i64 ga, .int .i64 gb] 58 (0, 0)) := heap_alloc_new _ _
        have hCal := hCk.up hal
        have t0 : (wr.alloc (.cells #[.bool gx, .int .i64 ga, .int .i64 gb] 58)).cell? ⟨w.heap.size, 0, none⟩ = some (.int .i64 n.ins) := ((bcell hal).1 _ _ hS3).trans y0
        have t1 : (wr.alloc (.cells #[.bool gx, .int .i64 ga, .int .i64 gb] 58)).cell? ⟨w.heap.size, 1, none⟩ = some (.slice (some ad) n.gs.length c) := ((bcell hal).1 _ _ hS3).trans y1
        go_wp2
        go_quiet (fail)
        go_wp2_with fail
        have u0 : ((wr.alloc (.cells #[.bool gx, .int .i64 ga, .int .i64 gb] 58)).drewN nq).cell? ⟨w.heap.size, 0, none⟩ = some (.int .i64 n.ins) := t0
        have u1 : ((wr.alloc (.cells #[.bool gx, .int .i64 ga, .int .i64 gb] 58)).drewN nq).cell? ⟨w.heap.size, 1, none⟩ = some (.slice (some ad) n.gs.length c) := t1
        have u2 : ((wr.alloc (.cells #[.bool gx, .int .i64 ga, .int .i64 gb] 58)).drewN nq).heap[wr.heap.size]? = some (.cells #[.bool gx, .int .i64 ga, .int .i64 gb] 58 (0, 0)) := hSg
        have hC0 : Circ W1.heap.size ((wr.alloc (.cells #[.bool gx, .int .i64 ga, .int .i64 gb] 58)).drewN nq) r n (n.gs.take k) := hCal.up (below_drewN (Below.refl _ _) nq)
        have hB0 : Below W1.heap.size W1 ((wr.alloc (.cells #[.bool gx, .int .i64 ga, .int .i64 gb] 58)).drewN nq) := below_drewN (bthen hb hal) nq
        have hlow0 : W1.heap.size ≤ ((wr.alloc (.cells #[.bool gx, .int .i64 ga, .int .i64 gb] 58)).drewN nq).heap.size := hB0.size
        generalize (wr.alloc (.cells #[.bool gx, .int .i64 ga, .int .i64 gb] 58)).drewN nq = W0 at *
        clear t0 t1 hSg hCal hal y0 y1 g1 g2 g3 hCk v0 v1 hS2
        have d0 := Later.cell u0
        have d1 := Later.cell u1
        have d2 := Later.cell (show W0.cell? ⟨wr.heap.size, 0, none⟩ = some (.bool gx) from (cell_of_block u2 0).1)
        have d3 := Later.cell (show W0.cell? ⟨wr.heap.size, 1, none⟩ = some (.int .i64 ga) from (cell_of_block u2 1).1)
        have d4 := Later.cell (show W0.cell? ⟨wr.heap.size, 2, none⟩ = some (.int .i64 gb) from (cell_of_block u2 2).1)
        have U2 := Lib.hid u2
        clear u0 u1 u2
        refine (nodes_any (some ad) c n.gs.length n.ins k W0 (by omega) (by omega) (by omega) (by omega)).mono ?_
        rintro e w2 ⟨rfl, hb2⟩
        obtain ⟨x1, rfl⟩ : ∃ x : Later W0, w2 = x.W := ⟨⟨w2, hb2⟩, rfl⟩
        clear hb2
        go_wp2_with fail
        refine (of_any ga _ _ a0 a1 (by omega) (by omega)).mono ?_
        rintro e w2 ⟨rfl, rfl⟩
        cases sa : sigOf ga (1 + n.ins + k)
        · have SA : Hid (netOk n = false) := Lib.hid (good_no_ok HGK.out hlt (by simp [sigOf] at sa; have := NA.out; dsimp only; omega))
          go_wp2
          go_ret2
          exact read_no SA.out (bthen hw ((hB0.trans (x1.le.mono hlow0))))
        have hsa : ga ≠ 0 ∧ -(1 + n.ins + k) ≤ ga ∧ ga ≤ 1 + n.ins + k := by simpa [sigOf] using sa
        obtain ⟨sa0, sa1, sa2⟩ := hsa
        clear sa
        go_wp2_with fail
        refine (nodes_any (some ad) c n.gs.length n.ins k x1.W (by omega) (by omega) (by omega) (by omega)).mono ?_
        rintro e w2 ⟨rfl, hb2⟩
        obtain ⟨x2, rfl⟩ : ∃ x : Later W0, w2 = x.W := ⟨⟨w2, bthen x1.le hb2⟩, rfl⟩
        clear hb2
        go_wp2_with fail
        refine (of_any gb _ _ b0 b1 (by omega) (by omega)).mono ?_
        rintro e w2 ⟨rfl, rfl⟩
        have hB2 := hB0.trans (x2.le.mono hlow0)
        cases sb : sigOf gb (1 + n.ins + k)
        · have SA : Hid (netOk n = false) := Lib.hid (good_no_ok HGK.out hlt (by simp [sigOf] at sb; have := NA.out; have := NB.out; dsimp only; omega))
          go_wp2
          go_ret2
          exact read_no SA.out (bthen hw hB2)
        have hsb : gb ≠ 0 ∧ -(1 + n.ins + k) ≤ gb ∧ gb ≤ 1 + n.ins + k := by simpa [sigOf] using sb
        obtain ⟨sb0, sb1, sb2⟩ := hsb
        clear sb
        go_wp2_with fail
        refine (Qa.out _ (by omega)).mono ?_
        rintro e w2 ⟨rfl, rfl⟩
        by_cases p1 : na = 1
        · have hp1 : (na == 1) = true := by simp [p1]
          have SA : Hid (netOk n = false) := Lib.hid (good_no_ok HGK.out hlt (by have := NA.out; dsimp only; omega))
          clear p1
          go_wp2
          go_ret2
          exact read_no SA.out (bthen hw hB2)
        have hp1 : (na == 1) = false := by simp [p1]
        have hp2 : 2 ≤ na := by have := NA.out; omega
        clear p1
        go_wp2_with fail
        refine (Qb.out _ (by omega)).mono ?_
        rintro e w2 ⟨rfl, rfl⟩
        by_cases p3 : nb = 1
        · have hp3 : (nb == 1) = true := by simp [p3]
          have SA : Hid (netOk n = false) := Lib.hid (good_no_ok HGK.out hlt (by have := NA.out; have := NB.out; dsimp only; omega))
          clear p3
          go_wp2
          go_ret2
          exact read_no SA.out (bthen hw hB2)
        have hp3 : (nb == 1) = false := by simp [p3]
        clear p3
        go_wp2_with fail
        refine (Qa.out _ (by omega)).mono ?_
        rintro e w2 ⟨rfl, rfl⟩
        go_wp2_with fail
        refine (Qb.out _ (by omega)).mono ?_
        rintro e w2 ⟨rfl, rfl⟩
        by_cases p5 : nb ≤ na
        · have SA : Hid (netOk n = false) := Lib.hid (good_no_ok HGK.out hlt (by have := NA.out; have := NB.out; dsimp only; omega))
          go_wp2
          go_ret2
          exact read_no SA.out (bthen hw hB2)
        clear hp1 hp3
        have hC2 := hC0.up x2.le
        obtain ⟨A2, c2, b2, hr2, hrlo, hblo, hown2, hkn2⟩ := hC2
        have z2 : x2.W.cell? ⟨r, 2, none⟩ = some (.map (some b2)) := (cell_of_block hr2 2).1
        have hokg : okGi (⟨gx, ga, gb⟩ : G) := ⟨⟨a0, a1⟩, b0, b1⟩
        obtain ⟨cc, _, hlook⟩ := hkn2.look (⟨gx, ga, gb⟩ : G) hokg true
        have hl : ∀ m, (Instr.lookup 85 (.map (some b2)) (.agg #[.bool gx, .int .i64 ga, .int .i64 gb]) true).run Try.prog (x2.W.drewN m) = .ok (.tuple #[.int .i64 cc, .bool (decide ((⟨gx, ga, gb⟩ : G) ∈ n.gs.take k))]) (x2.W.drewN m) := fun m => hlook (x2.W.drewN m) rfl
        have HR2 := Lib.hid hr2
        clear hlook hr2
        have hlow2 : W1.heap.size ≤ x2.W.heap.size := hB2.size
        by_cases hm : (⟨gx, ga, gb⟩ : G) ∈ n.gs.take k
        · have SA : Hid (netOk n = false) := Lib.hid (good_no_mem HGK.out hlt hm)
          rw [decide_eq_true hm] at hl
          clear hm
          go_wp2
          go_quiet (fail)
          clear hl
          go_wp2
          go_ret2
          exact read_no SA.out (below_drewN (bthen hw hB2) _)
        rw [decide_eq_false hm] at hl
        have HM := Lib.hid hm
        clear hm
        by_cases hx : gx = true ∧ (ga < 0 ∨ gb < 0)
        · have SA : Hid (netOk n = false) := Lib.hid (good_no_x HGK.out hlt hx)
          obtain ⟨hx1, hx2⟩ := hx
          subst hx1
          by_cases hx3 : ga < 0
          all_goals
            go_wp2
            go_quiet (fail)
            clear hl
            go_wp2
            go_ret2
            exact read_no SA.out (below_drewN (bthen hw hB2) _)
        have hgood := good_yes HGK.out sa1 sa2 sb1 sb2 (by have := NA.out; dsimp only; omega) (by have := NA.out; have := NB.out; dsimp only; omega) hx HM.out
        have HGD := Lib.hid hgood
        have hxx : gx = false ∨ (gx = true ∧ 0 ≤ ga ∧ 0 ≤ gb) := by
          cases gx
          · exact .inl rfl
          · have hx' : ¬ (ga < 0 ∨ gb < 0) := fun h9 => hx ⟨rfl, h9⟩
            exact .inr ⟨rfl, by omega, by omega⟩
        clear hx hgood
        have e1 : IntKind.i64.wrap (1 + n.ins + (k : Int) + 1) = 1 + n.ins + (k : Int) + 1 := IntWalk.i64_in _ (by omega)
        have E1 := Lib.hid e1
        clear e1
        rcases hxx with rfl | ⟨rfl, hx1, hx2⟩
        · go_wp2
          go_quiet (fail)
          clear hl
          go_wp2
          clear p5
          have q0 : (x2.W.drewN nq).cell? ⟨w.heap.size, 0, none⟩ = some (.int .i64 n.ins) := d0 x2
          have q1 : (x2.W.drewN nq).cell? ⟨w.heap.size, 1, none⟩ = some (.slice (some ad) n.gs.length c) := d1 x2
          have q2 := d2 x2
          change (x2.W.drewN nq).cell? _ = _ at q2
          have q3 : (x2.W.drewN nq).cell? ⟨wr.heap.size, 1, none⟩ = some (.int .i64 ga) := d3 x2
          have q4 : (x2.W.drewN nq).cell? ⟨wr.heap.size, 2, none⟩ = some (.int .i64 gb) := d4 x2
          have q5 : (x2.W.drewN nq).cell? ⟨r, 2, none⟩ = some (.map (some b2)) := z2
          have hC3 : Circ W1.heap.size (x2.W.drewN nq) r n (n.gs.take k) := Circ.up ⟨A2, c2, b2, HR2.out, hrlo, hblo, hown2, hkn2⟩ (below_drewN (Below.refl _ _) nq)
          have hB3 : Below W1.heap.size W1 (x2.W.drewN nq) := below_drewN hB2 nq
          have hr3 : (x2.W.drewN nq).heap[r]? = some (.cells #[.int .i64 n.ins, .slice A2 n.gs.length c2, .map (some b2)] 87 (0, 0)) := HR2.out
          have hown3 : OwnGs (x2.W.drewN nq) W1.heap.size (.slice A2 n.gs.length c2) n.gs := hown2
          have hkn3 : KnownAt (x2.W.drewN nq) b2 n.ins (n.gs.take k) := hkn2
          have hlow3 : W1.heap.size ≤ (x2.W.drewN nq).heap.size := hlow2
          clear d0 d1 d2 d3 d4 z2 hown2 hkn2 hlow2 hB2 hB0 hC0 hlow0
          generalize x2.W.drewN nq = W6 at *
          have q0 := Later.cell q0
          have q1 := Later.cell q1
          have q2 := Later.cell q2
          have q3 := Later.cell q3
          have q4 := Later.cell q4
          have q5 := Later.cell q5
          have HR3 := Lib.hid hr3
          have e1 := E1.out
          clear hr3
          refine wp_region_later_tail 9 (by kernel_rfl) (by kernel_rfl) ?_
          simp only [List.take_succ_cons, List.take_zero, List.drop_succ_cons, List.drop_zero]
          repeat (go_big_quiet_step ((go_at_call 61; with_reducible exact later_of_below (nodes_any (some ad) c n.gs.length n.ins k _ (by omega) (by omega) (by omega) (by omega)))))
          refine wpQuiet_nil ?_
          rintro _ ⟨x9, rfl⟩
          clear e1
          have hB9 := hB3.trans (x9.le.mono hlow3)
          have hr9 := (x9.le.block r (lt_of_block HR3.out)).trans HR3.out
          have hown9 : OwnGs x9.W W1.heap.size (.slice A2 n.gs.length c2) n.gs := own_below hown3 x9.le (Nat.le_refl _)
          obtain ⟨D, hmap9, hD⟩ := hkn3.keep (x9.le.block b2 hkn3.lt)
          have hlen : (n.gs.take k).length = k := by simp; omega
          rw [hlen] at hmap9
          have hkm : k < maxLen := by unfold maxLen; omega
          go_wp2_with (at_mapUpdate; refine wpList_mapUpdate_own _ rfl _ _ _ 85 rfl 58 3 gate_keyed Try.underlying85 _ b2 k D rfl hmap9 hkm _ _ (keyG ⟨false, ga, gb⟩) rfl rfl (keyG_ok ⟨false, ga, gb⟩ hokg) (.lit (.int .i64 (1 + n.ins + k + 1))) [] (plainElem_int Try.underlying3 (WalkArith.wf_i64 (by omega))) ?_; intro w5 hown5 hgrow5)
          have hD5 := hD.put ⟨false, ga, gb⟩ hokg HM.out (1 + n.ins + k + 1) (by rw [hlen]; omega)
          have htk : n.gs.take k ++ [⟨false, ga, gb⟩] = n.gs.take (k + 1) := by rw [List.take_add_one, HGK.out]; rfl
          rw [htk] at hD5
          have hneb9 : some r ≠ some b2 := by
            intro e; injection e with e; subst e
            obtain ⟨es, clock, hbb, _⟩ := hmap9; rw [hr9] at hbb; cases hbb
          have hr5 := (hgrow5.block r (lt_of_block hr9) hneb9).trans hr9
          have hownm : OwnGs w5 W1.heap.size (.slice A2 n.gs.length c2) n.gs := hown9.kept hgrow5 (by
            obtain ⟨es, clock, hbb, _⟩ := hmap9
            exact .inr (fun e => row_ne hown9 b2 _ hbb (fun cs fr e => by cases e) e.symm))
          have hB5 := hB9.grown hgrow5 (Nat.le_trans hlow3 x9.le.size) (fun k' hk' => by injection hk' with hk'; rw [← hk']; exact hblo)
          have hC5 : Circ W1.heap.size w5 r n (n.gs.take (k + 1)) := ⟨A2, c2, b2, hr5, hrlo, hblo, hownm, _, hown5.mono (by simp; omega), hD5⟩
          clear hr5 hr9 hmap9 hown5 hownm htk hneb9 hlen hgrow5
          go_wp2
          go_roundw
          case rel => exact ⟨k + 1, by omega, by go_num, hB5, hC5, fun i' hi' => by
            rcases Nat.lt_or_ge i' k with h' | h'
            · exact HG.out i' h'
            · have : i' = k := by omega
              subst this; exact HGD.out⟩
          case measure => simp [intOf]; omega
        · go_wp2
          go_quiet (fail)
          clear hl
          go_wp2
          clear p5
          have q0 : (x2.W.drewN nq).cell? ⟨w.heap.size, 0, none⟩ = some (.int .i64 n.ins) := d0 x2
          have q1 : (x2.W.drewN nq).cell? ⟨w.heap.size, 1, none⟩ = some (.slice (some ad) n.gs.length c) := d1 x2
          have q2 := d2 x2
          change (x2.W.drewN nq).cell? _ = _ at q2
          have q3 : (x2.W.drewN nq).cell? ⟨wr.heap.size, 1, none⟩ = some (.int .i64 ga) := d3 x2
          have q4 : (x2.W.drewN nq).cell? ⟨wr.heap.size, 2, none⟩ = some (.int .i64 gb) := d4 x2
          have q5 : (x2.W.drewN nq).cell? ⟨r, 2, none⟩ = some (.map (some b2)) := z2
          have hC3 : Circ W1.heap.size (x2.W.drewN nq) r n (n.gs.take k) := Circ.up ⟨A2, c2, b2, HR2.out, hrlo, hblo, hown2, hkn2⟩ (below_drewN (Below.refl _ _) nq)
          have hB3 : Below W1.heap.size W1 (x2.W.drewN nq) := below_drewN hB2 nq
          have hr3 : (x2.W.drewN nq).heap[r]? = some (.cells #[.int .i64 n.ins, .slice A2 n.gs.length c2, .map (some b2)] 87 (0, 0)) := HR2.out
          have hown3 : OwnGs (x2.W.drewN nq) W1.heap.size (.slice A2 n.gs.length c2) n.gs := hown2
          have hkn3 : KnownAt (x2.W.drewN nq) b2 n.ins (n.gs.take k) := hkn2
          have hlow3 : W1.heap.size ≤ (x2.W.drewN nq).heap.size := hlow2
          clear d0 d1 d2 d3 d4 z2 hown2 hkn2 hlow2 hB2 hB0 hC0 hlow0
          generalize x2.W.drewN nq = W6 at *
          have q0 := Later.cell q0
          have q1 := Later.cell q1
          have q2 := Later.cell q2
          have q3 := Later.cell q3
          have q4 := Later.cell q4
          have q5 := Later.cell q5
          have HR3 := Lib.hid hr3
          have e1 := E1.out
          clear hr3
          refine wp_region_later_tail 9 (by kernel_rfl) (by kernel_rfl) ?_
          simp only [List.take_succ_cons, List.take_zero, List.drop_succ_cons, List.drop_zero]
          repeat (go_big_quiet_step ((go_at_call 61; with_reducible exact later_of_below (nodes_any (some ad) c n.gs.length n.ins k _ (by omega) (by omega) (by omega) (by omega)))))
          refine wpQuiet_nil ?_
          rintro _ ⟨x9, rfl⟩
          clear e1
          have hB9 := hB3.trans (x9.le.mono hlow3)
          have hr9 := (x9.le.block r (lt_of_block HR3.out)).trans HR3.out
          have hown9 : OwnGs x9.W W1.heap.size (.slice A2 n.gs.length c2) n.gs := own_below hown3 x9.le (Nat.le_refl _)
          obtain ⟨D, hmap9, hD⟩ := hkn3.keep (x9.le.block b2 hkn3.lt)
          have hlen : (n.gs.take k).length = k := by simp; omega
          rw [hlen] at hmap9
          have hkm : k < maxLen := by unfold maxLen; omega
          go_wp2_with (at_mapUpdate; refine wpList_mapUpdate_own _ rfl _ _ _ 85 rfl 58 3 gate_keyed Try.underlying85 _ b2 k D rfl hmap9 hkm _ _ (keyG ⟨true, ga, gb⟩) rfl rfl (keyG_ok ⟨true, ga, gb⟩ hokg) (.lit (.int .i64 (1 + n.ins + k + 1))) [] (plainElem_int Try.underlying3 (WalkArith.wf_i64 (by omega))) ?_; intro w5 hown5 hgrow5)
          have hD5 := hD.put ⟨true, ga, gb⟩ hokg HM.out (1 + n.ins + k + 1) (by rw [hlen]; omega)
          have htk : n.gs.take k ++ [⟨true, ga, gb⟩] = n.gs.take (k + 1) := by rw [List.take_add_one, HGK.out]; rfl
          rw [htk] at hD5
          have hneb9 : some r ≠ some b2 := by
            intro e; injection e with e; subst e
            obtain ⟨es, clock, hbb, _⟩ := hmap9; rw [hr9] at hbb; cases hbb
          have hr5 := (hgrow5.block r (lt_of_block hr9) hneb9).trans hr9
          have hownm : OwnGs w5 W1.heap.size (.slice A2 n.gs.length c2) n.gs := hown9.kept hgrow5 (by
            obtain ⟨es, clock, hbb, _⟩ := hmap9
            exact .inr (fun e => row_ne hown9 b2 _ hbb (fun cs fr e => by cases e) e.symm))
          have hB5 := hB9.grown hgrow5 (Nat.le_trans hlow3 x9.le.size) (fun k' hk' => by injection hk' with hk'; rw [← hk']; exact hblo)
          have hC5 : Circ W1.heap.size w5 r n (n.gs.take (k + 1)) := ⟨A2, c2, b2, hr5, hrlo, hblo, hownm, _, hown5.mono (by simp; omega), hD5⟩
          clear hr5 hr9 hmap9 hown5 hownm htk hneb9 hlen hgrow5
          go_wp2
          go_roundw
          case rel => exact ⟨k + 1, by omega, by go_num, hB5, hC5, fun i' hi' => by
            rcases Nat.lt_or_ge i' k with h' | h'
            · exact HG.out i' h'
            · have : i' = k := by omega
              subst this; exact HGD.out⟩
          case measure => simp [intOf]; omega
      · have hke : k = n.gs.length := by omega
        subst hke
        have HN := Lib.hid ((netOk_iff n).2 ⟨by omega, by omega, by omega, HG.out⟩)
        rw [List.take_length] at hCk
        go_wp2
        go_ret2
        exact ⟨bthen hw hb, .inl ⟨HN.out, r, rfl, by obtain ⟨A2, c2, b2, k1, k2, k3, k4, k5⟩ := hCk; exact ⟨A2, c2, b2, k1, by omega, by omega, own_mono k4 hlo1, k5⟩⟩⟩
end Go.Proofs.Ytcdlfnhjpjpbjaa
