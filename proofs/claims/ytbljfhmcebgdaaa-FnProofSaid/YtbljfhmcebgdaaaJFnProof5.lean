/- The program's rup, RupOk. The program's UnitAll. Unit propagation is confluent: the plain law. No program is named here. What truth values say of clauses; counting through them; unit propagation is sound: the plain law. No program is named here. Reverse unit propagation is sound and monotone: the plain law. No program is named here. What a law leaves. What a mark does to memory: cells of plain values turn into others of their kind, in some blocks. Copies of the call's own, made between two sizes of the heap; what stays over calls and over marks. Marks on integers. Rows of integers: what comes in, copies, comparisons, marks; one form for all. The reference's check of what is put: l5Marks; UnitAll. The reference's UnitAll. Marks on integers, on rows of integers, on formulas. Formulas and rows of integers: what comes in, copies, comparisons, marks; one form for all. Where a search is: the plain law. The program's trail: place, implies. The program's readSat: its parts. The program's ClauseHas, CnfHas. Contracts of the reference's reader of codes: l12Open, pick. -/
import Derived.Test.YtbljfhmcebgdaaaChecked
import Derived.Test.YtbljfhmcebgdaaaJFnProof0
import Derived.Test.YtbljfhmcebgdaaaJFnProof2
import Derived.Test.YtbljfhmcebgdaaaJFnProof3
import Derived.Test.YtbljfhmcebgdaaaJFnProof4
/-! The program's rup, RupOk. -/
namespace Go.Proofs.Ytbljfhmcebgdaaa
open Go Go.RowKit

theorem OwnI.nil (w : World) (lo : Nat) : OwnI w lo (.slice none 0 0) [] := World.ownsRow_nil _ _ _ _
set_option maxRecDepth 100000 in
set_option maxHeartbeats 400000 in
theorem rup_any (M : Nat) (cl : List Int) (lists : List (List (List Int))) (A B : Option Addr) (c q : Nat) (F G : Nat → Prop) (w : World) (hc : Lay.int.Sl w F A cl) (hF : ∀ b, F b → b < w.heap.size) (hn : cl.length ≤ 1048576) (hi : i64s cl) (hl : Lay.int.slice.slice.Sl w G B lists) (hG : ∀ b, G b → b < w.heap.size)
    (hr : ∀ cls ∈ lists, cls.length ≤ 1048576 ∧ ∀ cl ∈ cls, (∀ l ∈ cl, l ≠ 0 ∧ -(M : Int) ≤ l ∧ l ≤ M) ∧ cl.length ≤ 1048576) (hls : lists.length ≤ 1048576) (hM : M ≤ 700) (hall : lists.flatten.length ≤ 1000000000) :
    Calls Try.prog 43 #[.int .i64 M, .slice A cl.length c, .slice B lists.length q] w (RetB w (clOk M cl && (units M lists.flatten (cl.map fun l => -l)).2)) := by
  have hclause := clauseOk_any cl M A c F w hc hn hi (by omega) (by omega)
  by_cases h1 : clOk M cl = true
  · have hrng := clOk_rng h1
    have hgood : Good M (cl.map fun l => -l) := (cOk_good (Int.le_refl 0) h1).1
    rw [h1] at hclause ⊢
    have HC := Lib.hid hclause
    have HG := Lib.hid hgood
    clear hclause hgood h1
    go_enter Try.func43, Try.ntmps43
    go_wp2_with fail
    refine HC.out.mono ?_
    rintro e w' ⟨rfl, rfl⟩
    go_wp2
    go_loopw [7, 18] (fun s i wr => ∃ (k : Nat) (ns : List Int) (A2 : Option Addr) (c2 : Nat), k ≤ cl.length ∧ i = .int .i64 k ∧ s = .slice A2 ns.length c2 ∧ ns = (cl.take k).map (fun l => -l) ∧ OwnI wr w.heap.size (.slice A2 ns.length c2) ns ∧ Below w.heap.size w wr) (fun _ i _ => cl.length - (intOf i).toNat)
    case atStart => exact ⟨0, [], none, 0, Nat.zero_le _, rfl, rfl, rfl, OwnI.nil _ _, Below.refl _ _⟩
    case round =>
      obtain ⟨k, ns, A2, c2, hk, rfl, rfl, hns, hown, hb⟩ := hrel
      have hnl : ns.length = k := by rw [hns]; simp; omega
      have HNS := Lib.hid hns
      have HNL := Lib.hid hnl
      clear hns
      by_cases hlt : k < cl.length
      · obtain ⟨ad, rfl, hf, hcell⟩ := (hc.below hb hF).at_int hlt
        have hk1 : (k : Int) < cl.length := by omega
        obtain ⟨_, i1, i2⟩ := hrng _ (List.getElem_mem hlt)
        have htk : (cl.take (k + 1)).map (fun l => -l) = (cl.take k).map (fun l => -l) ++ [-cl[k]] := by rw [List.take_succ_eq_append_getElem hlt, List.map_append]; rfl
        generalize cl[k] = a at *
        have HTK := Lib.hid htk
        have e1 : IntKind.i64.wrap (-a) = -a := IntWalk.i64_in _ (by omega)
        obtain ⟨ps, hps⟩ : ∃ ps, ps = ns ++ [-a] := ⟨_, rfl⟩
        have HPS := Lib.hid hps
        have hlo := hb.size
        clear htk hps hnl
        go_wp2_with (at_builtin; refine wpList_append_int (ys := ps) (by rfl) (.tmp 22) (.tmp 25) (by rfl) (by rfl) (by rfl) hown (by have := HNL.out; omega) hlo HPS.out ?_; intro A1 c1 w1 hown1 hg1 hbk1)
        have hb1 := hb.trans (own_at_least hown hlo hg1)
        clear hbk1 hg1
        go_wp2
        go_roundw
        case rel => exact ⟨k + 1, ps, A1, c1, by omega, by go_num, rfl, by rw [HPS.out, HTK.out, HNS.out], hown1, hb1⟩
        case measure => simp [intOf]; omega
      · have hke : k = cl.length := by omega
        subst hke
        have hns : ns = cl.map (fun l => -l) := by rw [HNS.out, List.take_length]
        have hrd := hown.rd
        rw [← hns] at HG
        have HNS2 := Lib.hid hns
        have HT := Lib.hid (trailOk_any M ns A2 c2 _ wr hrd (fun _ h => h) (by have := HNL.out; omega) (fun l hl => by have := HG.out.rng l hl; omega) (by omega))
        have HL := Lib.hid ((hl.below hb hG).mono hG)
        clear hns hrd hown hnl
        go_wp2_with fail
        refine HT.out.mono ?_
        rintro e w2 (⟨_, t, ls, rfl, htr, hb2⟩ | ⟨hng, _⟩)
        · have hbb := hb.size
          have hu := unit_any wr.heap.size (fun _ => False) M t ns ls lists B q (fun b => b < w.heap.size) w2 htr (HL.out.below hb2 (fun b h => by omega)) (fun b h => .inl (by omega)) HG.out hr hls (by omega) hall
          go_wp2_with fail
          refine hu.mono ?_
          rintro e w3 ⟨rfl, _, hb3⟩
          have HB := Lib.hid (bthen hb (hb2.trans hb3.1))
          clear hu htr hb2 hb3
          go_wp2
          go_ret
          exact ⟨ret_bool (by rw [← HNS2.out]; simp), HB.out⟩
        · exact absurd HG.out hng
  · rw [Bool.not_eq_true] at h1
    rw [h1] at hclause ⊢
    have HC := Lib.hid hclause
    clear hclause h1
    go_enter Try.func43, Try.ntmps43
    go_wp2_with fail
    refine HC.out.mono ?_
    rintro e w' ⟨rfl, rfl⟩
    go_wp2
    go_ret
    exact ⟨ret_bool (by simp), Below.refl _ _⟩

end Go.Proofs.Ytbljfhmcebgdaaa

/-! The program's UnitAll. -/
namespace Go.Proofs.Ytbljfhmcebgdaaa
open Go Go.RowKit

end Go.Proofs.Ytbljfhmcebgdaaa

/-! Unit propagation is confluent: the plain law. No program is named here. -/
namespace Go.Proofs.Ytbljfhmcebgdaaa
open Go Go.RowKit

theorem lk_some {put : List Int} : ∀ {cl : List Int} {n f n' f' : Int}, lk put cl n f = some (n', f') →
    (∀ l ∈ cl, l ∉ put) ∧ n ≤ n' ∧ (n' = n → f' = f ∧ ∀ l ∈ cl, -l ∈ put) ∧ (n' = n + 1 → f' ∈ cl ∧ -f' ∉ put ∧ ∀ l ∈ cl, l = f' ∨ -l ∈ put)
  | [], n, f, n', f', h => by
    simp only [lk, Option.some.injEq, Prod.mk.injEq] at h
    obtain ⟨rfl, rfl⟩ := h
    exact ⟨by simp, Int.le_refl _, fun _ => ⟨rfl, by simp⟩, fun h => by omega⟩
  | l :: ls, n, f, n', f', h => by
    simp only [lk] at h
    split at h
    · cases h
    · rename_i h1
      split at h
      · rename_i h2
        obtain ⟨a, b, c, d⟩ := lk_some h
        refine ⟨fun x hx => ?_, b, fun e => ⟨(c e).1, fun x hx => ?_⟩, fun e => ⟨List.mem_cons_of_mem _ (d e).1, (d e).2.1, fun x hx => ?_⟩⟩
        · rcases List.mem_cons.1 hx with rfl | hx
          · exact h1
          · exact a x hx
        · rcases List.mem_cons.1 hx with rfl | hx
          · exact h2
          · exact (c e).2 x hx
        · rcases List.mem_cons.1 hx with rfl | hx
          · exact .inr h2
          · exact (d e).2.2 x hx
      · rename_i h2
        obtain ⟨a, b, c, d⟩ := lk_some h
        refine ⟨fun x hx => ?_, by omega, fun e => by omega, fun e => ?_⟩
        · rcases List.mem_cons.1 hx with rfl | hx
          · exact h1
          · exact a x hx
        · obtain ⟨e1, e2⟩ := c e
          subst e1
          refine ⟨List.mem_cons_self, h2, fun x hx => ?_⟩
          rcases List.mem_cons.1 hx with rfl | hx
          · exact .inl rfl
          · exact .inr (e2 x hx)
theorem fd_spec {put : List Int} : ∀ {cs : List (List Int)} {k u f : Int}, 0 ≤ k →
    (0 ≤ (fd put cs k u f).1 → ∃ cl ∈ cs, ∃ m, lk put cl 0 0 = some (0, m)) ∧
    ((fd put cs k u f).1 < 0 → (∀ cl ∈ cs, ∀ m, lk put cl 0 0 ≠ some (0, m)) ∧
      (((fd put cs k u f).2.1 = u ∧ (fd put cs k u f).2.2 = f ∧ (u < 0 → ∀ cl ∈ cs, ∀ m, lk put cl 0 0 ≠ some (1, m))) ∨
       (u < 0 ∧ 0 ≤ (fd put cs k u f).2.1 ∧ ∃ cl ∈ cs, lk put cl 0 0 = some (1, (fd put cs k u f).2.2))))
  | [], k, u, f, _ => by
    simp [fd]
  | cl :: cls, k, u, f, hk => by
    have ih := fun u f => @fd_spec put cls (k + 1) u f (by omega)
    simp only [fd]
    cases hl : lk put cl 0 0 with
    | none =>
      obtain ⟨a, b⟩ := ih u f
      refine ⟨fun h => ?_, fun h => ?_⟩
      · obtain ⟨c, hc, m, hm⟩ := a h
        exact ⟨c, List.mem_cons_of_mem _ hc, m, hm⟩
      · obtain ⟨b1, b2⟩ := b h
        refine ⟨fun c hc m => ?_, ?_⟩
        · rcases List.mem_cons.1 hc with rfl | hc
          · rw [hl]; simp
          · exact b1 c hc m
        · rcases b2 with ⟨e1, e2, e3⟩ | ⟨e1, e2, c, hc, e3⟩
          · refine .inl ⟨e1, e2, fun hu c hc m => ?_⟩
            rcases List.mem_cons.1 hc with rfl | hc
            · rw [hl]; simp
            · exact e3 hu c hc m
          · exact .inr ⟨e1, e2, c, List.mem_cons_of_mem _ hc, e3⟩
    | some p =>
      obtain ⟨n, m⟩ := p
      dsimp only
      by_cases h0 : n = 0
      · rw [if_pos h0]
        subst h0
        exact ⟨fun _ => ⟨cl, List.mem_cons_self, m, hl⟩, fun h => by dsimp only at h; omega⟩
      rw [if_neg h0]
      by_cases h1 : n = 1 ∧ u < 0
      · rw [if_pos h1]
        obtain ⟨rfl, hu⟩ := h1
        obtain ⟨a, b⟩ := ih k m
        refine ⟨fun h => ?_, fun h => ?_⟩
        · obtain ⟨c, hc, m, hm⟩ := a h
          exact ⟨c, List.mem_cons_of_mem _ hc, m, hm⟩
        · obtain ⟨b1, b2⟩ := b h
          refine ⟨fun c hc m' => ?_, ?_⟩
          · rcases List.mem_cons.1 hc with rfl | hc
            · rw [hl]; simp
            · exact b1 c hc m'
          · rcases b2 with ⟨e1, e2, _⟩ | ⟨e1, _⟩
            · exact .inr ⟨hu, by omega, cl, List.mem_cons_self, by rw [e2]; exact hl⟩
            · omega
      · rw [if_neg h1]
        obtain ⟨a, b⟩ := ih u f
        refine ⟨fun h => ?_, fun h => ?_⟩
        · obtain ⟨c, hc, m, hm⟩ := a h
          exact ⟨c, List.mem_cons_of_mem _ hc, m, hm⟩
        · obtain ⟨b1, b2⟩ := b h
          refine ⟨fun c hc m' => ?_, ?_⟩
          · rcases List.mem_cons.1 hc with rfl | hc
            · rw [hl]; simp [h0]
            · exact b1 c hc m'
          · rcases b2 with ⟨e1, e2, e3⟩ | ⟨e1, e2, c, hc, e3⟩
            · refine .inl ⟨e1, e2, fun hu c hc m' => ?_⟩
              rcases List.mem_cons.1 hc with rfl | hc
              · rw [hl]; intro h9; injection h9 with h9; injection h9 with h9 _; exact h1 ⟨h9, hu⟩
              · exact e3 hu c hc m'
            · exact .inr ⟨e1, e2, c, List.mem_cons_of_mem _ hc, e3⟩
end Go.Proofs.Ytbljfhmcebgdaaa

/-! What truth values say of clauses; counting through them; unit propagation is sound: the plain law. No program is named here. -/
namespace Go.Proofs.Ytbljfhmcebgdaaa
open Go Go.RowKit

def inV (n : Nat) (l : Int) : Bool := decide (l ≠ 0 ∧ -(n : Int) ≤ l ∧ l ≤ n)
def holdsL (vs : List Bool) (l : Int) : Bool := inV vs.length l && (vs.getD (l.natAbs - 1) false == decide (0 < l))
def clHas (vs : List Bool) (cl : List Int) : Bool := cl.any (holdsL vs)
def cnfHas (x : C) (vs : List Bool) : Bool := cnfOk x && (decide ((vs.length : Int) = x.many) && x.list.all (clHas vs))
theorem holdsL_neg {vs : List Bool} {l : Int} (h : inV vs.length l = true) : holdsL vs (-l) = !holdsL vs l := by
  have h' := h
  unfold inV at h
  rw [decide_eq_true_eq] at h
  have h2 : inV vs.length (-l) = true := by unfold inV; rw [decide_eq_true_eq]; omega
  unfold holdsL
  rw [h', h2, Int.natAbs_neg]
  by_cases hp : 0 < l
  · rw [decide_eq_true hp, decide_eq_false (by omega)]
    cases vs.getD (l.natAbs - 1) false <;> rfl
  · rw [decide_eq_false hp, decide_eq_true (by omega)]
    cases vs.getD (l.natAbs - 1) false <;> rfl
theorem cnfHas_iff {x : C} {vs : List Bool} : cnfHas x vs = true ↔ cnfOk x = true ∧ (vs.length : Int) = x.many ∧ ∀ cl ∈ x.list, clHas vs cl = true := by
  unfold cnfHas
  simp only [Bool.and_eq_true, decide_eq_true_eq, List.all_eq_true]
/-- Whatever makes all clauses true makes true what is propagated, and nothing is wrong. -/
theorem un_sound {many : Int} {cs : List (List Int)} {vs : List Bool} (hlen : (vs.length : Int) = many) (hc : ∀ cl ∈ cs, ∀ l ∈ cl, l ≠ 0 ∧ -many ≤ l ∧ l ≤ many) (hall : ∀ cl ∈ cs, clHas vs cl = true) :
    ∀ (n : Nat) (P : List Int), (∀ l ∈ P, holdsL vs l = true) → (∀ l ∈ (un cs n P).1, holdsL vs l = true) ∧ (un cs n P).2 = false
  | 0, P, hP => ⟨hP, rfl⟩
  | n + 1, P, hP => by
    obtain ⟨a, b⟩ := @fd_spec P cs 0 (-1) 0 (by omega)
    have hin : ∀ cl ∈ cs, ∀ l ∈ cl, inV vs.length l = true := fun cl hcl l hl => by
      have := hc cl hcl l hl
      unfold inV; rw [decide_eq_true_eq]; omega
    have hfalse : ∀ cl ∈ cs, ∀ l ∈ cl, -l ∈ P → holdsL vs l = false := fun cl hcl l hl h => by
      have h1 := hP _ h
      rw [holdsL_neg (hin cl hcl l hl)] at h1
      simpa using h1
    have h1 : (fd P cs 0 (-1) 0).1 < 0 := by
      rcases Int.lt_or_le (fd P cs 0 (-1) 0).1 0 with h | h
      · exact h
      · obtain ⟨cl, hcl, m, hm⟩ := a h
        have hh := (lk_some hm).2.2.1 rfl
        have hx := hall cl hcl
        unfold clHas at hx
        obtain ⟨l, hl, hl2⟩ := List.any_eq_true.1 hx
        rw [hfalse cl hcl l hl (hh.2 l hl)] at hl2
        cases hl2
    simp only [un]
    rw [if_neg (by omega)]
    split
    · exact ⟨hP, rfl⟩
    · rename_i h2
      refine un_sound hlen hc hall n _ fun l hl => ?_
      rcases List.mem_append.1 hl with h | h
      · exact hP l h
      · rw [List.mem_singleton.1 h]
        rcases (b h1).2 with ⟨e1, _⟩ | ⟨_, _, cl, hcl, hm⟩
        · omega
        · generalize (fd P cs 0 (-1) 0).2.2 = m at *
          have hh := (lk_some hm).2.2.2 (by omega)
          have hx := hall cl hcl
          unfold clHas at hx
          obtain ⟨l', hl', hl2⟩ := List.any_eq_true.1 hx
          rcases hh.2.2 l' hl' with e | e
          · rw [← e]; exact hl2
          · rw [hfalse cl hcl l' hl' e] at hl2; cases hl2
/-- The truth values as a number: the first is the highest. -/
def bval : List Bool → Nat → Nat
  | [], a => a
  | b :: bs, a => bval bs (2 * a + if b then 1 else 0)
theorem bval_add : ∀ (bs : List Bool) (a : Nat), bval bs a = a * 2 ^ bs.length + bval bs 0
  | [], a => by simp [bval]
  | b :: bs, a => by
    rw [bval, bval_add bs, bval, bval_add bs (2 * 0 + _)]
    simp only [List.length_cons, Nat.pow_succ]
    generalize 2 ^ bs.length = q
    cases b
    · simp only [Bool.false_eq_true, if_false, Nat.add_zero, Nat.mul_zero, Nat.zero_mul, Nat.zero_add]
      rw [Nat.mul_comm 2 a, Nat.mul_assoc, Nat.mul_comm 2]
    · simp only [if_true, Nat.mul_zero, Nat.zero_add, Nat.add_mul, Nat.one_mul]
      rw [Nat.mul_comm 2 a, Nat.mul_assoc, Nat.mul_comm 2]
      omega
theorem bval_lt : ∀ (bs : List Bool), bval bs 0 < 2 ^ bs.length
  | [] => by simp [bval]
  | b :: bs => by
    have h1 := bval_lt bs
    rw [bval, bval_add]
    simp only [List.length_cons, Nat.pow_succ]
    cases b <;> simp <;> omega
/-- All ahead of it are true, and false behind: one step of counting, from a place on. -/
theorem bval_ones : ∀ (n : Nat), bval (List.replicate n true) 0 + 1 = 2 ^ n
  | 0 => rfl
  | n + 1 => by
    have := bval_ones n
    rw [List.replicate_succ, bval, bval_add]
    simp only [List.length_replicate, Nat.pow_succ]
    simp
    omega
theorem bval_zeros : ∀ (n : Nat), bval (List.replicate n false) 0 = 0
  | 0 => rfl
  | n + 1 => by rw [List.replicate_succ, bval]; simpa using bval_zeros n
theorem bval_append : ∀ (cs bs : List Bool) (a : Nat), bval (cs ++ bs) a = bval bs (bval cs a)
  | [], bs, a => rfl
  | x :: cs, bs, a => by simp only [List.cons_append, bval, bval_append cs bs]
/-- The next ones: the last false turns true, all behind it false. -/
theorem bval_next (pre : List Bool) (n : Nat) : bval (pre ++ true :: List.replicate n false) 0 = bval (pre ++ false :: List.replicate n true) 0 + 1 := by
  rw [bval_append, bval_append, bval, bval, bval_add, bval_add (List.replicate n true), bval_zeros]
  have := bval_ones n
  simp only [List.length_replicate]
  generalize bval pre 0 = p
  simp only [if_true, Bool.false_eq_true, if_false, Nat.add_zero, Nat.add_mul, Nat.one_mul]
  omega
end Go.Proofs.Ytbljfhmcebgdaaa

/-! Reverse unit propagation is sound and monotone: the plain law. No program is named here. -/
namespace Go.Proofs.Ytbljfhmcebgdaaa
open Go Go.RowKit

end Go.Proofs.Ytbljfhmcebgdaaa

/-! What a law leaves. -/
namespace Go.Proofs.Ytbljfhmcebgdaaa
open Go Go.RowKit

def LawC (w : World) (e : Ending) (w' : World) : Prop := e = .returned (.bool true) ∧ Below w.heap.size w w'
end Go.Proofs.Ytbljfhmcebgdaaa

/-! What a mark does to memory: cells of plain values turn into others of their kind, in some blocks. -/
namespace Go.Proofs.Ytbljfhmcebgdaaa
open Go Go.RowKit

/-- One value for another of its kind; a slice or a pointer for itself alone. -/
inductive Kin : Value → Value → Prop
  | same (v : Value) : Kin v v
  | int (a b : Int) : Kin (.int .i64 a) (.int .i64 b)
  | bool (a b : Bool) : Kin (.bool a) (.bool b)
  | str (a b : ByteArray) : Kin (.string a) (.string b)
theorem Kin.trans {a b c : Value} (h : Kin a b) (h' : Kin b c) : Kin a c := by
  cases h <;> cases h' <;> constructor
theorem Kin.ofInt {a : Int} {v : Value} (h : Kin (.int .i64 a) v) : ∃ b, v = .int .i64 b := by
  cases h
  · exact ⟨a, rfl⟩
  · exact ⟨_, rfl⟩
/-- Nothing turned but plain values in the blocks F. -/
structure Dab (F : Nat → Prop) (w w' : World) : Prop where
  os : w'.os = w.os
  tape : w'.tape = w.tape
  output : w'.output = w.output
  size : w.heap.size ≤ w'.heap.size
  block : ∀ b, b < w.heap.size → ¬ F b → w'.heap[b]? = w.heap[b]?
  kin : ∀ a v, w.cell? a = some v → ∃ v', w'.cell? a = some v' ∧ Kin v v'
  frz : ∀ a : Addr, a.block < w.heap.size → w'.frozen? a = w.frozen? a
theorem Dab.refl (F : Nat → Prop) (w : World) : Dab F w w := ⟨rfl, rfl, rfl, Nat.le_refl _, fun _ _ _ => rfl, fun _ v h => ⟨v, h, .same v⟩, fun _ _ => rfl⟩
theorem Dab.trans {F : Nat → Prop} {a b c : World} (h : Dab F a b) (k : Dab F b c) : Dab F a c := by
  refine ⟨k.os.trans h.os, k.tape.trans h.tape, k.output.trans h.output, Nat.le_trans h.size k.size, fun i hi hn => (k.block i (Nat.lt_of_lt_of_le hi h.size) hn).trans (h.block i hi hn), fun p v hv => ?_, fun p hp => (k.frz p (Nat.lt_of_lt_of_le hp h.size)).trans (h.frz p hp)⟩
  obtain ⟨v1, h1, k1⟩ := h.kin p v hv
  obtain ⟨v2, h2, k2⟩ := k.kin p v1 h1
  exact ⟨v2, h2, k1.trans k2⟩
theorem Dab.mono {F G : Nat → Prop} {w w' : World} (h : Dab F w w') (hFG : ∀ b, F b → G b) : Dab G w w' := ⟨h.os, h.tape, h.output, h.size, fun b hb hn => h.block b hb (fun hf => hn (hFG b hf)), h.kin, h.frz⟩
theorem Dab.of {F : Nat → Prop} {w w' : World} (h : Below w.heap.size w w') : Dab F w w' := by
  have hlt : ∀ p v, w.cell? p = some v → p.block < w.heap.size := fun p v hv => World.block_lt_of_cell? w p hv
  exact ⟨h.os, h.tape, h.output, h.size, fun b hb _ => h.block b hb, fun p v hv => ⟨v, (World.cell?_of_block (h.block _ (hlt p v hv))).trans hv, .same v⟩, fun p hp => World.frozen?_of_block (h.block _ hp)⟩
theorem Dab.set {F : Nat → Prop} {w : World} {p : Addr} {u z : Value} (hF : F p.block) (hz : w.cell? p = some z) (hk : Kin z u) : Dab F w (w.setCell p u) := by
  refine ⟨rfl, rfl, rfl, by simp [World.setCell], fun b _ hn => Below.heap_setCell w p _ b (fun e => hn (e ▸ hF)), fun a v hv => ?_, fun a _ => World.frozen?_setCell _ _ _ _⟩
  by_cases e : p = a
  · subst e
    rw [hz] at hv
    injection hv with hv
    subst hv
    exact ⟨u, World.cell?_setCell_same _ _ _ hz, hk⟩
  · exact ⟨v, (World.cell?_setCell_other _ _ _ _ e).trans hv, .same v⟩
theorem Dab.then {F : Nat → Prop} {a b c : World} (h : Below a.heap.size a b) (k : Dab F b c) : Dab F a c := (Dab.of h).trans k
theorem Dab.below {F : Nat → Prop} {w w' : World} {B : Nat} (h : Dab F w w') (hB : B ≤ w.heap.size) (hF : ∀ b, F b → B ≤ b) : Below B w w' :=
  ⟨h.os, h.tape, h.output, h.size, fun b hb => h.block b (Nat.lt_of_lt_of_le hb hB) (fun hf => absurd (hF b hf) (by omega))⟩
/-- n integers lie there, and may be written. -/
def IntsAt (w : World) (F : Nat → Prop) (A : Option Addr) (n : Nat) : Prop :=
  0 < n → ∃ ad, A = some ad ∧ F ad.block ∧ ∀ k, k < n → (∃ z, w.cell? (ad.add k) = some (.int .i64 z)) ∧ w.frozen? (ad.add k) = false
theorem IntsAt.mono {w : World} {F G : Nat → Prop} {A : Option Addr} {n : Nat} (h : IntsAt w F A n) (hFG : ∀ b, F b → G b) : IntsAt w G A n := fun hn => by
  obtain ⟨ad, e, hf, hc⟩ := h hn
  exact ⟨ad, e, hFG _ hf, hc⟩
theorem IntsAt.of {w : World} {F G : Nat → Prop} {A : Option Addr} {xs : List Int} (h : Lay.int.Sl w F A xs) (hF : ∀ b, F b → G b ∧ ∀ o, w.frozen? ⟨b, o, none⟩ = false) : IntsAt w G A xs.length := fun hn => by
  obtain ⟨ad, e, hf, hc⟩ := h hn
  refine ⟨ad, e, (hF _ hf).1, fun k hk => ?_⟩
  obtain ⟨vs, rfl, hcell⟩ := hc k xs[k] (List.getElem?_eq_getElem hk)
  refine ⟨⟨xs[k], by simpa [Lay.int, Lay.flat] using hcell 0 _ rfl⟩, ?_⟩
  have := (hF _ hf).2 (ad.add k).off
  rw [← this]
  unfold World.frozen?
  rw [block_of_add]
/-- Rows of integers lie there. -/
def RowsAt (w : World) (F : Nat → Prop) (A : Option Addr) (ns : List Nat) : Prop :=
  0 < ns.length → ∃ ad, A = some ad ∧ ∀ k (h : k < ns.length), ∃ A' c', w.cell? (ad.add k) = some (.slice A' ns[k] c') ∧ IntsAt w F A' ns[k]
theorem RowsAt.of {w : World} {F G : Nat → Prop} {A : Option Addr} {xs : List (List Int)} (h : Lay.int.slice.Sl w F A xs) (hF : ∀ b, F b → G b ∧ ∀ o, w.frozen? ⟨b, o, none⟩ = false) : RowsAt w G A (xs.map List.length) := fun hn => by
  obtain ⟨ad, e, _, _⟩ := h (by simpa using hn)
  refine ⟨ad, e, fun k hk => ?_⟩
  obtain ⟨ad2, A', c', e2, _, hc, _, hs⟩ := h.at_slice (k := k) (by simpa using hk)
  rw [e] at e2
  injection e2 with e2
  subst e2
  rw [List.getElem_map]
  exact ⟨A', c', hc, IntsAt.of hs hF⟩
def nsum : List Nat → Nat
  | [] => 0
  | n :: ns => n + nsum ns
end Go.Proofs.Ytbljfhmcebgdaaa

/-! Copies of the call's own, made between two sizes of the heap; what stays over calls and over marks. -/
namespace Go.Proofs.Ytbljfhmcebgdaaa
open Go Go.RowKit

/-- Between two sizes. -/
def Rng (lo hi b : Nat) : Prop := lo ≤ b ∧ b < hi
/-- A block of a copy: made between two sizes of the heap, may be written. -/
def Cp (lo hi : Nat) (w : World) (b : Nat) : Prop := lo ≤ b ∧ b < hi ∧ hi ≤ w.heap.size ∧ ∀ o, w.frozen? ⟨b, o, none⟩ = false
theorem Cp.up {lo hi : Nat} {w w' : World} {b : Nat} (h : Cp lo hi w b) (hb : Below w.heap.size w w') : Cp lo hi w' b :=
  ⟨h.1, h.2.1, Nat.le_trans h.2.2.1 hb.size, fun o => (World.frozen?_of_block (a := ⟨b, o, none⟩) (hb.block b (by have := h.2.1; have := h.2.2.1; omega))).trans (h.2.2.2 o)⟩
theorem Cp.lt {lo hi : Nat} {w : World} {b : Nat} (h : Cp lo hi w b) : b < w.heap.size := Nat.lt_of_lt_of_le h.2.1 h.2.2.1
section
variable {α : Type} {L : Lay α} {w w' : World} {lo hi : Nat} {A : Option Addr} {xs : List α}
theorem Dab.rng (hd : Dab (Cp lo hi w) w w') : Dab (Rng lo hi) w w' := hd.mono fun _ h => ⟨h.1, h.2.1⟩
end
end Go.Proofs.Ytbljfhmcebgdaaa

/-! Marks on integers. -/
namespace Go.Proofs.Ytbljfhmcebgdaaa
open Go Go.RowKit

end Go.Proofs.Ytbljfhmcebgdaaa

/-! Rows of integers: what comes in, copies, comparisons, marks; one form for all. -/
namespace Go.Proofs.Ytbljfhmcebgdaaa
open Go Go.RowKit Go.ChangeShapes Go.WideShapes Go.ChangeAt Go.Deep

def okList (l : List Int) : Prop := l.length ≤ maxLen ∧ ∀ x ∈ l, okInt x
/-- Small enough for every count. -/
def smInts (xs : List Int) : Prop := xs.length ≤ 1048576 ∧ i64s xs
/-- A row of the call's own is a copy that may be written. -/
theorem OwnI.own {w : World} {base c : Nat} {A : Option Addr} {xs : List Int} (h : OwnI w base (.slice A xs.length c) xs) : Lay.int.Sl w (Own base w) A xs := fun hn => by
  obtain ⟨A', c', e, _, hs⟩ := h.form
  injection e with e1 e2 e3
  subst e1
  obtain ⟨ad, e, hf, hc⟩ := hs hn
  refine ⟨ad, e, ⟨hf.1, hf.2, fun o => ?_⟩, hc⟩
  subst e
  rcases h.2 with ⟨e, _⟩ | ⟨g, cap, cur, e, _, hg, _⟩
  · cases e
  · injection e with e1 e2 e3
    injection e1 with e1
    subst e1
    unfold World.frozen?
    rw [hg]
    simp
theorem OwnI.cap {w : World} {base c : Nat} {A : Option Addr} {xs : List Int} (h : OwnI w base (.slice A xs.length c) xs) : xs.length ≤ c := by
  obtain ⟨A', c', e, hl, hs⟩ := h.form
  injection e with e1 e2 e3
  omega
end Go.Proofs.Ytbljfhmcebgdaaa

/-! The reference's check of what is put: l5Marks; UnitAll. -/
namespace Go.Proofs.Ytbljfhmcebgdaaa
open Go Go.RowKit

/-- The row says which variables are put. -/
def SeenOk (M : Nat) (put : List Int) (sn : List Bool) : Prop := sn.length = M + 1 ∧ ∀ v : Nat, 1 ≤ v → v ≤ M → sn[v]? = some (decide (∃ l ∈ put, l.natAbs = v))
theorem SeenOk.snoc {M : Nat} {put : List Int} {sn : List Bool} (h : SeenOk M put sn) (l : Int) (h1 : l.natAbs ≤ M) : SeenOk M (put ++ [l]) (sn.set l.natAbs true) := by
  refine ⟨by rw [List.length_set]; exact h.1, fun v hv1 hv2 => ?_⟩
  by_cases e : l.natAbs = v
  · rw [← e, List.getElem?_set_self (by rw [h.1]; omega), decide_eq_true ⟨l, by simp, rfl⟩]
  · rw [List.getElem?_set_ne e, h.2 v hv1 hv2]
    congr 1
    rw [Bool.eq_iff_iff, decide_eq_true_eq, decide_eq_true_eq]
    constructor
    · rintro ⟨x, hx, he⟩; exact ⟨x, List.mem_append_left _ hx, he⟩
    · rintro ⟨x, hx, he⟩
      rcases List.mem_append.1 hx with hx | hx
      · exact ⟨x, hx, he⟩
      · rw [List.mem_singleton.1 hx] at he; exact absurd he e
theorem SeenOk.is {M : Nat} {put : List Int} {sn : List Bool} (h : SeenOk M put sn) {l : Int} (h0 : l ≠ 0) (h1 : l.natAbs ≤ M) : sn[l.natAbs]? = some (decide (l ∈ put ∨ -l ∈ put)) := by
  rw [h.2 _ (by omega) h1]
  congr 1
  rw [Bool.eq_iff_iff, decide_eq_true_eq, decide_eq_true_eq]
  constructor
  · rintro ⟨x, hx, he⟩
    have : x = l ∨ x = -l := by omega
    rcases this with e | e
    · exact .inl (e ▸ hx)
    · exact .inr (e ▸ hx)
  · rintro (hx | hx)
    · exact ⟨_, hx, rfl⟩
    · exact ⟨_, hx, by omega⟩


end Go.Proofs.Ytbljfhmcebgdaaa

/-! The reference's UnitAll. -/
namespace Go.Proofs.Ytbljfhmcebgdaaa
open Go Go.RowKit

end Go.Proofs.Ytbljfhmcebgdaaa

/-! Marks on integers, on rows of integers, on formulas. -/
namespace Go.Proofs.Ytbljfhmcebgdaaa
open Go Go.RowKit

end Go.Proofs.Ytbljfhmcebgdaaa

/-! Formulas and rows of integers: what comes in, copies, comparisons, marks; one form for all. -/
namespace Go.Proofs.Ytbljfhmcebgdaaa
open Go Go.RowKit Go.ChangeShapes Go.WideShapes Go.ChangeAt Go.Deep

/-- A formula as a value: two cells. -/
def Lay.cnf : Lay C where
  size := 2
  R w F x vs := ∃ A c, vs = [.int .i64 x.many, .slice A x.list.length c] ∧ x.list.length ≤ c ∧ Lay.int.slice.Sl w F A x.list
  len := by rintro w F x vs ⟨A, c, rfl, _⟩; rfl
  keep := by rintro w w' F x vs hk ⟨A, c, rfl, h1, h2⟩; exact ⟨A, c, rfl, h1, h2.keep hk⟩
  mono := by rintro w F G x vs hk ⟨A, c, rfl, h1, h2⟩; exact ⟨A, c, rfl, h1, h2.mono hk⟩
def okCIn (x : C) : Prop := okInt x.many ∧ x.list.length ≤ maxLen ∧ ∀ l ∈ x.list, okList l
theorem Opens.cnf {P : Program} {t ti sg : TypeId} {fs : Array Field} (ht : P.underlying t = some (.struct fs)) (hc : P.cellsOf t = 2) (hti : P.underlying ti = some (.int .i64)) (htic : P.cellsOf ti = 1) (hsg : P.cellsOf sg = 1)
    (hf : fs.toList.map (fun f : Field => (f.type, f.offset)) = [(ti, 0), (sg, 1)]) (hg : Opens P sg Lay.int.slice.slice (fun xs => xs.length ≤ maxLen ∧ ∀ x ∈ xs, okList x)) : Opens P t Lay.cnf okCIn := by
  have hfi : ∀ i, (fs[i]?).map (fun f : Field => (f.type, f.offset)) = [(ti, 0), (sg, 1)][i]? := fun i => by
    rw [← hf, List.getElem?_map, Array.getElem?_toList]
  intro H enc w base spare held fuel cs x h
  obtain ⟨a, oka, ra⟩ := OpensF.field ht h (Nat.le_succ _) 0 ti 0 1 (hfi 0) htic ((Opens.int hti).at _)
  obtain ⟨gs, okg, A, c, r1, l1, s1⟩ := OpensF.field ht h (Nat.le_succ _) 1 sg 1 1 (hfi 1) hsg (hg.at _)
  have hlen := trod_cells ht h
  rw [hc] at hlen
  match cs, hlen with
  | [x0, x1], _ =>
    simp [Lay.int, Lay.flat] at ra r1
    subst ra r1
    exact ⟨⟨a, gs⟩, ⟨oka, okg⟩, A, c, rfl, l1, s1⟩
def smRows (xs : List (List Int)) : Prop := xs.length ≤ 1048576 ∧ (∀ l ∈ xs, smInts l) ∧ nsum (xs.map List.length) ≤ 1048576
def smCnf (x : C) : Prop := okInt x.many ∧ smRows x.list
theorem smCnf.short {x : C} (h : smCnf x) : shortC x := ⟨h.2.1, fun l hl => (h.2.2.1 l hl).1⟩
theorem smCnf.ints {x : C} (h : smCnf x) : ∀ cl ∈ x.list, cl.length ≤ 1048576 ∧ i64s cl := fun l hl => h.2.2.1 l hl
end Go.Proofs.Ytbljfhmcebgdaaa

/-! Where a search is: the plain law. -/
namespace Go.Proofs.Ytbljfhmcebgdaaa
open Go Go.RowKit

structure S where
  put : List Int
  why : List Int
  learned : List (List Int)
  code : Int
/-- A clause is why a mark is put, behind others. -/
def because (pre cl : List Int) (m : Int) : Bool := decide (m ∈ cl) && cl.all (fun l => l == m || decide (-l ∈ pre))
def whyOk (cs : List (List Int)) (pre : List Int) (m k : Int) : Bool := k == -1 || (decide (0 ≤ k) && decide (k < cs.length) && because pre (cs.getD k.toNat []) m)
def whysF (cs : List (List Int)) : List Int → List Int → List Int → Bool
  | pre, m :: ms, k :: ks => whyOk cs pre m k && whysF cs (pre ++ [m]) ms ks
  | _, _, _ => true
/-- What is true of every valid search. -/
structure SatGood (c : C) (s : S) : Prop where
  cnf : cnfOk c = true
  learned : s.learned.length ≤ 300
  code0 : 0 ≤ s.code
  code1 : s.code ≤ 3
  len : s.put.length = s.why.length
  good : Good c.many s.put
  cls : ∀ cl ∈ s.learned, clOk c.many cl = true
  whys : whysF (c.list ++ s.learned) [] s.put s.why = true
/-- How it reads. -/
structure SatR (w : World) (F : Nat → Prop) (A B D : Option Addr) (s : S) : Prop where
  a : Lay.int.Sl w F A s.put
  b : Lay.int.Sl w F B s.why
  d : Lay.int.slice.Sl w F D s.learned
theorem SatR.below {w w' : World} {F : Nat → Prop} {A B D : Option Addr} {s : S} {n : Nat} (h : SatR w F A B D s) (hb : Below n w w') (hF : ∀ b, F b → b < n) : SatR w' F A B D s := ⟨h.a.below hb hF, h.b.below hb hF, h.d.below hb hF⟩
theorem SatR.keep {w w' : World} {F : Nat → Prop} {A B D : Option Addr} {s : S} (h : SatR w F A B D s) (hk : ∀ b, F b → w'.heap[b]? = w.heap[b]?) : SatR w' F A B D s := ⟨h.a.keep hk, h.b.keep hk, h.d.keep hk⟩
theorem SatR.mono {w : World} {F G : Nat → Prop} {A B D : Option Addr} {s : S} (h : SatR w F A B D s) (hk : ∀ b, F b → G b) : SatR w G A B D s := ⟨h.a.mono hk, h.b.mono hk, h.d.mono hk⟩
/-- The k-th clause, given or learned. -/
theorem clause_at {w : World} {F : Nat → Prop} {A D : Option Addr} {xs ys : List (List Int)} (h : Lay.int.slice.Sl w F A xs) (h' : Lay.int.slice.Sl w F D ys) {k : Nat} (hk : k < xs.length + ys.length) :
    ∃ A' c', Lay.int.Sl w F A' ((xs ++ ys).getD k []) ∧ ((xs ++ ys).getD k []).length ≤ c' ∧ ((k < xs.length ∧ ∃ ad, A = some ad ∧ w.cell? (ad.add k) = some (.slice A' ((xs ++ ys).getD k []).length c')) ∨
      (xs.length ≤ k ∧ ∃ ad, D = some ad ∧ w.cell? (ad.add (k - xs.length)) = some (.slice A' ((xs ++ ys).getD k []).length c'))) := by
  rcases Nat.lt_or_ge k xs.length with h1 | h1
  · obtain ⟨ad, A', c', e, _, hc, hl, hs⟩ := h.at_slice h1
    have he : (xs ++ ys).getD k [] = xs[k] := by rw [List.getD_eq_getElem?_getD, List.getElem?_append_left h1, List.getElem?_eq_getElem h1]; rfl
    rw [he]
    exact ⟨A', c', hs, hl, .inl ⟨h1, ad, e, hc⟩⟩
  · have h2 : k - xs.length < ys.length := by omega
    obtain ⟨ad, A', c', e, _, hc, hl, hs⟩ := h'.at_slice h2
    have he : (xs ++ ys).getD k [] = ys[k - xs.length] := by rw [List.getD_eq_getElem?_getD, List.getElem?_append_right h1, List.getElem?_eq_getElem h2]; rfl
    rw [he]
    exact ⟨A', c', hs, hl, .inr ⟨h1, ad, e, hc⟩⟩
end Go.Proofs.Ytbljfhmcebgdaaa

/-! The program's trail: place, implies. -/
namespace Go.Proofs.Ytbljfhmcebgdaaa
open Go Go.RowKit

end Go.Proofs.Ytbljfhmcebgdaaa

/-! The program's readSat: its parts. -/
namespace Go.Proofs.Ytbljfhmcebgdaaa
open Go Go.RowKit

theorem any_drop {f : Int → Bool} {xs : List Int} {k : Nat} (h : k < xs.length) : (xs.drop k).any f = (f xs[k] || (xs.drop (k + 1)).any f) := by
  rw [List.drop_eq_getElem_cons h]; rfl
end Go.Proofs.Ytbljfhmcebgdaaa

/-! The program's ClauseHas, CnfHas. -/
namespace Go.Proofs.Ytbljfhmcebgdaaa
open Go Go.RowKit

theorem litOk_inV (l : Int) (n : Nat) : litOk l n = inV n l := rfl
set_option maxRecDepth 100000 in
theorem holds_any (vs : List Bool) (l : Int) (A : Option Addr) (c : Nat) (F : Nat → Prop) (w : World) (h : Lay.bool.Sl w F A vs) (hn : vs.length ≤ 1048576) (h0 : -9223372036854775808 ≤ l) (h1 : l ≤ 9223372036854775807) :
    Calls Try.prog 86 #[.int .i64 l, .slice A vs.length c] w fun e w' => e = .returned (.bool (holdsL vs l)) ∧ w = w' := by
  have HO := Lib.hid (litOf_any l vs.length w h0 h1 (by omega) (by omega))
  rw [litOk_inV] at HO
  have HE : Hid (holdsL vs l = (inV vs.length l && (vs.getD (l.natAbs - 1) false == decide (0 < l)))) := Lib.hid rfl
  by_cases hv : inV vs.length l = true
  · rw [hv] at HO HE
    unfold inV at hv
    rw [decide_eq_true_eq] at hv
    have hk : l.natAbs - 1 < vs.length := by omega
    obtain ⟨ad, rfl, _, hc⟩ := h.at_bool hk
    have hget : vs.getD (l.natAbs - 1) false = vs[l.natAbs - 1] := by rw [List.getD_eq_getElem?_getD, List.getElem?_eq_getElem hk]; rfl
    rw [hget] at HE
    generalize vs[l.natAbs - 1] = z at *
    obtain ⟨na, hna⟩ : ∃ na : Int, na = l.natAbs := ⟨_, rfl⟩
    have qa : ∀ V : World, Calls Try.prog 93 #[.int .i64 l] V fun e w' => e = .returned (.int .i64 na) ∧ V = w' := fun V => by rw [hna]; exact variable_any l V (by omega) (by omega)
    have Qa := Lib.hid qa
    have hn0 : 0 ≤ na - 1 := by omega
    have hn1 : na - 1 < vs.length := by omega
    have e1 : IntKind.i64.wrap (na - 1) = na - 1 := IntWalk.i64_in _ (by omega)
    have e2 : na.toNat - 1 = l.natAbs - 1 := by omega
    rw [← e2] at hc
    clear qa hna e2 hget hv
    go_enter Try.func86, Try.ntmps86
    go_wp2_with fail
    refine HO.out.mono ?_
    rintro e w' ⟨rfl, rfl⟩
    go_wp2_with fail
    refine (Qa.out _).mono ?_
    rintro e w' ⟨rfl, rfl⟩
    go_wp2
    go_ret
    exact ⟨ret_bool (by rw [HE.out]; simp), rfl⟩
  · rw [Bool.not_eq_true] at hv
    rw [hv] at HO HE
    clear hv
    go_enter Try.func86, Try.ntmps86
    go_wp2_with fail
    refine HO.out.mono ?_
    rintro e w' ⟨rfl, rfl⟩
    go_wp2
    go_ret
    exact ⟨ret_bool (by rw [HE.out]; simp), rfl⟩
theorem clauseHas1_any (vs : List Bool) (l : Int) (A : Option Addr) (c b : Nat) (F : Nat → Prop) (w : World) (h : Lay.bool.Sl w F A vs) (hn : vs.length ≤ 1048576) (h0 : -9223372036854775808 ≤ l) (h1 : l ≤ 9223372036854775807) (hb : w.cell? ⟨b, 0, none⟩ = some (.slice A vs.length c)) :
    Calls Try.prog 85 #[.int .i64 l, .pointer (some ⟨b, 0, none⟩)] w fun e w' => e = .returned (.bool (holdsL vs l)) ∧ w = w' := by
  go_enter Try.func85, Try.ntmps85
  go_wp2_with fail
  refine (holds_any vs l A c F w h hn h0 h1).mono ?_
  rintro e w' ⟨rfl, rfl⟩
  go_wp2
  go_ret
  exact ⟨rfl, rfl⟩

set_option maxHeartbeats 1000000 in
theorem idxHas_any (vs : List Bool) (xs : List Int) (V : Option Addr) (v b : Nat) (A : Option Addr) (c : Nat) (F G : Nat → Prop) (w : World) (hs : Lay.int.Sl w F A xs) (hx : xs.length ≤ 1048576) (hr : i64s xs) (h : Lay.bool.Sl w G V vs) (hvn : vs.length ≤ 1048576) (hb : w.cell? ⟨b, 0, none⟩ = some (.slice V vs.length v)) :
    Calls Try.prog 109 #[.slice A xs.length c, .func (.func 85) #[] #[.pointer (some ⟨b, 0, none⟩)]] w fun e w' => ∃ r : Int, e = .returned (.int .i64 r) ∧ decide (0 ≤ r) = xs.any (holdsL vs) ∧ ∃ n, w' = w.drewN n := by
  have HC : Hid (∀ l ∈ xs, ∀ n, Calls Try.prog 85 #[.int .i64 l, .pointer (some ⟨b, 0, none⟩)] (w.drewN n) fun e w' => e = .returned (.bool (holdsL vs l)) ∧ ∃ m, w' = (w.drewN n).drewN m) :=
    Lib.hid fun l hl n => (clauseHas1_any vs l V v b G (w.drewN n) (h.drewN n) hvn (hr l hl).1 (hr l hl).2 hb).mono fun _ _ ⟨h1, h2⟩ => ⟨h1, 0, by rw [← h2]; rfl⟩
  clear hr h hb
  generalize holdsL vs = f at *
  go_enter Try.func109, Try.ntmps109
  go_wp2
  go_loopw [8] (fun i wr => ∃ j n : Nat, wr = w.drewN n ∧ j ≤ xs.length ∧ i = .int .i64 j ∧ xs.any f = (xs.drop j).any f) (fun i _ => xs.length - (intOf i).toNat)
  case atStart => exact ⟨0, 0, rfl, Nat.zero_le _, rfl, rfl⟩
  case round =>
    obtain ⟨j, n, rfl, hj, rfl, ht⟩ := hrel
    have HT := Lib.hid ht
    clear ht
    by_cases hlt : j < xs.length
    · obtain ⟨ad, rfl, hf, hc⟩ := (hs.drewN n).at_int hlt
      have hj1 : (j : Int) < xs.length := by omega
      have hcall := HC.out _ (List.getElem_mem hlt) n
      have HD := Lib.hid (any_drop (f := f) hlt)
      generalize xs[j] = a at *
      cases hfa : f a
      · rw [hfa] at hcall
        have HCC := Lib.hid hcall
        have HE := Lib.hid (show xs.any f = (xs.drop (j + 1)).any f by rw [HT.out, HD.out, hfa]; rfl)
        clear hcall hfa hf
        go_wp2_with fail
        refine HCC.out.mono ?_
        rintro e w' ⟨rfl, m, rfl⟩
        go_wp2
        go_roundw
        case rel => exact ⟨j + 1, n + m, by first | rfl | rw [World.drewN_drewN], by omega, by go_num, HE.out⟩
        case measure => simp [intOf]; omega
      · rw [hfa] at hcall
        have HCC := Lib.hid hcall
        have HE := Lib.hid (show xs.any f = true by rw [HT.out, HD.out, hfa]; rfl)
        clear hcall hfa hf
        go_wp2_with fail
        refine HCC.out.mono ?_
        rintro e w' ⟨rfl, m, rfl⟩
        go_wp2
        go_ret
        exact ⟨_, rfl, by rw [HE.out]; simp, n + m, by first | rfl | rw [World.drewN_drewN]⟩
    · have hke : j = xs.length := by omega
      subst hke
      have HE := Lib.hid (show xs.any f = false by rw [HT.out, List.drop_length]; rfl)
      go_wp2
      go_ret
      exact ⟨-1, rfl, by rw [HE.out]; rfl, n, rfl⟩
theorem hasHas_any (vs : List Bool) (xs : List Int) (V : Option Addr) (v b : Nat) (A : Option Addr) (c : Nat) (F G : Nat → Prop) (w : World) (hs : Lay.int.Sl w F A xs) (hx : xs.length ≤ 1048576) (hr : i64s xs) (h : Lay.bool.Sl w G V vs) (hvn : vs.length ≤ 1048576) (hb : w.cell? ⟨b, 0, none⟩ = some (.slice V vs.length v)) :
    Calls Try.prog 84 #[.slice A xs.length c, .func (.func 85) #[] #[.pointer (some ⟨b, 0, none⟩)]] w fun e w' => e = .returned (.bool (xs.any (holdsL vs))) ∧ ∃ n, w' = w.drewN n := by
  have HI := Lib.hid (idxHas_any vs xs V v b A c F G w hs hx hr h hvn hb)
  clear hs hr h hb
  go_enter Try.func84, Try.ntmps84
  go_wp2_with fail
  refine HI.out.mono ?_
  rintro e w' ⟨r, rfl, hr, n, rfl⟩
  have HR := Lib.hid hr
  clear hr
  go_wp2
  go_ret
  exact ⟨ret_bool (by rw [← HR.out]), n, rfl⟩



theorem clauseHas_any (cl : List Int) (vs : List Bool) (A B : Option Addr) (c d : Nat) (w : World) (h : Lay.int.Rd w A cl) (hn : cl.length ≤ 1048576) (hi : i64s cl) (hv : Lay.bool.Rd w B vs) (hvn : vs.length ≤ 1048576) :
    Calls Try.prog 48 #[.slice A cl.length c, .slice B vs.length d] w (RetB w (clHas vs cl)) := by
  have hw : Below w.heap.size w (w.alloc (.cells #[.slice B vs.length d] 38)) := (Below.refl _ _).alloc (Nat.le_refl _) _
  have hb0 : (w.alloc (.cells #[.slice B vs.length d] 38)).heap[w.heap.size]? = some (.cells #[.slice B vs.length d] 38 (0, 0)) := heap_alloc_new _ _
  have HH := Lib.hid (hasHas_any vs cl B d w.heap.size A c _ _ _ (h.up hw) hn hi (hv.up hw) hvn (cell_of_block hb0 0).1)
  have HW := Lib.hid hw
  clear h hv hb0 hw
  go_enter Try.func48, Try.ntmps48
  go_wp2_with fail
  refine HH.out.mono ?_
  rintro e w' ⟨rfl, n, rfl⟩
  go_wp2
  go_ret
  exact ⟨rfl, below_drewN HW.out _⟩
theorem holdsAll1_any (cl : List Int) (vs : List Bool) (A B : Option Addr) (c d b : Nat) (w : World) (h : Lay.int.Rd w A cl) (hn : cl.length ≤ 1048576) (hi : i64s cl) (hv : Lay.bool.Rd w B vs) (hvn : vs.length ≤ 1048576) (hb : w.cell? ⟨b, 0, none⟩ = some (.slice B vs.length d)) :
    Calls Try.prog 108 #[.slice A cl.length c, .pointer (some ⟨b, 0, none⟩)] w (RetB w (!clHas vs cl)) := by
  go_enter Try.func108, Try.ntmps108
  go_wp2_with fail
  refine (clauseHas_any cl vs A B c d w h hn hi hv hvn).mono ?_
  rintro e w' ⟨rfl, hb⟩
  go_wp2
  go_ret
  exact ⟨rfl, hb⟩
theorem all_dropC {f : List Int → Bool} {xs : List (List Int)} {k : Nat} (h : k < xs.length) : (xs.drop k).all f = (f xs[k] && (xs.drop (k + 1)).all f) := by
  rw [List.drop_eq_getElem_cons h]; rfl
set_option maxHeartbeats 1000000 in
theorem idxAll_any (xs : List (List Int)) (vs : List Bool) (A B : Option Addr) (c d b : Nat) (w : World) (h : Lay.int.slice.Rd w A xs) (hx : xs.length ≤ 1048576) (hn : ∀ cl ∈ xs, cl.length ≤ 1048576 ∧ i64s cl) (hv : Lay.bool.Rd w B vs) (hvn : vs.length ≤ 1048576) (hb : w.cell? ⟨b, 0, none⟩ = some (.slice B vs.length d)) :
    Calls Try.prog 102 #[.slice A xs.length c, .func (.func 108) #[] #[.pointer (some ⟨b, 0, none⟩)]] w fun e w' => ∃ r : Int, e = .returned (.int .i64 r) ∧ decide (0 ≤ r) = !xs.all (clHas vs) ∧ Below w.heap.size w w' := by
  go_enter Try.func102, Try.ntmps102
  go_wp2
  go_loopw [8] (fun i wr => ∃ k : Nat, k ≤ xs.length ∧ i = .int .i64 k ∧ xs.all (clHas vs) = (xs.drop k).all (clHas vs) ∧ Below w.heap.size w wr) (fun i _ => xs.length - (intOf i).toNat)
  case atStart => exact ⟨0, Nat.zero_le _, rfl, rfl, Below.refl _ _⟩
  case round =>
    obtain ⟨k, hk, rfl, ht, hB⟩ := hrel
    have HT := Lib.hid ht
    clear ht
    by_cases hlt : k < xs.length
    · obtain ⟨ad, A', c', rfl, hf, k1, hl1, s1⟩ := (h.up hB).at_slice hlt
      have hk1 : (k : Int) < xs.length := by omega
      obtain ⟨n1, n2⟩ := hn _ (List.getElem_mem hlt)
      have hcall := holdsAll1_any xs[k] vs A' B c' d b wr s1 n1 n2 (hv.up hB) hvn ((hB.cell (World.block_lt_of_cell? w _ hb)).trans hb)
      have HD := Lib.hid (all_dropC (f := clHas vs) hlt)
      generalize xs[k] = cl at *
      cases h1 : clHas vs cl
      · rw [h1] at hcall
        have HC := Lib.hid hcall
        have HE := Lib.hid (show xs.all (clHas vs) = false by rw [HT.out, HD.out, h1]; rfl)
        clear hcall h1
        go_wp2_with fail
        refine HC.out.mono ?_
        rintro e w' ⟨rfl, hb2⟩
        have hbb := bthen hB hb2
        clear hb2
        go_wp2
        go_ret
        exact ⟨_, rfl, by rw [HE.out]; simp, hbb⟩
      · rw [h1] at hcall
        have HC := Lib.hid hcall
        have HE := Lib.hid (show xs.all (clHas vs) = (xs.drop (k + 1)).all (clHas vs) by rw [HT.out, HD.out, h1]; rfl)
        clear hcall h1
        go_wp2_with fail
        refine HC.out.mono ?_
        rintro e w' ⟨rfl, hb2⟩
        have hbb := bthen hB hb2
        clear hb2
        go_wp2
        go_roundw
        case rel => exact ⟨k + 1, by omega, by go_num, HE.out, hbb⟩
        case measure => simp [intOf]; omega
    · have hke : k = xs.length := by omega
      subst hke
      have HE := Lib.hid (show xs.all (clHas vs) = true by rw [HT.out, List.drop_length]; rfl)
      go_wp2
      go_ret
      exact ⟨-1, rfl, by rw [HE.out]; rfl, hB⟩
theorem hasAll_any (xs : List (List Int)) (vs : List Bool) (A B : Option Addr) (c d b : Nat) (w : World) (h : Lay.int.slice.Rd w A xs) (hx : xs.length ≤ 1048576) (hn : ∀ cl ∈ xs, cl.length ≤ 1048576 ∧ i64s cl) (hv : Lay.bool.Rd w B vs) (hvn : vs.length ≤ 1048576) (hb : w.cell? ⟨b, 0, none⟩ = some (.slice B vs.length d)) :
    Calls Try.prog 76 #[.slice A xs.length c, .func (.func 108) #[] #[.pointer (some ⟨b, 0, none⟩)]] w (RetB w (!xs.all (clHas vs))) := by
  go_enter Try.func76, Try.ntmps76
  go_wp2_with fail
  refine (idxAll_any xs vs A B c d b w h hx hn hv hvn hb).mono ?_
  rintro e w' ⟨r, rfl, hr, hB⟩
  have HR := Lib.hid hr
  clear hr
  go_wp2
  go_ret
  exact ⟨ret_bool (by rw [← HR.out]), hB⟩
theorem holdsAll_any (xs : List (List Int)) (vs : List Bool) (A B : Option Addr) (c d : Nat) (w : World) (h : Lay.int.slice.Rd w A xs) (hx : xs.length ≤ 1048576) (hn : ∀ cl ∈ xs, cl.length ≤ 1048576 ∧ i64s cl) (hv : Lay.bool.Rd w B vs) (hvn : vs.length ≤ 1048576) :
    Calls Try.prog 83 #[.slice A xs.length c, .slice B vs.length d] w (RetB w (xs.all (clHas vs))) := by
  have hw : Below w.heap.size w (w.alloc (.cells #[.slice B vs.length d] 38)) := (Below.refl _ _).alloc (Nat.le_refl _) _
  have hb0 : (w.alloc (.cells #[.slice B vs.length d] 38)).heap[w.heap.size]? = some (.cells #[.slice B vs.length d] 38 (0, 0)) := heap_alloc_new _ _
  have HH := Lib.hid (hasAll_any xs vs A B c d w.heap.size _ (h.up hw) hx hn (hv.up hw) hvn (cell_of_block hb0 0).1)
  have HW := Lib.hid hw
  clear h hv hb0 hw
  go_enter Try.func83, Try.ntmps83
  go_wp2_with fail
  refine HH.out.mono ?_
  rintro e w' ⟨rfl, hb2⟩
  go_wp2
  go_ret
  exact ⟨ret_bool (by simp), bthen HW.out hb2⟩
set_option maxRecDepth 100000 in
theorem cnfHas_any (x : C) (vs : List Bool) (A B : Option Addr) (c d : Nat) (w : World) (h : Lay.int.slice.Rd w A x.list) (sx : smCnf x) (hv : Lay.bool.Rd w B vs) (hvn : vs.length ≤ 1048576) :
    Calls Try.prog 47 #[.agg #[.int .i64 x.many, .slice A x.list.length c], .slice B vs.length d] w (RetB w (cnfHas x vs)) := by
  have hw : Below w.heap.size w (w.alloc (.cells #[.int .i64 x.many, .slice A x.list.length c] 25)) := (Below.refl _ _).alloc (Nat.le_refl _) _
  have hb0 : (w.alloc (.cells #[.int .i64 x.many, .slice A x.list.length c] 25)).heap[w.heap.size]? = some (.cells #[.int .i64 x.many, .slice A x.list.length c] 25 (0, 0)) := heap_alloc_new _ _
  have hX := h.up hw
  have hV := hv.up hw
  have HOK := Lib.hid (cnfOkP_any x A c _ _ hX (fun _ h => h) sx.1 (by have := sx.2.1; omega) sx.ints)
  have HE : Hid (cnfHas x vs = (cnfOk x && (decide ((vs.length : Int) = x.many) && x.list.all (clHas vs)))) := Lib.hid rfl
  have HW := Lib.hid hw
  have HB0 := Lib.hid hb0
  have SX := Lib.hid sx
  clear h hv hb0 hw sx
  go_enter Try.func47, Try.ntmps47
  go_wp2_with fail
  generalize w.alloc (.cells #[.int .i64 x.many, .slice A x.list.length c] 25) = W at *
  refine HOK.out.mono ?_
  rintro e w1 ⟨rfl, hb1⟩
  have HB0 := Lib.hid ((hb1.block _ (lt_of_block HB0.out)).trans HB0.out)
  have c0 : w1.cell? ⟨w.heap.size, 0, none⟩ = some (.int .i64 x.many) := (cell_of_block HB0.out 0).1
  have c1 : w1.cell? ⟨w.heap.size, 1, none⟩ = some (.slice A x.list.length c) := (cell_of_block HB0.out 1).1
  have hX := hX.up hb1
  have hV := hV.up hb1
  have HBB := Lib.hid (bthen HW.out hb1)
  clear hb1 HOK
  cases hok : cnfOk x
  · rw [hok] at HE
    clear hok
    go_wp2
    go_ret
    exact ⟨ret_bool (by rw [HE.out]; rfl), HBB.out⟩
  rw [hok] at HE
  clear hok
  by_cases hl : (vs.length : Int) = x.many
  · rw [decide_eq_true hl] at HE
    have hlb : ((vs.length : Int) == x.many) = true := by simp [hl]
    have HA := Lib.hid (holdsAll_any x.list vs A B c d w1 hX (by have := SX.out.2.1; omega) SX.out.ints hV hvn)
    clear hl hX hV
    go_wp2_with fail
    refine HA.out.mono ?_
    rintro e w2 ⟨rfl, hb2⟩
    go_wp2
    go_ret
    exact ⟨ret_bool (by rw [HE.out]; simp), bthen HBB.out hb2⟩
  · rw [decide_eq_false hl] at HE
    have hlb : ((vs.length : Int) == x.many) = false := by simp [hl]
    clear hl
    go_wp2
    go_ret
    exact ⟨ret_bool (by rw [HE.out]; rfl), HBB.out⟩

end Go.Proofs.Ytbljfhmcebgdaaa

/-! Contracts of the reference's reader of codes: l12Open, pick. -/
namespace Go.Proofs.Ytbljfhmcebgdaaa
open Go Go.RowKit

/-- Block r is a reader at place p, of at most 2000 bytes that lie below it. -/
def Rdr (w : World) (r : Nat) (p : Int) : Prop :=
  ∃ A c bs, w.heap[r]? = some (.cells #[.slice A bs.length c, .int .i64 p] 86 (0, 0)) ∧ bs.length ≤ 2000 ∧ Lay.byte.Sl w (fun b => b < r) A bs

/-- The reader stays over what leaves its block and the blocks below it alone. -/
theorem Rdr.keep {w w' : World} {r : Nat} {p : Int} (h : Rdr w r p) (hk : ∀ b, b ≤ r → w'.heap[b]? = w.heap[b]?) : Rdr w' r p := by
  obtain ⟨A, c, bs, hb, hl, hs⟩ := h
  exact ⟨A, c, bs, (hk r (Nat.le_refl _)).trans hb, hl, hs.keep fun b hb => hk b (Nat.le_of_lt hb)⟩
theorem Rdr.lt {w : World} {r : Nat} {p : Int} (h : Rdr w r p) : r < w.heap.size := by
  obtain ⟨A, c, bs, hb, _⟩ := h
  exact lt_of_block hb
theorem Rdr.up {w w' : World} {r : Nat} {p : Int} (h : Rdr w r p) (hb : Below w.heap.size w w') : Rdr w' r p :=
  h.keep fun b hbr => hb.block b (Nat.lt_of_le_of_lt hbr h.lt)

def OpenPost (w : World) (e : Ending) (w' : World) : Prop := ∃ r, e = .returned (.pointer (some ⟨r, 0, none⟩)) ∧ w.heap.size ≤ r ∧ Rdr w' r 0 ∧ Below w.heap.size w w'

theorem open_any (A : Option Addr) (c : Nat) (bs : List UInt8) (w : World) (h : Lay.byte.Rd w A bs) (hc : bs.length ≤ c) (hn : bs.length ≤ 9223372036854775807) :
    Calls Try.prog 36 #[.slice A bs.length c] w (OpenPost w) := by
  by_cases hl : 2000 < bs.length
  · go_enter Try.func36, Try.ntmps36
    go_wp2
    go_ret
    refine ⟨w.heap.size, rfl, Nat.le_refl _, ⟨A, c, bs.take 2000, ?_, by simp; omega, ?_⟩, (Below.refl _ _).alloc (Nat.le_refl _) _⟩
    · have e : (bs.take 2000).length = 2000 := by simp; omega
      rw [e]
      exact heap_alloc_new w _
    · exact (h.take 2000).keep fun b hb => Below.heap_alloc w _ b hb
  · go_enter Try.func36, Try.ntmps36
    go_wp2
    go_ret
    refine ⟨w.heap.size, rfl, Nat.le_refl _, ⟨A, c, bs, ?_, by omega, ?_⟩, (Below.refl _ _).alloc (Nat.le_refl _) _⟩
    · exact heap_alloc_new w _
    · exact h.keep fun b hb => Below.heap_alloc w _ b hb

/-- A number below n, and the reader one place on. -/
def PickPost (w : World) (r : Nat) (p n : Int) (e : Ending) (w' : World) : Prop :=
  ∃ k : Int, e = .returned (.int .i64 k) ∧ 0 ≤ k ∧ (1 ≤ n → k < n) ∧ (n < 1 → k = 0) ∧ Rdr w' r (p + 1) ∧ w.grownBy w' (some r)

theorem pick_end {w : World} {r : Nat} {p n k : Int} (m : Nat) (h : Rdr w r p) (k0 : 0 ≤ k) (k1 : 1 ≤ n → k < n) (k2 : n < 1 → k = 0) :
    PickPost w r p n (.returned (.int .i64 k)) ((w.setCell ⟨r, 1, none⟩ (.int .i64 (p + 1))).drewN m) := by
  have hlt := h.lt
  refine ⟨k, rfl, k0, k1, k2, ?_, ⟨rfl, rfl, rfl, by simp [World.setCell, World.drewN], fun i hi hne => Below.heap_setCell w ⟨r, 1, none⟩ _ i (fun e => hne (by rw [e]))⟩⟩
  obtain ⟨A, c, bs, hb, hl, hs⟩ := h
  refine ⟨A, c, bs, ?_, hl, hs.keep fun b hb => Below.heap_setCell w ⟨r, 1, none⟩ _ b (Nat.ne_of_lt hb)⟩
  show (w.setCell ⟨r, 1, none⟩ (.int .i64 (p + 1))).heap[r]? = _
  simp [World.setCell, Array.getElem?_modify, hb]

theorem far_cell {w : World} {a b : Addr} {v u : Value} (h : w.cell? a = some u) (hne : a.block ≠ b.block) : (w.setCell b v).cell? a = some u := by
  rw [World.cell?_setCell_other w b a v (fun e => hne (by rw [e]))]; exact h

theorem ofInt_i64 (a : Nat) (ha : a < 9223372036854775808) : (BitVec.ofInt 64 (a : Int)).toNat = a := by
  rw [BitVec.ofInt_natCast, BitVec.toNat_ofNat]; exact Nat.mod_eq_of_lt (by omega)
theorem i64_xor_nat (a b : Nat) (ha : a < 9223372036854775808) (hb : b < 9223372036854775808) : bits .xor .i64 (a : Int) (b : Int) = ((a ^^^ b : Nat) : Int) := by
  have hx : a ^^^ b < 2 ^ 63 := Nat.xor_lt_two_pow (by omega) (by omega)
  show IntKind.i64.wrap ((BitVec.ofInt 64 (a : Int) ^^^ BitVec.ofInt 64 (b : Int)).toNat : Int) = _
  rw [BitVec.toNat_xor, ofInt_i64 a ha, ofInt_i64 b hb, IntKind.wrap_i64]
  omega

theorem mix_wraps (P y z D : Nat) (hP : P ≤ 1000000000) (hy : y < 256) (hz : z < 256) (hD : D ≤ 1000000000) :
    IntKind.i64.wrap ((P : Int) * 7) = (P : Int) * 7 ∧ IntKind.i64.wrap ((P : Int) * 7 + 3) = (P : Int) * 7 + 3 ∧ IntKind.i64.wrap (y : Int) = (y : Int) ∧ IntKind.i64.wrap ((y : Int) * 131) = (y : Int) * 131 ∧
    IntKind.i64.wrap (z : Int) = (z : Int) ∧ IntKind.i64.wrap ((z : Int) * 1117) = (z : Int) * 1117 ∧ IntKind.i64.wrap ((y : Int) * 131 + (z : Int) * 1117) = (y : Int) * 131 + (z : Int) * 1117 ∧
    IntKind.i64.wrap ((P : Int) * 29) = (P : Int) * 29 ∧ IntKind.i64.wrap ((y : Int) * 131 + (z : Int) * 1117 + (P : Int) * 29) = (y : Int) * 131 + (z : Int) * 1117 + (P : Int) * 29 ∧
    IntKind.i64.wrap (D : Int) = (D : Int) ∧ IntKind.i64.wrap ((D : Int) * 53) = (D : Int) * 53 ∧
    IntKind.i64.wrap ((y : Int) * 131 + (z : Int) * 1117 + (P : Int) * 29 + (D : Int) * 53) = (y : Int) * 131 + (z : Int) * 1117 + (P : Int) * 29 + (D : Int) * 53 :=
  ⟨IntWalk.i64_in _ (by omega), IntWalk.i64_in _ (by omega), IntWalk.i64_in _ (by omega), IntWalk.i64_in _ (by omega), IntWalk.i64_in _ (by omega), IntWalk.i64_in _ (by omega),
    IntWalk.i64_in _ (by omega), IntWalk.i64_in _ (by omega), IntWalk.i64_in _ (by omega), IntWalk.i64_in _ (by omega), IntWalk.i64_in _ (by omega), IntWalk.i64_in _ (by omega)⟩

set_option maxRecDepth 100000 in
set_option maxHeartbeats 1000000 in
theorem pick_any (r : Nat) (p n : Int) (w : World) (h : Rdr w r p) (p0 : 0 ≤ p) (p1 : p ≤ 1000000000) (n1 : n ≤ 9223372036854775807) (n0 : -9223372036854775808 ≤ n) :
    Calls Try.prog 40 #[.pointer (some ⟨r, 0, none⟩), .int .i64 n] w (PickPost w r p n) := by
  obtain ⟨A, c, bs, hb, hl, hs⟩ := h
  have hc0 : w.cell? ⟨r, 0, none⟩ = some (.slice A bs.length c) := by simp [World.cell?, hb]
  have hc1 : w.cell? ⟨r, 1, none⟩ = some (.int .i64 p) := by simp [World.cell?, hb]
  have hf : w.frozen? ⟨r, 1, none⟩ = false := by simp [World.frozen?, hb]
  have Hb := Lib.hid hb
  clear hb
  have hR : Rdr w r p := ⟨A, c, bs, Hb.out, hl, hs⟩
  have HR := Lib.hid hR
  clear hR
  by_cases hn : n < 1
  · go_enter Try.func40, Try.ntmps40
    go_wp2
    go_ret
    exact pick_end 0 HR.out (by omega) (by omega) (fun _ => rfl)
  · by_cases he : bs.length = 0
    · go_enter Try.func40, Try.ntmps40
      go_wp2
      go_ret
      exact pick_end 0 HR.out (by omega) (by omega) (fun _ => rfl)
    · by_cases hk : p < bs.length
      · have hkn : p.toNat < bs.length := by omega
        obtain ⟨ad, rfl, hfr, hcb⟩ := hs.at_byte hkn
        have hcb' : (w.setCell ⟨r, 1, none⟩ (.int .i64 (p + 1))).cell? (ad.add p.toNat) = some (.int .u8 (bs[p.toNat].toNat : Int)) := far_cell hcb (by rw [block_of_add]; exact Nat.ne_of_lt hfr)
        have hb0 : (0 : Int) ≤ bs[p.toNat].toNat := by omega
        have hb1 : (bs[p.toNat].toNat : Int) < 256 := by have := bs[p.toNat].toNat_lt; omega
        generalize (bs[p.toNat].toNat : Int) = y at *
        go_enter Try.func40, Try.ntmps40
        go_wp2
        go_ret
        exact pick_end 0 HR.out (Int.emod_nonneg _ (by omega)) (fun _ => Int.emod_lt_of_pos _ (by omega)) (fun h => by omega)
      · have hq0 : 0 < bs.length := by omega
        obtain ⟨P, rfl⟩ := Int.eq_ofNat_of_zero_le p0
        obtain ⟨X, hx, t1⟩ : ∃ X : Nat, X < bs.length ∧ (P : Int).tmod bs.length = X := ⟨P % bs.length, Nat.mod_lt _ hq0, by rw [Int.tmod_eq_emod_of_nonneg (by omega)]; simp⟩
        obtain ⟨Y, hy, t2⟩ : ∃ Y : Nat, Y < bs.length ∧ ((P : Int) * 7 + 3).tmod bs.length = Y := ⟨(P * 7 + 3) % bs.length, Nat.mod_lt _ hq0, by rw [Int.tmod_eq_emod_of_nonneg (by omega)]; simp⟩
        obtain ⟨D, hd, t3⟩ : ∃ D : Nat, D ≤ P ∧ (P : Int).tdiv bs.length = D := ⟨P / bs.length, Nat.div_le_self _ _, by rw [Int.tdiv_eq_ediv_of_nonneg (by omega)]; simp⟩
        obtain ⟨ad, rfl, hfr, hcb⟩ := hs.at_byte hx
        obtain ⟨ad', e, _, hcb2⟩ := hs.at_byte hy
        cases e
        have hcb' : (w.setCell ⟨r, 1, none⟩ (.int .i64 ((P : Int) + 1))).cell? (ad.add _) = some _ := far_cell hcb (by rw [block_of_add]; exact Nat.ne_of_lt hfr)
        have hcb2' : (w.setCell ⟨r, 1, none⟩ (.int .i64 ((P : Int) + 1))).cell? (ad.add _) = some _ := far_cell hcb2 (by rw [block_of_add]; exact Nat.ne_of_lt hfr)
        have hb1 := bs[X].toNat_lt
        have hb2 := bs[Y].toNat_lt
        generalize bs[X].toNat = y at *
        generalize bs[Y].toNat = z at *
        clear hcb hcb2
        have hx' : (X : Int) < bs.length := by omega
        have hy' : (Y : Int) < bs.length := by omega
        obtain ⟨e1, e2, e3, e4, e5, e6, e7, e8, e9, e10, e11, e12⟩ := mix_wraps P y z D (by omega) hb1 hb2 (by omega)
        have hlen : ((bs.length : Int) == 0) = false := beq_eq_false_iff_ne.2 (by omega)
        go_enter Try.func40, Try.ntmps40
        go_wp2
        go_quiet (fail)
        clear e1 e2 e3 e4 e5 e6 e7 e8 e9 e10 e11 e12 t1 t2 t3 hlen
        go_wp2
        go_ret
        have hM : (y : Int) * 131 + (z : Int) * 1117 + (P : Int) * 29 + (D : Int) * 53 = ((y * 131 + z * 1117 + P * 29 + D * 53 : Nat) : Int) := by omega
        have hlt : y * 131 + z * 1117 + P * 29 + D * 53 < 9223372036854775808 := by omega
        show PickPost w r P n (.returned (.int .i64 ((bits BinOp.xor IntKind.i64 ((y : Int) * 131 + z * 1117 + P * 29 + D * 53) (((y : Int) * 131 + z * 1117 + P * 29 + D * 53) / 64)).tmod n))) _
        rw [hM]
        generalize y * 131 + z * 1117 + P * 29 + D * 53 = M at *
        rw [show ((M : Int) / 64) = ((M / 64 : Nat) : Int) from by omega, i64_xor_nat _ _ hlt (by omega)]
        generalize (M ^^^ M / 64) = Q
        rw [Int.tmod_eq_emod_of_nonneg (by omega)]
        exact pick_end nq HR.out (Int.emod_nonneg _ (by omega)) (fun _ => Int.emod_lt_of_pos _ (by omega)) (fun h => by omega)
end Go.Proofs.Ytbljfhmcebgdaaa
