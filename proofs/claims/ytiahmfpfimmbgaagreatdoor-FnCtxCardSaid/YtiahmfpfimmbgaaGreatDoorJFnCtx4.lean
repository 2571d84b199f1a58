/- The map of the kinds of terms: impl.kinds. The kinds' methods: kids, sort. The program's terms: count, TermMany, plain. The program's terms: TermMany, plain. -/
import Derived.Maps.OwnSet
import Derived.Test.YtiahmfpfimmbgaaGreatDoorJFnCtx2
import Derived.Test.YtiahmfpfimmbgaaGreatDoorJFnCtx3
/-! The map of the kinds of terms: impl.kinds. -/
namespace Go.Proofs.YtiahmfpfimmbgaaGreatDoor
open Go Go.RowKit Go.Maps

def heldV (v : Value) : Option (DataW Value × List MemPlace) := some (.held v, [])
def i64 (n : Int) : Prop := -9223372036854775808 ≤ n ∧ n ≤ 9223372036854775807
theorem int_kd : Keyed Tryz.prog 3 := int_keyed Tryz.underlying3
theorem keyI {n : Int} (h : i64 n) : keyOf Tryz.prog 3 (.int .i64 n) = some (.int .i64 n) := keyOf_int_mk Tryz.underlying3 (WalkArith.wf_i64 h)
theorem keyI_inj {n m : Int} (e : Lit.int .i64 n = Lit.int .i64 m) : n = m := by injection e
/-- What a map says: at each key its value. -/
structure KK (f : Int → Option Value) (D : DataW Value) : Prop where
  isMap : IsMap D
  has : ∀ n, i64 n → Maps.has D (.int .i64 n) = (f n).isSome
  at_ : ∀ n v, i64 n → f n = some v → ∀ z, D.atKey (.int .i64 n) z = .held v
def updF (f : Int → Option Value) (n : Int) (v : Value) : Int → Option Value := fun m => if m = n then some v else f m
theorem KK.nil : KK (fun _ => none) (.map []) := ⟨isMap_empty, fun n _ => by simp [Maps.has], fun n v _ h => by cases h⟩
theorem KK.put {f : Int → Option Value} {D : DataW Value} (h : KK f D) (n : Int) (hn : i64 n) (v : Value) : KK (updF f n v) (D.put (.int .i64 n) (.held v)) := by
  refine ⟨h.isMap.put _ _, fun m hm => ?_, fun m u hm hu z => ?_⟩
  · by_cases e : m = n
    · subst e
      rw [has_put_same h.isMap (int_kd.key (keyI hn))]; simp [updF]
    · have hne : Lit.int .i64 m ≠ Lit.int .i64 n := fun e' => e (keyI_inj e')
      rw [has_put_other hne, h.has m hm]
      simp [updF, e]
  · by_cases e : m = n
    · subst e
      rw [atKey_put_same h.isMap (int_kd.key (keyI hn))]
      simp [updF] at hu
      rw [hu]
    · have hne : Lit.int .i64 m ≠ Lit.int .i64 n := fun e' => e (keyI_inj e')
      simp [updF, e] at hu
      rw [atKey_put_other hne, h.at_ m u hm hu]
/-- The block b is a map that says f. -/
def KAt (w : World) (b n : Nat) (f : Int → Option Value) : Prop := ∃ D : DataW Value, w.ownsMap Tryz.prog 3 heldV b n D ∧ KK f D
theorem KAt.lt {w : World} {b n : Nat} {f : Int → Option Value} (h : KAt w b n f) : b < w.heap.size := by
  obtain ⟨D, h1, h2⟩ := h
  exact h1.lt
theorem KAt.up {w w' : World} {lo b n : Nat} {f : Int → Option Value} (h : KAt w b n f) (hb : Below lo w w') (hl : b < lo) : KAt w' b n f := by
  obtain ⟨D, ⟨es, clock, h1, h2⟩, h3⟩ := h
  exact ⟨D, ⟨es, clock, (hb.block b hl).trans h1, h2⟩, h3⟩
theorem KAt.made (w : World) : KAt (w.alloc (.map #[] 0)) w.heap.size 0 (fun _ => none) := ⟨_, World.ownsMap_made w _ _ _, KK.nil⟩
theorem KAt.update {w w0 : World} {lo b n : Nat} {f : Int → Option Value} (h : KAt w b n f) (hb : Below lo w0 w) (hlo : lo ≤ b) (hn : n < 1000) (k : Int) (hk : i64 k) (v : Value) :
    ∃ w', (Instr.mapUpdate 132 (.map (some b)) (.int .i64 k) v).run Tryz.prog w = .ok () w' ∧ KAt w' b (n + 1) (updF f k v) ∧ Below lo w0 w' ∧ w.grownBy w' (some b) := by
  obtain ⟨D, h1, h2⟩ := h
  obtain ⟨w', hr, ho, hg⟩ := h1.update int_kd Tryz.underlying132 (by unfold maxLen; omega) (keyI hk) (val := v) (d := .held v) (ps := []) rfl
  exact ⟨w', hr, ⟨_, ho, h2.put k hk v⟩, hb.grown hg (Nat.le_trans hlo (Nat.le_of_lt h1.lt)) (fun k hk => by injection hk with hk; omega), hg⟩
/-- A kind's value, of the operation. -/
inductive IsKind : Int → Value → Prop
  | un (op : Int) (h : op = 1 ∨ op = 2) (s : ByteArray) : IsKind op (.iface 156 (.agg #[.string s, .int .i64 1]))
  | bin (op : Int) (h : 3 ≤ op ∧ op ≤ 13) (s : ByteArray) : IsKind op (.iface 167 (.agg #[.string s, .int .i64 2]))
  | cat (s : ByteArray) : IsKind 14 (.iface 157 (.agg #[.string s, .int .i64 2]))
  | cmp (op : Int) (h : 15 ≤ op ∧ op ≤ 17) (s : ByteArray) : IsKind op (.iface 158 (.agg #[.string s, .int .i64 2]))
  | vec (s : ByteArray) : IsKind 20 (.iface 159 (.agg #[.string s, .int .i64 0]))
  | name (s : ByteArray) : IsKind 21 (.iface 160 (.agg #[.string s, .int .i64 0]))
  | cut (s : ByteArray) : IsKind 22 (.iface 161 (.agg #[.string s, .int .i64 1]))
  | cond (s : ByteArray) : IsKind 23 (.iface 162 (.agg #[.string s, .int .i64 3]))
  | bool (op : Int) (h : 24 ≤ op ∧ op ≤ 27) (s : ByteArray) (fn : Value) : IsKind op (.iface 166 (.agg #[.string s, .int .i64 (arity op), fn]))
/-- What the map says of the operations of the list. -/
def UptoB (l : List Int) (f : Int → Option Value) : Prop := ∀ op, if op ∈ l then ∃ v, f op = some v ∧ IsKind op v else f op = none
theorem UptoB.nil : UptoB [] (fun _ => none) := fun op => by simp
theorem UptoB.put {l : List Int} {f : Int → Option Value} {k : Int} {v : Value} (h : UptoB l f) (hv : IsKind k v) : UptoB (k :: l) (updF f k v) := by
  intro op
  have h9 := h op
  by_cases e : op = k
  · subst e
    rw [if_pos (List.mem_cons_self ..)]
    exact ⟨v, by simp [updF], hv⟩
  · have e2 : updF f k v op = f op := by simp [updF, e]
    rw [e2]
    by_cases hc : op ∈ l
    · rw [if_pos hc] at h9
      rw [if_pos (List.mem_cons_of_mem _ hc)]
      exact h9
    · rw [if_neg hc] at h9
      rw [if_neg (fun h => (List.mem_cons.1 h).elim e hc)]
      exact h9
theorem wpList_insert_kk {w w0 : World} {lo : Nat} {ops : Array Oper} {rest : List Oper} {o : Oper} {a : Act} {Q : Exit → Act → World → Prop} {b n : Nat} {l : List Int} {f : Int → Option Value}
    (hg : o.guard = none) {m x v : Operand} (hop : o.op = Op.insert 132 m x v) (hm : a.eval m = .map (some b)) (h : KAt w b n f) (hb : Below lo w0 w) (hlo : lo ≤ b) (hn : n < 1000) {k : Int} (hx : a.eval x = .int .i64 k) (hk : i64 k) {val : Value} (hv : a.eval v = val)
    (hu : UptoB l f) (hval : IsKind k val)
    (hK : ∀ w' f', KAt w' b (n + 1) f' → UptoB (k :: l) f' → Below lo w0 w' → wpList Tryz.prog ops Q rest (a.put o.dst undef) w') : wpList Tryz.prog ops Q (o :: rest) a w := by
  refine wpList_plain hg fun K' hK' => ?_
  obtain ⟨w', hrun, r1, r2, _⟩ := h.update hb hlo hn k hk val
  unfold Oper.wp
  simp [execOp, hop, hm, hx, hv, hrun, Result.andThen]
  exact hK' _ _ (hK w' _ r1 (hu.put hval) r2)
theorem wpList_mapUpdate_kk {w w0 : World} {lo : Nat} {ops : Array Oper} {rest : List Oper} {o : Oper} {a : Act} {Q : Exit → Act → World → Prop} {b n : Nat} {f : Int → Option Value}
    (hg : o.guard = none) {m x v : Operand} (hop : o.op = Op.mapUpdate 132 m x v) (hm : a.eval m = .map (some b)) (h : KAt w b n f) (hb : Below lo w0 w) (hlo : lo ≤ b) (hn : n < 1000) {k : Int} (hx : a.eval x = .int .i64 k) (hk : i64 k) {val : Value} (hv : a.eval v = val)
    (hK : ∀ w', KAt w' b (n + 1) (updF f k val) → Below lo w0 w' → w.grownBy w' (some b) → wpList Tryz.prog ops Q rest (a.put o.dst undef) w') : wpList Tryz.prog ops Q (o :: rest) a w := by
  refine wpList_plain hg fun K' hK' => ?_
  obtain ⟨w', hrun, r1, r2, r3⟩ := h.update hb hlo hn k hk val
  unfold Oper.wp
  simp [execOp, hop, hm, hx, hv, hrun, Result.andThen]
  exact hK' _ _ (hK w' r1 r2 r3)
def baseOp (op : Int) : Bool := op == 1 || op == 2 || op == 14 || op == 15 || op == 16 || op == 17 || op == 20 || op == 21 || op == 22 || op == 23 || op == 24 || op == 25 || op == 26 || op == 27
/-- What the map says when k of the operations of two have been laid. -/
def Upto (k : Nat) (f : Int → Option Value) : Prop := ∀ op, if baseOp op = true ∨ (3 ≤ op ∧ op < 3 + k) then ∃ v, f op = some v ∧ IsKind op v else f op = none
theorem Upto.step {k : Nat} {f : Int → Option Value} (h : Upto k f) (hk : k < 11) (s : ByteArray) : Upto (k + 1) (updF f (3 + k) (.iface 167 (.agg #[.string s, .int .i64 2]))) := by
  intro op
  have h9 := h op
  by_cases e : op = 3 + k
  · rw [if_pos (.inr (by omega))]
    exact ⟨_, by simp [updF, e], .bin op (by omega) s⟩
  · have e2 : updF f (3 + k) (.iface 167 (.agg #[.string s, .int .i64 2])) op = f op := by simp [updF, e]
    rw [e2]
    by_cases hc : baseOp op = true ∨ (3 ≤ op ∧ op < 3 + k)
    · rw [if_pos hc] at h9
      rw [if_pos (hc.elim .inl fun h => .inr (by omega))]
      exact h9
    · rw [if_neg hc] at h9
      rw [if_neg (fun h => hc (h.elim .inl fun h => .inr (by omega)))]
      exact h9
theorem UptoB.upto {f : Int → Option Value} (h : UptoB [27, 26, 25, 24, 23, 22, 21, 20, 17, 16, 15, 14, 2, 1] f) : Upto 0 f := by
  intro op
  have h9 := h op
  have hb : baseOp op = true ↔ op ∈ [(27 : Int), 26, 25, 24, 23, 22, 21, 20, 17, 16, 15, 14, 2, 1] := by
    simp only [baseOp, Bool.or_eq_true, beq_iff_eq, List.mem_cons, List.not_mem_nil, or_false]
    omega
  by_cases hc : baseOp op = true
  · rw [if_pos (hb.1 hc)] at h9
    rw [if_pos (.inl hc)]
    exact h9
  · rw [if_neg (fun h => hc (hb.2 h))] at h9
    rw [if_neg (fun h => h.elim hc (fun h => by omega))]
    exact h9
def opWords : List ByteArray := [⟨#[97, 110, 100]⟩, ⟨#[111, 114]⟩, ⟨#[120, 111, 114]⟩, ⟨#[97, 100, 100]⟩, ⟨#[115, 117, 98]⟩, ⟨#[109, 117, 108]⟩, ⟨#[100, 105, 118]⟩, ⟨#[114, 101, 109]⟩, ⟨#[115, 104, 108]⟩, ⟨#[115, 104, 114]⟩, ⟨#[115, 97, 114]⟩]
set_option maxRecDepth 100000 in
set_option maxHeartbeats 4000000 in
/-- The map of the kinds. -/
theorem kinds_any (w : World) : Calls Tryz.prog 116 #[] w fun e w' => ∃ f, e = .returned (.map (some w.heap.size)) ∧ KAt w' w.heap.size 25 f ∧ Upto 11 f ∧ Below w.heap.size w w' := by
  have HM := KAt.made w
  have HB : Below w.heap.size w (w.alloc (.map #[] 0)) := (Below.refl _ _).alloc (Nat.le_refl _) _
  have hlo : w.heap.size ≤ w.heap.size := Nat.le_refl _
  go_enter Tryz.func116, Tryz.ntmps116
  have hmm := @run_makeMap Tryz.prog
  have hu9 := UptoB.nil
  have hk8 := HM
  have hb8 := HB
  go_wp2_with (refine wpList_insert_kk (lo := w.heap.size) (w0 := w) rfl rfl rfl (by assumption) (by assumption) hlo (by omega) rfl ⟨by decide, by decide⟩ rfl (by assumption) (by first | exact .un _ (by omega) _ | exact .cat _ | exact .cmp _ (by omega) _ | exact .vec _ | exact .name _ | exact .cut _ | exact .cond _ | exact .bool _ (by omega) _ _) ?_; intro w9 f9 hk9 hu9 hb9)
  clear hmm
  have hu := hu9.upto
  have HS := heap_alloc_new w9 (.cells #[.string ⟨#[97, 110, 100]⟩, .string ⟨#[111, 114]⟩, .string ⟨#[120, 111, 114]⟩, .string ⟨#[97, 100, 100]⟩, .string ⟨#[115, 117, 98]⟩, .string ⟨#[109, 117, 108]⟩, .string ⟨#[100, 105, 118]⟩, .string ⟨#[114, 101, 109]⟩, .string ⟨#[115, 104, 108]⟩, .string ⟨#[115, 104, 114]⟩, .string ⟨#[115, 97, 114]⟩] 9)
  have hlt9 := hk9.lt
  have hkA : KAt (w9.alloc (.cells #[.string ⟨#[97, 110, 100]⟩, .string ⟨#[111, 114]⟩, .string ⟨#[120, 111, 114]⟩, .string ⟨#[97, 100, 100]⟩, .string ⟨#[115, 117, 98]⟩, .string ⟨#[109, 117, 108]⟩, .string ⟨#[100, 105, 118]⟩, .string ⟨#[114, 101, 109]⟩, .string ⟨#[115, 104, 108]⟩, .string ⟨#[115, 104, 114]⟩, .string ⟨#[115, 97, 114]⟩] 9)) w.heap.size 14 f9 := hk9.up ((Below.refl w9.heap.size w9).alloc (Nat.le_refl _) _) hlt9
  have hbA := hb9.alloc (Nat.le_of_lt hlt9) (.cells #[.string ⟨#[97, 110, 100]⟩, .string ⟨#[111, 114]⟩, .string ⟨#[120, 111, 114]⟩, .string ⟨#[97, 100, 100]⟩, .string ⟨#[115, 117, 98]⟩, .string ⟨#[109, 117, 108]⟩, .string ⟨#[100, 105, 118]⟩, .string ⟨#[114, 101, 109]⟩, .string ⟨#[115, 104, 108]⟩, .string ⟨#[115, 104, 114]⟩, .string ⟨#[115, 97, 114]⟩] 9)
  generalize w9.alloc (.cells #[.string ⟨#[97, 110, 100]⟩, .string ⟨#[111, 114]⟩, .string ⟨#[120, 111, 114]⟩, .string ⟨#[97, 100, 100]⟩, .string ⟨#[115, 117, 98]⟩, .string ⟨#[109, 117, 108]⟩, .string ⟨#[100, 105, 118]⟩, .string ⟨#[114, 101, 109]⟩, .string ⟨#[115, 104, 108]⟩, .string ⟨#[115, 104, 114]⟩, .string ⟨#[115, 97, 114]⟩] 9) = W at *
  generalize w9.heap.size = B at *
  go_loopw [48] (fun i wr => ∃ (k : Nat) (f : Int → Option Value), k ≤ 11 ∧ i = .int .i64 k ∧ KAt wr w.heap.size (14 + k) f ∧ Upto k f ∧ Below w.heap.size w wr ∧ wr.heap[B]? = some (.cells #[.string ⟨#[97, 110, 100]⟩, .string ⟨#[111, 114]⟩, .string ⟨#[120, 111, 114]⟩, .string ⟨#[97, 100, 100]⟩, .string ⟨#[115, 117, 98]⟩, .string ⟨#[109, 117, 108]⟩, .string ⟨#[100, 105, 118]⟩, .string ⟨#[114, 101, 109]⟩, .string ⟨#[115, 104, 108]⟩, .string ⟨#[115, 104, 114]⟩, .string ⟨#[115, 97, 114]⟩] 9 (0, 0))) (fun i _ => 11 - (intOf i).toNat)
  case atStart => exact ⟨0, f9, by omega, rfl, hkA, hu, hbA, HS⟩
  case round =>
    obtain ⟨k, f, hk, rfl, hkr, hur, hbr, hS⟩ := hrel
    by_cases hlt : k < 11
    · have c1 : wr.cell? ⟨B, k, none⟩ = some (.string (opWords[k]'(by simpa [opWords] using hlt))) := by
        rw [(cell_of_block hS k).1]
        show (opWords.map Value.string).toArray[k]? = _
        simp
      generalize (opWords[k]'(by simpa [opWords] using hlt)) = s at *
      have hk1 : (k : Int) < 11 := by omega
      have HX := Lib.hid (hur.step hlt s)
      have HS := Lib.hid hS
      clear hS
      go_wp2_with (at_mapUpdate; refine wpList_mapUpdate_kk (lo := w.heap.size) (w0 := w) rfl rfl rfl hkr hbr (Nat.le_refl _) (by omega) (k := 3 + k) (by first | rfl | go_num) ⟨by omega, by omega⟩ rfl ?_; intro w8 hk8 hb8 hg8)
      go_roundw
      case rel => exact ⟨k + 1, _, by omega, by go_num, hk8, HX.out, hb8, (hg8.block _ (lt_of_block HS.out) (by simp; omega)).trans HS.out⟩
      case measure => simp [intOf]; omega
    · have hke : k = 11 := by omega
      subst hke
      go_wp2
      go_ret
      exact ⟨f, rfl, hkr, hur, hbr⟩
end Go.Proofs.YtiahmfpfimmbgaaGreatDoor

/-! The kinds' methods: kids, sort. -/
namespace Go.Proofs.YtiahmfpfimmbgaaGreatDoor
open Go Go.RowKit

def sortedV (b : Bool) (n : Int) : Int := if b = true then n else -1
set_option maxHeartbeats 1000000 in
theorem sorted_any (b : Bool) (n : Int) (w : World) : Calls Tryz.prog 167 #[.bool b, .int .i64 n] w fun e w' => e = .returned (.int .i64 (sortedV b n)) ∧ w = w' := by
  cases b <;>
  · go_enter Tryz.func167, Tryz.ntmps167
    go_wp2
    go_ret
    exact ⟨rfl, rfl⟩
set_option maxHeartbeats 1000000 in
theorem kids_any (s : ByteArray) (n : Int) (w : World) : Calls Tryz.prog 163 #[.agg #[.string s, .int .i64 n]] w fun e w' => e = .returned (.int .i64 n) ∧ Below w.heap.size w w' := by
  have HAL := Lib.hid ((Below.refl w.heap.size w).alloc (Nat.le_refl _) (.cells #[.string s, .int .i64 n] 154))
  go_enter Tryz.func163, Tryz.ntmps163
  go_wp2
  go_ret
  exact ⟨rfl, HAL.out⟩

def unK (s : Int) : Int := if 0 < s then s else -1
def binK (s r : Int) : Int := if 0 < s then (if s = r then s else -1) else -1
def catK (s r : Int) : Int := if 0 < s then (if 0 < r then (if s + r ≤ 4 then s + r else -1) else -1) else -1
def cmpK (s r : Int) : Int := if 0 < s then (if s = r then 0 else -1) else -1
def cutK (a b s : Int) : Int := if 0 ≤ b then (if b ≤ a then (if a < s then a - b + 1 else -1) else -1) else -1
set_option maxRecDepth 100000 in
set_option maxHeartbeats 4000000 in
theorem unSort_any (u : ByteArray) (m : Int) (V : Value) (op a b : Int) (nm : ByteArray) (A : Option Addr) (n c : Nat) (s : Int) (ad : Addr) (c9 : Nat) (w : World) (hs : 0 ≤ s ∧ s ≤ 4) (hlt : ad.block < w.heap.size) (k0 : w.cell? ad = some (.int .i64 s)) :
    Calls Tryz.prog 165 #[.agg #[.string u, .int .i64 m], V, .agg #[.int .i64 op, .int .i64 a, .int .i64 b, .string nm, .slice A n c], .slice (some ad) 1 c9] w fun e w' => e = .returned (.int .i64 (unK s)) ∧ Below w.heap.size w w' := by
  have HAL := Lib.hid (((Below.refl w.heap.size w).alloc (Nat.le_refl _) (.cells #[.string u, .int .i64 m] 156)).alloc (by simp) (.cells #[.int .i64 op, .int .i64 a, .int .i64 b, .string nm, .slice A n c] 48))
  have k0 := (HAL.out.cell (p := ad) hlt).trans k0
  obtain ⟨z, hz⟩ : ∃ z, z = unK s := ⟨_, rfl⟩
  rw [← hz]
  have HZ := Lib.hid hz
  clear hz
  by_cases h1 : 0 < s
  · have g1 : decide (0 < s) = true := decide_eq_true h1
    have HX : Hid (z = s) := Lib.hid (by rw [HZ.out]; unfold unK; rw [if_pos h1])
    go_enter Tryz.func165, Tryz.ntmps165
    go_wp2
    go_quiet ((go_at_call 167; exact quiet_left (sorted_any _ _ _)))
    go_wp2
    go_ret
    exact ⟨ret_int (by rw [HX.out]; first | rfl | (simp [sortedV]; done) | (simp [sortedV]; omega)), below_drewN HAL.out _⟩
  · have g1 : decide (0 < s) = false := decide_eq_false h1
    have HX : Hid (z = -1) := Lib.hid (by rw [HZ.out]; unfold unK; rw [if_neg h1])
    go_enter Tryz.func165, Tryz.ntmps165
    go_wp2
    go_quiet ((go_at_call 167; exact quiet_left (sorted_any _ _ _)))
    go_wp2
    go_ret
    exact ⟨ret_int (by rw [HX.out]; first | rfl | (simp [sortedV]; done) | (simp [sortedV]; omega)), below_drewN HAL.out _⟩
set_option maxRecDepth 100000 in
set_option maxHeartbeats 4000000 in
theorem binSort_any (u : ByteArray) (m : Int) (V : Value) (op a b : Int) (nm : ByteArray) (A : Option Addr) (n c : Nat) (s r : Int) (ad : Addr) (c9 : Nat) (w : World) (hs : 0 ≤ s ∧ s ≤ 4) (hr : 0 ≤ r ∧ r ≤ 4) (hlt : ad.block < w.heap.size) (k0 : w.cell? ad = some (.int .i64 s)) (k1 : w.cell? ⟨ad.block, ad.off + 1, none⟩ = some (.int .i64 r)) :
    Calls Tryz.prog 187 #[.agg #[.string u, .int .i64 m], V, .agg #[.int .i64 op, .int .i64 a, .int .i64 b, .string nm, .slice A n c], .slice (some ad) 2 c9] w fun e w' => e = .returned (.int .i64 (binK s r)) ∧ Below w.heap.size w w' := by
  have HAL := Lib.hid (((Below.refl w.heap.size w).alloc (Nat.le_refl _) (.cells #[.string u, .int .i64 m] 167)).alloc (by simp) (.cells #[.int .i64 op, .int .i64 a, .int .i64 b, .string nm, .slice A n c] 48))
  have k0 := (HAL.out.cell (p := ad) hlt).trans k0
  have k1 := (HAL.out.cell (p := ⟨ad.block, ad.off + 1, none⟩) hlt).trans k1
  obtain ⟨z, hz⟩ : ∃ z, z = binK s r := ⟨_, rfl⟩
  rw [← hz]
  have HZ := Lib.hid hz
  clear hz
  by_cases h1 : 0 < s
  · have g1 : decide (0 < s) = true := decide_eq_true h1
    by_cases h2 : s = r
    · subst h2
      have HX : Hid (z = s) := Lib.hid (by rw [HZ.out]; unfold binK; rw [if_pos h1, if_pos rfl])
      go_enter Tryz.func187, Tryz.ntmps187
      go_wp2
      go_quiet ((go_at_call 167; exact quiet_left (sorted_any _ _ _)))
      go_wp2
      go_ret
      exact ⟨ret_int (by rw [HX.out]; first | rfl | (simp [sortedV]; done) | (simp [sortedV]; omega)), below_drewN HAL.out _⟩
    · have g2 : (s == r) = false := by simpa using h2
      have HX : Hid (z = -1) := Lib.hid (by rw [HZ.out]; unfold binK; rw [if_pos h1, if_neg h2])
      go_enter Tryz.func187, Tryz.ntmps187
      go_wp2
      go_quiet ((go_at_call 167; exact quiet_left (sorted_any _ _ _)))
      go_wp2
      go_ret
      exact ⟨ret_int (by rw [HX.out]; first | rfl | (simp [sortedV]; done) | (simp [sortedV]; omega)), below_drewN HAL.out _⟩
  · have g1 : decide (0 < s) = false := decide_eq_false h1
    have HX : Hid (z = -1) := Lib.hid (by rw [HZ.out]; unfold binK; rw [if_neg h1])
    go_enter Tryz.func187, Tryz.ntmps187
    go_wp2
    go_quiet ((go_at_call 167; exact quiet_left (sorted_any _ _ _)))
    go_wp2
    go_ret
    exact ⟨ret_int (by rw [HX.out]; first | rfl | (simp [sortedV]; done) | (simp [sortedV]; omega)), below_drewN HAL.out _⟩
set_option maxRecDepth 100000 in
set_option maxHeartbeats 4000000 in
theorem cmpSort_any (u : ByteArray) (m : Int) (V : Value) (op a b : Int) (nm : ByteArray) (A : Option Addr) (n c : Nat) (s r : Int) (ad : Addr) (c9 : Nat) (w : World) (hs : 0 ≤ s ∧ s ≤ 4) (hr : 0 ≤ r ∧ r ≤ 4) (hlt : ad.block < w.heap.size) (k0 : w.cell? ad = some (.int .i64 s)) (k1 : w.cell? ⟨ad.block, ad.off + 1, none⟩ = some (.int .i64 r)) :
    Calls Tryz.prog 170 #[.agg #[.string u, .int .i64 m], V, .agg #[.int .i64 op, .int .i64 a, .int .i64 b, .string nm, .slice A n c], .slice (some ad) 2 c9] w fun e w' => e = .returned (.int .i64 (cmpK s r)) ∧ Below w.heap.size w w' := by
  have HAL := Lib.hid (((Below.refl w.heap.size w).alloc (Nat.le_refl _) (.cells #[.string u, .int .i64 m] 158)).alloc (by simp) (.cells #[.int .i64 op, .int .i64 a, .int .i64 b, .string nm, .slice A n c] 48))
  have k0 := (HAL.out.cell (p := ad) hlt).trans k0
  have k1 := (HAL.out.cell (p := ⟨ad.block, ad.off + 1, none⟩) hlt).trans k1
  obtain ⟨z, hz⟩ : ∃ z, z = cmpK s r := ⟨_, rfl⟩
  rw [← hz]
  have HZ := Lib.hid hz
  clear hz
  by_cases h1 : 0 < s
  · have g1 : decide (0 < s) = true := decide_eq_true h1
    by_cases h2 : s = r
    · subst h2
      have HX : Hid (z = 0) := Lib.hid (by rw [HZ.out]; unfold cmpK; rw [if_pos h1, if_pos rfl])
      go_enter Tryz.func170, Tryz.ntmps170
      go_wp2
      go_quiet ((go_at_call 167; exact quiet_left (sorted_any _ _ _)))
      go_wp2
      go_ret
      exact ⟨ret_int (by rw [HX.out]; first | rfl | (simp [sortedV]; done) | (simp [sortedV]; omega)), below_drewN HAL.out _⟩
    · have g2 : (s == r) = false := by simpa using h2
      have HX : Hid (z = -1) := Lib.hid (by rw [HZ.out]; unfold cmpK; rw [if_pos h1, if_neg h2])
      go_enter Tryz.func170, Tryz.ntmps170
      go_wp2
      go_quiet ((go_at_call 167; exact quiet_left (sorted_any _ _ _)))
      go_wp2
      go_ret
      exact ⟨ret_int (by rw [HX.out]; first | rfl | (simp [sortedV]; done) | (simp [sortedV]; omega)), below_drewN HAL.out _⟩
  · have g1 : decide (0 < s) = false := decide_eq_false h1
    have HX : Hid (z = -1) := Lib.hid (by rw [HZ.out]; unfold cmpK; rw [if_neg h1])
    go_enter Tryz.func170, Tryz.ntmps170
    go_wp2
    go_quiet ((go_at_call 167; exact quiet_left (sorted_any _ _ _)))
    go_wp2
    go_ret
    exact ⟨ret_int (by rw [HX.out]; first | rfl | (simp [sortedV]; done) | (simp [sortedV]; omega)), below_drewN HAL.out _⟩
set_option maxRecDepth 100000 in
set_option maxHeartbeats 4000000 in
theorem catSort_any (u : ByteArray) (m : Int) (V : Value) (op a b : Int) (nm : ByteArray) (A : Option Addr) (n c : Nat) (s r : Int) (ad : Addr) (c9 : Nat) (w : World) (hs : 0 ≤ s ∧ s ≤ 4) (hr : 0 ≤ r ∧ r ≤ 4) (hlt : ad.block < w.heap.size) (k0 : w.cell? ad = some (.int .i64 s)) (k1 : w.cell? ⟨ad.block, ad.off + 1, none⟩ = some (.int .i64 r)) :
    Calls Tryz.prog 168 #[.agg #[.string u, .int .i64 m], V, .agg #[.int .i64 op, .int .i64 a, .int .i64 b, .string nm, .slice A n c], .slice (some ad) 2 c9] w fun e w' => e = .returned (.int .i64 (catK s r)) ∧ Below w.heap.size w w' := by
  have HAL := Lib.hid (((Below.refl w.heap.size w).alloc (Nat.le_refl _) (.cells #[.string u, .int .i64 m] 157)).alloc (by simp) (.cells #[.int .i64 op, .int .i64 a, .int .i64 b, .string nm, .slice A n c] 48))
  have k0 := (HAL.out.cell (p := ad) hlt).trans k0
  have k1 := (HAL.out.cell (p := ⟨ad.block, ad.off + 1, none⟩) hlt).trans k1
  obtain ⟨z, hz⟩ : ∃ z, z = catK s r := ⟨_, rfl⟩
  rw [← hz]
  have HZ := Lib.hid hz
  clear hz
  by_cases h1 : 0 < s
  · have g1 : decide (0 < s) = true := decide_eq_true h1
    by_cases h2 : 0 < r
    · have g2 : decide (0 < r) = true := decide_eq_true h2
      by_cases h3 : s + r ≤ 4
      · have g3 : decide (s + r ≤ 4) = true := decide_eq_true h3
        have HX : Hid (z = s + r) := Lib.hid (by rw [HZ.out]; unfold catK; rw [if_pos h1, if_pos h2, if_pos h3])
        go_enter Tryz.func168, Tryz.ntmps168
        go_wp2
        go_quiet ((go_at_call 167; exact quiet_left (sorted_any _ _ _)))
        go_wp2
        go_ret
        exact ⟨ret_int (by rw [HX.out]; first | rfl | (simp [sortedV]; done) | (simp [sortedV]; omega)), below_drewN HAL.out _⟩
      · have g3 : decide (s + r ≤ 4) = false := decide_eq_false h3
        have HX : Hid (z = -1) := Lib.hid (by rw [HZ.out]; unfold catK; rw [if_pos h1, if_pos h2, if_neg h3])
        go_enter Tryz.func168, Tryz.ntmps168
        go_wp2
        go_quiet ((go_at_call 167; exact quiet_left (sorted_any _ _ _)))
        go_wp2
        go_ret
        exact ⟨ret_int (by rw [HX.out]; first | rfl | (simp [sortedV]; done) | (simp [sortedV]; omega)), below_drewN HAL.out _⟩
    · have g2 : decide (0 < r) = false := decide_eq_false h2
      have HX : Hid (z = -1) := Lib.hid (by rw [HZ.out]; unfold catK; rw [if_pos h1, if_neg h2])
      go_enter Tryz.func168, Tryz.ntmps168
      go_wp2
      go_quiet ((go_at_call 167; exact quiet_left (sorted_any _ _ _)))
      go_wp2
      go_ret
      exact ⟨ret_int (by rw [HX.out]; first | rfl | (simp [sortedV]; done) | (simp [sortedV]; omega)), below_drewN HAL.out _⟩
  · have g1 : decide (0 < s) = false := decide_eq_false h1
    have HX : Hid (z = -1) := Lib.hid (by rw [HZ.out]; unfold catK; rw [if_neg h1])
    go_enter Tryz.func168, Tryz.ntmps168
    go_wp2
    go_quiet ((go_at_call 167; exact quiet_left (sorted_any _ _ _)))
    go_wp2
    go_ret
    exact ⟨ret_int (by rw [HX.out]; first | rfl | (simp [sortedV]; done) | (simp [sortedV]; omega)), below_drewN HAL.out _⟩
set_option maxRecDepth 100000 in
set_option maxHeartbeats 4000000 in
theorem ifSort_any (u : ByteArray) (m : Int) (V : Value) (op a b : Int) (nm : ByteArray) (A : Option Addr) (n c : Nat) (s r q : Int) (ad : Addr) (c9 : Nat) (w : World) (hs : 0 ≤ s ∧ s ≤ 4) (hr : 0 ≤ r ∧ r ≤ 4) (hq : 0 ≤ q ∧ q ≤ 4) (hlt : ad.block < w.heap.size) (k0 : w.cell? ad = some (.int .i64 s)) (k1 : w.cell? ⟨ad.block, ad.off + 1, none⟩ = some (.int .i64 r)) (k2 : w.cell? ⟨ad.block, ad.off + 2, none⟩ = some (.int .i64 q)) :
    Calls Tryz.prog 180 #[.agg #[.string u, .int .i64 m], V, .agg #[.int .i64 op, .int .i64 a, .int .i64 b, .string nm, .slice A n c], .slice (some ad) 3 c9] w fun e w' => e = .returned (.int .i64 (threeK s r q)) ∧ Below w.heap.size w w' := by
  have HAL := Lib.hid (((Below.refl w.heap.size w).alloc (Nat.le_refl _) (.cells #[.string u, .int .i64 m] 162)).alloc (by simp) (.cells #[.int .i64 op, .int .i64 a, .int .i64 b, .string nm, .slice A n c] 48))
  have k0 := (HAL.out.cell (p := ad) hlt).trans k0
  have k1 := (HAL.out.cell (p := ⟨ad.block, ad.off + 1, none⟩) hlt).trans k1
  have k2 := (HAL.out.cell (p := ⟨ad.block, ad.off + 2, none⟩) hlt).trans k2
  obtain ⟨z, hz⟩ : ∃ z, z = threeK s r q := ⟨_, rfl⟩
  rw [← hz]
  have HZ := Lib.hid hz
  clear hz
  by_cases h1 : s = 0
  · subst h1
    by_cases h2 : r = q
    · subst h2
      have HX : Hid (z = r) := Lib.hid (by rw [HZ.out]; unfold threeK; rw [if_pos rfl, if_pos rfl])
      go_enter Tryz.func180, Tryz.ntmps180
      go_wp2
      go_quiet ((go_at_call 167; exact quiet_left (sorted_any _ _ _)))
      go_wp2
      go_ret
      exact ⟨ret_int (by rw [HX.out]; first | rfl | (simp [sortedV]; done) | (simp [sortedV]; omega)), below_drewN HAL.out _⟩
    · have g2 : (r == q) = false := by simpa using h2
      have HX : Hid (z = -1) := Lib.hid (by rw [HZ.out]; unfold threeK; rw [if_pos rfl, if_neg h2])
      go_enter Tryz.func180, Tryz.ntmps180
      go_wp2
      go_quiet ((go_at_call 167; exact quiet_left (sorted_any _ _ _)))
      go_wp2
      go_ret
      exact ⟨ret_int (by rw [HX.out]; first | rfl | (simp [sortedV]; done) | (simp [sortedV]; omega)), below_drewN HAL.out _⟩
  · have g1 : (s == 0) = false := by simpa using h1
    have HX : Hid (z = -1) := Lib.hid (by rw [HZ.out]; unfold threeK; rw [if_neg h1])
    go_enter Tryz.func180, Tryz.ntmps180
    go_wp2
    go_quiet ((go_at_call 167; exact quiet_left (sorted_any _ _ _)))
    go_wp2
    go_ret
    exact ⟨ret_int (by rw [HX.out]; first | rfl | (simp [sortedV]; done) | (simp [sortedV]; omega)), below_drewN HAL.out _⟩
set_option maxRecDepth 100000 in
set_option maxHeartbeats 4000000 in
theorem cutSort_any (u : ByteArray) (m : Int) (V : Value) (op a b : Int) (nm : ByteArray) (A : Option Addr) (n c : Nat) (s : Int) (ad : Addr) (c9 : Nat) (w : World) (hs : 0 ≤ s ∧ s ≤ 4) (hlt : ad.block < w.heap.size) (k0 : w.cell? ad = some (.int .i64 s)) :
    Calls Tryz.prog 178 #[.agg #[.string u, .int .i64 m], V, .agg #[.int .i64 op, .int .i64 a, .int .i64 b, .string nm, .slice A n c], .slice (some ad) 1 c9] w fun e w' => e = .returned (.int .i64 (cutK a b s)) ∧ Below w.heap.size w w' := by
  have HAL := Lib.hid (((Below.refl w.heap.size w).alloc (Nat.le_refl _) (.cells #[.string u, .int .i64 m] 161)).alloc (by simp) (.cells #[.int .i64 op, .int .i64 a, .int .i64 b, .string nm, .slice A n c] 48))
  have k0 := (HAL.out.cell (p := ad) hlt).trans k0
  obtain ⟨z, hz⟩ : ∃ z, z = cutK a b s := ⟨_, rfl⟩
  rw [← hz]
  have HZ := Lib.hid hz
  clear hz
  by_cases h1 : 0 ≤ b
  · have g1 : decide (0 ≤ b) = true := decide_eq_true h1
    by_cases h2 : b ≤ a
    · have g2 : decide (b ≤ a) = true := decide_eq_true h2
      by_cases h3 : a < s
      · have g3 : decide (a < s) = true := decide_eq_true h3
        have HX : Hid (z = a - b + 1) := Lib.hid (by rw [HZ.out]; unfold cutK; rw [if_pos h1, if_pos h2, if_pos h3])
        go_enter Tryz.func178, Tryz.ntmps178
        go_wp2
        go_quiet ((go_at_call 167; exact quiet_left (sorted_any _ _ _)))
        go_wp2
        go_ret
        exact ⟨ret_int (by rw [HX.out]; first | rfl | (simp [sortedV]; done) | (simp [sortedV]; omega)), below_drewN HAL.out _⟩
      · have g3 : decide (a < s) = false := decide_eq_false h3
        have HX : Hid (z = -1) := Lib.hid (by rw [HZ.out]; unfold cutK; rw [if_pos h1, if_pos h2, if_neg h3])
        go_enter Tryz.func178, Tryz.ntmps178
        go_wp2
        go_quiet ((go_at_call 167; exact quiet_left (sorted_any _ _ _)))
        go_wp2
        go_ret
        exact ⟨ret_int (by rw [HX.out]; first | rfl | (simp [sortedV]; done) | (simp [sortedV]; omega)), below_drewN HAL.out _⟩
    · have g2 : decide (b ≤ a) = false := decide_eq_false h2
      have HX : Hid (z = -1) := Lib.hid (by rw [HZ.out]; unfold cutK; rw [if_pos h1, if_neg h2])
      go_enter Tryz.func178, Tryz.ntmps178
      go_wp2
      go_quiet ((go_at_call 167; exact quiet_left (sorted_any _ _ _)))
      go_wp2
      go_ret
      exact ⟨ret_int (by rw [HX.out]; first | rfl | (simp [sortedV]; done) | (simp [sortedV]; omega)), below_drewN HAL.out _⟩
  · have g1 : decide (0 ≤ b) = false := decide_eq_false h1
    have HX : Hid (z = -1) := Lib.hid (by rw [HZ.out]; unfold cutK; rw [if_neg h1])
    go_enter Tryz.func178, Tryz.ntmps178
    go_wp2
    go_quiet ((go_at_call 167; exact quiet_left (sorted_any _ _ _)))
    go_wp2
    go_ret
    exact ⟨ret_int (by rw [HX.out]; first | rfl | (simp [sortedV]; done) | (simp [sortedV]; omega)), below_drewN HAL.out _⟩
def vecK (a b : Int) : Int := if vecB a b = true then a else -1
theorem sorted_b (b : Bool) (n : Int) (w : World) : Calls Tryz.prog 167 #[.bool b, .int .i64 n] w fun e w' => e = .returned (.int .i64 (sortedV b n)) ∧ Below w.heap.size w w' :=
  (sorted_any b n w).mono fun _ _ ⟨h1, h2⟩ => ⟨h1, h2 ▸ Below.refl _ _⟩
set_option maxRecDepth 100000 in
set_option maxHeartbeats 4000000 in
theorem vecSort_any (u : ByteArray) (m : Int) (V K : Value) (op a b : Int) (nm : ByteArray) (A : Option Addr) (n c : Nat) (w : World) :
    Calls Tryz.prog 172 #[.agg #[.string u, .int .i64 m], V, .agg #[.int .i64 op, .int .i64 a, .int .i64 b, .string nm, .slice A n c], K] w fun e w' => e = .returned (.int .i64 (vecK a b)) ∧ Below w.heap.size w w' := by
  have HAL := Lib.hid (((Below.refl w.heap.size w).alloc (Nat.le_refl _) (.cells #[.string u, .int .i64 m] 159)).alloc (by simp) (.cells #[.int .i64 op, .int .i64 a, .int .i64 b, .string nm, .slice A n c] 48))
  have v1 : ((w.alloc (.cells #[.string u, .int .i64 m] 159)).alloc (.cells #[.int .i64 op, .int .i64 a, .int .i64 b, .string nm, .slice A n c] 48)).cell? ⟨w.heap.size + 1, 1, none⟩ = some (.int .i64 a) := by simp [go_sem]
  have v2 : ((w.alloc (.cells #[.string u, .int .i64 m] 159)).alloc (.cells #[.int .i64 op, .int .i64 a, .int .i64 b, .string nm, .slice A n c] 48)).cell? ⟨w.heap.size + 1, 2, none⟩ = some (.int .i64 b) := by simp [go_sem]
  obtain ⟨z, hz⟩ : ∃ z, z = vecK a b := ⟨_, rfl⟩
  have HZ := Lib.hid hz
  rw [← hz]
  clear hz
  obtain ⟨q, hq⟩ : ∃ q, q = vecB a b := ⟨_, rfl⟩
  have HV := Lib.hid (fun z => implVecOk_any a b z)
  rw [← hq] at HV
  have HX : Hid (z = sortedV q a) := Lib.hid (by rw [HZ.out, hq]; rfl)
  clear hq HZ
  go_enter Tryz.func172, Tryz.ntmps172
  go_wp2
  generalize (w.alloc (.cells #[.string u, .int .i64 m] 159)).alloc (.cells #[.int .i64 op, .int .i64 a, .int .i64 b, .string nm, .slice A n c] 48) = W at *
  have d1 := Later.cell v1
  have d2 := Later.cell v2
  refine wp_region_later (by kernel_rfl) (by kernel_rfl) ?_
  repeat (go_big_quiet_step ((first | (go_at_call 174; exact later_of_below (HV.out _)) | (go_at_call 167; exact later_of_below (sorted_b _ _ _)))))
  refine wpQuiet_nil ?_
  rintro _ ⟨x, rfl⟩
  go_wp2
  go_ret
  exact ⟨ret_int (by rw [HX.out]), bthen HAL.out x.le⟩
set_option maxHeartbeats 1000000 in
/-- The closure: whether a declaration has the name of the term in block b. -/
theorem nameSort1_any (y : D) (op a b : Int) (nm : ByteArray) (A : Option Addr) (n c : Nat) (B : Nat) (w : World) (hb : w.heap[B]? = some (.cells #[.int .i64 op, .int .i64 a, .int .i64 b, .string nm, .slice A n c] 48 (0, 0))) :
    Calls Tryz.prog 177 #[.agg #[.string y.name, .int .i64 y.wide], .pointer (some ⟨B, 0, none⟩)] w (RetB w (y.name.toList == nm.toList)) := by
  have hal : Below w.heap.size w (w.alloc (.cells #[.string y.name, .int .i64 y.wide] 39)) := (Below.refl _ _).alloc (Nat.le_refl _) _
  have c0 : w.cell? ⟨B, 3, none⟩ = some (.string nm) := (cell_of_block hb 3).1
  have hlt := lt_of_block hb
  have HAL := Lib.hid hal
  obtain ⟨q, hq⟩ : ∃ q, q = (y.name.toList == nm.toList) := ⟨_, rfl⟩
  rw [← hq]
  have g9 := hq.symm
  clear hal hb hq
  go_enter Tryz.func177, Tryz.ntmps177
  go_wp2
  go_ret
  exact ⟨rfl, HAL.out⟩
set_option maxHeartbeats 2000000 in
theorem indexNm_any (C : Option Addr) (d : Nat) (xs : List D) (op a b : Int) (nm : ByteArray) (A : Option Addr) (n c : Nat) (B : Nat) (F : Nat → Prop) (w : World) (h : Lay.decl.Sl w F C xs) (hF : ∀ b, F b → b < w.heap.size) (hb : w.heap[B]? = some (.cells #[.int .i64 op, .int .i64 a, .int .i64 b, .string nm, .slice A n c] 48 (0, 0))) (hn : xs.length ≤ 9223372036854775807) :
    Calls Tryz.prog 109 #[.slice C xs.length d, .func (.func 177) #[] #[.pointer (some ⟨B, 0, none⟩)]] w fun e w' => e = .returned (.int .i64 (fN 0 xs nm)) ∧ Below w.heap.size w w' := by
  have HB := Lib.hid hb
  clear hb
  go_enter Tryz.func109, Tryz.ntmps109
  go_wp2
  go_loopw [8] (fun i wr => ∃ k : Nat, k ≤ xs.length ∧ i = .int .i64 k ∧ Below w.heap.size w wr ∧ Hid (fN 0 xs nm = fN k (xs.drop k) nm)) (fun i _ => xs.length - (intOf i).toNat)
  case atStart => exact ⟨0, Nat.zero_le _, rfl, Below.refl _ _, Lib.hid rfl⟩
  case round =>
    obtain ⟨k, hk, rfl, hbr, HT⟩ := hrel
    by_cases hlt : k < xs.length
    · obtain ⟨ad, rfl, hf, c1, c2⟩ := (h.below hbr hF).at_decl hlt
      have hk1 : (k : Int) < xs.length := by omega
      have HS := Lib.hid (fN_step xs k nm hlt)
      have HC := Lib.hid (nameSort1_any xs[k] op a b nm A n c B wr ((hbr.block _ (lt_of_block HB.out)).trans HB.out))
      obtain ⟨q, hq⟩ : ∃ q, q = (xs[k].name.toList == nm.toList) := ⟨_, rfl⟩
      have HQ := Lib.hid hq
      rw [← hq] at HC
      clear hq
      go_wp2_with fail
      refine HC.out.mono ?_
      rintro e w2 ⟨rfl, hb2⟩
      have hbq := bthen hbr hb2
      cases q
      · have HE : Hid (fN 0 xs nm = fN (k + 1) (xs.drop (k + 1)) nm) := Lib.hid (by rw [HT.out, HS.out, ← HQ.out]; rfl)
        go_wp2
        go_roundw
        case rel => exact ⟨k + 1, by omega, by go_num, hbq, HE⟩
        case measure => simp [intOf]; omega
      · have HE : Hid (fN 0 xs nm = (k : Int)) := Lib.hid (by rw [HT.out, HS.out, ← HQ.out]; rfl)
        go_wp2
        go_ret
        exact ⟨ret_int (by rw [HE.out]), hbq⟩
    · have HE : Hid (fN 0 xs nm = -1) := Lib.hid (by rw [HT.out, List.drop_of_length_le (by omega)]; rfl)
      have hke : k = xs.length := by omega
      subst hke
      go_wp2
      go_ret
      exact ⟨ret_int (by rw [HE.out]), hbr⟩
set_option maxRecDepth 100000 in
set_option maxHeartbeats 4000000 in
theorem nameSort_any (u : ByteArray) (m : Int) (K : Value) (C : Option Addr) (d : Nat) (ds : List D) (op a b : Int) (nm : ByteArray) (A : Option Addr) (n c : Nat) (F : Nat → Prop) (w : World) (h : Lay.decl.Sl w F C ds) (hF : ∀ b, F b → b < w.heap.size) (hn : ds.length ≤ 9223372036854775807) :
    Calls Tryz.prog 175 #[.agg #[.string u, .int .i64 m], .slice C ds.length d, .agg #[.int .i64 op, .int .i64 a, .int .i64 b, .string nm, .slice A n c], K] w fun e w' => e = .returned (.int .i64 (nameK ds nm)) ∧ Below w.heap.size w w' := by
  have hal : Below w.heap.size w ((w.alloc (.cells #[.string u, .int .i64 m] 160)).alloc (.cells #[.int .i64 op, .int .i64 a, .int .i64 b, .string nm, .slice A n c] 48)) := ((Below.refl w.heap.size w).alloc (Nat.le_refl _) (.cells #[.string u, .int .i64 m] 160)).alloc (by simp) (.cells #[.int .i64 op, .int .i64 a, .int .i64 b, .string nm, .slice A n c] 48)
  have hBX := heap_alloc_new (w.alloc (.cells #[.string u, .int .i64 m] 160)) (.cells #[.int .i64 op, .int .i64 a, .int .i64 b, .string nm, .slice A n c] 48)
  have hF' : ∀ g, F g → g < ((w.alloc (.cells #[.string u, .int .i64 m] 160)).alloc (.cells #[.int .i64 op, .int .i64 a, .int .i64 b, .string nm, .slice A n c] 48)).heap.size := fun g hb => Nat.lt_of_lt_of_le (hF g hb) hal.size
  have HI := Lib.hid (indexNm_any C d ds op a b nm A n c (w.alloc (.cells #[.string u, .int .i64 m] 160)).heap.size F _ (h.below hal hF) hF' hBX hn)
  have hsz : (w.alloc (.cells #[.string u, .int .i64 m] 160)).heap.size = w.heap.size + 1 := by simp
  rw [hsz] at HI
  have H := Lib.hid (h.below hal hF)
  have HN := Lib.hid (nameK_fN ds nm 0)
  have HAL := Lib.hid hal
  obtain ⟨z, hz⟩ : ∃ z, z = nameK ds nm := ⟨_, rfl⟩
  rw [← hz] at HN ⊢
  obtain ⟨q, hq⟩ : ∃ q, q = fN 0 ds nm := ⟨_, rfl⟩
  rw [← hq] at HI HN
  clear hal hBX hsz hz hq h
  go_enter Tryz.func175, Tryz.ntmps175
  go_wp2_with fail
  generalize (w.alloc (.cells #[.string u, .int .i64 m] 160)).alloc (.cells #[.int .i64 op, .int .i64 a, .int .i64 b, .string nm, .slice A n c] 48) = W at *
  refine HI.out.mono ?_
  rintro e w2 ⟨rfl, hb2⟩
  have HAL := Lib.hid (bthen HAL.out hb2)
  have H := H.out.below hb2 hF'
  clear hF' hb2
  by_cases hq : q < 0
  · have HX : Hid (z = -1) := Lib.hid (HN.out.1 hq)
    go_wp2
    go_ret
    exact ⟨ret_int (by rw [HX.out]), HAL.out⟩
  · obtain ⟨j, hj, e9, e2⟩ := HN.out.2 (by omega)
    have HX : Hid (z = ds[j].wide) := Lib.hid e2
    have e1 : q = (j : Int) := by omega
    clear e9
    subst e1
    obtain ⟨ad, rfl, hf, c1, c2⟩ := H.at_decl hj
    have hj1 : (j : Int) < ds.length := by omega
    clear e2 hq
    go_wp2
    go_ret
    exact ⟨ret_int (by rw [HX.out]), HAL.out⟩
def nzI (k : Nat) : List Int → Int
  | [] => -1
  | x :: xs => if (x != 0) = true then (k : Int) else nzI (k + 1) xs
theorem nzI_all : ∀ (k : Nat) (xs : List Int), 0 ≤ nzI k xs ↔ xs.all (fun x => x == 0) = false
  | k, [] => by simp [nzI]
  | k, x :: xs => by
    have ih := nzI_all (k + 1) xs
    by_cases h : x = 0
    · have e2 : nzI k (x :: xs) = nzI (k + 1) xs := if_neg (by simp [h])
      rw [e2, ih]; simp [h]
    · have e2 : nzI k (x :: xs) = (k : Int) := if_pos (by simpa using h)
      rw [e2]; simp [h]
theorem nzI_step (xs : List Int) (k : Nat) (h : k < xs.length) : nzI k (xs.drop k) = if (xs[k] != 0) = true then (k : Int) else nzI (k + 1) (xs.drop (k + 1)) := by
  rw [List.drop_eq_getElem_cons h]; rfl
set_option maxHeartbeats 1000000 in
theorem boolSort1_any (x : Int) (w : World) : Calls Tryz.prog 185 #[.int .i64 x] w fun e w' => e = .returned (.bool (x != 0)) ∧ w = w' := by
  go_enter Tryz.func185, Tryz.ntmps185
  go_wp2
  go_ret
  exact ⟨rfl, rfl⟩
set_option maxHeartbeats 2000000 in
theorem indexNz_any (C : Option Addr) (d : Nat) (xs : List Int) (F : Nat → Prop) (w : World) (h : Lay.int.Sl w F C xs) (hn : xs.length ≤ 9223372036854775807) :
    Calls Tryz.prog 186 #[.slice C xs.length d, .func (.func 185) #[] #[]] w fun e w' => e = .returned (.int .i64 (nzI 0 xs)) ∧ w = w' := by
  go_enter Tryz.func186, Tryz.ntmps186
  go_wp2
  go_loop [8] (fun i => ∃ k : Nat, k ≤ xs.length ∧ i = .int .i64 k ∧ Hid (nzI 0 xs = nzI k (xs.drop k))) (fun i => xs.length - (intOf i).toNat)
  case atStart => exact ⟨0, Nat.zero_le _, rfl, Lib.hid rfl⟩
  case round =>
    obtain ⟨k, hk, rfl, HT⟩ := hrel
    by_cases hlt : k < xs.length
    · obtain ⟨ad, rfl, hf, c1⟩ := h.at_int hlt
      have hk1 : (k : Int) < xs.length := by omega
      have HS := Lib.hid (nzI_step xs k hlt)
      have HC := Lib.hid (boolSort1_any xs[k] w)
      obtain ⟨q, hq⟩ : ∃ q, q = (xs[k] != 0) := ⟨_, rfl⟩
      have HQ := Lib.hid hq
      rw [← hq] at HC
      clear hq
      go_wp2_with fail
      refine HC.out.mono ?_
      rintro e w2 ⟨rfl, rfl⟩
      cases q
      · have HE : Hid (nzI 0 xs = nzI (k + 1) (xs.drop (k + 1))) := Lib.hid (by rw [HT.out, HS.out, ← HQ.out]; rfl)
        go_wp2
        go_round
        case rel => exact ⟨k + 1, by omega, by go_num, HE⟩
        case measure => simp [intOf]; omega
      · have HE : Hid (nzI 0 xs = (k : Int)) := Lib.hid (by rw [HT.out, HS.out, ← HQ.out]; rfl)
        go_wp2
        go_ret
        exact ⟨ret_int (by rw [HE.out]), rfl⟩
    · have HE : Hid (nzI 0 xs = -1) := Lib.hid (by rw [HT.out, List.drop_of_length_le (by omega)]; rfl)
      have hke : k = xs.length := by omega
      subst hke
      go_wp2
      go_ret
      exact ⟨ret_int (by rw [HE.out]), rfl⟩
def boolK (ss : List Int) : Int := if ss.all (fun x => x == 0) = true then 0 else -1
set_option maxHeartbeats 2000000 in
theorem hasNz_any (C : Option Addr) (d : Nat) (xs : List Int) (F : Nat → Prop) (w : World) (h : Lay.int.Sl w F C xs) (hn : xs.length ≤ 9223372036854775807) :
    Calls Tryz.prog 184 #[.slice C xs.length d, .func (.func 185) #[] #[]] w fun e w' => e = .returned (.bool (!xs.all (fun x => x == 0))) ∧ w = w' := by
  have HC := Lib.hid (indexNz_any C d xs F w h hn)
  have HH := Lib.hid (nzI_all 0 xs)
  obtain ⟨q, hq⟩ : ∃ q, q = nzI 0 xs := ⟨_, rfl⟩
  rw [← hq] at HC HH
  clear hq h
  by_cases hq0 : 0 ≤ q
  · have HE : Hid (xs.all (fun x => x == 0) = false) := Lib.hid (HH.out.1 hq0)
    have g0 : decide (0 ≤ q) = true := decide_eq_true hq0
    go_enter Tryz.func184, Tryz.ntmps184
    go_wp2_with fail
    refine HC.out.mono ?_
    rintro e w2 ⟨rfl, rfl⟩
    go_wp2
    go_ret
    exact ⟨ret_bool (by rw [HE.out]; rfl), rfl⟩
  · have HE : Hid (xs.all (fun x => x == 0) = true) := Lib.hid (by
      cases h9 : xs.all (fun x => x == 0)
      · exact absurd (HH.out.2 h9) hq0
      · rfl)
    have g0 : decide (0 ≤ q) = false := decide_eq_false hq0
    go_enter Tryz.func184, Tryz.ntmps184
    go_wp2_with fail
    refine HC.out.mono ?_
    rintro e w2 ⟨rfl, rfl⟩
    go_wp2
    go_ret
    exact ⟨ret_bool (by rw [HE.out]; rfl), rfl⟩
set_option maxRecDepth 100000 in
set_option maxHeartbeats 4000000 in
theorem boolSort_any (u : ByteArray) (m : Int) (fn V : Value) (op a b : Int) (nm : ByteArray) (A : Option Addr) (n c : Nat) (C : Option Addr) (d : Nat) (ss : List Int) (F : Nat → Prop) (w : World) (h : Lay.int.Sl w F C ss) (hF : ∀ b, F b → b < w.heap.size) (hn : ss.length ≤ 9223372036854775807) :
    Calls Tryz.prog 182 #[.agg #[.string u, .int .i64 m, fn], V, .agg #[.int .i64 op, .int .i64 a, .int .i64 b, .string nm, .slice A n c], .slice C ss.length d] w fun e w' => e = .returned (.int .i64 (boolK ss)) ∧ Below w.heap.size w w' := by
  have hal : Below w.heap.size w ((w.alloc (.cells #[.string u, .int .i64 m, fn] 166)).alloc (.cells #[.int .i64 op, .int .i64 a, .int .i64 b, .string nm, .slice A n c] 48)) := ((Below.refl w.heap.size w).alloc (Nat.le_refl _) (.cells #[.string u, .int .i64 m, fn] 166)).alloc (by simp) (.cells #[.int .i64 op, .int .i64 a, .int .i64 b, .string nm, .slice A n c] 48)
  have HC := Lib.hid (hasNz_any C d ss F _ (h.below hal hF) hn)
  have HAL := Lib.hid hal
  obtain ⟨z, hz⟩ : ∃ z, z = boolK ss := ⟨_, rfl⟩
  rw [← hz]
  unfold boolK at hz
  obtain ⟨q, hq⟩ : ∃ q, q = ss.all (fun x => x == 0) := ⟨_, rfl⟩
  rw [← hq] at hz HC
  have HZ := Lib.hid hz
  clear hz hq hal h
  go_enter Tryz.func182, Tryz.ntmps182
  go_wp2_with fail
  generalize (w.alloc (.cells #[.string u, .int .i64 m, fn] 166)).alloc (.cells #[.int .i64 op, .int .i64 a, .int .i64 b, .string nm, .slice A n c] 48) = W at *
  refine HC.out.mono ?_
  rintro e w2 ⟨rfl, rfl⟩
  cases q
  · go_wp2_with fail
    refine (sorted_any _ _ _).mono ?_
    rintro e w3 ⟨rfl, rfl⟩
    go_wp2
    go_ret
    exact ⟨ret_int (by rw [HZ.out]; rfl), HAL.out⟩
  · go_wp2_with fail
    refine (sorted_any _ _ _).mono ?_
    rintro e w3 ⟨rfl, rfl⟩
    go_wp2
    go_ret
    exact ⟨ret_int (by rw [HZ.out]; rfl), HAL.out⟩
end Go.Proofs.YtiahmfpfimmbgaaGreatDoor

/-! The program's terms: count, TermMany, plain. -/
namespace Go.Proofs.YtiahmfpfimmbgaaGreatDoor
open Go Go.RowKit

theorem Lay.Sl.gr_far {α : Type} {L : Lay α} {w w' : World} {S F : Nat → Prop} {A : Option Addr} {xs : List α} (h : L.Sl w F A xs) (hg : Gr S w w') (hF : ∀ b, F b → b < w.heap.size ∧ ¬ S b) : L.Sl w' F A xs :=
  h.keep fun b hb => hg.block b (hF b hb).1 (hF b hb).2
/-- What the program's count is asked. -/
def CntT (t : T) : Prop := ∀ (deep m : Int) (A : Option Addr) (c : Nat) (F : Nat → Prop) (w : World) (b : Nat), 1 ≤ deep → deep ≤ 8 → 0 ≤ m → m ≤ 20 → Lay.term.Sl w F A t.kids → (∀ x, F x → x < w.heap.size ∧ ¬ x = b) → w.heap[b]? = some (.cells #[.int .i64 m] 3 (0, 0)) →
  Calls Tryz.prog 130 #[.agg #[.int .i64 t.op, .int .i64 t.a, .int .i64 t.b, .string t.name, .slice A t.kids.length c], .int .i64 deep, .pointer (some ⟨b, 0, none⟩)] w
    fun e w' => e = .returned (.int .i64 (t.cnt deep m).1) ∧ w'.heap[b]? = some (.cells #[.int .i64 (t.cnt deep m).2] 3 (0, 0)) ∧ Gr (fun x => x = b) w w'
set_option maxRecDepth 100000 in
set_option maxHeartbeats 4000000 in
theorem count_any (t : T) (ho : T.All okT2 t) : CntT t := by
  revert ho
  refine T.ind (p := fun x => T.All okT2 x → CntT x) (fun x ih ho => ?_) t
  obtain ⟨hkl, _⟩ := ho.here
  have ihk : ∀ k ∈ x.kids, CntT k := fun k hk => ih k hk (ho.kid k hk)
  clear ih ho
  intro deep m A c F w b d1 d8 m0 m20 h hF hB
  have hlt := lt_of_block hB
  have hst : Gr (fun x => x = b) w (w.setCell ⟨b, 0, none⟩ (.int .i64 (m + 1))) := (Gr.refl _ w).set b 0 (.int .i64 (m + 1)) (.inl rfl)
  have hW : Gr (fun x => x = b) w ((w.setCell ⟨b, 0, none⟩ (.int .i64 (m + 1))).alloc (.cells #[.int .i64 x.op, .int .i64 x.a, .int .i64 x.b, .string x.name, .slice A x.kids.length c] 48)) := hst.up ((Below.refl _ _).alloc (Nat.le_refl _) _)
  have hB1 : ((w.setCell ⟨b, 0, none⟩ (.int .i64 (m + 1))).alloc (.cells #[.int .i64 x.op, .int .i64 x.a, .int .i64 x.b, .string x.name, .slice A x.kids.length c] 48)).heap[b]? = some (.cells #[.int .i64 (m + 1)] 3 (0, 0)) :=
    (((Below.refl (w.setCell ⟨b, 0, none⟩ (.int .i64 (m + 1))).heap.size (w.setCell ⟨b, 0, none⟩ (.int .i64 (m + 1)))).alloc (Nat.le_refl _) (.cells #[.int .i64 x.op, .int .i64 x.a, .int .i64 x.b, .string x.name, .slice A x.kids.length c] 48)).block b (by rw [size_setCell]; exact hlt)).trans (heap_set_same w b 0 (.int .i64 (m + 1)) #[.int .i64 m] 3 hB)
  have v0 : w.cell? ⟨b, 0, none⟩ = some (.int .i64 m) := (cell_of_block hB 0).1
  have f0 : w.frozen? ⟨b, 0, none⟩ = false := (cell_of_block hB 0).2
  have hbn : ¬ w.heap.size = b := by omega
  have hv1 : ((w.setCell ⟨b, 0, none⟩ (.int .i64 (m + 1))).alloc (.cells #[.int .i64 x.op, .int .i64 x.a, .int .i64 x.b, .string x.name, .slice A x.kids.length c] 48)).heap[w.heap.size]? = some (.cells #[.int .i64 x.op, .int .i64 x.a, .int .i64 x.b, .string x.name, .slice A x.kids.length c] 48 (0, 0)) := by
    have h9 := heap_alloc_new (w.setCell ⟨b, 0, none⟩ (.int .i64 (m + 1))) (.cells #[.int .i64 x.op, .int .i64 x.a, .int .i64 x.b, .string x.name, .slice A x.kids.length c] 48)
    rw [size_setCell] at h9
    exact h9
  obtain ⟨r, hr⟩ : ∃ r, r = x.cnt deep m := ⟨_, rfl⟩
  rw [← hr]
  have HR := Lib.hid (hr.trans (T.cnt_def x deep m))
  have H := Lib.hid h
  have HW := Lib.hid hW
  have HB1 := Lib.hid hB1
  clear hr hst h
  by_cases h7 : 7 < deep
  · have HX : Hid (r = (deep, m + 1)) := Lib.hid (by rw [HR.out]; exact if_pos h7)
    go_enter Tryz.func130, Tryz.ntmps130
    go_wp2
    go_ret
    exact ⟨ret_int (by rw [HX.out]), by rw [HX.out]; exact HB1.out, HW.out⟩
  have HX : Hid (r = T.cntL x.kids deep deep (m + 1)) := Lib.hid (by rw [HR.out]; exact if_neg h7)
  clear HR
  have H := Lib.hid (H.out.gr_far hW hF)
  have hFW : ∀ y, F y → y < ((w.setCell ⟨b, 0, none⟩ (.int .i64 (m + 1))).alloc (.cells #[.int .i64 x.op, .int .i64 x.a, .int .i64 x.b, .string x.name, .slice A x.kids.length c] 48)).heap.size ∧ ¬ y = b := fun y hy => ⟨Nat.lt_of_lt_of_le (hF y hy).1 hW.size, (hF y hy).2⟩
  go_enter Tryz.func130, Tryz.ntmps130
  go_wp2
  have v4 := (cell_of_block hv1 4).1
  generalize (w.setCell ⟨b, 0, none⟩ (.int .i64 (m + 1))).alloc (.cells #[.int .i64 x.op, .int .i64 x.a, .int .i64 x.b, .string x.name, .slice A x.kids.length c] 48) = W at *
  clear v0 f0 hW hv1
  go_loopw [7, 22] (fun a i wr => ∃ (k : Nat) (most q : Int), k ≤ x.kids.length ∧ a = .int .i64 most ∧ i = .int .i64 k ∧ deep ≤ most ∧ most ≤ 8 ∧ 0 ≤ q ∧ q ≤ 21 ∧ wr.heap[b]? = some (.cells #[.int .i64 q] 3 (0, 0)) ∧ Gr (fun x => x = b) W wr ∧ Hid (T.cntL x.kids deep deep (m + 1) = T.cntL (x.kids.drop k) deep most q)) (fun _ i _ => x.kids.length - (intOf i).toNat)
  case atStart => exact ⟨0, deep, m + 1, Nat.zero_le _, rfl, rfl, Int.le_refl _, d8, by omega, by omega, hB1, Gr.refl _ _, Lib.hid (by simp)⟩
  case round =>
    obtain ⟨k, most, q, hk, rfl, rfl, e1, e2, q1, q2, hBr, hgr, HT⟩ := hrel
    have HGR := Lib.hid (HW.out.trans hgr)
    have HBR := Lib.hid hBr
    have a0 : wr.cell? ⟨b, 0, none⟩ = some (.int .i64 q) := (cell_of_block hBr 0).1
    have hbr := lt_of_block hBr
    by_cases hlt9 : k < x.kids.length
    · have hk1 : (k : Int) < x.kids.length := by omega
      have hFr : ∀ y, F y → y < wr.heap.size ∧ ¬ y = b := fun y hy => ⟨Nat.lt_of_lt_of_le (hFW y hy).1 hgr.size, (hFW y hy).2⟩
      obtain ⟨ad, A1, c9, rfl, hf, c1, c2, c3, c4, c5, hcc, hkk⟩ := (H.out.gr_far hgr hFW).at_term hlt9
      have hal : Gr (fun x => x = b) wr (wr.alloc (.cells #[.int .i64 x.kids[k].op, .int .i64 x.kids[k].a, .int .i64 x.kids[k].b, .string x.kids[k].name, .slice A1 x.kids[k].kids.length c9] 48)) := Gr.below ((Below.refl _ _).alloc (Nat.le_refl _) _)
      have HAL := Lib.hid (HGR.out.trans hal)
      have HAL2 := Lib.hid (hgr.trans hal)
      have HB2 := Lib.hid ((((Below.refl wr.heap.size wr).alloc (Nat.le_refl _) (.cells #[.int .i64 x.kids[k].op, .int .i64 x.kids[k].a, .int .i64 x.kids[k].b, .string x.kids[k].name, .slice A1 x.kids[k].kids.length c9] 48)).block b hbr).trans hBr)
      by_cases hq : 20 < q
      · have HX2 : Hid (r = (most, q)) := Lib.hid (by rw [HX.out, HT.out]; exact T.cntL_stop _ _ _ _ hq)
        clear hBr hgr hkk ihk
        go_wp2
        go_ret
        exact ⟨ret_int (by rw [HX2.out]), by rw [HX2.out]; exact HB2.out, HAL.out⟩
      · have HI := Lib.hid (ihk _ (List.getElem_mem hlt9) (deep + 1) q A1 c9 F _ b (by omega) (by omega) q1 (by omega) (hkk.gr_far hal hFr) (fun y hy => ⟨Nat.lt_of_lt_of_le (hFr y hy).1 hal.size, (hFr y hy).2⟩) HB2.out)
        have HS := Lib.hid (HT.out.trans (T.cntL_step x.kids k deep most q hlt9 hq))
        obtain ⟨_, _, r3, r4, r5, r6⟩ := T.cnt_eq x.kids[k] (deep + 1) q (by omega) (by omega) q1 (by omega)
        generalize x.kids[k].cnt (deep + 1) q = z at *
        clear hBr hgr hkk ihk hal hB1
        go_wp2_with fail
        refine HI.out.mono ?_
        rintro e w2 ⟨rfl, hb2, hg2⟩
        have HG2 := Lib.hid (HAL2.out.trans hg2)
        have HB3 := Lib.hid hb2
        clear hb2 hg2
        by_cases hz : most < z.1
        · have HS : Hid (T.cntL x.kids deep deep (m + 1) = T.cntL (x.kids.drop (k + 1)) deep z.1 z.2) := Lib.hid (by rw [HS.out, if_pos hz])
          go_wp2
          go_roundw
          case rel => exact ⟨k + 1, z.1, z.2, by omega, by first | rfl | go_num, by go_num, by omega, by omega, by omega, by omega, HB3.out, HG2.out, HS⟩
          case measure => simp [intOf]; omega
        · have HS : Hid (T.cntL x.kids deep deep (m + 1) = T.cntL (x.kids.drop (k + 1)) deep most z.2) := Lib.hid (by rw [HS.out, if_neg hz])
          go_wp2
          go_roundw
          case rel => exact ⟨k + 1, most, z.2, by omega, by first | rfl | go_num, by go_num, by omega, by omega, by omega, by omega, HB3.out, HG2.out, HS⟩
          case measure => simp [intOf]; omega
    · have hke : k = x.kids.length := by omega
      subst hke
      have HX2 : Hid (r = (most, q)) := Lib.hid (by rw [HX.out, HT.out]; exact T.cntL_full _ _ _ _)
      clear hBr hgr
      go_wp2
      go_ret
      exact ⟨ret_int (by rw [HX2.out]), by rw [HX2.out]; exact HBR.out, HGR.out⟩
end Go.Proofs.YtiahmfpfimmbgaaGreatDoor

/-! The program's terms: TermMany, plain. -/
namespace Go.Proofs.YtiahmfpfimmbgaaGreatDoor
open Go Go.RowKit

set_option maxRecDepth 100000 in
set_option maxHeartbeats 4000000 in
theorem implMany_any (x : T) (ho : T.All okT2 x) (A : Option Addr) (c : Nat) (F : Nat → Prop) (w : World) (h : Lay.term.Sl w F A x.kids) (hF : ∀ b, F b → b < w.heap.size) :
    Calls Tryz.prog 114 #[.agg #[.int .i64 x.op, .int .i64 x.a, .int .i64 x.b, .string x.name, .slice A x.kids.length c]] w fun e w' => e = .returned (.tuple #[.int .i64 x.many.1, .int .i64 x.many.2]) ∧ Below w.heap.size w w' := by
  have hal : Below w.heap.size w ((w.alloc (.cells #[.int .i64 x.op, .int .i64 x.a, .int .i64 x.b, .string x.name, .slice A x.kids.length c] 48)).alloc (.cells #[.int .i64 0] 3)) := ((Below.refl w.heap.size w).alloc (Nat.le_refl _) (.cells #[.int .i64 x.op, .int .i64 x.a, .int .i64 x.b, .string x.name, .slice A x.kids.length c] 48)).alloc (by simp) _
  have hsz : (w.alloc (.cells #[.int .i64 x.op, .int .i64 x.a, .int .i64 x.b, .string x.name, .slice A x.kids.length c] 48)).heap.size = w.heap.size + 1 := by simp
  have hB := heap_alloc_new (w.alloc (.cells #[.int .i64 x.op, .int .i64 x.a, .int .i64 x.b, .string x.name, .slice A x.kids.length c] 48)) (.cells #[.int .i64 0] 3)
  rw [hsz] at hB
  have hT : ((w.alloc (.cells #[.int .i64 x.op, .int .i64 x.a, .int .i64 x.b, .string x.name, .slice A x.kids.length c] 48)).alloc (.cells #[.int .i64 0] 3)).heap[w.heap.size]? = some (.cells #[.int .i64 x.op, .int .i64 x.a, .int .i64 x.b, .string x.name, .slice A x.kids.length c] 48 (0, 0)) := (((Below.refl (w.alloc (.cells #[.int .i64 x.op, .int .i64 x.a, .int .i64 x.b, .string x.name, .slice A x.kids.length c] 48)).heap.size (w.alloc (.cells #[.int .i64 x.op, .int .i64 x.a, .int .i64 x.b, .string x.name, .slice A x.kids.length c] 48))).alloc (Nat.le_refl _) (.cells #[.int .i64 0] 3)).block _ (by rw [hsz]; omega)).trans (heap_alloc_new w (.cells #[.int .i64 x.op, .int .i64 x.a, .int .i64 x.b, .string x.name, .slice A x.kids.length c] 48))
  have HC := Lib.hid (count_any x ho 1 0 A c F _ (w.heap.size + 1) (by omega) (by omega) (by omega) (by omega) (h.below hal hF) (fun y hy => ⟨Nat.lt_of_lt_of_le (hF y hy) hal.size, by have := hF y hy; omega⟩) hB)
  obtain ⟨r, hr⟩ : ∃ r, r = x.many := ⟨_, rfl⟩
  rw [← hr]
  have hr := hr.trans (T.cnt_many x)
  obtain ⟨_, _, r3, r4, r5, r6⟩ := T.cnt_eq x 1 0 (by omega) (by omega) (by omega) (by omega)
  generalize x.cnt 1 0 = z at *
  have HR := Lib.hid hr
  have HAL := Lib.hid hal
  clear hr hB hsz h
  go_enter Tryz.func114, Tryz.ntmps114
  go_wp2_with fail
  generalize (w.alloc (.cells #[.int .i64 x.op, .int .i64 x.a, .int .i64 x.b, .string x.name, .slice A x.kids.length c] 48)).alloc (.cells #[.int .i64 0] 3) = W at *
  refine HC.out.mono ?_
  rintro e w2 ⟨rfl, hb2, hg2⟩
  have HB := Lib.hid (HAL.out.trans (hg2.to_below' hal.size (fun y hy => by omega)))
  have v0 := (cell_of_block hb2 0).1
  clear hb2 hg2 hal hT
  by_cases h1 : 20 < z.2
  · have HX : Hid (r = (21, 8)) := Lib.hid (by rw [HR.out]; exact if_pos (.inl h1))
    go_wp2
    go_ret2
    exact ⟨by rw [HX.out]; rfl, HB.out⟩
  · by_cases h2 : 7 < z.1
    · have HX : Hid (r = (21, 8)) := Lib.hid (by rw [HR.out]; exact if_pos (.inr h2))
      go_wp2
      go_ret2
      exact ⟨by rw [HX.out]; rfl, HB.out⟩
    · have HX : Hid (r = (z.2, z.1)) := Lib.hid (by rw [HR.out]; exact if_neg (fun h => h.elim h1 h2))
      go_wp2
      go_ret2
      exact ⟨by rw [HX.out]; rfl, HB.out⟩
set_option maxRecDepth 100000 in
set_option maxHeartbeats 4000000 in
theorem plain_any (op a b : Int) (nm : ByteArray) (A : Option Addr) (n c : Nat) (w : World) :
    Calls Tryz.prog 131 #[.agg #[.int .i64 op, .int .i64 a, .int .i64 b, .string nm, .slice A n c]] w (RetB w (plainN op nm && plainV op a b)) := by
  have HAL := Lib.hid ((Below.refl w.heap.size w).alloc (Nat.le_refl _) (.cells #[.int .i64 op, .int .i64 a, .int .i64 b, .string nm, .slice A n c] 48))
  obtain ⟨q, hq⟩ : ∃ q, q = (nm.toList == []) := ⟨_, rfl⟩
  have HPN : Hid (plainN op nm = (op == 21 || q)) := Lib.hid (by rw [hq]; rfl)
  have HPV : Hid (plainV op a b = (op == 20 || op == 22 || (a == 0 && b == 0))) := Lib.hid rfl
  rw [HPN.out, HPV.out]
  have gq := hq.symm
  clear hq HPN HPV
  by_cases q20 : op = 20
  · subst q20
    cases q
    · skip
      go_enter Tryz.func131, Tryz.ntmps131
      go_wp2
      all_goals
        go_ret
        exact ⟨ret_bool (by simp [*]), HAL.out⟩
    · skip
      go_enter Tryz.func131, Tryz.ntmps131
      go_wp2
      all_goals
        go_ret
        exact ⟨ret_bool (by simp [*]), HAL.out⟩
  have g20 : (op == 20) = false := by simpa using q20
  by_cases q22 : op = 22
  · subst q22
    cases q
    · skip
      go_enter Tryz.func131, Tryz.ntmps131
      go_wp2
      all_goals
        go_ret
        exact ⟨ret_bool (by simp [*]), HAL.out⟩
    · skip
      go_enter Tryz.func131, Tryz.ntmps131
      go_wp2
      all_goals
        go_ret
        exact ⟨ret_bool (by simp [*]), HAL.out⟩
  have g22 : (op == 22) = false := by simpa using q22
  by_cases qa : a = 0
  · subst qa
    by_cases qb : b = 0
    · subst qb
      by_cases q21 : op = 21
      · subst q21
        go_enter Tryz.func131, Tryz.ntmps131
        go_wp2
        all_goals
          go_ret
          exact ⟨ret_bool (by simp [*]), HAL.out⟩
      · have g21 : (op == 21) = false := by simpa using q21
        cases q
        · skip
          go_enter Tryz.func131, Tryz.ntmps131
          go_wp2
          all_goals
            go_ret
            exact ⟨ret_bool (by simp [*]), HAL.out⟩
        · skip
          go_enter Tryz.func131, Tryz.ntmps131
          go_wp2
          all_goals
            go_ret
            exact ⟨ret_bool (by simp [*]), HAL.out⟩
    · have gb : (b == 0) = false := by simpa using qb
      go_enter Tryz.func131, Tryz.ntmps131
      go_wp2
      all_goals
        go_ret
        exact ⟨ret_bool (by simp [*]), HAL.out⟩
  · have ga : (a == 0) = false := by simpa using qa
    go_enter Tryz.func131, Tryz.ntmps131
    go_wp2
    all_goals
      go_ret
      exact ⟨ret_bool (by simp [*]), HAL.out⟩
end Go.Proofs.YtiahmfpfimmbgaaGreatDoor
