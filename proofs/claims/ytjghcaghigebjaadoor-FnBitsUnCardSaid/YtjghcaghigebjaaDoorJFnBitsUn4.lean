/- The reference's l7Fill and l7Turn. The reference's l7Add. The program's sums; its operations on one list. The program's signals that are off; its operations on one list. The reference's l7Un, BitsUn. The reference's BitsUn. -/
import Derived.Test.YtjghcaghigebjaaDoorJFnBitsUn0
import Derived.Test.YtjghcaghigebjaaDoorJFnBitsUn2
import Derived.Test.YtjghcaghigebjaaDoorJFnBitsUn3
/-! The reference's l7Fill and l7Turn. -/
namespace Go.Proofs.YtjghcaghigebjaaDoor
open Go Go.RowKit

/-- A new row. -/
def RetNw (xs : List Int) (w : World) (e : Ending) (w' : World) : Prop := ∃ B d, e = .returned (.slice B xs.length d) ∧ xs.length ≤ d ∧ Lay.int.Sl w' (Own w.heap.size w') B xs ∧ Below w.heap.size w w'
theorem take_step' {α : Type} {l : List α} {j : Nat} {x : α} (h : l[j]? = some x) : l.take (j + 1) = l.take j ++ [x] := by
  rw [List.take_add_one, h]; rfl
set_option maxRecDepth 100000 in
set_option maxHeartbeats 2000000 in
theorem l7Fill_any (m : Int) (n : Nat) (w : World) (hn : n ≤ 500) :
    Calls Tryd.prog 98 #[.int .i64 m, .int .i64 (n : Int)] w (RetNw (List.replicate n m) w) := by
  have hal : Below w.heap.size w (w.alloc (.cells #[] 3)) := (Below.refl _ _).alloc (Nat.le_refl _) _
  have hown0 : OwnI (w.alloc (.cells #[] 3)) w.heap.size (.slice (some ⟨w.heap.size, 0, none⟩) ([] : List Int).length 0) [] := own_lit0I w
  go_enter Tryd.func98, Tryd.ntmps98
  go_wp2
  go_loopw [5, 6] (fun s i wr => ∃ (j : Nat) (l : List Int) (B : Option Addr) (d : Nat), j ≤ n ∧ i = .int .i64 j ∧ s = .slice B l.length d ∧ l.length = j ∧ l = (List.replicate n m).take j ∧ OwnI wr w.heap.size (.slice B l.length d) l ∧ Below w.heap.size w wr) (fun _ i _ => n - (intOf i).toNat)
  case atStart => exact ⟨0, [], _, 0, Nat.zero_le _, rfl, rfl, rfl, rfl, hown0, hal⟩
  case round =>
    obtain ⟨j, l, B, d, hj, rfl, rfl, hlj, hle, hown, hbr⟩ := hrel
    have HLE := Lib.hid hle
    have HLJ := Lib.hid hlj
    have hl3 : l.length ≤ 1000 := by omega
    have hws : w.heap.size ≤ wr.heap.size := hbr.size
    clear hle hlj
    by_cases hlt : j < n
    · have hlt2 : (j : Int) < n := by omega
      obtain ⟨l2, hl2⟩ : ∃ l2, l2 = l ++ [m] := ⟨_, rfl⟩
      have HL2 := Lib.hid hl2
      clear hl2
      go_wp2_with (at_builtin; refine wpList_append_int8 (ys := l2) (by rfl) (.tmp 13) (.tmp 15) (by rfl) (by rfl) (by rfl) hown (by omega) hws HL2.out ?_; intro B3 d3 w3 hown3 hg3 hbk3)
      have hb3 := hbr.grown hg3 hbr.size fun g e => (hown.lt g e).1
      clear hbk3 hg3 hown hbr
      go_roundw
      case rel => exact ⟨j + 1, l2, B3, d3, by omega, by go_num, rfl, by rw [HL2.out, List.length_append, HLJ.out]; rfl, by
          rw [HL2.out, HLE.out]
          rw [List.take_replicate, List.take_replicate, Nat.min_eq_left hj, Nat.min_eq_left (by omega)]; exact (List.replicate_succ' ..).symm, hown3, hb3⟩
      case measure => simp [intOf]; omega
    · have hje : j = n := by omega
      have hfin : l = List.replicate n m := by rw [HLE.out, hje]; exact List.take_of_length_le (by simp)
      go_wp2
      go_ret
      rw [← hfin]
      exact ⟨B, d, rfl, hown.cap, hown.own, hbr⟩
set_option maxRecDepth 100000 in
set_option maxHeartbeats 2000000 in
theorem l7Turn_any (X : Option Addr) (c : Nat) (xs : List Int) (w : World) (hX : Lay.int.Rd w X xs) (hxi : ∀ x ∈ xs, RB x) (hn : xs.length ≤ 500) :
    Calls Tryd.prog 96 #[.slice X xs.length c] w (RetNw (xs.map Neg.neg) w) := by
  have hal : Below w.heap.size w (w.alloc (.cells #[] 3)) := (Below.refl _ _).alloc (Nat.le_refl _) _
  have hown0 : OwnI (w.alloc (.cells #[] 3)) w.heap.size (.slice (some ⟨w.heap.size, 0, none⟩) ([] : List Int).length 0) [] := own_lit0I w
  have HX := Lib.hid hX
  have HXI := Lib.hid hxi
  clear hX hxi
  go_enter Tryd.func96, Tryd.ntmps96
  go_wp2
  go_loopw [3, 4] (fun s i wr => ∃ (j : Nat) (l : List Int) (B : Option Addr) (d : Nat), j ≤ xs.length ∧ i = .int .i64 j ∧ s = .slice B l.length d ∧ l.length = j ∧ l = (xs.map Neg.neg).take j ∧ OwnI wr w.heap.size (.slice B l.length d) l ∧ Below w.heap.size w wr) (fun _ i _ => xs.length - (intOf i).toNat)
  case atStart => exact ⟨0, [], _, 0, Nat.zero_le _, rfl, rfl, rfl, rfl, hown0, hal⟩
  case round =>
    obtain ⟨j, l, B, d, hj, rfl, rfl, hlj, hle, hown, hbr⟩ := hrel
    have HLE := Lib.hid hle
    have HLJ := Lib.hid hlj
    have hl3 : l.length ≤ 1000 := by omega
    have hws : w.heap.size ≤ wr.heap.size := hbr.size
    clear hle hlj
    by_cases hlt : j < xs.length
    · have hlt2 : (j : Int) < xs.length := by omega
      have hxi := HXI.out _ (List.getElem_mem hlt)
      obtain ⟨ad, rfl, -, hcell⟩ := (HX.out.up hbr).at_int hlt
      have HXT := Lib.hid (show (xs.map Neg.neg)[j]? = some (-xs[j]) by rw [List.getElem?_map, List.getElem?_eq_getElem hlt]; rfl)
      obtain ⟨x, hx⟩ : ∃ x, x = xs[j] := ⟨_, rfl⟩
      rw [← hx] at hcell hxi HXT
      clear hx
      obtain ⟨hx0, hx1⟩ := hxi
      obtain ⟨l2, hl2⟩ : ∃ l2, l2 = l ++ [(-x)] := ⟨_, rfl⟩
      have HL2 := Lib.hid hl2
      clear hl2
      go_wp2_with (at_builtin; refine wpList_append_int8 (ys := l2) (by rfl) (.tmp 12) (.tmp 18) (by rfl) (by rfl) (by rfl) hown (by omega) hws HL2.out ?_; intro B3 d3 w3 hown3 hg3 hbk3)
      have hb3 := hbr.grown hg3 hbr.size fun g e => (hown.lt g e).1
      clear hbk3 hg3 hown hbr
      go_roundw
      case rel => exact ⟨j + 1, l2, B3, d3, by omega, by go_num, rfl, by rw [HL2.out, List.length_append, HLJ.out]; rfl, by
          rw [HL2.out, HLE.out]
          exact (take_step' HXT.out).symm, hown3, hb3⟩
      case measure => simp [intOf]; omega
    · have hje : j = xs.length := by omega
      have hfin : l = xs.map Neg.neg := by rw [HLE.out, hje]; exact List.take_of_length_le (by simp)
      go_wp2
      go_ret
      rw [← hfin]
      exact ⟨B, d, rfl, hown.cap, hown.own, hbr⟩
end Go.Proofs.YtjghcaghigebjaaDoor

/-! The reference's l7Add. -/
namespace Go.Proofs.YtjghcaghigebjaaDoor
open Go Go.RowKit

theorem run_sum {σ : Type} {o : Ops σ} (xs ys : List Int) (k : Nat) (x y : Int) (hx : xs[k]? = some x) (hy : ys[k]? = some y) (s : σ) (c : Int) (l : List Int) :
    (let r := run o (sumP (xs.drop k) (ys.drop k) c) s; (r.1, l ++ r.2)) = (let m := o.xor s x y; let u := o.xor m.1 m.2 c; let p := o.and u.1 x y; let q := o.and p.1 m.2 c; let g := run o (orP p.2 q.2) q.1; let r := run o (sumP (xs.drop (k + 1)) (ys.drop (k + 1)) g.2) g.1; (r.1, (l ++ [u.2]) ++ r.2)) := by
  obtain ⟨hk, rfl⟩ := List.getElem?_eq_some_iff.1 hx
  obtain ⟨hk', rfl⟩ := List.getElem?_eq_some_iff.1 hy
  rw [List.drop_eq_getElem_cons hk, List.drop_eq_getElem_cons hk']
  simp only [sumP, run_bind, run, List.append_assoc, List.singleton_append]
theorem or_rb {x y : Int} {k : N × Bool} (h : NB k.1) (hx : RB x) (hy : RB y) : NB (run opsR (orP x y) k).1.1 ∧ RB (run opsR (orP x y) k).2 := by
  have h3 : NB (opsR.and k (-x) (-y)).1.1 ∧ RB (opsR.and k (-x) (-y)).2 := stepR_nb h (and1_nb h hx.neg hy.neg)
  exact ⟨h3.1, h3.2.neg⟩
theorem wpList_append_int7 {Q : Exit → Act → World → Prop} {ops : Array Oper} {rest : List Oper} {o : Oper} {a : Act} {W : World} {lo b : Nat} {A : Option Addr} {c : Nat} {xs ys : List Int} {x : Int} {e' : TypeId} (hgd : o.guard = none) (s y : Operand)
    (ho : o.op = .call { callee := .builtin .append, args := #[s, y], argTypes := #[25, 25] }) (hs : a.eval s = .slice A xs.length c) (hy : a.eval y = .slice (some ⟨b, 0, none⟩) 1 1) (hb : b = W.heap.size)
    (hown : OwnI W lo (.slice A xs.length c) xs) (hn : xs.length ≤ 2000000) (hlo : lo ≤ W.heap.size) (hys : ys = xs ++ [x])
    (h : ∀ A' c' w', OwnI w' lo (.slice A' ys.length c') ys → W.grownBy w' (Value.slice A xs.length c).ownBlock →
      ((Value.slice A' ys.length c').ownBlock = (Value.slice A xs.length c).ownBlock ∨ ∃ g, (Value.slice A' ys.length c').ownBlock = some g ∧ W.heap.size ≤ g) → wpList Tryd.prog ops Q rest (a.put o.dst (.slice A' ys.length c')) w') :
    wpList Tryd.prog ops Q (o :: rest) a (W.alloc (.cells #[.int .i64 x] e')) := by
  subst hb; exact wpList_append_int8 hgd s y ho hs hy hown hn hlo hys h
/-- The variable of a net with room, the result's cells, and a row of the call's own. -/
structure AddI (F : Nat → Prop) (w x : World) (k : N × Bool) (A : Option Addr) (c : Nat) (B : Option Addr) (d : Nat) (l : List Int) : Prop where
  ks : KS2 F w x k A c (fun b => (Value.slice B l.length d).ownBlock = some b)
  own : OwnI x (w.heap.size + 2) (.slice B l.length d) l
theorem AddI.up {F : Nat → Prop} {w x x' : World} {k : N × Bool} {A : Option Addr} {c : Nat} {B : Option Addr} {d : Nat} {l : List Int} (h : AddI F w x k A c B d l) (hF : ∀ b, F b → b < w.heap.size) (hb : Below x.heap.size x x') : AddI F w x' k A c B d l := ⟨h.ks.up hF hb, h.own.up hb⟩
theorem AddI.set {F : Nat → Prop} {w x : World} {k k' : N × Bool} {A A' : Option Addr} {c c' : Nat} {B : Option Addr} {d : Nat} {l : List Int} (h : AddI F w x k A c B d l) (hF : ∀ b, F b → b < w.heap.size) (hs : Lay.gate.Sl x (G2 F w x (fun b => (Value.slice B l.length d).ownBlock = some b)) A' k'.1.gs) (hn : A' = none → k'.1.gs.length = 0) :
    AddI F w (st3 x w.heap.size (.int .i64 k'.1.ins) (.slice A' k'.1.gs.length c') (.bool k'.2)) k' A' c' B d l := by
  have hgr : x.grownBy (st3 x w.heap.size (.int .i64 k'.1.ins) (.slice A' k'.1.gs.length c') (.bool k'.2)) (some w.heap.size) := only_setCell (only_setCell (only_setCell (World.grownBy.refl _ _) _ _) _ _) _ _
  exact ⟨h.ks.set hF hs hn, own_of_heap h.own fun g hg => hgr.block g (h.own.lt g hg).2 (fun e => by injection e with e; have := (h.own.lt g hg).1; omega)⟩
theorem AddI.call {F : Nat → Prop} {w x x' : World} {k k' : N × Bool} {A A' : Option Addr} {c c' : Nat} {B : Option Addr} {d : Nat} {l : List Int} (h : AddI F w x k A c B d l) (hF : ∀ b, F b → b < w.heap.size) (hs : Lay.gate.Sl x' (fun b => G2 F w x (fun b => (Value.slice B l.length d).ownBlock = some b) b ∨ (x.heap.size ≤ b ∧ b < x'.heap.size)) A' k'.1.gs) (hb : Below x.heap.size x x') (hn : A' = none → k'.1.gs.length = 0) :
    AddI F w (st3 x' w.heap.size (.int .i64 k'.1.ins) (.slice A' k'.1.gs.length c') (.bool k'.2)) k' A' c' B d l := by
  refine (h.up hF hb).set hF (hs.mono fun b hb' => ?_) hn
  have hr := lt_of_block h.ks.res
  rcases hb' with (h9 | h9) | h9
  · exact .inl h9
  · exact .inr ⟨h9.1, Nat.lt_of_lt_of_le h9.2.1 hb.size, h9.2.2⟩
  · exact .inr ⟨by omega, h9.2, fun e => by have := (h.own.lt b e).2; omega⟩
def ATup (F S : Nat → Prop) (w : World) (m : (N × Bool) × Int) (v : Value) (z : World) : Prop := ∃ A2 c2, v = .tuple #[.agg #[.int .i64 m.1.1.ins, .slice A2 m.1.1.gs.length c2, .bool m.1.2], .int .i64 m.2] ∧ (A2 = none → m.1.1.gs.length = 0) ∧ Lay.gate.Sl z (G2 F w z S) A2 m.1.1.gs ∧ w.heap.size ≤ z.heap.size
def ANet (F S : Nat → Prop) (w : World) (m : (N × Bool) × Int) (v : Value) (z : World) : Prop := ∃ A2 c2, v = .agg #[.int .i64 m.1.1.ins, .slice A2 m.1.1.gs.length c2, .bool m.1.2] ∧ (A2 = none → m.1.1.gs.length = 0) ∧ Lay.gate.Sl z (G2 F w z S) A2 m.1.1.gs ∧ w.heap.size ≤ z.heap.size
theorem g2_stS {F S : Nat → Prop} {w x y : World} {A : Option Addr} {gs : List G} (hF : ∀ b, F b → b < w.heap.size) (h3 : Lay.gate.Sl x (G2 F w x S) A gs) (h4 : w.heap.size ≤ x.heap.size) (hR : x.grownBy y (some w.heap.size)) : Lay.gate.Sl y (G2 F w y S) A gs :=
  (h3.keep fun b hb => hR.block b (hb.elim (fun h9 => Nat.lt_of_lt_of_le (hF b h9) h4) (fun h9 => h9.2.1)) (fun e => by injection e with e; exact hb.elim (fun h9 => by have := hF b h9; omega) (fun h9 => by omega))).mono fun b hb => hb.imp id fun h9 => ⟨h9.1, Nat.lt_of_lt_of_le h9.2.1 hR.size, h9.2.2⟩
theorem ATup.up {F S : Nat → Prop} {w x y : World} {m : (N × Bool) × Int} {v : Value} (hF : ∀ b, F b → b < w.heap.size) (h : ATup F S w m v x) (hb : Below x.heap.size x y) : ATup F S w m v y := by
  obtain ⟨A2, c2, h1, h2, h3, h4⟩ := h
  exact ⟨A2, c2, h1, h2, G2.up2 h3 (fun b hb => Nat.lt_of_lt_of_le (hF b hb) h4) hb, Nat.le_trans h4 hb.size⟩
theorem ATup.st {F S : Nat → Prop} {w x y : World} {m : (N × Bool) × Int} {v : Value} (hF : ∀ b, F b → b < w.heap.size) (h : ATup F S w m v x) (hR : x.grownBy y (some w.heap.size)) : ATup F S w m v y := by
  obtain ⟨A2, c2, h1, h2, h3, h4⟩ := h
  exact ⟨A2, c2, h1, h2, g2_stS hF h3 h4 hR, Nat.le_trans h4 hR.size⟩
theorem ANet.up {F S : Nat → Prop} {w x y : World} {m : (N × Bool) × Int} {v : Value} (hF : ∀ b, F b → b < w.heap.size) (h : ANet F S w m v x) (hb : Below x.heap.size x y) : ANet F S w m v y := by
  obtain ⟨A2, c2, h1, h2, h3, h4⟩ := h
  exact ⟨A2, c2, h1, h2, G2.up2 h3 (fun b hb => Nat.lt_of_lt_of_le (hF b hb) h4) hb, Nat.le_trans h4 hb.size⟩
theorem ANet.st {F S : Nat → Prop} {w x y : World} {m : (N × Bool) × Int} {v : Value} (hF : ∀ b, F b → b < w.heap.size) (h : ANet F S w m v x) (hR : x.grownBy y (some w.heap.size)) : ANet F S w m v y := by
  obtain ⟨A2, c2, h1, h2, h3, h4⟩ := h
  exact ⟨A2, c2, h1, h2, g2_stS hF h3 h4 hR, Nat.le_trans h4 hR.size⟩
set_option maxRecDepth 100000 in
set_option maxHeartbeats 8000000 in
theorem l7Add_any (F : Nat → Prop) (A : Option Addr) (c : Nat) (k : N × Bool) (c0 : Int) (X Y : Option Addr) (cx cy : Nat) (xs ys : List Int) (w : World) (h : Lay.gate.Sl w F A k.1.gs) (hF : ∀ b, F b → b < w.heap.size) (hA : A = none → k.1.gs.length = 0) (hnb : NB k.1) (hc : RB c0) (hX : Lay.int.Rd w X xs) (hY : Lay.int.Rd w Y ys) (hxm : ∀ x ∈ xs, RB x) (hym : ∀ y ∈ ys, RB y) (hl : xs.length = ys.length) (hn : xs.length ≤ 1000) :
    Calls Tryd.prog 97 #[.agg #[.int .i64 k.1.ins, .slice A k.1.gs.length c, .bool k.2], .slice X xs.length cx, .slice Y ys.length cy, .int .i64 c0] w (RetKL F w (run opsR (sumP xs ys c0) k)) := by
  obtain ⟨T, hT⟩ : ∃ T, T = run opsR (sumP xs ys c0) k := ⟨_, rfl⟩
  rw [← hT]
  have HT := Lib.hid hT
  have K0 := KS.two (c := c) h hF hA
  have HRW := Lib.hid (h.below K0.bel hF)
  have HNIL := Lib.hid hA
  have HF := Lib.hid hF
  have HNB := Lib.hid hnb
  have HX := Lib.hid hX
  have HY := Lib.hid hY
  have HXM := Lib.hid hxm
  have HYM := Lib.hid hym
  have HL := Lib.hid hl
  have HC0 := Lib.hid hc
  have K0 := Lib.hid K0
  have hX0s : ((w.alloc (.cells #[.int .i64 k.1.ins, .slice A k.1.gs.length c, .bool k.2] 68)).alloc (.cells #[.int .i64 0, .slice none 0 0, .bool false] 68)).heap.size = w.heap.size + 2 := by simp
  clear h hA hnb hX hY hxm hym hc hT
  rw [← hl]
  clear hl
  go_enter Tryd.func97, Tryd.ntmps97
  go_wp2
  generalize hX0 : (w.alloc (.cells #[.int .i64 k.1.ins, .slice A k.1.gs.length c, .bool k.2] 68)).alloc (.cells #[.int .i64 0, .slice none 0 0, .bool false] 68) = X0 at *
  clear hX0
  have hal : Below X0.heap.size X0 (X0.alloc (.cells #[] 3)) := (Below.refl _ _).alloc (Nat.le_refl _) _
  have hown0 : OwnI (X0.alloc (.cells #[] 3)) (w.heap.size + 2) (.slice (some ⟨w.heap.size + 1 + 1, 0, none⟩) 0 0) [] := own_lit0 hX0s
  have K1 := Lib.hid (K0.out.up HF.out hal)
  have HO0 := Lib.hid hown0
  have HRW := Lib.hid (HRW.out.below hal (fun b hb => by have := HF.out b hb; omega))
  clear hal hown0 K0
  go_loopw [10, 11, 3] (fun out i cv wr => ∃ (j : Nat) (k1 : N × Bool) (l : List Int) (A1 B : Option Addr) (c1 d : Nat) (cc : Int), j ≤ xs.length ∧ i = .int .i64 j ∧ out = .slice B l.length d ∧ cv = .int .i64 cc ∧ RB cc ∧ l.length = j ∧ (∀ m ∈ l, RB m) ∧ AddI F w wr k1 A1 c1 B d l ∧ NB k1.1 ∧ Hid ((let z := run opsR (sumP (xs.drop j) (ys.drop j) cc) k1; (z.1, l ++ z.2)) = T)) (fun _ i _ _ => xs.length - (intOf i).toNat)
  case atStart => exact ⟨0, k, [], A, some ⟨w.heap.size + 1 + 1, 0, none⟩, c, 0, c0, Nat.zero_le _, rfl, rfl, rfl, HC0.out, rfl, (fun _ h => by cases h), ⟨⟨K1.out.bel, K1.out.var, K1.out.res, HRW.out.mono fun _ => .inl, HNIL.out⟩, HO0.out⟩, HNB.out, Lib.hid (by rw [HT.out]; rfl)⟩
  case round =>
    obtain ⟨j, k1, l, A1, B, c1, d, cc, hj, rfl, rfl, rfl, hcc, hlj, hlm, hks, hnb1, hst⟩ := hrel
    have HCC := Lib.hid hcc
    have HLM := Lib.hid hlm
    have HKS := Lib.hid hks
    have HLJ := Lib.hid hlj
    have HNB1 := Lib.hid hnb1
    clear hlm hks hlj hnb1 hcc
    by_cases hlt : j < xs.length
    · have hlt2 : (j : Int) < xs.length := by omega
      have hlty : j < ys.length := by rw [← HL.out]; exact hlt
      obtain ⟨x, hx⟩ : ∃ x, xs[j]? = some x := ⟨_, List.getElem?_eq_getElem hlt⟩
      obtain ⟨y, hy⟩ : ∃ y, ys[j]? = some y := ⟨_, List.getElem?_eq_getElem hlty⟩
      have hxg : xs[j] = x := (List.getElem?_eq_some_iff.1 hx).2
      have hyg : ys[j] = y := (List.getElem?_eq_some_iff.1 hy).2
      have HXYM := Lib.hid (And.intro (HXM.out x (List.mem_of_getElem? hx)) (HYM.out y (List.mem_of_getElem? hy)))
      obtain ⟨adx, rfl, -, -⟩ := HX.out.at_int hlt
      obtain ⟨ady, rfl, -, -⟩ := HY.out.at_int hlty
      have HST := Lib.hid ((run_sum (o := opsR) xs ys j x y hx hy k1 cc l).symm.trans hst.out)
      have HRX : Hid (∀ z, Below w.heap.size w z → z.cell? (adx.add j) = some (.int .i64 x)) := Lib.hid fun z hz => by
        obtain ⟨ad, e, _, hc⟩ := (HX.out.up hz).at_int hlt
        injection e with e; subst e; rw [← hxg]; exact hc
      have HRY : Hid (∀ z, Below w.heap.size w z → z.cell? (ady.add j) = some (.int .i64 y)) := Lib.hid fun z hz => by
        obtain ⟨ad, e, _, hc⟩ := (HY.out.up hz).at_int hlty
        injection e with e; subst e; rw [← hyg]; exact hc
      have hll : l.length ≤ 1000 := by have := HLJ.out; omega
      clear hx hy hxg hyg hst hlty
      obtain ⟨m, h9⟩ : ∃ m, m = opsR.xor k1 x y := ⟨_, rfl⟩
      have HM := Lib.hid h9
      have HMB : Hid (NB m.1.1 ∧ RB m.2) := Lib.hid (by rw [h9]; exact opsR_xor_nb HNB1.out HXYM.out.1 HXYM.out.2)
      clear h9
      obtain ⟨u, h9⟩ : ∃ u, u = opsR.xor m.1 m.2 cc := ⟨_, rfl⟩
      have HU := Lib.hid h9
      have HUB : Hid (NB u.1.1 ∧ RB u.2) := Lib.hid (by rw [h9]; exact opsR_xor_nb HMB.out.1 HMB.out.2 HCC.out)
      clear h9
      obtain ⟨p, h9⟩ : ∃ p, p = opsR.and u.1 x y := ⟨_, rfl⟩
      have HP := Lib.hid h9
      have HPB : Hid (NB p.1.1 ∧ RB p.2) := Lib.hid (by rw [h9]; exact opsR_and_nb HUB.out.1 HXYM.out.1 HXYM.out.2)
      clear h9
      obtain ⟨q, h9⟩ : ∃ q, q = opsR.and p.1 m.2 cc := ⟨_, rfl⟩
      have HQ := Lib.hid h9
      have HQB : Hid (NB q.1.1 ∧ RB q.2) := Lib.hid (by rw [h9]; exact opsR_and_nb HPB.out.1 HMB.out.2 HCC.out)
      clear h9
      obtain ⟨g, h9⟩ : ∃ g, g = run opsR (orP p.2 q.2) q.1 := ⟨_, rfl⟩
      have HG := Lib.hid h9
      have HGB : Hid (NB g.1.1 ∧ RB g.2) := Lib.hid (by rw [h9]; exact or_rb HQB.out.1 HPB.out.2 HQB.out.2)
      clear h9
      have HST : Hid ((let r := run opsR (sumP (xs.drop (j + 1)) (ys.drop (j + 1)) g.2) g.1; (r.1, (l ++ [u.2]) ++ r.2)) = T) := Lib.hid (by rw [HG.out, HQ.out, HP.out, HU.out, HM.out]; exact HST.out)
      obtain ⟨l2, hl2⟩ : ∃ l2, l2 = l ++ [u.2] := ⟨_, rfl⟩
      have HL2 := Lib.hid hl2
      clear hl2
      go_wp2
      refine wp_region_rel4 [[], [], [], [(1, 25), (2, 26)], [(3, 27)], [], [], [(5, 29), (6, 30)], [(7, 31)], [(0, 24), (4, 28), (8, 32)], [(9, 33)], [(10, 23)], [(10, 23)], [(11, 34)], [(12, 35)]]
        (fun x9 y9 => Below x9.heap.size x9 y9)
        [(13, fun x9 y9 => x9.grownBy y9 (some w.heap.size))]
        (fun f9 x9 => (f9 13 = false → AddI F w x9 k1 A1 c1 B d l) ∧ (f9 13 = true → ∃ A9 c9, AddI F w x9 m.1 A9 c9 B d l) ∧ Below w.heap.size w x9)
        [fun vs9 _ => vs9 0 = (.agg #[.int .i64 k1.1.ins, .slice A1 k1.1.gs.length c1, .bool k1.2]),
    fun vs9 _ => vs9 1 = (.slice (some adx) xs.length cx),
    fun vs9 _ => vs9 2 = (.int .i64 (j : Int)),
    fun vs9 _ => vs9 3 = (.pointer (some (adx.add j))),
    fun vs9 _ => vs9 4 = (.int .i64 x),
    fun vs9 _ => vs9 5 = (.slice (some ady) xs.length cy),
    fun vs9 _ => vs9 6 = (.int .i64 (j : Int)),
    fun vs9 _ => vs9 7 = (.pointer (some (ady.add j))),
    fun vs9 _ => vs9 8 = (.int .i64 y),
    fun vs9 y9 => (fun v z => ATup F (fun b => (Value.slice B l.length d).ownBlock = some b) w m v z) (vs9 9) y9,
    fun vs9 y9 => (fun v z => ATup F (fun b => (Value.slice B l.length d).ownBlock = some b) w m v z) (vs9 10) y9,
    fun vs9 y9 => (fun v z => ANet F (fun b => (Value.slice B l.length d).ownBlock = some b) w m v z) (vs9 11) y9,
    fun vs9 _ => vs9 12 = (.int .i64 m.2),
    fun _ _ => True,
    fun vs9 _ => vs9 14 = (.int .i64 m.2)]
        [(0, 24), (1, 25), (2, 26), (3, 27), (4, 28), (5, 29), (6, 30), (7, 31), (8, 32), (9, 33), (10, 23), (11, 34), (12, 35), (14, 12)] (by kernel_rfl) (by kernel_rfl) (by kernel_rfl) (by kernel_rfl)
        (fun _ => Below.refl _ _) ⟨fun _ => World.grownBy.refl _ _, trivial⟩
        ⟨⟨.inr (fun _ _ _ h _ => h), ⟨.inr (.inr (fun _ _ _ h _ => h)), trivial⟩⟩,
    ⟨.inr (fun _ _ _ h _ => h), ⟨.inr (.inr (fun _ _ _ h _ => h)), trivial⟩⟩,
    ⟨.inr (fun _ _ _ h _ => h), ⟨.inr (.inr (fun _ _ _ h _ => h)), trivial⟩⟩,
    ⟨.inr (fun _ _ _ h _ => h), ⟨.inr (.inr (fun _ _ _ h _ => h)), trivial⟩⟩,
    ⟨.inr (fun _ _ _ h _ => h), ⟨.inr (.inr (fun _ _ _ h _ => h)), trivial⟩⟩,
    ⟨.inr (fun _ _ _ h _ => h), ⟨.inr (.inr (fun _ _ _ h _ => h)), trivial⟩⟩,
    ⟨.inr (fun _ _ _ h _ => h), ⟨.inr (.inr (fun _ _ _ h _ => h)), trivial⟩⟩,
    ⟨.inr (fun _ _ _ h _ => h), ⟨.inr (.inr (fun _ _ _ h _ => h)), trivial⟩⟩,
    ⟨.inr (fun _ _ _ h _ => h), ⟨.inr (.inr (fun _ _ _ h _ => h)), trivial⟩⟩,
    ⟨.inr (fun vs9 x9 y9 h9 hR9 => (show ∀ v9 y8 y7, (fun v z => ATup F (fun b => (Value.slice B l.length d).ownBlock = some b) w m v z) v9 y8 → (fun x9 y9 => Below x9.heap.size x9 y9) y8 y7 → (fun v z => ATup F (fun b => (Value.slice B l.length d).ownBlock = some b) w m v z) v9 y7 from fun _ _ _ h9 hR => h9.up HF.out hR) (vs9 9) x9 y9 h9 hR9), ⟨.inr (.inr (fun vs9 x9 y9 h9 hR9 => (show ∀ v9 y8 y7, (fun v z => ATup F (fun b => (Value.slice B l.length d).ownBlock = some b) w m v z) v9 y8 → (fun x9 y9 => x9.grownBy y9 (some w.heap.size)) y8 y7 → (fun v z => ATup F (fun b => (Value.slice B l.length d).ownBlock = some b) w m v z) v9 y7 from fun _ _ _ h9 hR => h9.st HF.out hR) (vs9 9) x9 y9 h9 hR9)), trivial⟩⟩,
    ⟨.inr (fun vs9 x9 y9 h9 hR9 => (show ∀ v9 y8 y7, (fun v z => ATup F (fun b => (Value.slice B l.length d).ownBlock = some b) w m v z) v9 y8 → (fun x9 y9 => Below x9.heap.size x9 y9) y8 y7 → (fun v z => ATup F (fun b => (Value.slice B l.length d).ownBlock = some b) w m v z) v9 y7 from fun _ _ _ h9 hR => h9.up HF.out hR) (vs9 10) x9 y9 h9 hR9), ⟨.inr (.inr (fun vs9 x9 y9 h9 hR9 => (show ∀ v9 y8 y7, (fun v z => ATup F (fun b => (Value.slice B l.length d).ownBlock = some b) w m v z) v9 y8 → (fun x9 y9 => x9.grownBy y9 (some w.heap.size)) y8 y7 → (fun v z => ATup F (fun b => (Value.slice B l.length d).ownBlock = some b) w m v z) v9 y7 from fun _ _ _ h9 hR => h9.st HF.out hR) (vs9 10) x9 y9 h9 hR9)), trivial⟩⟩,
    ⟨.inr (fun vs9 x9 y9 h9 hR9 => (show ∀ v9 y8 y7, (fun v z => ANet F (fun b => (Value.slice B l.length d).ownBlock = some b) w m v z) v9 y8 → (fun x9 y9 => Below x9.heap.size x9 y9) y8 y7 → (fun v z => ANet F (fun b => (Value.slice B l.length d).ownBlock = some b) w m v z) v9 y7 from fun _ _ _ h9 hR => h9.up HF.out hR) (vs9 11) x9 y9 h9 hR9), ⟨.inr (.inr (fun vs9 x9 y9 h9 hR9 => (show ∀ v9 y8 y7, (fun v z => ANet F (fun b => (Value.slice B l.length d).ownBlock = some b) w m v z) v9 y8 → (fun x9 y9 => x9.grownBy y9 (some w.heap.size)) y8 y7 → (fun v z => ANet F (fun b => (Value.slice B l.length d).ownBlock = some b) w m v z) v9 y7 from fun _ _ _ h9 hR => h9.st HF.out hR) (vs9 11) x9 y9 h9 hR9)), trivial⟩⟩,
    ⟨.inr (fun _ _ _ h _ => h), ⟨.inr (.inr (fun _ _ _ h _ => h)), trivial⟩⟩,
    ⟨.inr (fun _ _ _ h _ => h), ⟨.inr (.inl rfl), trivial⟩⟩,
    ⟨.inr (fun _ _ _ h _ => h), ⟨.inr (.inr (fun _ _ _ h _ => h)), trivial⟩⟩, trivial⟩ ⟨fun vs vs' x h _ hv => (by dsimp only at hv ⊢; first | (rw [← h]; exact hv) | exact hv),
    fun vs vs' x h _ hv => (by dsimp only at hv ⊢; first | (rw [← h]; exact hv) | exact hv),
    fun vs vs' x h _ hv => (by dsimp only at hv ⊢; first | (rw [← h]; exact hv) | exact hv),
    fun vs vs' x h _ hv => (by dsimp only at hv ⊢; first | (rw [← h]; exact hv) | exact hv),
    fun vs vs' x h _ hv => (by dsimp only at hv ⊢; first | (rw [← h]; exact hv) | exact hv),
    fun vs vs' x h _ hv => (by dsimp only at hv ⊢; first | (rw [← h]; exact hv) | exact hv),
    fun vs vs' x h _ hv => (by dsimp only at hv ⊢; first | (rw [← h]; exact hv) | exact hv),
    fun vs vs' x h _ hv => (by dsimp only at hv ⊢; first | (rw [← h]; exact hv) | exact hv),
    fun vs vs' x h _ hv => (by dsimp only at hv ⊢; first | (rw [← h]; exact hv) | exact hv),
    fun vs vs' x h _ hv => (by dsimp only at hv ⊢; first | (rw [← h]; exact hv) | exact hv),
    fun vs vs' x h _ hv => (by dsimp only at hv ⊢; first | (rw [← h]; exact hv) | exact hv),
    fun vs vs' x h _ hv => (by dsimp only at hv ⊢; first | (rw [← h]; exact hv) | exact hv),
    fun vs vs' x h _ hv => (by dsimp only at hv ⊢; first | (rw [← h]; exact hv) | exact hv),
    fun _ _ _ _ _ _ => trivial,
    fun vs vs' x h _ hv => (by dsimp only at hv ⊢; first | (rw [← h]; exact hv) | exact hv), trivial⟩ (⟨fun _ => HKS.out.up HF.out (below_drewN (Below.refl _ _) 1), (fun h => by cases h), bthen HKS.out.ks.bel (below_drewN (Below.refl _ _) 1)⟩) ⟨?_, ?_, ?_, ?_, ?_, ?_, ?_, ?_, ?_, ?_, ?_, ?_, ?_, ?_, ?_, trivial⟩ ?_
      · intro vals xw f hf1 hf2 hf3 hI hF
        have k13 : f 13 = false := hf3 13 (by kernel_rfl)
        clear hf2 hf3
        dsimp only [owes4, bare]
        simp only [putsD, Act.put, List.setIfInBounds_toArray, List.set_cons_zero, List.set_cons_succ]
        have hv9 := (hI.1 k13).ks.var
        have y0 := (cell_of_block hv9 0).1
        have y1 := (cell_of_block hv9 1).1
        have y2 := (cell_of_block hv9 2).1
        go_wp2
        exact ⟨rfl, rfl, ⟨fun h9 => absurd h9 (Nat.ne_of_beq_eq_false rfl), fun _ => Below.refl _ _⟩, hI⟩
      · intro vals xw f hf1 hf2 hf3 hI hF
        clear hf2 hf3
        dsimp only [owes4, bare]
        simp only [putsD, Act.put, List.setIfInBounds_toArray, List.set_cons_zero, List.set_cons_succ]
        go_wp2
        exact ⟨rfl, rfl, ⟨fun h9 => absurd h9 (Nat.ne_of_beq_eq_false rfl), fun _ => Below.refl _ _⟩, hI⟩
      · intro vals xw f hf1 hf2 hf3 hI hF
        clear hf2 hf3
        dsimp only [owes4, bare]
        simp only [putsD, Act.put, List.setIfInBounds_toArray, List.set_cons_zero, List.set_cons_succ]
        go_wp2
        exact ⟨rfl, rfl, ⟨fun h9 => absurd h9 (Nat.ne_of_beq_eq_false rfl), fun _ => Below.refl _ _⟩, hI⟩
      · intro vals xw f hf1 hf2 hf3 hI hF
        clear hf2 hf3
        simp only [saysD, List.getD_cons_zero, List.getD_cons_succ, and_true] at hF
        obtain ⟨e25, e26⟩ := hF
        dsimp only [owes4, bare]
        simp only [putsD, Act.put, List.setIfInBounds_toArray, List.set_cons_zero, List.set_cons_succ]
        simp only [e25, e26]
        go_wp2
        exact ⟨rfl, rfl, ⟨fun h9 => absurd h9 (Nat.ne_of_beq_eq_false rfl), fun _ => Below.refl _ _⟩, hI⟩
      · intro vals xw f hf1 hf2 hf3 hI hF
        clear hf2 hf3
        simp only [saysD, List.getD_cons_zero, List.getD_cons_succ, and_true] at hF
        have e27 := hF
        dsimp only [owes4, bare]
        simp only [putsD, Act.put, List.setIfInBounds_toArray, List.set_cons_zero, List.set_cons_succ]
        simp only [e27]
        have c9 := HRX.out _ hI.2.2
        go_wp2
        exact ⟨rfl, rfl, ⟨fun h9 => absurd h9 (Nat.ne_of_beq_eq_false rfl), fun _ => Below.refl _ _⟩, hI⟩
      · intro vals xw f hf1 hf2 hf3 hI hF
        clear hf2 hf3
        dsimp only [owes4, bare]
        simp only [putsD, Act.put, List.setIfInBounds_toArray, List.set_cons_zero, List.set_cons_succ]
        go_wp2
        exact ⟨rfl, rfl, ⟨fun h9 => absurd h9 (Nat.ne_of_beq_eq_false rfl), fun _ => Below.refl _ _⟩, hI⟩
      · intro vals xw f hf1 hf2 hf3 hI hF
        clear hf2 hf3
        dsimp only [owes4, bare]
        simp only [putsD, Act.put, List.setIfInBounds_toArray, List.set_cons_zero, List.set_cons_succ]
        go_wp2
        exact ⟨rfl, rfl, ⟨fun h9 => absurd h9 (Nat.ne_of_beq_eq_false rfl), fun _ => Below.refl _ _⟩, hI⟩
      · intro vals xw f hf1 hf2 hf3 hI hF
        clear hf2 hf3
        simp only [saysD, List.getD_cons_zero, List.getD_cons_succ, and_true] at hF
        obtain ⟨e29, e30⟩ := hF
        dsimp only [owes4, bare]
        simp only [putsD, Act.put, List.setIfInBounds_toArray, List.set_cons_zero, List.set_cons_succ]
        simp only [e29, e30]
        go_wp2
        exact ⟨rfl, rfl, ⟨fun h9 => absurd h9 (Nat.ne_of_beq_eq_false rfl), fun _ => Below.refl _ _⟩, hI⟩
      · intro vals xw f hf1 hf2 hf3 hI hF
        clear hf2 hf3
        simp only [saysD, List.getD_cons_zero, List.getD_cons_succ, and_true] at hF
        have e31 := hF
        dsimp only [owes4, bare]
        simp only [putsD, Act.put, List.setIfInBounds_toArray, List.set_cons_zero, List.set_cons_succ]
        simp only [e31]
        have c9 := HRY.out _ hI.2.2
        go_wp2
        exact ⟨rfl, rfl, ⟨fun h9 => absurd h9 (Nat.ne_of_beq_eq_false rfl), fun _ => Below.refl _ _⟩, hI⟩
      · intro vals xw f hf1 hf2 hf3 hI hF
        have k13 : f 13 = false := hf3 13 (by kernel_rfl)
        clear hf2 hf3
        simp only [saysD, List.getD_cons_zero, List.getD_cons_succ, and_true] at hF
        obtain ⟨e24, e28, e32⟩ := hF
        dsimp only [owes4, bare]
        simp only [putsD, Act.put, List.setIfInBounds_toArray, List.set_cons_zero, List.set_cons_succ]
        simp only [e24, e28, e32]
        have HI := Lib.hid hI
        have HK := Lib.hid (hI.1 k13)
        have hsz9 := hI.2.2.size
        clear hI
        have HC := Lib.hid (l7Xor_any (G2 F w xw (fun b => (Value.slice B l.length d).ownBlock = some b)) A1 c1 k1 x y xw HK.out.ks.row (KS2.lt HK.out.ks.bel HF.out) HK.out.ks.nil HNB1.out HXYM.out.1 HXYM.out.2)
        rw [← HM.out] at HC
        go_wp2_with fail
        refine HC.out.mono ?_
        rintro e wx ⟨A9, c9, rfl, h2, h3, h4⟩
        have H3 := Lib.hid h3
        have H4 := Lib.hid h4
        clear h3 h4 HC
        go_wp2
        refine ⟨rfl, ⟨A9, c9, rfl, h2, H3.out.mono ?_, Nat.le_trans hsz9 H4.out.size⟩, ⟨fun h9 => absurd h9 (Nat.ne_of_beq_eq_false rfl), fun _ => H4.out⟩, (fun h => (HI.out.1 h).up HF.out H4.out), (fun h => absurd (k13.symm.trans h) (by simp)), bthen HI.out.2.2 H4.out⟩
        intro b hb
        rcases hb with (h9 | h9) | h9
        · exact .inl h9
        · exact .inr ⟨h9.1, Nat.lt_of_lt_of_le h9.2.1 H4.out.size, h9.2.2⟩
        · exact .inr ⟨by have := lt_of_block HK.out.ks.res; omega, h9.2, fun e => by have := (HK.out.own.lt b e).2; omega⟩
      · intro vals xw f hf1 hf2 hf3 hI hF
        clear hf2 hf3
        simp only [saysD, List.getD_cons_zero, List.getD_cons_succ, and_true] at hF
        obtain ⟨A9, c9, e33, h2, h3, h4⟩ := hF
        dsimp only [owes4, bare]
        simp only [putsD, Act.put, List.setIfInBounds_toArray, List.set_cons_zero, List.set_cons_succ]
        simp only [e33]
        go_wp2
        exact ⟨rfl, ⟨A9, c9, rfl, h2, h3, h4⟩, ⟨fun h9 => absurd h9 (Nat.ne_of_beq_eq_false rfl), fun _ => Below.refl _ _⟩, hI⟩
      · intro vals xw f hf1 hf2 hf3 hI hF
        clear hf2 hf3
        simp only [saysD, List.getD_cons_zero, List.getD_cons_succ, and_true] at hF
        obtain ⟨A9, c9, e23, h2, h3, h4⟩ := hF
        dsimp only [owes4, bare]
        simp only [putsD, Act.put, List.setIfInBounds_toArray, List.set_cons_zero, List.set_cons_succ]
        simp only [e23]
        go_wp2
        exact ⟨rfl, ⟨A9, c9, rfl, h2, h3, h4⟩, ⟨fun h9 => absurd h9 (Nat.ne_of_beq_eq_false rfl), fun _ => Below.refl _ _⟩, hI⟩
      · intro vals xw f hf1 hf2 hf3 hI hF
        clear hf2 hf3
        simp only [saysD, List.getD_cons_zero, List.getD_cons_succ, and_true] at hF
        obtain ⟨A9, c9, e23, h2, h3, h4⟩ := hF
        dsimp only [owes4, bare]
        simp only [putsD, Act.put, List.setIfInBounds_toArray, List.set_cons_zero, List.set_cons_succ]
        simp only [e23]
        go_wp2
        exact ⟨rfl, rfl, ⟨fun h9 => absurd h9 (Nat.ne_of_beq_eq_false rfl), fun _ => Below.refl _ _⟩, hI⟩
      · intro vals xw f hf1 hf2 hf3 hI hF
        clear hf2 hf3
        simp only [saysD, List.getD_cons_zero, List.getD_cons_succ, and_true] at hF
        obtain ⟨A9, c9, e34, h2, h3, h4⟩ := hF
        dsimp only [owes4, bare]
        simp only [putsD, Act.put, List.setIfInBounds_toArray, List.set_cons_zero, List.set_cons_succ]
        simp only [e34]
        have HI := Lib.hid hI
        have HK := Lib.hid (hI.1 hf1)
        have hv9 := HK.out.ks.var
        have y0 := (cell_of_block hv9 0).1
        have y1 := (cell_of_block hv9 1).1
        have y2 := (cell_of_block hv9 2).1
        have g0 := (cell_of_block hv9 0).2
        have g1 := (cell_of_block hv9 1).2
        have g2 := (cell_of_block hv9 2).2
        have H3 := Lib.hid h3
        clear hI hv9 h3 h4
        go_wp2
        have hset := HK.out.set (c' := c9) HF.out H3.out h2
        have hgr : xw.grownBy (st3 xw w.heap.size (.int .i64 m.1.1.ins) (.slice A9 m.1.1.gs.length c9) (.bool m.1.2)) (some w.heap.size) := only_setCell (only_setCell (only_setCell (World.grownBy.refl _ _) _ _) _ _) _ _
        exact ⟨rfl, trivial, ⟨fun _ => hgr, fun h9 => absurd rfl h9⟩, fun h => absurd ((did_same f 13).symm.trans h) (by simp), fun _ => ⟨A9, c9, hset⟩, st3_below HI.out.2.2 (Nat.le_refl _) _ _ _⟩
      · intro vals xw f hf1 hf2 hf3 hI hF
        clear hf2 hf3
        simp only [saysD, List.getD_cons_zero, List.getD_cons_succ, and_true] at hF
        have e35 := hF
        dsimp only [owes4, bare]
        simp only [putsD, Act.put, List.setIfInBounds_toArray, List.set_cons_zero, List.set_cons_succ]
        simp only [e35]
        go_wp2
        exact ⟨rfl, rfl, ⟨fun h9 => absurd h9 (Nat.ne_of_beq_eq_false rfl), fun _ => Below.refl _ _⟩, hI⟩
      · intro vals xw f hall hI hF
        rw [show List.range _ = [0, 1, 2, 3, 4, 5, 6, 7, 8, 9, 10, 11, 12, 13, 14] from rfl] at hF
        simp only [says, List.getD_cons_zero, List.getD_cons_succ, and_true] at hF
        obtain ⟨A2, c2, hk2⟩ := hI.2.1 (hall 13 (by decide))
        have e9 : vals 14 = .int .i64 m.2 := by obtain ⟨_, _, _, _, _, _, _, _, _, _, _, _, _, _, e9⟩ := hF; exact e9
        have K2 := Lib.hid hk2
        clear hF hk2 hI
        simp only [putsD, Act.put, List.setIfInBounds_toArray, List.set_cons_zero, List.set_cons_succ]
        simp only [e9]
        clear e9
        have hv9 := K2.out.ks.var
        have y0 := (cell_of_block hv9 0).1
        have y1 := (cell_of_block hv9 1).1
        have y2 := (cell_of_block hv9 2).1
        clear hv9
        have HC := Lib.hid (l7Xor_any _ A2 c2 m.1 m.2 cc _ K2.out.ks.row (KS2.lt K2.out.ks.bel HF.out) K2.out.ks.nil HMB.out.1 HMB.out.2 HCC.out)
        rw [← HU.out] at HC
        go_wp2_with fail
        refine HC.out.mono ?_
        rintro e z3 ⟨A3, c3, rfl, hn9, hs9, hb9⟩
        have hv9 := (hb9.block _ (lt_of_block K2.out.ks.var)).trans K2.out.ks.var
        clear y0 y1 y2 HC
        have y0 := (cell_of_block hv9 0).1
        have y1 := (cell_of_block hv9 1).1
        have y2 := (cell_of_block hv9 2).1
        have g0 := (cell_of_block hv9 0).2
        have g1 := (cell_of_block hv9 1).2
        have g2 := (cell_of_block hv9 2).2
        have K9 := K2.out.call (c' := c3) HF.out hs9 hb9 hn9
        dsimp only [st3] at K9
        have K3 := Lib.hid K9
        clear K9 hs9 hb9 hn9 hv9 K2
        go_wp2
        generalize hX3 : ((z3.setCell ⟨w.heap.size, 0, none⟩ (.int .i64 u.1.1.ins)).setCell ⟨w.heap.size, 1, none⟩ (.slice A3 u.1.1.gs.length c3)).setCell ⟨w.heap.size, 2, none⟩ (.bool u.1.2) = X3 at *
        clear hX3 y0 y1 y2 g0 g1 g2
        refine wp_region_rel4 [[], [], [], [(1, 45), (2, 46)], [(3, 47)], [], [], [(5, 49), (6, 50)], [(7, 51)], [(0, 44), (4, 48), (8, 52)], [(9, 53)], [(10, 43)], [(10, 43)], [(11, 54)], [(12, 55)]]
          (fun x9 y9 => Below x9.heap.size x9 y9)
          [(13, fun x9 y9 => x9.grownBy y9 (some w.heap.size))]
          (fun f9 x9 => (f9 13 = false → AddI F w x9 u.1 A3 c3 B d l) ∧ (f9 13 = true → ∃ A9 c9, AddI F w x9 p.1 A9 c9 B d l) ∧ Below w.heap.size w x9)
          [fun vs9 _ => vs9 0 = (.agg #[.int .i64 u.1.1.ins, .slice A3 u.1.1.gs.length c3, .bool u.1.2]),
    fun vs9 _ => vs9 1 = (.slice (some adx) xs.length cx),
    fun vs9 _ => vs9 2 = (.int .i64 (j : Int)),
    fun vs9 _ => vs9 3 = (.pointer (some (adx.add j))),
    fun vs9 _ => vs9 4 = (.int .i64 x),
    fun vs9 _ => vs9 5 = (.slice (some ady) xs.length cy),
    fun vs9 _ => vs9 6 = (.int .i64 (j : Int)),
    fun vs9 _ => vs9 7 = (.pointer (some (ady.add j))),
    fun vs9 _ => vs9 8 = (.int .i64 y),
    fun vs9 y9 => (fun v z => ATup F (fun b => (Value.slice B l.length d).ownBlock = some b) w p v z) (vs9 9) y9,
    fun vs9 y9 => (fun v z => ATup F (fun b => (Value.slice B l.length d).ownBlock = some b) w p v z) (vs9 10) y9,
    fun vs9 y9 => (fun v z => ANet F (fun b => (Value.slice B l.length d).ownBlock = some b) w p v z) (vs9 11) y9,
    fun vs9 _ => vs9 12 = (.int .i64 p.2),
    fun _ _ => True,
    fun vs9 _ => vs9 14 = (.int .i64 p.2)]
          [(0, 44), (1, 45), (2, 46), (3, 47), (4, 48), (5, 49), (6, 50), (7, 51), (8, 52), (9, 53), (10, 43), (11, 54), (12, 55), (14, 14)] (by kernel_rfl) (by kernel_rfl) (by kernel_rfl) (by kernel_rfl)
          (fun _ => Below.refl _ _) ⟨fun _ => World.grownBy.refl _ _, trivial⟩
          ⟨⟨.inr (fun _ _ _ h _ => h), ⟨.inr (.inr (fun _ _ _ h _ => h)), trivial⟩⟩,
    ⟨.inr (fun _ _ _ h _ => h), ⟨.inr (.inr (fun _ _ _ h _ => h)), trivial⟩⟩,
    ⟨.inr (fun _ _ _ h _ => h), ⟨.inr (.inr (fun _ _ _ h _ => h)), trivial⟩⟩,
    ⟨.inr (fun _ _ _ h _ => h), ⟨.inr (.inr (fun _ _ _ h _ => h)), trivial⟩⟩,
    ⟨.inr (fun _ _ _ h _ => h), ⟨.inr (.inr (fun _ _ _ h _ => h)), trivial⟩⟩,
    ⟨.inr (fun _ _ _ h _ => h), ⟨.inr (.inr (fun _ _ _ h _ => h)), trivial⟩⟩,
    ⟨.inr (fun _ _ _ h _ => h), ⟨.inr (.inr (fun _ _ _ h _ => h)), trivial⟩⟩,
    ⟨.inr (fun _ _ _ h _ => h), ⟨.inr (.inr (fun _ _ _ h _ => h)), trivial⟩⟩,
    ⟨.inr (fun _ _ _ h _ => h), ⟨.inr (.inr (fun _ _ _ h _ => h)), trivial⟩⟩,
    ⟨.inr (fun vs9 x9 y9 h9 hR9 => (show ∀ v9 y8 y7, (fun v z => ATup F (fun b => (Value.slice B l.length d).ownBlock = some b) w p v z) v9 y8 → (fun x9 y9 => Below x9.heap.size x9 y9) y8 y7 → (fun v z => ATup F (fun b => (Value.slice B l.length d).ownBlock = some b) w p v z) v9 y7 from fun _ _ _ h9 hR => h9.up HF.out hR) (vs9 9) x9 y9 h9 hR9), ⟨.inr (.inr (fun vs9 x9 y9 h9 hR9 => (show ∀ v9 y8 y7, (fun v z => ATup F (fun b => (Value.slice B l.length d).ownBlock = some b) w p v z) v9 y8 → (fun x9 y9 => x9.grownBy y9 (some w.heap.size)) y8 y7 → (fun v z => ATup F (fun b => (Value.slice B l.length d).ownBlock = some b) w p v z) v9 y7 from fun _ _ _ h9 hR => h9.st HF.out hR) (vs9 9) x9 y9 h9 hR9)), trivial⟩⟩,
    ⟨.inr (fun vs9 x9 y9 h9 hR9 => (show ∀ v9 y8 y7, (fun v z => ATup F (fun b => (Value.slice B l.length d).ownBlock = some b) w p v z) v9 y8 → (fun x9 y9 => Below x9.heap.size x9 y9) y8 y7 → (fun v z => ATup F (fun b => (Value.slice B l.length d).ownBlock = some b) w p v z) v9 y7 from fun _ _ _ h9 hR => h9.up HF.out hR) (vs9 10) x9 y9 h9 hR9), ⟨.inr (.inr (fun vs9 x9 y9 h9 hR9 => (show ∀ v9 y8 y7, (fun v z => ATup F (fun b => (Value.slice B l.length d).ownBlock = some b) w p v z) v9 y8 → (fun x9 y9 => x9.grownBy y9 (some w.heap.size)) y8 y7 → (fun v z => ATup F (fun b => (Value.slice B l.length d).ownBlock = some b) w p v z) v9 y7 from fun _ _ _ h9 hR => h9.st HF.out hR) (vs9 10) x9 y9 h9 hR9)), trivial⟩⟩,
    ⟨.inr (fun vs9 x9 y9 h9 hR9 => (show ∀ v9 y8 y7, (fun v z => ANet F (fun b => (Value.slice B l.length d).ownBlock = some b) w p v z) v9 y8 → (fun x9 y9 => Below x9.heap.size x9 y9) y8 y7 → (fun v z => ANet F (fun b => (Value.slice B l.length d).ownBlock = some b) w p v z) v9 y7 from fun _ _ _ h9 hR => h9.up HF.out hR) (vs9 11) x9 y9 h9 hR9), ⟨.inr (.inr (fun vs9 x9 y9 h9 hR9 => (show ∀ v9 y8 y7, (fun v z => ANet F (fun b => (Value.slice B l.length d).ownBlock = some b) w p v z) v9 y8 → (fun x9 y9 => x9.grownBy y9 (some w.heap.size)) y8 y7 → (fun v z => ANet F (fun b => (Value.slice B l.length d).ownBlock = some b) w p v z) v9 y7 from fun _ _ _ h9 hR => h9.st HF.out hR) (vs9 11) x9 y9 h9 hR9)), trivial⟩⟩,
    ⟨.inr (fun _ _ _ h _ => h), ⟨.inr (.inr (fun _ _ _ h _ => h)), trivial⟩⟩,
    ⟨.inr (fun _ _ _ h _ => h), ⟨.inr (.inl rfl), trivial⟩⟩,
    ⟨.inr (fun _ _ _ h _ => h), ⟨.inr (.inr (fun _ _ _ h _ => h)), trivial⟩⟩, trivial⟩ ⟨fun vs vs' x h _ hv => (by dsimp only at hv ⊢; first | (rw [← h]; exact hv) | exact hv),
    fun vs vs' x h _ hv => (by dsimp only at hv ⊢; first | (rw [← h]; exact hv) | exact hv),
    fun vs vs' x h _ hv => (by dsimp only at hv ⊢; first | (rw [← h]; exact hv) | exact hv),
    fun vs vs' x h _ hv => (by dsimp only at hv ⊢; first | (rw [← h]; exact hv) | exact hv),
    fun vs vs' x h _ hv => (by dsimp only at hv ⊢; first | (rw [← h]; exact hv) | exact hv),
    fun vs vs' x h _ hv => (by dsimp only at hv ⊢; first | (rw [← h]; exact hv) | exact hv),
    fun vs vs' x h _ hv => (by dsimp only at hv ⊢; first | (rw [← h]; exact hv) | exact hv),
    fun vs vs' x h _ hv => (by dsimp only at hv ⊢; first | (rw [← h]; exact hv) | exact hv),
    fun vs vs' x h _ hv => (by dsimp only at hv ⊢; first | (rw [← h]; exact hv) | exact hv),
    fun vs vs' x h _ hv => (by dsimp only at hv ⊢; first | (rw [← h]; exact hv) | exact hv),
    fun vs vs' x h _ hv => (by dsimp only at hv ⊢; first | (rw [← h]; exact hv) | exact hv),
    fun vs vs' x h _ hv => (by dsimp only at hv ⊢; first | (rw [← h]; exact hv) | exact hv),
    fun vs vs' x h _ hv => (by dsimp only at hv ⊢; first | (rw [← h]; exact hv) | exact hv),
    fun _ _ _ _ _ _ => trivial,
    fun vs vs' x h _ hv => (by dsimp only at hv ⊢; first | (rw [← h]; exact hv) | exact hv), trivial⟩ (⟨fun _ => K3.out.up HF.out (below_drewN (Below.refl _ _) 1), (fun h => by cases h), bthen K3.out.ks.bel (below_drewN (Below.refl _ _) 1)⟩) ⟨?_, ?_, ?_, ?_, ?_, ?_, ?_, ?_, ?_, ?_, ?_, ?_, ?_, ?_, ?_, trivial⟩ ?_
        · intro vals xw f hf1 hf2 hf3 hI hF
          have k13 : f 13 = false := hf3 13 (by kernel_rfl)
          clear hf2 hf3
          dsimp only [owes4, bare]
          simp only [putsD, Act.put, List.setIfInBounds_toArray, List.set_cons_zero, List.set_cons_succ]
          have hv9 := (hI.1 k13).ks.var
          have y0 := (cell_of_block hv9 0).1
          have y1 := (cell_of_block hv9 1).1
          have y2 := (cell_of_block hv9 2).1
          go_wp2
          exact ⟨rfl, rfl, ⟨fun h9 => absurd h9 (Nat.ne_of_beq_eq_false rfl), fun _ => Below.refl _ _⟩, hI⟩
        · intro vals xw f hf1 hf2 hf3 hI hF
          clear hf2 hf3
          dsimp only [owes4, bare]
          simp only [putsD, Act.put, List.setIfInBounds_toArray, List.set_cons_zero, List.set_cons_succ]
          go_wp2
          exact ⟨rfl, rfl, ⟨fun h9 => absurd h9 (Nat.ne_of_beq_eq_false rfl), fun _ => Below.refl _ _⟩, hI⟩
        · intro vals xw f hf1 hf2 hf3 hI hF
          clear hf2 hf3
          dsimp only [owes4, bare]
          simp only [putsD, Act.put, List.setIfInBounds_toArray, List.set_cons_zero, List.set_cons_succ]
          go_wp2
          exact ⟨rfl, rfl, ⟨fun h9 => absurd h9 (Nat.ne_of_beq_eq_false rfl), fun _ => Below.refl _ _⟩, hI⟩
        · intro vals xw f hf1 hf2 hf3 hI hF
          clear hf2 hf3
          simp only [saysD, List.getD_cons_zero, List.getD_cons_succ, and_true] at hF
          obtain ⟨e45, e46⟩ := hF
          dsimp only [owes4, bare]
          simp only [putsD, Act.put, List.setIfInBounds_toArray, List.set_cons_zero, List.set_cons_succ]
          simp only [e45, e46]
          go_wp2
          exact ⟨rfl, rfl, ⟨fun h9 => absurd h9 (Nat.ne_of_beq_eq_false rfl), fun _ => Below.refl _ _⟩, hI⟩
        · intro vals xw f hf1 hf2 hf3 hI hF
          clear hf2 hf3
          simp only [saysD, List.getD_cons_zero, List.getD_cons_succ, and_true] at hF
          have e47 := hF
          dsimp only [owes4, bare]
          simp only [putsD, Act.put, List.setIfInBounds_toArray, List.set_cons_zero, List.set_cons_succ]
          simp only [e47]
          have c9 := HRX.out _ hI.2.2
          go_wp2
          exact ⟨rfl, rfl, ⟨fun h9 => absurd h9 (Nat.ne_of_beq_eq_false rfl), fun _ => Below.refl _ _⟩, hI⟩
        · intro vals xw f hf1 hf2 hf3 hI hF
          clear hf2 hf3
          dsimp only [owes4, bare]
          simp only [putsD, Act.put, List.setIfInBounds_toArray, List.set_cons_zero, List.set_cons_succ]
          go_wp2
          exact ⟨rfl, rfl, ⟨fun h9 => absurd h9 (Nat.ne_of_beq_eq_false rfl), fun _ => Below.refl _ _⟩, hI⟩
        · intro vals xw f hf1 hf2 hf3 hI hF
          clear hf2 hf3
          dsimp only [owes4, bare]
          simp only [putsD, Act.put, List.setIfInBounds_toArray, List.set_cons_zero, List.set_cons_succ]
          go_wp2
          exact ⟨rfl, rfl, ⟨fun h9 => absurd h9 (Nat.ne_of_beq_eq_false rfl), fun _ => Below.refl _ _⟩, hI⟩
        · intro vals xw f hf1 hf2 hf3 hI hF
          clear hf2 hf3
          simp only [saysD, List.getD_cons_zero, List.getD_cons_succ, and_true] at hF
          obtain ⟨e49, e50⟩ := hF
          dsimp only [owes4, bare]
          simp only [putsD, Act.put, List.setIfInBounds_toArray, List.set_cons_zero, List.set_cons_succ]
          simp only [e49, e50]
          go_wp2
          exact ⟨rfl, rfl, ⟨fun h9 => absurd h9 (Nat.ne_of_beq_eq_false rfl), fun _ => Below.refl _ _⟩, hI⟩
        · intro vals xw f hf1 hf2 hf3 hI hF
          clear hf2 hf3
          simp only [saysD, List.getD_cons_zero, List.getD_cons_succ, and_true] at hF
          have e51 := hF
          dsimp only [owes4, bare]
          simp only [putsD, Act.put, List.setIfInBounds_toArray, List.set_cons_zero, List.set_cons_succ]
          simp only [e51]
          have c9 := HRY.out _ hI.2.2
          go_wp2
          exact ⟨rfl, rfl, ⟨fun h9 => absurd h9 (Nat.ne_of_beq_eq_false rfl), fun _ => Below.refl _ _⟩, hI⟩
        · intro vals xw f hf1 hf2 hf3 hI hF
          have k13 : f 13 = false := hf3 13 (by kernel_rfl)
          clear hf2 hf3
          simp only [saysD, List.getD_cons_zero, List.getD_cons_succ, and_true] at hF
          obtain ⟨e44, e48, e52⟩ := hF
          dsimp only [owes4, bare]
          simp only [putsD, Act.put, List.setIfInBounds_toArray, List.set_cons_zero, List.set_cons_succ]
          simp only [e44, e48, e52]
          have HI := Lib.hid hI
          have HK := Lib.hid (hI.1 k13)
          have hsz9 := hI.2.2.size
          clear hI
          have HC := Lib.hid (l7And_any (G2 F w xw (fun b => (Value.slice B l.length d).ownBlock = some b)) A3 c3 u.1 x y xw HK.out.ks.row (KS2.lt HK.out.ks.bel HF.out) HK.out.ks.nil HUB.out.1 HXYM.out.1 HXYM.out.2)
          rw [← HP.out] at HC
          go_wp2_with fail
          refine HC.out.mono ?_
          rintro e wx ⟨A9, c9, rfl, h2, h3, h4⟩
          have H3 := Lib.hid h3
          have H4 := Lib.hid h4
          clear h3 h4 HC
          go_wp2
          refine ⟨rfl, ⟨A9, c9, rfl, h2, H3.out.mono ?_, Nat.le_trans hsz9 H4.out.size⟩, ⟨fun h9 => absurd h9 (Nat.ne_of_beq_eq_false rfl), fun _ => H4.out⟩, (fun h => (HI.out.1 h).up HF.out H4.out), (fun h => absurd (k13.symm.trans h) (by simp)), bthen HI.out.2.2 H4.out⟩
          intro b hb
          rcases hb with (h9 | h9) | h9
          · exact .inl h9
          · exact .inr ⟨h9.1, Nat.lt_of_lt_of_le h9.2.1 H4.out.size, h9.2.2⟩
          · exact .inr ⟨by have := lt_of_block HK.out.ks.res; omega, h9.2, fun e => by have := (HK.out.own.lt b e).2; omega⟩
        · intro vals xw f hf1 hf2 hf3 hI hF
          clear hf2 hf3
          simp only [saysD, List.getD_cons_zero, List.getD_cons_succ, and_true] at hF
          obtain ⟨A9, c9, e53, h2, h3, h4⟩ := hF
          dsimp only [owes4, bare]
          simp only [putsD, Act.put, List.setIfInBounds_toArray, List.set_cons_zero, List.set_cons_succ]
          simp only [e53]
          go_wp2
          exact ⟨rfl, ⟨A9, c9, rfl, h2, h3, h4⟩, ⟨fun h9 => absurd h9 (Nat.ne_of_beq_eq_false rfl), fun _ => Below.refl _ _⟩, hI⟩
        · intro vals xw f hf1 hf2 hf3 hI hF
          clear hf2 hf3
          simp only [saysD, List.getD_cons_zero, List.getD_cons_succ, and_true] at hF
          obtain ⟨A9, c9, e43, h2, h3, h4⟩ := hF
          dsimp only [owes4, bare]
          simp only [putsD, Act.put, List.setIfInBounds_toArray, List.set_cons_zero, List.set_cons_succ]
          simp only [e43]
          go_wp2
          exact ⟨rfl, ⟨A9, c9, rfl, h2, h3, h4⟩, ⟨fun h9 => absurd h9 (Nat.ne_of_beq_eq_false rfl), fun _ => Below.refl _ _⟩, hI⟩
        · intro vals xw f hf1 hf2 hf3 hI hF
          clear hf2 hf3
          simp only [saysD, List.getD_cons_zero, List.getD_cons_succ, and_true] at hF
          obtain ⟨A9, c9, e43, h2, h3, h4⟩ := hF
          dsimp only [owes4, bare]
          simp only [putsD, Act.put, List.setIfInBounds_toArray, List.set_cons_zero, List.set_cons_succ]
          simp only [e43]
          go_wp2
          exact ⟨rfl, rfl, ⟨fun h9 => absurd h9 (Nat.ne_of_beq_eq_false rfl), fun _ => Below.refl _ _⟩, hI⟩
        · intro vals xw f hf1 hf2 hf3 hI hF
          clear hf2 hf3
          simp only [saysD, List.getD_cons_zero, List.getD_cons_succ, and_true] at hF
          obtain ⟨A9, c9, e54, h2, h3, h4⟩ := hF
          dsimp only [owes4, bare]
          simp only [putsD, Act.put, List.setIfInBounds_toArray, List.set_cons_zero, List.set_cons_succ]
          simp only [e54]
          have HI := Lib.hid hI
          have HK := Lib.hid (hI.1 hf1)
          have hv9 := HK.out.ks.var
          have y0 := (cell_of_block hv9 0).1
          have y1 := (cell_of_block hv9 1).1
          have y2 := (cell_of_block hv9 2).1
          have g0 := (cell_of_block hv9 0).2
          have g1 := (cell_of_block hv9 1).2
          have g2 := (cell_of_block hv9 2).2
          have H3 := Lib.hid h3
          clear hI hv9 h3 h4
          go_wp2
          have hset := HK.out.set (c' := c9) HF.out H3.out h2
          have hgr : xw.grownBy (st3 xw w.heap.size (.int .i64 p.1.1.ins) (.slice A9 p.1.1.gs.length c9) (.bool p.1.2)) (some w.heap.size) := only_setCell (only_setCell (only_setCell (World.grownBy.refl _ _) _ _) _ _) _ _
          exact ⟨rfl, trivial, ⟨fun _ => hgr, fun h9 => absurd rfl h9⟩, fun h => absurd ((did_same f 13).symm.trans h) (by simp), fun _ => ⟨A9, c9, hset⟩, st3_below HI.out.2.2 (Nat.le_refl _) _ _ _⟩
        · intro vals xw f hf1 hf2 hf3 hI hF
          clear hf2 hf3
          simp only [saysD, List.getD_cons_zero, List.getD_cons_succ, and_true] at hF
          have e55 := hF
          dsimp only [owes4, bare]
          simp only [putsD, Act.put, List.setIfInBounds_toArray, List.set_cons_zero, List.set_cons_succ]
          simp only [e55]
          go_wp2
          exact ⟨rfl, rfl, ⟨fun h9 => absurd h9 (Nat.ne_of_beq_eq_false rfl), fun _ => Below.refl _ _⟩, hI⟩
        · intro vals xw f hall hI hF
          rw [show List.range _ = [0, 1, 2, 3, 4, 5, 6, 7, 8, 9, 10, 11, 12, 13, 14] from rfl] at hF
          simp only [says, List.getD_cons_zero, List.getD_cons_succ, and_true] at hF
          obtain ⟨A4, c4, hk2⟩ := hI.2.1 (hall 13 (by decide))
          have e9 : vals 14 = .int .i64 p.2 := by obtain ⟨_, _, _, _, _, _, _, _, _, _, _, _, _, _, e9⟩ := hF; exact e9
          have K4 := Lib.hid hk2
          clear hF hk2 hI
          simp only [putsD, Act.put, List.setIfInBounds_toArray, List.set_cons_zero, List.set_cons_succ]
          simp only [e9]
          clear e9
          have hv9 := K4.out.ks.var
          have y0 := (cell_of_block hv9 0).1
          have y1 := (cell_of_block hv9 1).1
          have y2 := (cell_of_block hv9 2).1
          clear hv9
          have HC := Lib.hid (l7And_any _ A4 c4 p.1 m.2 cc _ K4.out.ks.row (KS2.lt K4.out.ks.bel HF.out) K4.out.ks.nil HPB.out.1 HMB.out.2 HCC.out)
          rw [← HQ.out] at HC
          go_wp2_with fail
          refine HC.out.mono ?_
          rintro e z5 ⟨A5, c5, rfl, hn9, hs9, hb9⟩
          have hv9 := (hb9.block _ (lt_of_block K4.out.ks.var)).trans K4.out.ks.var
          clear y0 y1 y2 HC
          have y0 := (cell_of_block hv9 0).1
          have y1 := (cell_of_block hv9 1).1
          have y2 := (cell_of_block hv9 2).1
          have g0 := (cell_of_block hv9 0).2
          have g1 := (cell_of_block hv9 1).2
          have g2 := (cell_of_block hv9 2).2
          have K9 := K4.out.call (c' := c5) HF.out hs9 hb9 hn9
          dsimp only [st3] at K9
          have K5 := Lib.hid K9
          clear K9 hs9 hb9 hn9 hv9 K4
          have hv9 := K5.out.ks.var
          have y0 := (cell_of_block hv9 0).1
          have y1 := (cell_of_block hv9 1).1
          have y2 := (cell_of_block hv9 2).1
          clear hv9
          have HC := Lib.hid (l7Or_any _ A5 c5 q.1 p.2 q.2 _ K5.out.ks.row (KS2.lt K5.out.ks.bel HF.out) K5.out.ks.nil HQB.out.1 HPB.out.2 HQB.out.2)
          rw [← HG.out] at HC
          go_wp2_with fail
          refine HC.out.mono ?_
          generalize hX5 : ((z5.setCell ⟨w.heap.size, 0, none⟩ (.int .i64 q.1.1.ins)).setCell ⟨w.heap.size, 1, none⟩ (.slice A5 q.1.1.gs.length c5)).setCell ⟨w.heap.size, 2, none⟩ (.bool q.1.2) = X5 at *
          clear hX5
          rintro e z6 ⟨A6, c6, rfl, hn9, hs9, hb9⟩
          have hv9 := (hb9.block _ (lt_of_block K5.out.ks.var)).trans K5.out.ks.var
          clear y0 y1 y2 HC g0 g1 g2
          have y0 := (cell_of_block hv9 0).1
          have y1 := (cell_of_block hv9 1).1
          have y2 := (cell_of_block hv9 2).1
          have g0 := (cell_of_block hv9 0).2
          have g1 := (cell_of_block hv9 1).2
          have g2 := (cell_of_block hv9 2).2
          have K9 := K5.out.call (c' := c6) HF.out hs9 hb9 hn9
          dsimp only [st3] at K9
          have K6 := Lib.hid K9
          clear K9 hs9 hb9 hn9 hv9 K5
          have hown9 := K6.out.own
          have hsz9 : w.heap.size + 2 ≤ (((z6.setCell ⟨w.heap.size, 0, none⟩ (.int .i64 g.1.1.ins)).setCell ⟨w.heap.size, 1, none⟩ (.slice A6 g.1.1.gs.length c6)).setCell ⟨w.heap.size, 2, none⟩ (.bool g.1.2)).heap.size := by have := lt_of_block K6.out.ks.res; omega
          have K6 := Lib.hid K6.out
          go_wp2_with (at_builtin; refine wpList_append_int7 (ys := l2) (by rfl) (.tmp 70) (.tmp 72) (by rfl) (by rfl) (by rfl) (by simp [World.setCell]) hown9 (by omega) hsz9 HL2.out ?_; intro B2 d2 w2 hown2 hg2 hbk2)
          have hk3 := K6.out.ks.grown (v' := .slice B2 l2.length d2) HF.out hg2 (fun g hg => (K6.out.own.lt g hg).1) hbk2
          go_roundw
          case rel => exact ⟨j + 1, g.1, l2, A6, B2, c6, d2, g.2, by omega, by go_num, rfl, rfl, HGB.out.2, by rw [HL2.out, List.length_append, HLJ.out]; rfl, fun z hz => by
              rw [HL2.out] at hz
              rcases List.mem_append.1 hz with hz | hz
              · exact HLM.out z hz
              · rw [List.mem_singleton.1 hz]; exact HUB.out.2, ⟨hk3, hown2⟩, HGB.out.1, Lib.hid (by rw [HL2.out]; exact HST.out)⟩
          case measure => simp [intOf]; omega
    · have hje : j = xs.length := by omega
      subst hje
      have hlt2 : ¬ ((xs.length : Nat) : Int) < xs.length := by omega
      have hv9 := HKS.out.ks.var
      have y0 := (cell_of_block hv9 0).1
      have y1 := (cell_of_block hv9 1).1
      have y2 := (cell_of_block hv9 2).1
      have hr9 := HKS.out.ks.res
      have r0 := (cell_of_block hr9 0).1
      have r1 := (cell_of_block hr9 1).1
      have r2 := (cell_of_block hr9 2).1
      have rf0 := (cell_of_block hr9 0).2
      have rf1 := (cell_of_block hr9 1).2
      have rf2 := (cell_of_block hr9 2).2
      clear hv9 hr9
      go_wp2
      have hs := st3_same HKS.out.ks.res (.int .i64 k1.1.ins) (.slice A1 k1.1.gs.length c1) (.bool k1.2)
      have k5 := (cell_of_block hs 0).1
      have k6 := (cell_of_block hs 1).1
      have k7 := (cell_of_block hs 2).1
      have kf5 := (cell_of_block hs 0).2
      have kf6 := (cell_of_block hs 1).2
      have kf7 := (cell_of_block hs 2).2
      refine bodyPost_ret (v := .tuple #[.agg #[.int .i64 k1.1.ins, .slice A1 k1.1.gs.length c1, .bool k1.2], .slice B l.length d]) (by simp [results, Tryd.results97, go_sem, k5, k6, k7, kf5, kf6, kf7]) rfl ?_
      have hd1 : xs.drop xs.length = [] := List.drop_length
      have hd2 : ys.drop xs.length = [] := by rw [HL.out]; exact List.drop_length
      have hst2 := hst.out
      rw [hd1, hd2] at hst2
      have hT2 : T = (k1, l) := by rw [← hst2]; show (k1, l ++ []) = _; rw [List.append_nil]
      rw [hT2]
      obtain ⟨B', d', e9, hcap, hsl⟩ := HKS.out.own.form
      injection e9 with e1 e2 e3
      subst e1 e3
      refine ⟨A1, c1, B, d, rfl, HKS.out.ks.nil, (st3_sl (h := w.heap.size + 1) HKS.out.ks.row (fun b hb => ?_) _ _ _).mono (fun b hb => ?_), hcap, (st3_sl (h := w.heap.size + 1) hsl (fun b hb => by omega) _ _ _).mono (fun b hb => by rw [st3_size]; omega), HLM.out, st3_below HKS.out.ks.bel (by omega) _ _ _⟩
      · rcases hb with hb | hb
        · have := HF.out b hb; omega
        · omega
      · rw [st3_size]
        exact hb.imp id fun h9 => ⟨by omega, h9.2.1⟩
end Go.Proofs.YtjghcaghigebjaaDoor

/-! The program's sums; its operations on one list. -/
namespace Go.Proofs.YtjghcaghigebjaaDoor
open Go Go.RowKit

/-- What is so while a sum's gates are made. -/
def SumI (a0 a1 : Addr) (lo : Nat) (W : World) (q r : Nat) (s s' : BS) (A : Option Addr) (c : Nat) (l : List Int) (called : Bool) (x : World) : Prop := BelB lo W x ∧ Bd a0 a1 lo x q r (if called = true then s' else s) ∧ OwnSg x W.heap.size (.slice A l.length c) l
theorem SumI.up {a0 a1 : Addr} {lo : Nat} {W : World} {q r : Nat} {s s' : BS} {A : Option Addr} {c : Nat} {l : List Int} {called : Bool} {x x' : World} (h : SumI a0 a1 lo W q r s s' A c l called x) (hb : Below x.heap.size x x') : SumI a0 a1 lo W q r s s' A c l called x' := ⟨h.1.trans (.of hb h.2.1.size), h.2.1.up hb, own_below h.2.2 hb (Nat.le_refl _)⟩
theorem or_mb {x y : Int} {s : BS} (h : NB s.n) (hx : RB x) (hy : RB y) : NB (run opsP (orP x y) s).1.n ∧ MB (run opsP (orP x y) s).2 := by
  have h3 := opsP_and_mb (x := -x) (y := -y) h hx.neg hy.neg
  exact ⟨h3.1, h3.2.neg⟩
set_option maxRecDepth 100000 in
set_option maxHeartbeats 8000000 in
theorem bSum_any (a0 a1 : Addr) (lo q r : Nat) (c0 : Int) (X Y : Option Addr) (cx cy : Nat) (xs ys : List Int) (s : BS) (w : World) (h : Bd a0 a1 lo w q r s) (hc : MB c0) (hX : Lay.int.Pl w X xs) (hY : Lay.int.Pl w Y ys) (hxm : ∀ x ∈ xs, MB x) (hym : ∀ y ∈ ys, MB y) (hl : xs.length = ys.length) (hn : xs.length ≤ 1000) :
    Calls Tryd.prog 100 #[.pointer (some ⟨q, 0, none⟩), .slice X xs.length cx, .slice Y ys.length cy, .int .i64 c0] w (RetL a0 a1 lo w q r (run opsP (sumP xs ys c0) s)) := by
  obtain ⟨T, hT⟩ : ∃ T, T = run opsP (sumP xs ys c0) s := ⟨_, rfl⟩
  rw [← hT]
  have HT := Lib.hid hT
  have HB := Lib.hid h
  have HX := Lib.hid hX
  have HY := Lib.hid hY
  have HXM := Lib.hid hxm
  have HYM := Lib.hid hym
  have HL := Lib.hid hl
  have HC0 := Lib.hid hc
  have hlo := h.size
  clear hT h hX hY hxm hym hc
  rw [← hl]
  clear hl
  go_enter Tryd.func100, Tryd.ntmps100
  go_wp2
  go_loopw [9, 16, 3] (fun out i cv wr => ∃ (k : Nat) (s1 : BS) (l : List Int) (A : Option Addr) (c : Nat) (cc : Int), k ≤ xs.length ∧ i = .int .i64 k ∧ out = .slice A l.length c ∧ cv = .int .i64 cc ∧ MB cc ∧ l.length = k ∧ (∀ m ∈ l, MB m) ∧ SumI a0 a1 lo w q r s1 s1 A c l false wr ∧ Hid ((let z := run opsP (sumP (xs.drop k) (ys.drop k) cc) s1; (z.1, l ++ z.2)) = T)) (fun _ i _ _ => xs.length - (intOf i).toNat)
  case atStart => exact ⟨0, s, [], none, 0, c0, Nat.zero_le _, rfl, rfl, rfl, HC0.out, rfl, (fun _ h => by cases h), ⟨.refl _ _, HB.out, OwnSg.nil _ _⟩, Lib.hid (by rw [HT.out]; rfl)⟩
  case round =>
    obtain ⟨k, s1, l, A, c, cc, hk, rfl, rfl, rfl, hcc, hlk, hlm, hsi, hst⟩ := hrel
    have HCC := Lib.hid hcc
    have HLM := Lib.hid hlm
    have HSI := Lib.hid hsi
    have HLK := Lib.hid hlk
    clear hlm hsi hlk hcc
    by_cases hlt : k < xs.length
    · have hlt2 : (k : Int) < xs.length := by omega
      have hlty : k < ys.length := by rw [← HL.out]; exact hlt
      obtain ⟨x, hx⟩ : ∃ x, xs[k]? = some x := ⟨_, List.getElem?_eq_getElem hlt⟩
      obtain ⟨y, hy⟩ : ∃ y, ys[k]? = some y := ⟨_, List.getElem?_eq_getElem hlty⟩
      have hxg : xs[k] = x := (List.getElem?_eq_some_iff.1 hx).2
      have hyg : ys[k] = y := (List.getElem?_eq_some_iff.1 hy).2
      have HXYM := Lib.hid (And.intro (HXM.out x (List.mem_of_getElem? hx)) (HYM.out y (List.mem_of_getElem? hy)))
      obtain ⟨adx, rfl, -, -⟩ := HX.out.at_int hlt
      obtain ⟨ady, rfl, -, -⟩ := HY.out.at_int hlty
      have HST := Lib.hid ((run_sum (o := opsP) xs ys k x y hx hy s1 cc l).symm.trans hst.out)
      have HRX : Hid (∀ z, BelB lo w z → z.cell? (adx.add k) = some (.int .i64 x)) := Lib.hid fun z hz => by
        obtain ⟨ad, e, _, hc⟩ := (HX.out.upB hz).at_int hlt
        injection e with e; subst e; rw [← hxg]; exact hc
      have HRY : Hid (∀ z, BelB lo w z → z.cell? (ady.add k) = some (.int .i64 y)) := Lib.hid fun z hz => by
        obtain ⟨ad, e, _, hc⟩ := (HY.out.upB hz).at_int hlty
        injection e with e; subst e; rw [← hyg]; exact hc
      have hll : l.length ≤ 1000 := by have := HLK.out; omega
      clear hx hy hxg hyg hst hlty
      obtain ⟨m, h9⟩ : ∃ m, m = opsP.xor s1 x y := ⟨_, rfl⟩
      have HM := Lib.hid h9
      have HMB : Hid (NB m.1.n ∧ MB m.2) := Lib.hid (by rw [h9]; exact opsP_xor_mb HSI.out.2.1.nb HXYM.out.1.rb HXYM.out.2.rb)
      clear h9
      obtain ⟨u, h9⟩ : ∃ u, u = opsP.xor m.1 m.2 cc := ⟨_, rfl⟩
      have HU := Lib.hid h9
      have HUB : Hid (NB u.1.n ∧ MB u.2) := Lib.hid (by rw [h9]; exact opsP_xor_mb HMB.out.1 HMB.out.2.rb HCC.out.rb)
      clear h9
      obtain ⟨p, h9⟩ : ∃ p, p = opsP.and u.1 x y := ⟨_, rfl⟩
      have HP := Lib.hid h9
      have HPB : Hid (NB p.1.n ∧ MB p.2) := Lib.hid (by rw [h9]; exact opsP_and_mb HUB.out.1 HXYM.out.1.rb HXYM.out.2.rb)
      clear h9
      obtain ⟨v, h9⟩ : ∃ v, v = opsP.and p.1 m.2 cc := ⟨_, rfl⟩
      have HV := Lib.hid h9
      have HVB : Hid (NB v.1.n ∧ MB v.2) := Lib.hid (by rw [h9]; exact opsP_and_mb HPB.out.1 HMB.out.2.rb HCC.out.rb)
      clear h9
      obtain ⟨g, h9⟩ : ∃ g, g = run opsP (orP p.2 v.2) v.1 := ⟨_, rfl⟩
      have HG := Lib.hid h9
      have HGB : Hid (NB g.1.n ∧ MB g.2) := Lib.hid (by rw [h9]; exact or_mb HVB.out.1 HPB.out.2.rb HVB.out.2.rb)
      clear h9
      have HST : Hid ((let z := run opsP (sumP (xs.drop (k + 1)) (ys.drop (k + 1)) g.2) g.1; (z.1, (l ++ [u.2]) ++ z.2)) = T) := Lib.hid (by rw [HG.out, HV.out, HP.out, HU.out, HM.out]; exact HST.out)
      obtain ⟨l2, hl2⟩ : ∃ l2, l2 = l ++ [u.2] := ⟨_, rfl⟩
      have HL2 := Lib.hid hl2
      clear hl2
      go_wp2
      have HSZ : Hid (∀ z, BelB lo w z → w.heap.size ≤ z.heap.size) := Lib.hid fun z hz => hz.bel.size
      refine wp_region_rel4 [[], [], [], [(1, 20), (2, 21)], [(3, 22)], [], [], [(5, 24), (6, 25)], [(7, 26)], [(0, 19), (4, 23), (8, 27)], [(9, 28)]]
        (fun x9 y9 => Below x9.heap.size x9 y9)
        [(9, fun x9 y9 => BelB lo x9 y9)]
        (fun f9 x9 => SumI a0 a1 lo w q r s1 m.1 A c l (f9 9) x9)
        [fun vs9 _ => vs9 0 = (.pointer (some ⟨q, 0, none⟩)),
          fun vs9 _ => vs9 1 = (.slice (some adx) xs.length cx),
          fun vs9 _ => vs9 2 = (.int .i64 (k : Int)),
          fun vs9 _ => vs9 3 = (.pointer (some (adx.add k))),
          fun vs9 _ => vs9 4 = (.int .i64 x),
          fun vs9 _ => vs9 5 = (.slice (some ady) xs.length cy),
          fun vs9 _ => vs9 6 = (.int .i64 (k : Int)),
          fun vs9 _ => vs9 7 = (.pointer (some (ady.add k))),
          fun vs9 _ => vs9 8 = (.int .i64 y),
          fun vs9 _ => vs9 9 = (.int .i64 m.2),
          fun vs9 _ => vs9 10 = (.int .i64 m.2)]
        [(0, 19), (1, 20), (2, 21), (3, 22), (4, 23), (5, 24), (6, 25), (7, 26), (8, 27), (9, 28), (10, 11)] (by kernel_rfl) (by kernel_rfl) (by kernel_rfl) (by kernel_rfl)
        (fun _ => Below.refl _ _) ⟨fun _ => BelB.refl _ _, trivial⟩
        ⟨⟨.inr (fun _ _ _ h _ => h), ⟨.inr (.inr (fun _ _ _ h _ => h)), trivial⟩⟩,
          ⟨.inr (fun _ _ _ h _ => h), ⟨.inr (.inr (fun _ _ _ h _ => h)), trivial⟩⟩,
          ⟨.inr (fun _ _ _ h _ => h), ⟨.inr (.inr (fun _ _ _ h _ => h)), trivial⟩⟩,
          ⟨.inr (fun _ _ _ h _ => h), ⟨.inr (.inr (fun _ _ _ h _ => h)), trivial⟩⟩,
          ⟨.inr (fun _ _ _ h _ => h), ⟨.inr (.inr (fun _ _ _ h _ => h)), trivial⟩⟩,
          ⟨.inr (fun _ _ _ h _ => h), ⟨.inr (.inr (fun _ _ _ h _ => h)), trivial⟩⟩,
          ⟨.inr (fun _ _ _ h _ => h), ⟨.inr (.inr (fun _ _ _ h _ => h)), trivial⟩⟩,
          ⟨.inr (fun _ _ _ h _ => h), ⟨.inr (.inr (fun _ _ _ h _ => h)), trivial⟩⟩,
          ⟨.inr (fun _ _ _ h _ => h), ⟨.inr (.inr (fun _ _ _ h _ => h)), trivial⟩⟩,
          ⟨.inr (fun _ _ _ h _ => h), ⟨.inr (.inl rfl), trivial⟩⟩,
          ⟨.inr (fun _ _ _ h _ => h), ⟨.inr (.inr (fun _ _ _ h _ => h)), trivial⟩⟩, trivial⟩ ⟨fun vs vs' x h _ hv => (by dsimp only at hv ⊢; first | (rw [← h]; exact hv) | exact hv),
          fun vs vs' x h _ hv => (by dsimp only at hv ⊢; first | (rw [← h]; exact hv) | exact hv),
          fun vs vs' x h _ hv => (by dsimp only at hv ⊢; first | (rw [← h]; exact hv) | exact hv),
          fun vs vs' x h _ hv => (by dsimp only at hv ⊢; first | (rw [← h]; exact hv) | exact hv),
          fun vs vs' x h _ hv => (by dsimp only at hv ⊢; first | (rw [← h]; exact hv) | exact hv),
          fun vs vs' x h _ hv => (by dsimp only at hv ⊢; first | (rw [← h]; exact hv) | exact hv),
          fun vs vs' x h _ hv => (by dsimp only at hv ⊢; first | (rw [← h]; exact hv) | exact hv),
          fun vs vs' x h _ hv => (by dsimp only at hv ⊢; first | (rw [← h]; exact hv) | exact hv),
          fun vs vs' x h _ hv => (by dsimp only at hv ⊢; first | (rw [← h]; exact hv) | exact hv),
          fun vs vs' x h _ hv => (by dsimp only at hv ⊢; first | (rw [← h]; exact hv) | exact hv),
          fun vs vs' x h _ hv => (by dsimp only at hv ⊢; first | (rw [← h]; exact hv) | exact hv), trivial⟩ ((show SumI a0 a1 lo w q r s1 m.1 A c l false _ from ⟨HSI.out.1.trans (.of (below_drewN (Below.refl _ _) 1) HSI.out.2.1.size), by rw [if_neg (by simp)]; exact HSI.out.2.1.up (below_drewN (Below.refl _ _) 1), own_below HSI.out.2.2 (below_drewN (Below.refl _ _) 1) (Nat.le_refl _)⟩)) ⟨?_, ?_, ?_, ?_, ?_, ?_, ?_, ?_, ?_, ?_, ?_, trivial⟩ ?_
      · intro vals xw f hf1 hf2 hf3 hI hF
        clear hf2 hf3
        dsimp only [owes4, bare]
        simp only [putsD, Act.put, List.setIfInBounds_toArray, List.set_cons_zero, List.set_cons_succ]
        go_wp2
        exact ⟨rfl, rfl, ⟨fun h9 => absurd h9 (Nat.ne_of_beq_eq_false rfl), fun _ => Below.refl _ _⟩, hI⟩
      · intro vals xw f hf1 hf2 hf3 hI hF
        clear hf2 hf3
        dsimp only [owes4, bare]
        simp only [putsD, Act.put, List.setIfInBounds_toArray, List.set_cons_zero, List.set_cons_succ]
        go_wp2
        exact ⟨rfl, rfl, ⟨fun h9 => absurd h9 (Nat.ne_of_beq_eq_false rfl), fun _ => Below.refl _ _⟩, hI⟩
      · intro vals xw f hf1 hf2 hf3 hI hF
        clear hf2 hf3
        dsimp only [owes4, bare]
        simp only [putsD, Act.put, List.setIfInBounds_toArray, List.set_cons_zero, List.set_cons_succ]
        go_wp2
        exact ⟨rfl, rfl, ⟨fun h9 => absurd h9 (Nat.ne_of_beq_eq_false rfl), fun _ => Below.refl _ _⟩, hI⟩
      · intro vals xw f hf1 hf2 hf3 hI hF
        clear hf2 hf3
        simp only [saysD, List.getD_cons_zero, List.getD_cons_succ, and_true] at hF
        obtain ⟨e1, e2⟩ := hF
        dsimp only [owes4, bare]
        simp only [putsD, Act.put, List.setIfInBounds_toArray, List.set_cons_zero, List.set_cons_succ]
        simp only [e1, e2]
        go_wp2
        exact ⟨rfl, rfl, ⟨fun h9 => absurd h9 (Nat.ne_of_beq_eq_false rfl), fun _ => Below.refl _ _⟩, hI⟩
      · intro vals xw f hf1 hf2 hf3 hI hF
        clear hf2 hf3
        simp only [saysD, List.getD_cons_zero, List.getD_cons_succ, and_true] at hF
        have e1 := hF
        dsimp only [owes4, bare]
        simp only [putsD, Act.put, List.setIfInBounds_toArray, List.set_cons_zero, List.set_cons_succ]
        simp only [e1]
        have c9 := HRX.out _ hI.1
        go_wp2
        exact ⟨rfl, rfl, ⟨fun h9 => absurd h9 (Nat.ne_of_beq_eq_false rfl), fun _ => Below.refl _ _⟩, hI⟩
      · intro vals xw f hf1 hf2 hf3 hI hF
        clear hf2 hf3
        dsimp only [owes4, bare]
        simp only [putsD, Act.put, List.setIfInBounds_toArray, List.set_cons_zero, List.set_cons_succ]
        go_wp2
        exact ⟨rfl, rfl, ⟨fun h9 => absurd h9 (Nat.ne_of_beq_eq_false rfl), fun _ => Below.refl _ _⟩, hI⟩
      · intro vals xw f hf1 hf2 hf3 hI hF
        clear hf2 hf3
        dsimp only [owes4, bare]
        simp only [putsD, Act.put, List.setIfInBounds_toArray, List.set_cons_zero, List.set_cons_succ]
        go_wp2
        exact ⟨rfl, rfl, ⟨fun h9 => absurd h9 (Nat.ne_of_beq_eq_false rfl), fun _ => Below.refl _ _⟩, hI⟩
      · intro vals xw f hf1 hf2 hf3 hI hF
        clear hf2 hf3
        simp only [saysD, List.getD_cons_zero, List.getD_cons_succ, and_true] at hF
        obtain ⟨e1, e2⟩ := hF
        dsimp only [owes4, bare]
        simp only [putsD, Act.put, List.setIfInBounds_toArray, List.set_cons_zero, List.set_cons_succ]
        simp only [e1, e2]
        go_wp2
        exact ⟨rfl, rfl, ⟨fun h9 => absurd h9 (Nat.ne_of_beq_eq_false rfl), fun _ => Below.refl _ _⟩, hI⟩
      · intro vals xw f hf1 hf2 hf3 hI hF
        clear hf2 hf3
        simp only [saysD, List.getD_cons_zero, List.getD_cons_succ, and_true] at hF
        have e1 := hF
        dsimp only [owes4, bare]
        simp only [putsD, Act.put, List.setIfInBounds_toArray, List.set_cons_zero, List.set_cons_succ]
        simp only [e1]
        have c9 := HRY.out _ hI.1
        go_wp2
        exact ⟨rfl, rfl, ⟨fun h9 => absurd h9 (Nat.ne_of_beq_eq_false rfl), fun _ => Below.refl _ _⟩, hI⟩
      · intro vals xw f hf1 hf2 hf3 hI hF
        clear hf2 hf3
        simp only [saysD, List.getD_cons_zero, List.getD_cons_succ, and_true] at hF
        obtain ⟨e1, e2, e3⟩ := hF
        dsimp only [owes4, bare]
        simp only [putsD, Act.put, List.setIfInBounds_toArray, List.set_cons_zero, List.set_cons_succ]
        simp only [e1, e2, e3]
        obtain ⟨i1, i2, i3⟩ := hI
        rw [hf1, if_neg (by simp)] at i2
        have I1 := Lib.hid i1
        have I3 := Lib.hid i3
        have HC := Lib.hid (bXor_any a0 a1 lo q r s1 x y xw i2 HXYM.out.1 HXYM.out.2)
        rw [← HM.out] at HC
        clear i1 i2 i3
        go_wp2_with fail
        refine HC.out.mono ?_
        rintro e wx ⟨rfl, hb9, hd9⟩
        have HB9 := Lib.hid hb9
        have HD9 := Lib.hid hd9
        clear hb9 hd9 HC
        go_wp2
        exact ⟨rfl, rfl, ⟨fun _ => HB9.out, fun h9 => absurd rfl h9⟩, I1.out.trans HB9.out, by rw [did_same, if_pos rfl]; exact HD9.out, I3.out.upB HB9.out⟩
      · intro vals xw f hf1 hf2 hf3 hI hF
        clear hf2 hf3
        simp only [saysD, List.getD_cons_zero, List.getD_cons_succ, and_true] at hF
        have e1 := hF
        dsimp only [owes4, bare]
        simp only [putsD, Act.put, List.setIfInBounds_toArray, List.set_cons_zero, List.set_cons_succ]
        simp only [e1]
        go_wp2
        exact ⟨rfl, rfl, ⟨fun h9 => absurd h9 (Nat.ne_of_beq_eq_false rfl), fun _ => Below.refl _ _⟩, hI⟩
      · intro vals xw f hall hI hF
        rw [show List.range _ = [0, 1, 2, 3, 4, 5, 6, 7, 8, 9, 10] from rfl] at hF
        simp only [says, List.getD_cons_zero, List.getD_cons_succ, and_true] at hF
        obtain ⟨i1, i2, i3⟩ := hI
        rw [hall 9 (by decide), if_pos rfl] at i2
        have e9 : vals 10 = .int .i64 m.2 := by obtain ⟨_, _, _, _, _, _, _, _, _, _, e9⟩ := hF; exact e9
        simp only [putsD, Act.put, List.setIfInBounds_toArray, List.set_cons_zero, List.set_cons_succ]
        simp only [e9]
        clear e9 hF
        have I1 := Lib.hid i1
        have I2 := Lib.hid i2
        have I3 := Lib.hid i3
        clear i1 i2 i3
        have HC := Lib.hid (bXor_any a0 a1 lo q r m.1 m.2 cc _ I2.out HMB.out.2 HCC.out)
        rw [← HU.out] at HC
        go_wp2_with fail
        refine HC.out.mono ?_
        rintro e z2 ⟨rfl, hb9, hd9⟩
        have B2 := Lib.hid (I1.out.trans hb9)
        have D2 := Lib.hid hd9
        have O2 := Lib.hid (I3.out.upB hb9)
        clear hb9 hd9 HC
        have hsz2 : w.heap.size ≤ z2.heap.size := HSZ.out _ B2.out
        have hal9 : Below z2.heap.size z2 (z2.alloc (.cells #[.int .i64 u.2] 83)) := (Below.refl _ _).alloc (Nat.le_refl _) _
        have HAL := Lib.hid hal9
        have hsz8 : w.heap.size ≤ (z2.alloc (.cells #[.int .i64 u.2] 83)).heap.size := Nat.le_trans hsz2 hal9.size
        have O2 : Hid (OwnSg (z2.alloc (.cells #[.int .i64 u.2] 83)) w.heap.size (.slice A l.length c) l) := Lib.hid (own_below O2.out hal9 (Nat.le_refl _))
        clear hal9
        go_wp2_with (at_builtin; refine wpList_append_sig2 (ys := l2) (by rfl) (.tmp 29) (.tmp 34) (by rfl) (by rfl) (by rfl) O2.out (heap_alloc_new _ _) (by omega) hsz8 HL2.out ?_; intro A2 c2 w3 hown3 hg3)
        have hal9 := HAL.out
        obtain ⟨hs9, hb8⟩ := O2.out.grown hg3 hsz8 hlo
        have B3 := Lib.hid ((B2.out.trans (.of hal9 D2.out.size)).then hb8 hlo)
        have D3 := Lib.hid ((D2.out.up hal9).upS hs9)
        have O3 := Lib.hid hown3
        clear hal9 hs9 hb8 hown3 hg3 HAL B2 D2 O2 hsz8
        go_wp2
        refine wp_region_rel4 [[], [], [], [(1, 37), (2, 38)], [(3, 39)], [], [], [(5, 41), (6, 42)], [(7, 43)], [(0, 36), (4, 40), (8, 44)], [(9, 45)]]
          (fun x9 y9 => Below x9.heap.size x9 y9)
          [(9, fun x9 y9 => BelB lo x9 y9)]
          (fun f9 x9 => SumI a0 a1 lo w q r u.1 p.1 A2 c2 l2 (f9 9) x9)
          [fun vs9 _ => vs9 0 = (.pointer (some ⟨q, 0, none⟩)),
          fun vs9 _ => vs9 1 = (.slice (some adx) xs.length cx),
          fun vs9 _ => vs9 2 = (.int .i64 (k : Int)),
          fun vs9 _ => vs9 3 = (.pointer (some (adx.add k))),
          fun vs9 _ => vs9 4 = (.int .i64 x),
          fun vs9 _ => vs9 5 = (.slice (some ady) xs.length cy),
          fun vs9 _ => vs9 6 = (.int .i64 (k : Int)),
          fun vs9 _ => vs9 7 = (.pointer (some (ady.add k))),
          fun vs9 _ => vs9 8 = (.int .i64 y),
          fun vs9 _ => vs9 9 = (.int .i64 p.2),
          fun vs9 _ => vs9 10 = (.int .i64 p.2)]
          [(0, 36), (1, 37), (2, 38), (3, 39), (4, 40), (5, 41), (6, 42), (7, 43), (8, 44), (9, 45), (10, 12)] (by kernel_rfl) (by kernel_rfl) (by kernel_rfl) (by kernel_rfl)
          (fun _ => Below.refl _ _) ⟨fun _ => BelB.refl _ _, trivial⟩
          ⟨⟨.inr (fun _ _ _ h _ => h), ⟨.inr (.inr (fun _ _ _ h _ => h)), trivial⟩⟩,
          ⟨.inr (fun _ _ _ h _ => h), ⟨.inr (.inr (fun _ _ _ h _ => h)), trivial⟩⟩,
          ⟨.inr (fun _ _ _ h _ => h), ⟨.inr (.inr (fun _ _ _ h _ => h)), trivial⟩⟩,
          ⟨.inr (fun _ _ _ h _ => h), ⟨.inr (.inr (fun _ _ _ h _ => h)), trivial⟩⟩,
          ⟨.inr (fun _ _ _ h _ => h), ⟨.inr (.inr (fun _ _ _ h _ => h)), trivial⟩⟩,
          ⟨.inr (fun _ _ _ h _ => h), ⟨.inr (.inr (fun _ _ _ h _ => h)), trivial⟩⟩,
          ⟨.inr (fun _ _ _ h _ => h), ⟨.inr (.inr (fun _ _ _ h _ => h)), trivial⟩⟩,
          ⟨.inr (fun _ _ _ h _ => h), ⟨.inr (.inr (fun _ _ _ h _ => h)), trivial⟩⟩,
          ⟨.inr (fun _ _ _ h _ => h), ⟨.inr (.inr (fun _ _ _ h _ => h)), trivial⟩⟩,
          ⟨.inr (fun _ _ _ h _ => h), ⟨.inr (.inl rfl), trivial⟩⟩,
          ⟨.inr (fun _ _ _ h _ => h), ⟨.inr (.inr (fun _ _ _ h _ => h)), trivial⟩⟩, trivial⟩ ⟨fun vs vs' x h _ hv => (by dsimp only at hv ⊢; first | (rw [← h]; exact hv) | exact hv),
          fun vs vs' x h _ hv => (by dsimp only at hv ⊢; first | (rw [← h]; exact hv) | exact hv),
          fun vs vs' x h _ hv => (by dsimp only at hv ⊢; first | (rw [← h]; exact hv) | exact hv),
          fun vs vs' x h _ hv => (by dsimp only at hv ⊢; first | (rw [← h]; exact hv) | exact hv),
          fun vs vs' x h _ hv => (by dsimp only at hv ⊢; first | (rw [← h]; exact hv) | exact hv),
          fun vs vs' x h _ hv => (by dsimp only at hv ⊢; first | (rw [← h]; exact hv) | exact hv),
          fun vs vs' x h _ hv => (by dsimp only at hv ⊢; first | (rw [← h]; exact hv) | exact hv),
          fun vs vs' x h _ hv => (by dsimp only at hv ⊢; first | (rw [← h]; exact hv) | exact hv),
          fun vs vs' x h _ hv => (by dsimp only at hv ⊢; first | (rw [← h]; exact hv) | exact hv),
          fun vs vs' x h _ hv => (by dsimp only at hv ⊢; first | (rw [← h]; exact hv) | exact hv),
          fun vs vs' x h _ hv => (by dsimp only at hv ⊢; first | (rw [← h]; exact hv) | exact hv), trivial⟩ ((show SumI a0 a1 lo w q r u.1 p.1 A2 c2 l2 false _ from ⟨B3.out.trans (.of (below_drewN (Below.refl _ _) 1) D3.out.size), by rw [if_neg (by simp)]; exact D3.out.up (below_drewN (Below.refl _ _) 1), own_below O3.out (below_drewN (Below.refl _ _) 1) (Nat.le_refl _)⟩)) ⟨?_, ?_, ?_, ?_, ?_, ?_, ?_, ?_, ?_, ?_, ?_, trivial⟩ ?_
        · intro vals xw f hf1 hf2 hf3 hI hF
          clear hf2 hf3
          dsimp only [owes4, bare]
          simp only [putsD, Act.put, List.setIfInBounds_toArray, List.set_cons_zero, List.set_cons_succ]
          go_wp2
          exact ⟨rfl, rfl, ⟨fun h9 => absurd h9 (Nat.ne_of_beq_eq_false rfl), fun _ => Below.refl _ _⟩, hI⟩
        · intro vals xw f hf1 hf2 hf3 hI hF
          clear hf2 hf3
          dsimp only [owes4, bare]
          simp only [putsD, Act.put, List.setIfInBounds_toArray, List.set_cons_zero, List.set_cons_succ]
          go_wp2
          exact ⟨rfl, rfl, ⟨fun h9 => absurd h9 (Nat.ne_of_beq_eq_false rfl), fun _ => Below.refl _ _⟩, hI⟩
        · intro vals xw f hf1 hf2 hf3 hI hF
          clear hf2 hf3
          dsimp only [owes4, bare]
          simp only [putsD, Act.put, List.setIfInBounds_toArray, List.set_cons_zero, List.set_cons_succ]
          go_wp2
          exact ⟨rfl, rfl, ⟨fun h9 => absurd h9 (Nat.ne_of_beq_eq_false rfl), fun _ => Below.refl _ _⟩, hI⟩
        · intro vals xw f hf1 hf2 hf3 hI hF
          clear hf2 hf3
          simp only [saysD, List.getD_cons_zero, List.getD_cons_succ, and_true] at hF
          obtain ⟨e1, e2⟩ := hF
          dsimp only [owes4, bare]
          simp only [putsD, Act.put, List.setIfInBounds_toArray, List.set_cons_zero, List.set_cons_succ]
          simp only [e1, e2]
          go_wp2
          exact ⟨rfl, rfl, ⟨fun h9 => absurd h9 (Nat.ne_of_beq_eq_false rfl), fun _ => Below.refl _ _⟩, hI⟩
        · intro vals xw f hf1 hf2 hf3 hI hF
          clear hf2 hf3
          simp only [saysD, List.getD_cons_zero, List.getD_cons_succ, and_true] at hF
          have e1 := hF
          dsimp only [owes4, bare]
          simp only [putsD, Act.put, List.setIfInBounds_toArray, List.set_cons_zero, List.set_cons_succ]
          simp only [e1]
          have c9 := HRX.out _ hI.1
          go_wp2
          exact ⟨rfl, rfl, ⟨fun h9 => absurd h9 (Nat.ne_of_beq_eq_false rfl), fun _ => Below.refl _ _⟩, hI⟩
        · intro vals xw f hf1 hf2 hf3 hI hF
          clear hf2 hf3
          dsimp only [owes4, bare]
          simp only [putsD, Act.put, List.setIfInBounds_toArray, List.set_cons_zero, List.set_cons_succ]
          go_wp2
          exact ⟨rfl, rfl, ⟨fun h9 => absurd h9 (Nat.ne_of_beq_eq_false rfl), fun _ => Below.refl _ _⟩, hI⟩
        · intro vals xw f hf1 hf2 hf3 hI hF
          clear hf2 hf3
          dsimp only [owes4, bare]
          simp only [putsD, Act.put, List.setIfInBounds_toArray, List.set_cons_zero, List.set_cons_succ]
          go_wp2
          exact ⟨rfl, rfl, ⟨fun h9 => absurd h9 (Nat.ne_of_beq_eq_false rfl), fun _ => Below.refl _ _⟩, hI⟩
        · intro vals xw f hf1 hf2 hf3 hI hF
          clear hf2 hf3
          simp only [saysD, List.getD_cons_zero, List.getD_cons_succ, and_true] at hF
          obtain ⟨e1, e2⟩ := hF
          dsimp only [owes4, bare]
          simp only [putsD, Act.put, List.setIfInBounds_toArray, List.set_cons_zero, List.set_cons_succ]
          simp only [e1, e2]
          go_wp2
          exact ⟨rfl, rfl, ⟨fun h9 => absurd h9 (Nat.ne_of_beq_eq_false rfl), fun _ => Below.refl _ _⟩, hI⟩
        · intro vals xw f hf1 hf2 hf3 hI hF
          clear hf2 hf3
          simp only [saysD, List.getD_cons_zero, List.getD_cons_succ, and_true] at hF
          have e1 := hF
          dsimp only [owes4, bare]
          simp only [putsD, Act.put, List.setIfInBounds_toArray, List.set_cons_zero, List.set_cons_succ]
          simp only [e1]
          have c9 := HRY.out _ hI.1
          go_wp2
          exact ⟨rfl, rfl, ⟨fun h9 => absurd h9 (Nat.ne_of_beq_eq_false rfl), fun _ => Below.refl _ _⟩, hI⟩
        · intro vals xw f hf1 hf2 hf3 hI hF
          clear hf2 hf3
          simp only [saysD, List.getD_cons_zero, List.getD_cons_succ, and_true] at hF
          obtain ⟨e1, e2, e3⟩ := hF
          dsimp only [owes4, bare]
          simp only [putsD, Act.put, List.setIfInBounds_toArray, List.set_cons_zero, List.set_cons_succ]
          simp only [e1, e2, e3]
          obtain ⟨i1, i2, i3⟩ := hI
          rw [hf1, if_neg (by simp)] at i2
          have I1 := Lib.hid i1
          have I3 := Lib.hid i3
          have HC := Lib.hid (bAnd_any a0 a1 lo q r u.1 x y xw i2 HXYM.out.1 HXYM.out.2)
          rw [← HP.out] at HC
          clear i1 i2 i3
          go_wp2_with fail
          refine HC.out.mono ?_
          rintro e wx ⟨rfl, hb9, hd9⟩
          have HB9 := Lib.hid hb9
          have HD9 := Lib.hid hd9
          clear hb9 hd9 HC
          go_wp2
          exact ⟨rfl, rfl, ⟨fun _ => HB9.out, fun h9 => absurd rfl h9⟩, I1.out.trans HB9.out, by rw [did_same, if_pos rfl]; exact HD9.out, I3.out.upB HB9.out⟩
        · intro vals xw f hf1 hf2 hf3 hI hF
          clear hf2 hf3
          simp only [saysD, List.getD_cons_zero, List.getD_cons_succ, and_true] at hF
          have e1 := hF
          dsimp only [owes4, bare]
          simp only [putsD, Act.put, List.setIfInBounds_toArray, List.set_cons_zero, List.set_cons_succ]
          simp only [e1]
          go_wp2
          exact ⟨rfl, rfl, ⟨fun h9 => absurd h9 (Nat.ne_of_beq_eq_false rfl), fun _ => Below.refl _ _⟩, hI⟩
        · intro vals xw f hall hI hF
          rw [show List.range _ = [0, 1, 2, 3, 4, 5, 6, 7, 8, 9, 10] from rfl] at hF
          simp only [says, List.getD_cons_zero, List.getD_cons_succ, and_true] at hF
          obtain ⟨i1, i2, i3⟩ := hI
          rw [hall 9 (by decide), if_pos rfl] at i2
          have e9 : vals 10 = .int .i64 p.2 := by obtain ⟨_, _, _, _, _, _, _, _, _, _, e9⟩ := hF; exact e9
          simp only [putsD, Act.put, List.setIfInBounds_toArray, List.set_cons_zero, List.set_cons_succ]
          simp only [e9]
          clear e9 hF
          have I1 := Lib.hid i1
          have I2 := Lib.hid i2
          have I3 := Lib.hid i3
          clear i1 i2 i3
          have HC := Lib.hid (bAnd_any a0 a1 lo q r p.1 m.2 cc _ I2.out HMB.out.2 HCC.out)
          rw [← HV.out] at HC
          go_wp2_with fail
          refine HC.out.mono ?_
          rintro e z4 ⟨rfl, hb9, hd9⟩
          have B4 := Lib.hid (I1.out.trans hb9)
          have D4 := Lib.hid hd9
          have O4 := Lib.hid (I3.out.upB hb9)
          clear hb9 hd9 HC
          have HC := Lib.hid (bOr_any a0 a1 lo q r v.1 p.2 v.2 _ D4.out HPB.out.2 HVB.out.2)
          rw [← HG.out] at HC
          go_wp2_with fail
          refine HC.out.mono ?_
          rintro e z5 ⟨rfl, hb9, hd9⟩
          have B5 := Lib.hid (B4.out.trans hb9)
          have D5 := Lib.hid hd9
          have O5 := Lib.hid (O4.out.upB hb9)
          clear hb9 hd9 HC
          go_wp2
          go_roundw
          case rel => exact ⟨k + 1, g.1, l2, A2, c2, g.2, by omega, by go_num, rfl, rfl, HGB.out.2, by rw [HL2.out, List.length_append, HLK.out]; rfl, fun z hz => by
            rw [HL2.out] at hz
            rcases List.mem_append.1 hz with hz | hz
            · exact HLM.out z hz
            · rw [List.mem_singleton.1 hz]; exact HUB.out.2, ⟨B5.out, D5.out, O5.out⟩, Lib.hid (by rw [HL2.out]; exact HST.out)⟩
          case measure => simp [intOf]; omega
    · have hke : k = xs.length := by omega
      subst hke
      have hlt2 : ¬ ((xs.length : Nat) : Int) < xs.length := by omega
      go_wp2
      go_ret
      have hd1 : xs.drop xs.length = [] := List.drop_length
      have hd2 : ys.drop xs.length = [] := by rw [HL.out]; exact List.drop_length
      have hst2 := hst.out
      rw [hd1, hd2] at hst2
      have hT2 : T = (s1, l) := by rw [← hst2]; show (s1, l ++ []) = _; rw [List.append_nil]
      rw [hT2]
      exact ⟨A, c, rfl, HSI.out.2.2.pl.1, HSI.out.2.2.pl.2, HLM.out, HSI.out.1, HSI.out.2.1⟩
end Go.Proofs.YtjghcaghigebjaaDoor

/-! The program's signals that are off; its operations on one list. -/
namespace Go.Proofs.YtjghcaghigebjaaDoor
open Go Go.RowKit

set_option maxHeartbeats 1000000 in
theorem offs_any (n : Nat) (w : World) (hn : n ≤ 1000) : Calls Tryd.prog 101 #[.int .i64 (n : Int)] w (RetOw (List.replicate n (-1)) w) := by
  have hal : Below w.heap.size w (w.alloc (.cells #[.int .i64 (-1)] 83)) := (Below.refl _ _).alloc (Nat.le_refl _) _
  have HAL := Lib.hid hal
  obtain ⟨rs, hrs⟩ : ∃ rs, rs = List.replicate n (-1 : Int) := ⟨_, rfl⟩
  rw [← hrs]
  have HC := Lib.hid (repeat_any (-1) n w.heap.size 83 _ (heap_alloc_new w (.cells #[.int .i64 (-1)] 83)) hn)
  rw [← hrs] at HC
  clear hal hrs
  go_enter Tryd.func101, Tryd.ntmps101
  go_wp2_with fail
  refine HC.out.mono ?_
  rintro e w1 ⟨A, c, rfl, h1, h2⟩
  have H1 := Lib.hid h1
  have H2 := Lib.hid h2
  clear h1 h2 HC
  go_wp2
  go_ret
  exact ⟨A, c, rfl, own_mono H1.out HAL.out.size, bthen HAL.out H2.out⟩
/-- The operations on one list. -/
def unP (op : Int) (xs : List Int) : PG (List Int) := if op = 1 then .ret (xs.map Neg.neg) else sumP (List.replicate xs.length (-1)) (xs.map Neg.neg) 1
def opUn (op : Int) : Bool := decide (op = 1) || decide (op = 2)
def unS (n : N) (op : Int) (xs : List Int) : BS × List Int := if opUn op = true then run opsP (unP op xs) ⟨n, none⟩ else (⟨n, some 0⟩, [])
set_option maxRecDepth 100000 in
set_option maxHeartbeats 2000000 in
theorem bUn_any (a0 a1 : Addr) (lo q r : Nat) (n : N) (op : Int) (X : Option Addr) (cx : Nat) (xs : List Int) (w : World) (h : Bd a0 a1 lo w q r ⟨n, none⟩) (hX : Lay.int.Pl w X xs) (hxm : ∀ x ∈ xs, MB x) (hn : xs.length ≤ 1000) (hop : okInt op) :
    Calls Tryd.prog 70 #[.pointer (some ⟨q, 0, none⟩), .int .i64 op, .slice X xs.length cx] w (RetL a0 a1 lo w q r (unS n op xs)) := by
  have HBD := Lib.hid h
  have HX := Lib.hid hX
  have HXM := Lib.hid hxm
  have hlo := h.size
  unfold okInt at hop
  obtain ⟨hop0, hop1⟩ := hop
  by_cases h1 : op = 1
  · subst h1
    obtain ⟨ns, hns⟩ : ∃ ns, ns = xs.map Neg.neg := ⟨_, rfl⟩
    rw [show unS n 1 xs = (⟨n, none⟩, xs.map Neg.neg) from rfl, ← hns]
    have HC := Lib.hid (negated_any a0 a1 lo q r X cx xs ⟨n, none⟩ w h hX hxm hn)
    rw [← hns] at HC
    clear h hX hxm hns
    go_enter Tryd.func70, Tryd.ntmps70
    go_wp2_with fail
    refine HC.out.mono ?_
    rintro e w1 ⟨A, c, rfl, h1, h2, h3, h4, h5⟩
    dsimp only at h1 h2 h3 h5
    have H2 := Lib.hid h2
    have H3 := Lib.hid h3
    have H4 := Lib.hid h4
    have H5 := Lib.hid h5
    clear h2 h3 h4 h5 HC
    go_wp2
    go_ret
    exact ⟨A, c, rfl, h1, H2.out, H3.out, H4.out, H5.out⟩
  · by_cases h2 : op = 2
    · subst h2
      obtain ⟨ns, hns⟩ : ∃ ns, ns = xs.map Neg.neg := ⟨_, rfl⟩
      obtain ⟨rs, hrs⟩ : ∃ rs, rs = List.replicate xs.length (-1 : Int) := ⟨_, rfl⟩
      rw [show unS n 2 xs = run opsP (sumP (List.replicate xs.length (-1)) (xs.map Neg.neg) 1) ⟨n, none⟩ from rfl, ← hns, ← hrs]
      have HNS := Lib.hid hns
      have HRL : Hid (rs.length = ns.length ∧ rs.length ≤ 1000 ∧ ∀ x ∈ rs, MB x) := Lib.hid (by rw [hrs, hns]; exact ⟨by simp, by simpa using hn, fun x hx => by rw [List.eq_of_mem_replicate hx]; unfold MB; omega⟩)
      have HC := Lib.hid (offs_any xs.length w hn)
      rw [← hrs] at HC
      generalize hT : run opsP (sumP rs ns 1) ⟨n, none⟩ = T at *
      have HT := Lib.hid hT
      clear h hX hxm hns hrs hT
      go_enter Tryd.func70, Tryd.ntmps70
      go_wp2_with fail
      refine HC.out.mono ?_
      rintro e w1 ⟨A, c, rfl, h1, h2⟩
      have H1 := Lib.hid h1
      have HB1 := Lib.hid h2
      have HC := Lib.hid (negated_any a0 a1 lo q r X cx xs ⟨n, none⟩ w1 (HBD.out.up h2) (HX.out.upP h2) HXM.out hn)
      rw [← HNS.out] at HC
      clear h1 h2
      go_wp2_with fail
      refine HC.out.mono ?_
      rintro e w2 ⟨A2, c2, rfl, hc2, hp2, hm2, hb2, hd2⟩
      dsimp only at hc2 hp2 hm2 hd2
      have HB2 := Lib.hid (BelB.trans (.of HB1.out hlo) hb2)
      have HR := Lib.hid (H1.out.upB hb2)
      have HC := Lib.hid (bSum_any a0 a1 lo q r 1 A A2 c c2 rs ns ⟨n, none⟩ w2 hd2 (by unfold MB; omega) HR.out.pl.2 hp2 HRL.out.2.2 hm2 HRL.out.1 HRL.out.2.1)
      rw [HT.out] at HC
      clear hp2 hm2 hb2 hd2 hc2
      go_wp2_with fail
      refine HC.out.mono ?_
      rintro e w3 ⟨A3, c3, rfl, h1, h2, h3, h4, h5⟩
      have H2 := Lib.hid h2
      have H3 := Lib.hid h3
      have H4 := Lib.hid h4
      have H5 := Lib.hid h5
      clear h2 h3 h4 h5 HC
      go_wp2
      go_ret
      exact ⟨A3, c3, rfl, h1, H2.out, H3.out, HB2.out.trans H4.out, H5.out⟩
    · have e1 : (op == 1) = false := by simpa using h1
      have e2 : (op == 2) = false := by simpa using h2
      rw [show unS n op xs = (⟨n, some 0⟩, []) from if_neg (by unfold opUn; simp [h1, h2])]
      have HC := Lib.hid (fail_any a0 a1 lo q r none true 0 w h.toBx)
      have g0 := h.g.c0
      have hv : errV a0 a1 (some 0) = sentV a0 := rfl
      rw [hv] at HC
      clear h hX hxm h1 h2 hv
      go_enter Tryd.func70, Tryd.ntmps70
      go_wp2_with fail
      refine HC.out.mono ?_
      rintro e w1 ⟨rfl, hb1, hx1, hk1⟩
      have HB1 := Lib.hid hb1
      have HD1 := Lib.hid (Bx.bd HBD.out hx1 hk1 (fun h => by cases h))
      clear hb1 hx1 hk1 HC
      go_wp2
      go_ret
      exact ⟨none, 0, rfl, Nat.zero_le _, .nil _ _ _ _, (fun m hm => by cases hm), HB1.out, HD1.out⟩
end Go.Proofs.YtjghcaghigebjaaDoor

/-! The reference's l7Un, BitsUn. -/
namespace Go.Proofs.YtjghcaghigebjaaDoor
open Go Go.RowKit

/-- In the blocks F, or made behind X0. -/
abbrev GU (F : Nat → Prop) (X0 z : World) (b : Nat) : Prop := F b ∨ (X0.heap.size ≤ b ∧ b < z.heap.size)
theorem Lay.Sl.upU {α : Type} {L : Lay α} {F : Nat → Prop} {X0 x x' : World} {A : Option Addr} {xs : List α} (h : L.Sl x (GU F X0 x) A xs) (hF : ∀ b, F b → b < x.heap.size) (hb : Below x.heap.size x x') : L.Sl x' (GU F X0 x') A xs :=
  (h.below hb (fun b hb' => hb'.elim (hF b) (fun h9 => h9.2))).mono fun b hb' => hb'.imp id fun h9 => ⟨h9.1, Nat.lt_of_lt_of_le h9.2 hb.size⟩
theorem Lay.Sl.stU {α : Type} {L : Lay α} {F : Nat → Prop} {X0 x x' : World} {A : Option Addr} {xs : List α} {g : Nat} (h : L.Sl x (GU F X0 x) A xs) (hF : ∀ b, F b → b < x.heap.size) (hg : x.grownBy x' (some g)) (h1 : g < X0.heap.size) (h2 : ¬ F g) : L.Sl x' (GU F X0 x') A xs :=
  (h.keep fun b hb => hg.block b (hb.elim (hF b) (fun h9 => h9.2)) (fun e => by injection e with e; subst e; exact hb.elim h2 (fun h9 => by omega))).mono fun b hb' => hb'.imp id fun h9 => ⟨h9.1, Nat.lt_of_lt_of_le h9.2 hg.size⟩
def NoB : Nat → Prop := fun _ => False
/-- A row of the call's own. -/
def URow (X0 : World) (l : List Int) (v : Value) (z : World) : Prop := ∃ B d, v = .slice B l.length d ∧ l.length ≤ d ∧ Lay.int.Sl z (GU NoB X0 z) B l
def UTup (F : Nat → Prop) (X0 : World) (T : (N × Bool) × List Int) (v : Value) (z : World) : Prop := ∃ A2 c2 B d, v = .tuple #[.agg #[.int .i64 T.1.1.ins, .slice A2 T.1.1.gs.length c2, .bool T.1.2], .slice B T.2.length d] ∧ (A2 = none → T.1.1.gs.length = 0) ∧ Lay.gate.Sl z (GU F X0 z) A2 T.1.1.gs ∧ T.2.length ≤ d ∧ Lay.int.Sl z (GU NoB X0 z) B T.2 ∧ X0.heap.size ≤ z.heap.size
def UNet (F : Nat → Prop) (X0 : World) (k : N × Bool) (v : Value) (z : World) : Prop := ∃ A2 c2, v = .agg #[.int .i64 k.1.ins, .slice A2 k.1.gs.length c2, .bool k.2] ∧ (A2 = none → k.1.gs.length = 0) ∧ Lay.gate.Sl z (GU F X0 z) A2 k.1.gs ∧ X0.heap.size ≤ z.heap.size
theorem URow.up {X0 x y : World} {l : List Int} {v : Value} (h : URow X0 l v x) (hb : Below x.heap.size x y) : URow X0 l v y := by
  obtain ⟨B, d, h1, h2, h3⟩ := h
  exact ⟨B, d, h1, h2, h3.upU (fun _ h => h.elim) hb⟩
theorem URow.st {X0 x y : World} {l : List Int} {v : Value} {g : Nat} (h : URow X0 l v x) (hg : x.grownBy y (some g)) (h1 : g < X0.heap.size) : URow X0 l v y := by
  obtain ⟨B, d, h2, h3, h4⟩ := h
  exact ⟨B, d, h2, h3, h4.stU (fun _ h => h.elim) hg h1 id⟩
theorem UTup.up {F : Nat → Prop} {X0 x y : World} {T : (N × Bool) × List Int} {v : Value} (hF : ∀ b, F b → b < X0.heap.size) (h : UTup F X0 T v x) (hb : Below x.heap.size x y) : UTup F X0 T v y := by
  obtain ⟨A2, c2, B, d, h1, h2, h3, h4, h5, h6⟩ := h
  exact ⟨A2, c2, B, d, h1, h2, h3.upU (fun b hb => Nat.lt_of_lt_of_le (hF b hb) h6) hb, h4, h5.upU (fun _ h => h.elim) hb, Nat.le_trans h6 hb.size⟩
theorem UTup.st {F : Nat → Prop} {X0 x y : World} {T : (N × Bool) × List Int} {v : Value} {g : Nat} (hF : ∀ b, F b → b < X0.heap.size) (h : UTup F X0 T v x) (hg : x.grownBy y (some g)) (hg1 : g < X0.heap.size) (hg2 : ¬ F g) : UTup F X0 T v y := by
  obtain ⟨A2, c2, B, d, h1, h2, h3, h4, h5, h6⟩ := h
  exact ⟨A2, c2, B, d, h1, h2, h3.stU (fun b hb => Nat.lt_of_lt_of_le (hF b hb) h6) hg hg1 hg2, h4, h5.stU (fun _ h => h.elim) hg hg1 id, Nat.le_trans h6 hg.size⟩
theorem UNet.up {F : Nat → Prop} {X0 x y : World} {k : N × Bool} {v : Value} (hF : ∀ b, F b → b < X0.heap.size) (h : UNet F X0 k v x) (hb : Below x.heap.size x y) : UNet F X0 k v y := by
  obtain ⟨A2, c2, h1, h2, h3, h6⟩ := h
  exact ⟨A2, c2, h1, h2, h3.upU (fun b hb => Nat.lt_of_lt_of_le (hF b hb) h6) hb, Nat.le_trans h6 hb.size⟩
theorem UNet.st {F : Nat → Prop} {X0 x y : World} {k : N × Bool} {v : Value} {g : Nat} (hF : ∀ b, F b → b < X0.heap.size) (h : UNet F X0 k v x) (hg : x.grownBy y (some g)) (hg1 : g < X0.heap.size) (hg2 : ¬ F g) : UNet F X0 k v y := by
  obtain ⟨A2, c2, h1, h2, h3, h6⟩ := h
  exact ⟨A2, c2, h1, h2, h3.stU (fun b hb => Nat.lt_of_lt_of_le (hF b hb) h6) hg hg1 hg2, Nat.le_trans h6 hg.size⟩
/-- What is so while the answer is laid. -/
def UnI (F : Nat → Prop) (w X0 : World) (k : N × Bool) (A : Option Addr) (c : Nat) (k2 : N × Bool) (done : Bool) (x : World) : Prop :=
  Below w.heap.size w x ∧ x.heap[w.heap.size]? = some (.cells #[.int .i64 k.1.ins, .slice A k.1.gs.length c, .bool k.2] 68 (0, 0)) ∧ (done = false → x.heap[w.heap.size + 1]? = some (.cells #[.int .i64 0, .slice none 0 0, .bool false] 68 (0, 0))) ∧ (done = true → ∃ A2 c2, x.heap[w.heap.size + 1]? = some (.cells #[.int .i64 k2.1.ins, .slice A2 k2.1.gs.length c2, .bool k2.2] 68 (0, 0)) ∧ (A2 = none → k2.1.gs.length = 0) ∧ Lay.gate.Sl x (GU F X0 x) A2 k2.1.gs) ∧ Lay.gate.Sl x F A k.1.gs ∧ X0.heap.size ≤ x.heap.size
theorem UnI.up {F : Nat → Prop} {w X0 x y : World} {k : N × Bool} {A : Option Addr} {c : Nat} {k2 : N × Bool} {done : Bool} (hF : ∀ b, F b → b < w.heap.size) (h : UnI F w X0 k A c k2 done x) (hb : Below x.heap.size x y) : UnI F w X0 k A c k2 done y := by
  obtain ⟨h1, h2, h3, h4, h5, h6⟩ := h
  have hF2 : ∀ b, F b → b < x.heap.size := fun b hb' => by have := hF b hb'; have := lt_of_block h2; omega
  refine ⟨bthen h1 hb, (hb.block _ (lt_of_block h2)).trans h2, fun hd => (hb.block _ (lt_of_block (h3 hd))).trans (h3 hd), fun hd => ?_, h5.below hb hF2, Nat.le_trans h6 hb.size⟩
  obtain ⟨A2, c2, g1, g2, g3⟩ := h4 hd
  exact ⟨A2, c2, (hb.block _ (lt_of_block g1)).trans g1, g2, g3.upU hF2 hb⟩
theorem UnI.st {F : Nat → Prop} {w X0 x : World} {k : N × Bool} {A : Option Addr} {c : Nat} {k2 : N × Bool} {A2 : Option Addr} {c2 : Nat} (hF : ∀ b, F b → b < w.heap.size) (hX : w.heap.size + 1 < X0.heap.size) (h : UnI F w X0 k A c k2 false x) (hs : Lay.gate.Sl x (GU F X0 x) A2 k2.1.gs) (hn : A2 = none → k2.1.gs.length = 0) :
    UnI F w X0 k A c k2 true (st3 x (w.heap.size + 1) (.int .i64 k2.1.ins) (.slice A2 k2.1.gs.length c2) (.bool k2.2)) ∧ x.grownBy (st3 x (w.heap.size + 1) (.int .i64 k2.1.ins) (.slice A2 k2.1.gs.length c2) (.bool k2.2)) (some (w.heap.size + 1)) := by
  obtain ⟨h1, h2, h3, h4, h5, h6⟩ := h
  have hgr : x.grownBy (st3 x (w.heap.size + 1) (.int .i64 k2.1.ins) (.slice A2 k2.1.gs.length c2) (.bool k2.2)) (some (w.heap.size + 1)) := only_setCell (only_setCell (only_setCell (World.grownBy.refl _ _) _ _) _ _) _ _
  have hF2 : ∀ b, F b → b < x.heap.size := fun b hb' => by have := hF b hb'; have := lt_of_block h2; omega
  have hng : ¬ F (w.heap.size + 1) := fun h9 => by have := hF _ h9; omega
  exact ⟨⟨st3_below h1 (by omega) _ _ _, (st3_other (by omega)).trans h2, fun h => (by cases h), fun _ => ⟨A2, c2, st3_same (h3 rfl) _ _ _, hn, hs.stU hF2 hgr hX hng⟩, st3_sl h5 (fun b hb e => hng (by rw [e] at hb; exact hb)) _ _ _, by rw [st3_size]; exact h6⟩, hgr⟩
set_option maxRecDepth 100000 in
set_option maxHeartbeats 4000000 in
theorem l7Un_any (F : Nat → Prop) (A : Option Addr) (c : Nat) (k : N × Bool) (op : Int) (X : Option Addr) (cx : Nat) (xs : List Int) (w : World) (h : Lay.gate.Sl w F A k.1.gs) (hF : ∀ b, F b → b < w.heap.size) (hA : A = none → k.1.gs.length = 0) (hnb : NB k.1) (hop : op = 1 ∨ op = 2) (hX : Lay.int.Rd w X xs) (hxm : ∀ x ∈ xs, RB x) (hn : xs.length ≤ 500) :
    Calls Tryd.prog 68 #[.agg #[.int .i64 k.1.ins, .slice A k.1.gs.length c, .bool k.2], .int .i64 op, .slice X xs.length cx] w (RetKL F w (run opsR (unP op xs) k)) := by
  obtain ⟨hW, hB0, hB1, hWS⟩ := two_boxes w (.cells #[.int .i64 k.1.ins, .slice A k.1.gs.length c, .bool k.2] 68) (.cells #[.int .i64 0, .slice none 0 0, .bool false] 68)
  have HF := Lib.hid hF
  have HNB := Lib.hid hnb
  have HXM := Lib.hid hxm
  have HNIL := Lib.hid hA
  have HX := Lib.hid (hX.up hW)
  have HUN := Lib.hid (show ∀ k2, UnI F w ((w.alloc (.cells #[.int .i64 k.1.ins, .slice A k.1.gs.length c, .bool k.2] 68)).alloc (.cells #[.int .i64 0, .slice none 0 0, .bool false] 68)) k A c k2 false ((w.alloc (.cells #[.int .i64 k.1.ins, .slice A k.1.gs.length c, .bool k.2] 68)).alloc (.cells #[.int .i64 0, .slice none 0 0, .bool false] 68)) from fun k2 => ⟨hW, hB0, fun _ => hB1, fun h => (by cases h), h.below hW hF, Nat.le_refl _⟩)
  have HXS := Lib.hid (show w.heap.size + 1 < ((w.alloc (.cells #[.int .i64 k.1.ins, .slice A k.1.gs.length c, .bool k.2] 68)).alloc (.cells #[.int .i64 0, .slice none 0 0, .bool false] 68)).heap.size by rw [hWS]; omega)
  have HFX := Lib.hid (show ∀ b, F b → b < ((w.alloc (.cells #[.int .i64 k.1.ins, .slice A k.1.gs.length c, .bool k.2] 68)).alloc (.cells #[.int .i64 0, .slice none 0 0, .bool false] 68)).heap.size from fun b hb => by have := hF b hb; rw [hWS]; omega)
  have HXB : Hid (∀ x, Below w.heap.size w x → Lay.int.Rd x X xs) := Lib.hid fun x hx => hX.up hx
  clear h hF hA hnb hX hxm hW hB0 hB1 hWS
  have HNG : Hid (¬ F (w.heap.size + 1)) := Lib.hid fun h9 => by have := HF.out _ h9; omega
  have HNR : Hid (∀ m ∈ xs.map Neg.neg, RB m) := Lib.hid fun m hm => by
    obtain ⟨x, hx, rfl⟩ := List.mem_map.1 hm
    exact (HXM.out x hx).neg
  rcases hop with rfl | rfl
  · rw [show run opsR (unP 1 xs) k = (k, xs.map Neg.neg) from rfl]
    have HTU := Lib.hid (fun (x9 : World) (h9 : Lay.int.Rd x9 X xs) => l7Turn_any X cx xs x9 h9 HXM.out hn)
    generalize hns : xs.map Neg.neg = ns at *
    clear hns
    have HUN := Lib.hid (HUN.out k)
    go_enter Tryd.func68, Tryd.ntmps68
    go_wp2
    generalize hX0 : (w.alloc (.cells #[.int .i64 k.1.ins, .slice A k.1.gs.length c, .bool k.2] 68)).alloc (.cells #[.int .i64 0, .slice none 0 0, .bool false] 68) = X0 at *
    clear hX0
    have HBX : Hid (∀ x b, UnI F w X0 k A c k b x → Lay.int.Rd x X xs) := Lib.hid fun x b hx => HXB.out x hx.1
    refine wp_region_rel4 [[], [], [(1, 11)], [(0, 10)], [(2, 12)]]
      (fun x9 y9 => Below x9.heap.size x9 y9)
      [(3, fun x9 y9 => x9.grownBy y9 (some (w.heap.size + 1)))]
      (fun f9 x9 => UnI F w X0 k A c k (f9 3) x9)
      [fun vs9 _ => vs9 0 = (.agg #[.int .i64 k.1.ins, .slice A k.1.gs.length c, .bool k.2]),
        fun vs9 _ => vs9 1 = (.slice X xs.length cx),
        fun vs9 y9 => (fun v z => URow X0 ns v z) (vs9 2) y9,
        fun _ _ => True,
        fun vs9 y9 => (fun v z => URow X0 ns v z) (vs9 4) y9]
      [(0, 10), (1, 11), (2, 12), (4, 7)] (by kernel_rfl) (by kernel_rfl) (by kernel_rfl) (by kernel_rfl)
      (fun _ => Below.refl _ _) ⟨fun _ => World.grownBy.refl _ _, trivial⟩
      ⟨⟨.inr (fun _ _ _ h _ => h), ⟨.inr (.inr (fun _ _ _ h _ => h)), trivial⟩⟩,
        ⟨.inr (fun _ _ _ h _ => h), ⟨.inr (.inr (fun _ _ _ h _ => h)), trivial⟩⟩,
        ⟨.inr (fun vs9 x9 y9 h9 hR9 => (show ∀ v9 y8 y7, (fun v z => URow X0 ns v z) v9 y8 → (fun x9 y9 => Below x9.heap.size x9 y9) y8 y7 → (fun v z => URow X0 ns v z) v9 y7 from fun _ _ _ h9 hR => h9.up hR) (vs9 2) x9 y9 h9 hR9), ⟨.inr (.inr (fun vs9 x9 y9 h9 hR9 => (show ∀ v9 y8 y7, (fun v z => URow X0 ns v z) v9 y8 → (fun x9 y9 => x9.grownBy y9 (some (w.heap.size + 1))) y8 y7 → (fun v z => URow X0 ns v z) v9 y7 from fun _ _ _ h9 hR => h9.st hR HXS.out) (vs9 2) x9 y9 h9 hR9)), trivial⟩⟩,
        ⟨.inr (fun _ _ _ h _ => h), ⟨.inr (.inl rfl), trivial⟩⟩,
        ⟨.inr (fun vs9 x9 y9 h9 hR9 => (show ∀ v9 y8 y7, (fun v z => URow X0 ns v z) v9 y8 → (fun x9 y9 => Below x9.heap.size x9 y9) y8 y7 → (fun v z => URow X0 ns v z) v9 y7 from fun _ _ _ h9 hR => h9.up hR) (vs9 4) x9 y9 h9 hR9), ⟨.inr (.inr (fun vs9 x9 y9 h9 hR9 => (show ∀ v9 y8 y7, (fun v z => URow X0 ns v z) v9 y8 → (fun x9 y9 => x9.grownBy y9 (some (w.heap.size + 1))) y8 y7 → (fun v z => URow X0 ns v z) v9 y7 from fun _ _ _ h9 hR => h9.st hR HXS.out) (vs9 4) x9 y9 h9 hR9)), trivial⟩⟩, trivial⟩ ⟨fun vs vs' x h _ hv => (by dsimp only at hv ⊢; first | (rw [← h]; exact hv) | exact hv),
        fun vs vs' x h _ hv => (by dsimp only at hv ⊢; first | (rw [← h]; exact hv) | exact hv),
        fun vs vs' x h _ hv => (by dsimp only at hv ⊢; first | (rw [← h]; exact hv) | exact hv),
        fun _ _ _ _ _ _ => trivial,
        fun vs vs' x h _ hv => (by dsimp only at hv ⊢; first | (rw [← h]; exact hv) | exact hv), trivial⟩ (HUN.out.up HF.out (below_drewN (Below.refl _ _) 1)) ⟨?_, ?_, ?_, ?_, ?_, trivial⟩ ?_
    · intro vals xw f hf1 hf2 hf3 hI hF
      clear hf2 hf3
      dsimp only [owes4, bare]
      simp only [putsD, Act.put, List.setIfInBounds_toArray, List.set_cons_zero, List.set_cons_succ]
      have hv9 := hI.2.1
      have y0 := (cell_of_block hv9 0).1
      have y1 := (cell_of_block hv9 1).1
      have y2 := (cell_of_block hv9 2).1
      go_wp2
      exact ⟨rfl, rfl, ⟨fun h9 => absurd h9 (Nat.ne_of_beq_eq_false rfl), fun _ => Below.refl _ _⟩, hI⟩
    · intro vals xw f hf1 hf2 hf3 hI hF
      clear hf2 hf3
      dsimp only [owes4, bare]
      simp only [putsD, Act.put, List.setIfInBounds_toArray, List.set_cons_zero, List.set_cons_succ]
      go_wp2
      exact ⟨rfl, rfl, ⟨fun h9 => absurd h9 (Nat.ne_of_beq_eq_false rfl), fun _ => Below.refl _ _⟩, hI⟩
    · intro vals xw f hf1 hf2 hf3 hI hF
      clear hf2 hf3
      simp only [saysD, List.getD_cons_zero, List.getD_cons_succ, and_true] at hF
      have e1 := hF
      dsimp only [owes4, bare]
      simp only [putsD, Act.put, List.setIfInBounds_toArray, List.set_cons_zero, List.set_cons_succ]
      simp only [e1]
      have HI := Lib.hid hI
      have hb0 := HBX.out xw _ hI
      have HB0 := Lib.hid hb0
      have hsz9 := hI.2.2.2.2.2
      clear hI hb0
      go_wp2_with fail
      refine (HTU.out xw HB0.out).mono ?_
      rintro e wx ⟨B9, d9, rfl, h2, h3, h4⟩
      have H3 := Lib.hid h3
      have H4 := Lib.hid h4
      clear h3 h4
      go_wp2
      exact ⟨rfl, ⟨B9, d9, rfl, h2, H3.out.mono fun b hb => .inr ⟨Nat.le_trans hsz9 hb.1, hb.2.1⟩⟩, ⟨fun h9 => absurd h9 (Nat.ne_of_beq_eq_false rfl), fun _ => H4.out⟩, HI.out.up HF.out H4.out⟩
    · intro vals xw f hf1 hf2 hf3 hI hF
      clear hf2 hf3
      simp only [saysD, List.getD_cons_zero, List.getD_cons_succ, and_true] at hF
      have e1 := hF
      dsimp only [owes4, bare]
      simp only [putsD, Act.put, List.setIfInBounds_toArray, List.set_cons_zero, List.set_cons_succ]
      simp only [e1]
      rw [hf1] at hI
      have HI := Lib.hid hI
      have hr9 := hI.2.2.1 rfl
      have r0 := (cell_of_block hr9 0).1
      have r1 := (cell_of_block hr9 1).1
      have r2 := (cell_of_block hr9 2).1
      have rf0 := (cell_of_block hr9 0).2
      have rf1 := (cell_of_block hr9 1).2
      have rf2 := (cell_of_block hr9 2).2
      have H3 := Lib.hid (show Lay.gate.Sl xw (GU F X0 xw) A k.1.gs from hI.2.2.2.2.1.mono fun _ => .inl)
      clear hI hr9
      go_wp2
      have hst := HI.out.st (A2 := A) (c2 := c) HF.out HXS.out H3.out HNIL.out
      exact ⟨rfl, trivial, ⟨fun _ => hst.2, fun h9 => absurd rfl h9⟩, show UnI F w X0 k A c k (did f 3 3) _ from (by rw [did_same]; exact hst.1)⟩
    · intro vals xw f hf1 hf2 hf3 hI hF
      clear hf2 hf3
      simp only [saysD, List.getD_cons_zero, List.getD_cons_succ, and_true] at hF
      obtain ⟨B9, d9, e1, h2, h3⟩ := hF
      dsimp only [owes4, bare]
      simp only [putsD, Act.put, List.setIfInBounds_toArray, List.set_cons_zero, List.set_cons_succ]
      simp only [e1]
      go_wp2
      exact ⟨rfl, ⟨B9, d9, rfl, h2, h3⟩, ⟨fun h9 => absurd h9 (Nat.ne_of_beq_eq_false rfl), fun _ => Below.refl _ _⟩, hI⟩
    · intro vals xw f hall hI hF
      rw [show List.range _ = [0, 1, 2, 3, 4] from rfl] at hF
      simp only [says, List.getD_cons_zero, List.getD_cons_succ, and_true] at hF
      have i9 : UnI F w X0 k A c k (f 3) xw := hI
      rw [hall 3 (by decide)] at i9
      obtain ⟨i1, i2, _, i4, i5, i6⟩ := i9
      obtain ⟨A8, c8, g1, g2, g3⟩ := i4 rfl
      have hrow : URow X0 ns (vals 4) xw := by obtain ⟨_, _, _, _, h9⟩ := hF; exact h9
      obtain ⟨B8, d8, e8, hd8, hs8⟩ := hrow
      simp only [putsD, Act.put, List.setIfInBounds_toArray, List.set_cons_zero, List.set_cons_succ]
      simp only [e8]
      have k5 := (cell_of_block g1 0).1
      have k6 := (cell_of_block g1 1).1
      have k7 := (cell_of_block g1 2).1
      have kf5 := (cell_of_block g1 0).2
      have kf6 := (cell_of_block g1 1).2
      have kf7 := (cell_of_block g1 2).2
      have I1 := Lib.hid i1
      have G3 := Lib.hid g3
      have HS8 := Lib.hid hs8
      clear hI hF i1 i2 i4 i5 g1 g3 hs8 e8
      go_wp2
      refine bodyPost_ret (v := .tuple #[.agg #[.int .i64 k.1.ins, .slice A8 k.1.gs.length c8, .bool k.2], .slice B8 (ns).length d8]) (by simp [results, Tryd.results68, go_sem, k5, k6, k7, kf5, kf6, kf7]) rfl ?_
      exact ⟨A8, c8, B8, d8, rfl, g2, G3.out.mono fun b hb => hb.imp id fun h9 => ⟨by have := HXS.out; omega, h9.2⟩, hd8, HS8.out.mono fun b hb => hb.elim (fun h => h.elim) fun h9 => ⟨by have := HXS.out; omega, h9.2⟩, HNR.out, I1.out⟩
  · have HADD := Lib.hid (fun (A9 : Option Addr) (c9 : Nat) (X9 Y9 : Option Addr) (cx9 cy9 : Nat) (x9 : World) (h1 : Lay.gate.Sl x9 F A9 k.1.gs) (h2 : ∀ b, F b → b < x9.heap.size) (h3 : A9 = none → k.1.gs.length = 0) (h4 : Lay.int.Rd x9 X9 (List.replicate xs.length (-1 : Int))) (h5 : Lay.int.Rd x9 Y9 (xs.map Neg.neg)) => l7Add_any F A9 c9 k 1 X9 Y9 cx9 cy9 (List.replicate xs.length (-1 : Int)) (xs.map Neg.neg) x9 h1 h2 h3 HNB.out (by unfold RB; omega) h4 h5 (fun x hx => by rw [List.eq_of_mem_replicate hx]; unfold RB; omega) HNR.out (by simp) (by simp; omega))
    have HTU := Lib.hid (fun (x9 : World) (h9 : Lay.int.Rd x9 X xs) => l7Turn_any X cx xs x9 h9 HXM.out hn)
    have HFI := Lib.hid (fun (x9 : World) => l7Fill_any (-1) xs.length x9 hn)
    rw [show unP 2 xs = sumP (List.replicate xs.length (-1 : Int)) (xs.map Neg.neg) 1 from rfl]
    generalize hT : run opsR (sumP (List.replicate xs.length (-1 : Int)) (xs.map Neg.neg) 1) k = T at *
    clear hT
    have HRL := Lib.hid (show (List.replicate xs.length (-1 : Int)).length = xs.length by simp)
    have HNL := Lib.hid (show (xs.map Neg.neg).length = xs.length by simp)
    generalize hrs : (List.replicate xs.length (-1 : Int)) = rs at *
    generalize hns : (xs.map Neg.neg) = ns at *
    clear hrs hns
    have HUN := Lib.hid (HUN.out T.1)
    go_enter Tryd.func68, Tryd.ntmps68
    go_wp2
    generalize hX0 : (w.alloc (.cells #[.int .i64 k.1.ins, .slice A k.1.gs.length c, .bool k.2] 68)).alloc (.cells #[.int .i64 0, .slice none 0 0, .bool false] 68) = X0 at *
    clear hX0
    have HBX : Hid (∀ x b, UnI F w X0 k A c T.1 b x → Lay.int.Rd x X xs) := Lib.hid fun x b hx => HXB.out x hx.1
    refine wp_region_rel4 [[], [], [(1, 14)], [(2, 15)], [], [(4, 17)], [(0, 13), (3, 16), (5, 18)], [(6, 19)], [(6, 19)], [(7, 20)], [(8, 21)]]
      (fun x9 y9 => Below x9.heap.size x9 y9)
      [(9, fun x9 y9 => x9.grownBy y9 (some (w.heap.size + 1)))]
      (fun f9 x9 => UnI F w X0 k A c T.1 (f9 9) x9)
      [fun vs9 _ => vs9 0 = (.agg #[.int .i64 k.1.ins, .slice A k.1.gs.length c, .bool k.2]),
        fun vs9 _ => vs9 1 = (.slice X xs.length cx),
        fun vs9 _ => vs9 2 = (.int .i64 (xs.length : Int)),
        fun vs9 y9 => (fun v z => URow X0 rs v z) (vs9 3) y9,
        fun vs9 _ => vs9 4 = (.slice X xs.length cx),
        fun vs9 y9 => (fun v z => URow X0 ns v z) (vs9 5) y9,
        fun vs9 y9 => (fun v z => UTup F X0 T v z ∧ ∀ m ∈ T.2, RB m) (vs9 6) y9,
        fun vs9 y9 => (fun v z => UNet F X0 T.1 v z) (vs9 7) y9,
        fun vs9 y9 => (fun v z => URow X0 T.2 v z ∧ ∀ m ∈ T.2, RB m) (vs9 8) y9,
        fun _ _ => True,
        fun vs9 y9 => (fun v z => URow X0 T.2 v z ∧ ∀ m ∈ T.2, RB m) (vs9 10) y9]
      [(0, 13), (1, 14), (2, 15), (3, 16), (4, 17), (5, 18), (6, 19), (7, 20), (8, 21), (10, 7)] (by kernel_rfl) (by kernel_rfl) (by kernel_rfl) (by kernel_rfl)
      (fun _ => Below.refl _ _) ⟨fun _ => World.grownBy.refl _ _, trivial⟩
      ⟨⟨.inr (fun _ _ _ h _ => h), ⟨.inr (.inr (fun _ _ _ h _ => h)), trivial⟩⟩,
        ⟨.inr (fun _ _ _ h _ => h), ⟨.inr (.inr (fun _ _ _ h _ => h)), trivial⟩⟩,
        ⟨.inr (fun _ _ _ h _ => h), ⟨.inr (.inr (fun _ _ _ h _ => h)), trivial⟩⟩,
        ⟨.inr (fun vs9 x9 y9 h9 hR9 => (show ∀ v9 y8 y7, (fun v z => URow X0 rs v z) v9 y8 → (fun x9 y9 => Below x9.heap.size x9 y9) y8 y7 → (fun v z => URow X0 rs v z) v9 y7 from fun _ _ _ h9 hR => h9.up hR) (vs9 3) x9 y9 h9 hR9), ⟨.inr (.inr (fun vs9 x9 y9 h9 hR9 => (show ∀ v9 y8 y7, (fun v z => URow X0 rs v z) v9 y8 → (fun x9 y9 => x9.grownBy y9 (some (w.heap.size + 1))) y8 y7 → (fun v z => URow X0 rs v z) v9 y7 from fun _ _ _ h9 hR => h9.st hR HXS.out) (vs9 3) x9 y9 h9 hR9)), trivial⟩⟩,
        ⟨.inr (fun _ _ _ h _ => h), ⟨.inr (.inr (fun _ _ _ h _ => h)), trivial⟩⟩,
        ⟨.inr (fun vs9 x9 y9 h9 hR9 => (show ∀ v9 y8 y7, (fun v z => URow X0 ns v z) v9 y8 → (fun x9 y9 => Below x9.heap.size x9 y9) y8 y7 → (fun v z => URow X0 ns v z) v9 y7 from fun _ _ _ h9 hR => h9.up hR) (vs9 5) x9 y9 h9 hR9), ⟨.inr (.inr (fun vs9 x9 y9 h9 hR9 => (show ∀ v9 y8 y7, (fun v z => URow X0 ns v z) v9 y8 → (fun x9 y9 => x9.grownBy y9 (some (w.heap.size + 1))) y8 y7 → (fun v z => URow X0 ns v z) v9 y7 from fun _ _ _ h9 hR => h9.st hR HXS.out) (vs9 5) x9 y9 h9 hR9)), trivial⟩⟩,
        ⟨.inr (fun vs9 x9 y9 h9 hR9 => (show ∀ v9 y8 y7, (fun v z => UTup F X0 T v z ∧ ∀ m ∈ T.2, RB m) v9 y8 → (fun x9 y9 => Below x9.heap.size x9 y9) y8 y7 → (fun v z => UTup F X0 T v z ∧ ∀ m ∈ T.2, RB m) v9 y7 from fun _ _ _ h9 hR => ⟨h9.1.up HFX.out hR, h9.2⟩) (vs9 6) x9 y9 h9 hR9), ⟨.inr (.inr (fun vs9 x9 y9 h9 hR9 => (show ∀ v9 y8 y7, (fun v z => UTup F X0 T v z ∧ ∀ m ∈ T.2, RB m) v9 y8 → (fun x9 y9 => x9.grownBy y9 (some (w.heap.size + 1))) y8 y7 → (fun v z => UTup F X0 T v z ∧ ∀ m ∈ T.2, RB m) v9 y7 from fun _ _ _ h9 hR => ⟨h9.1.st HFX.out hR HXS.out HNG.out, h9.2⟩) (vs9 6) x9 y9 h9 hR9)), trivial⟩⟩,
        ⟨.inr (fun vs9 x9 y9 h9 hR9 => (show ∀ v9 y8 y7, (fun v z => UNet F X0 T.1 v z) v9 y8 → (fun x9 y9 => Below x9.heap.size x9 y9) y8 y7 → (fun v z => UNet F X0 T.1 v z) v9 y7 from fun _ _ _ h9 hR => h9.up HFX.out hR) (vs9 7) x9 y9 h9 hR9), ⟨.inr (.inr (fun vs9 x9 y9 h9 hR9 => (show ∀ v9 y8 y7, (fun v z => UNet F X0 T.1 v z) v9 y8 → (fun x9 y9 => x9.grownBy y9 (some (w.heap.size + 1))) y8 y7 → (fun v z => UNet F X0 T.1 v z) v9 y7 from fun _ _ _ h9 hR => h9.st HFX.out hR HXS.out HNG.out) (vs9 7) x9 y9 h9 hR9)), trivial⟩⟩,
        ⟨.inr (fun vs9 x9 y9 h9 hR9 => (show ∀ v9 y8 y7, (fun v z => URow X0 T.2 v z ∧ ∀ m ∈ T.2, RB m) v9 y8 → (fun x9 y9 => Below x9.heap.size x9 y9) y8 y7 → (fun v z => URow X0 T.2 v z ∧ ∀ m ∈ T.2, RB m) v9 y7 from fun _ _ _ h9 hR => ⟨h9.1.up hR, h9.2⟩) (vs9 8) x9 y9 h9 hR9), ⟨.inr (.inr (fun vs9 x9 y9 h9 hR9 => (show ∀ v9 y8 y7, (fun v z => URow X0 T.2 v z ∧ ∀ m ∈ T.2, RB m) v9 y8 → (fun x9 y9 => x9.grownBy y9 (some (w.heap.size + 1))) y8 y7 → (fun v z => URow X0 T.2 v z ∧ ∀ m ∈ T.2, RB m) v9 y7 from fun _ _ _ h9 hR => ⟨h9.1.st hR HXS.out, h9.2⟩) (vs9 8) x9 y9 h9 hR9)), trivial⟩⟩,
        ⟨.inr (fun _ _ _ h _ => h), ⟨.inr (.inl rfl), trivial⟩⟩,
        ⟨.inr (fun vs9 x9 y9 h9 hR9 => (show ∀ v9 y8 y7, (fun v z => URow X0 T.2 v z ∧ ∀ m ∈ T.2, RB m) v9 y8 → (fun x9 y9 => Below x9.heap.size x9 y9) y8 y7 → (fun v z => URow X0 T.2 v z ∧ ∀ m ∈ T.2, RB m) v9 y7 from fun _ _ _ h9 hR => ⟨h9.1.up hR, h9.2⟩) (vs9 10) x9 y9 h9 hR9), ⟨.inr (.inr (fun vs9 x9 y9 h9 hR9 => (show ∀ v9 y8 y7, (fun v z => URow X0 T.2 v z ∧ ∀ m ∈ T.2, RB m) v9 y8 → (fun x9 y9 => x9.grownBy y9 (some (w.heap.size + 1))) y8 y7 → (fun v z => URow X0 T.2 v z ∧ ∀ m ∈ T.2, RB m) v9 y7 from fun _ _ _ h9 hR => ⟨h9.1.st hR HXS.out, h9.2⟩) (vs9 10) x9 y9 h9 hR9)), trivial⟩⟩, trivial⟩ ⟨fun vs vs' x h _ hv => (by dsimp only at hv ⊢; first | (rw [← h]; exact hv) | exact hv),
        fun vs vs' x h _ hv => (by dsimp only at hv ⊢; first | (rw [← h]; exact hv) | exact hv),
        fun vs vs' x h _ hv => (by dsimp only at hv ⊢; first | (rw [← h]; exact hv) | exact hv),
        fun vs vs' x h _ hv => (by dsimp only at hv ⊢; first | (rw [← h]; exact hv) | exact hv),
        fun vs vs' x h _ hv => (by dsimp only at hv ⊢; first | (rw [← h]; exact hv) | exact hv),
        fun vs vs' x h _ hv => (by dsimp only at hv ⊢; first | (rw [← h]; exact hv) | exact hv),
        fun vs vs' x h _ hv => (by dsimp only at hv ⊢; first | (rw [← h]; exact hv) | exact hv),
        fun vs vs' x h _ hv => (by dsimp only at hv ⊢; first | (rw [← h]; exact hv) | exact hv),
        fun vs vs' x h _ hv => (by dsimp only at hv ⊢; first | (rw [← h]; exact hv) | exact hv),
        fun _ _ _ _ _ _ => trivial,
        fun vs vs' x h _ hv => (by dsimp only at hv ⊢; first | (rw [← h]; exact hv) | exact hv), trivial⟩ (HUN.out.up HF.out (below_drewN (Below.refl _ _) 1)) ⟨?_, ?_, ?_, ?_, ?_, ?_, ?_, ?_, ?_, ?_, ?_, trivial⟩ ?_
    · intro vals xw f hf1 hf2 hf3 hI hF
      clear hf2 hf3
      dsimp only [owes4, bare]
      simp only [putsD, Act.put, List.setIfInBounds_toArray, List.set_cons_zero, List.set_cons_succ]
      have hv9 := hI.2.1
      have y0 := (cell_of_block hv9 0).1
      have y1 := (cell_of_block hv9 1).1
      have y2 := (cell_of_block hv9 2).1
      go_wp2
      exact ⟨rfl, rfl, ⟨fun h9 => absurd h9 (Nat.ne_of_beq_eq_false rfl), fun _ => Below.refl _ _⟩, hI⟩
    · intro vals xw f hf1 hf2 hf3 hI hF
      clear hf2 hf3
      dsimp only [owes4, bare]
      simp only [putsD, Act.put, List.setIfInBounds_toArray, List.set_cons_zero, List.set_cons_succ]
      go_wp2
      exact ⟨rfl, rfl, ⟨fun h9 => absurd h9 (Nat.ne_of_beq_eq_false rfl), fun _ => Below.refl _ _⟩, hI⟩
    · intro vals xw f hf1 hf2 hf3 hI hF
      clear hf2 hf3
      simp only [saysD, List.getD_cons_zero, List.getD_cons_succ, and_true] at hF
      dsimp only [owes4, bare]
      simp only [putsD, Act.put, List.setIfInBounds_toArray, List.set_cons_zero, List.set_cons_succ]
      simp only [hF]
      go_wp2
      exact ⟨rfl, rfl, ⟨fun h9 => absurd h9 (Nat.ne_of_beq_eq_false rfl), fun _ => Below.refl _ _⟩, hI⟩
    · intro vals xw f hf1 hf2 hf3 hI hF
      clear hf2 hf3
      simp only [saysD, List.getD_cons_zero, List.getD_cons_succ, and_true] at hF
      have e1 := hF
      dsimp only [owes4, bare]
      simp only [putsD, Act.put, List.setIfInBounds_toArray, List.set_cons_zero, List.set_cons_succ]
      simp only [e1]
      have HI := Lib.hid hI
      have hb0 := HBX.out xw _ hI
      have HB0 := Lib.hid hb0
      have hsz9 := hI.2.2.2.2.2
      clear hI hb0
      go_wp2_with fail
      refine (HFI.out xw).mono ?_
      rintro e wx ⟨B9, d9, rfl, h2, h3, h4⟩
      have H3 := Lib.hid h3
      have H4 := Lib.hid h4
      clear h3 h4
      go_wp2
      exact ⟨rfl, ⟨B9, d9, rfl, h2, H3.out.mono fun b hb => .inr ⟨Nat.le_trans hsz9 hb.1, hb.2.1⟩⟩, ⟨fun h9 => absurd h9 (Nat.ne_of_beq_eq_false rfl), fun _ => H4.out⟩, HI.out.up HF.out H4.out⟩
    · intro vals xw f hf1 hf2 hf3 hI hF
      clear hf2 hf3
      dsimp only [owes4, bare]
      simp only [putsD, Act.put, List.setIfInBounds_toArray, List.set_cons_zero, List.set_cons_succ]
      go_wp2
      exact ⟨rfl, rfl, ⟨fun h9 => absurd h9 (Nat.ne_of_beq_eq_false rfl), fun _ => Below.refl _ _⟩, hI⟩
    · intro vals xw f hf1 hf2 hf3 hI hF
      clear hf2 hf3
      simp only [saysD, List.getD_cons_zero, List.getD_cons_succ, and_true] at hF
      have e1 := hF
      dsimp only [owes4, bare]
      simp only [putsD, Act.put, List.setIfInBounds_toArray, List.set_cons_zero, List.set_cons_succ]
      simp only [e1]
      have HI := Lib.hid hI
      have hb0 := HBX.out xw _ hI
      have HB0 := Lib.hid hb0
      have hsz9 := hI.2.2.2.2.2
      clear hI hb0
      go_wp2_with fail
      refine (HTU.out xw HB0.out).mono ?_
      rintro e wx ⟨B9, d9, rfl, h2, h3, h4⟩
      have H3 := Lib.hid h3
      have H4 := Lib.hid h4
      clear h3 h4
      go_wp2
      exact ⟨rfl, ⟨B9, d9, rfl, h2, H3.out.mono fun b hb => .inr ⟨Nat.le_trans hsz9 hb.1, hb.2.1⟩⟩, ⟨fun h9 => absurd h9 (Nat.ne_of_beq_eq_false rfl), fun _ => H4.out⟩, HI.out.up HF.out H4.out⟩
    · intro vals xw f hf1 hf2 hf3 hI hF
      clear hf2 hf3
      simp only [saysD, List.getD_cons_zero, List.getD_cons_succ, and_true] at hF
      obtain ⟨e1, ⟨B1, d1, e2, h2, h3⟩, ⟨B2, d2, e3, h4, h5⟩⟩ := hF
      dsimp only [owes4, bare]
      simp only [putsD, Act.put, List.setIfInBounds_toArray, List.set_cons_zero, List.set_cons_succ]
      simp only [e1, e2, e3]
      have HI := Lib.hid hI
      have hsz9 := hI.2.2.2.2.2
      have HC := Lib.hid (HADD.out A c B1 B2 d1 d2 xw hI.2.2.2.2.1 (fun b hb => Nat.lt_of_lt_of_le (HFX.out b hb) hsz9) HNIL.out (h3.mono fun b hb => hb.elim (fun h => h.elim) (fun h => h.2)) (h5.mono fun b hb => hb.elim (fun h => h.elim) (fun h => h.2)))
      clear hI h3 h5
      go_wp2_with fail
      refine HC.out.mono ?_
      rintro e wx ⟨A9, c9, B9, d9, rfl, h6, h7, h8, h9, h10, h11⟩
      have H7 := Lib.hid h7
      have H9 := Lib.hid h9
      have H10 := Lib.hid h10
      have H11 := Lib.hid h11
      clear h7 h9 h10 h11 HC
      go_wp2
      exact ⟨rfl, ⟨⟨A9, c9, B9, d9, rfl, h6, H7.out.mono fun b hb => hb.imp id fun z => ⟨Nat.le_trans hsz9 z.1, z.2⟩, h8, H9.out.mono fun b hb => .inr ⟨Nat.le_trans hsz9 hb.1, hb.2⟩, Nat.le_trans hsz9 H11.out.size⟩, H10.out⟩, ⟨fun h9 => absurd h9 (Nat.ne_of_beq_eq_false rfl), fun _ => H11.out⟩, HI.out.up HF.out H11.out⟩
    · intro vals xw f hf1 hf2 hf3 hI hF
      clear hf2 hf3
      simp only [saysD, List.getD_cons_zero, List.getD_cons_succ, and_true] at hF
      obtain ⟨⟨A9, c9, B9, d9, e1, h2, h3, h4, h5, h6⟩, -⟩ := hF
      dsimp only [owes4, bare]
      simp only [putsD, Act.put, List.setIfInBounds_toArray, List.set_cons_zero, List.set_cons_succ]
      simp only [e1]
      go_wp2
      exact ⟨rfl, ⟨A9, c9, rfl, h2, h3, h6⟩, ⟨fun h9 => absurd h9 (Nat.ne_of_beq_eq_false rfl), fun _ => Below.refl _ _⟩, hI⟩
    · intro vals xw f hf1 hf2 hf3 hI hF
      clear hf2 hf3
      simp only [saysD, List.getD_cons_zero, List.getD_cons_succ, and_true] at hF
      obtain ⟨⟨A9, c9, B9, d9, e1, h2, h3, h4, h5, h6⟩, h7⟩ := hF
      dsimp only [owes4, bare]
      simp only [putsD, Act.put, List.setIfInBounds_toArray, List.set_cons_zero, List.set_cons_succ]
      simp only [e1]
      go_wp2
      exact ⟨rfl, ⟨⟨B9, d9, rfl, h4, h5⟩, h7⟩, ⟨fun h9 => absurd h9 (Nat.ne_of_beq_eq_false rfl), fun _ => Below.refl _ _⟩, hI⟩
    · intro vals xw f hf1 hf2 hf3 hI hF
      clear hf2 hf3
      simp only [saysD, List.getD_cons_zero, List.getD_cons_succ, and_true] at hF
      obtain ⟨A9, c9, e1, h2, h3, h4⟩ := hF
      dsimp only [owes4, bare]
      simp only [putsD, Act.put, List.setIfInBounds_toArray, List.set_cons_zero, List.set_cons_succ]
      simp only [e1]
      rw [hf1] at hI
      have HI := Lib.hid hI
      have hr9 := hI.2.2.1 rfl
      have r0 := (cell_of_block hr9 0).1
      have r1 := (cell_of_block hr9 1).1
      have r2 := (cell_of_block hr9 2).1
      have rf0 := (cell_of_block hr9 0).2
      have rf1 := (cell_of_block hr9 1).2
      have rf2 := (cell_of_block hr9 2).2
      have H3 := Lib.hid h3
      clear hI hr9 h3 h4
      go_wp2
      have hst := HI.out.st (A2 := A9) (c2 := c9) HF.out HXS.out H3.out h2
      exact ⟨rfl, trivial, ⟨fun _ => hst.2, fun h9 => absurd rfl h9⟩, show UnI F w X0 k A c T.1 (did f 9 9) _ from (by rw [did_same]; exact hst.1)⟩
    · intro vals xw f hf1 hf2 hf3 hI hF
      clear hf2 hf3
      simp only [saysD, List.getD_cons_zero, List.getD_cons_succ, and_true] at hF
      obtain ⟨⟨B9, d9, e1, h2, h3⟩, h7⟩ := hF
      dsimp only [owes4, bare]
      simp only [putsD, Act.put, List.setIfInBounds_toArray, List.set_cons_zero, List.set_cons_succ]
      simp only [e1]
      go_wp2
      exact ⟨rfl, ⟨⟨B9, d9, rfl, h2, h3⟩, h7⟩, ⟨fun h9 => absurd h9 (Nat.ne_of_beq_eq_false rfl), fun _ => Below.refl _ _⟩, hI⟩
    · intro vals xw f hall hI hF
      rw [show List.range _ = [0, 1, 2, 3, 4, 5, 6, 7, 8, 9, 10] from rfl] at hF
      simp only [says, List.getD_cons_zero, List.getD_cons_succ, and_true] at hF
      have i9 : UnI F w X0 k A c T.1 (f 9) xw := hI
      rw [hall 9 (by decide)] at i9
      obtain ⟨i1, i2, _, i4, i5, i6⟩ := i9
      obtain ⟨A8, c8, g1, g2, g3⟩ := i4 rfl
      have hrow9 : URow X0 T.2 (vals 10) xw ∧ ∀ m ∈ T.2, RB m := by obtain ⟨_, _, _, _, _, _, _, _, _, _, h9⟩ := hF; exact h9
      have HRB9 := Lib.hid hrow9.2
      obtain ⟨B8, d8, e8, hd8, hs8⟩ := hrow9.1
      clear hrow9
      simp only [putsD, Act.put, List.setIfInBounds_toArray, List.set_cons_zero, List.set_cons_succ]
      simp only [e8]
      have k5 := (cell_of_block g1 0).1
      have k6 := (cell_of_block g1 1).1
      have k7 := (cell_of_block g1 2).1
      have kf5 := (cell_of_block g1 0).2
      have kf6 := (cell_of_block g1 1).2
      have kf7 := (cell_of_block g1 2).2
      have I1 := Lib.hid i1
      have G3 := Lib.hid g3
      have HS8 := Lib.hid hs8
      clear hI hF i1 i2 i4 i5 g1 g3 hs8 e8
      go_wp2
      refine bodyPost_ret (v := .tuple #[.agg #[.int .i64 T.1.1.ins, .slice A8 T.1.1.gs.length c8, .bool T.1.2], .slice B8 (T.2).length d8]) (by simp [results, Tryd.results68, go_sem, k5, k6, k7, kf5, kf6, kf7]) rfl ?_
      exact ⟨A8, c8, B8, d8, rfl, g2, G3.out.mono fun b hb => hb.imp id fun h9 => ⟨by have := HXS.out; omega, h9.2⟩, hd8, HS8.out.mono fun b hb => hb.elim (fun h => h.elim) fun h9 => ⟨by have := HXS.out; omega, h9.2⟩, HRB9.out, I1.out⟩
end Go.Proofs.YtjghcaghigebjaaDoor

/-! The reference's BitsUn. -/
namespace Go.Proofs.YtjghcaghigebjaaDoor
open Go Go.RowKit

def bitsUnR (n : N) (op : Int) (xs : List Int) : N × List Int := bitsOk n (goodL n xs && opUn op) (unP op xs)
theorem sumP_len {σ : Type} {o : Ops σ} : ∀ (xs ys : List Int) (c : Int) (s : σ), xs.length = ys.length → (run o (sumP xs ys c) s).2.length = xs.length
  | [], [], _, _, _ => rfl
  | x :: xs, y :: ys, c, s, h => by
    simp only [sumP, run_bind, run, List.length_cons]
    rw [sumP_len xs ys _ _ (by simpa using h)]
  | [], _ :: _, _, _, h => by simp at h
  | _ :: _, [], _, _, h => by simp at h
theorem sumP_nb : ∀ (xs ys : List Int) (c : Int) (k : N × Bool), NB k.1 → RB c → (∀ x ∈ xs, RB x) → (∀ y ∈ ys, RB y) → NB (run opsR (sumP xs ys c) k).1.1
  | [], [], _, k, h, _, _, _ => h
  | x :: xs, y :: ys, c, k, h, hc, hx, hy => by
    have x0 := hx _ (.head _)
    have y0 := hy _ (.head _)
    have m := opsR_xor_nb (k := k) (x := x) (y := y) h x0 y0
    have u := opsR_xor_nb m.1 m.2 hc
    have p := opsR_and_nb u.1 x0 y0
    have q := opsR_and_nb p.1 m.2 hc
    have g := or_rb q.1 p.2 q.2
    simp only [sumP, run_bind, run]
    exact sumP_nb xs ys _ _ g.1 g.2 (fun z hz => hx z (.tail _ hz)) (fun z hz => hy z (.tail _ hz))
  | [], _ :: _, _, k, h, _, _, _ => h
  | _ :: _, [], _, k, h, _, _, _ => h
theorem unP_len {σ : Type} {o : Ops σ} (op : Int) (xs : List Int) (s : σ) : (run o (unP op xs) s).2.length = xs.length := by
  unfold unP
  split
  · simp [run]
  · rw [sumP_len _ _ _ _ (by simp)]; simp
theorem unP_nb {op : Int} {xs : List Int} {k : N × Bool} (h : NB k.1) (hx : ∀ x ∈ xs, RB x) : NB (run opsR (unP op xs) k).1.1 := by
  unfold unP
  split
  · exact h
  · exact sumP_nb _ _ _ _ h (by unfold RB; omega) (fun x hx => by rw [List.eq_of_mem_replicate hx]; unfold RB; omega) (fun y hy => by obtain ⟨x, hx', rfl⟩ := List.mem_map.1 hy; exact (hx x hx').neg)
set_option maxRecDepth 100000 in
set_option maxHeartbeats 4000000 in
theorem specBitsUn_any (n : N) (op : Int) (xs : List Int) (A X : Option Addr) (c cx : Nat) (w : World) (h : Lay.gate.Rd w A n.gs) (hn : n.gs.length ≤ 1048576) (hA : A = none → n.gs.length = 0) (hi : okInts n)
    (hX : Lay.int.Rd w X xs) (hxi : i64s xs) (hop : okInt op) (hlx : xs.length ≤ 1048576) :
    Calls Tryd.prog 32 #[.agg #[.int .i64 n.ins, .slice A n.gs.length c], .int .i64 op, .slice X xs.length cx] w (RetBits (pickN (netOk n) (bitsUnR n op xs)) w) := by
  obtain ⟨hW, hB0, hB1, hWS⟩ := two_boxes w (.cells #[.int .i64 n.ins, .slice A n.gs.length c] 29) (.cells #[.int .i64 0, .slice none 0 0] 29)
  have HW := Lib.hid hW
  have HV := Lib.hid hB0
  have HR := Lib.hid hB1
  have HG := Lib.hid (h.up hW)
  have HX := Lib.hid (hX.up hW)
  have HI := Lib.hid hi
  have HXI := Lib.hid hxi
  unfold okInt at hop
  obtain ⟨q0, q1⟩ := hop
  have HWS := Lib.hid hWS
  have z0 := (cell_of_block hB0 0).1
  have z1 := (cell_of_block hB0 1).1
  obtain ⟨out, hout⟩ : ∃ out, out = pickN (netOk n) (bitsUnR n op xs) := ⟨_, rfl⟩
  rw [← hout]
  have HOUT := Lib.hid hout
  clear hout h hi hX hxi hB0 hB1 hW hWS
  have HCN := Lib.hid (specNetOk_any A c n _ HG.out hn HI.out)
  go_enter Tryd.func32, Tryd.ntmps32
  go_wp2_with fail
  refine HCN.out.mono ?_
  generalize hX0 : (w.alloc (.cells #[.int .i64 n.ins, .slice A n.gs.length c] 29)).alloc (.cells #[.int .i64 0, .slice none 0 0] 29) = X0 at *
  clear hX0
  rintro e u1 ⟨rfl, hb9⟩
  clear HCN
  clear z0 z1
  have HV := Lib.hid ((hb9.block _ (lt_of_block HV.out)).trans HV.out)
  have HR := Lib.hid ((hb9.block _ (lt_of_block HR.out)).trans HR.out)
  have HW := Lib.hid (bthen HW.out hb9)
  have HG := Lib.hid (HG.out.up hb9)
  have HX := Lib.hid (HX.out.up hb9)
  clear hb9
  have z0 := (cell_of_block HV.out 0).1
  have z1 := (cell_of_block HV.out 1).1
  rcases hok : netOk n with _ | _
  · have hal : Below u1.heap.size u1 (u1.alloc (.cells #[] 3)) := (Below.refl _ _).alloc (Nat.le_refl _) _
    have hr9 := (hal.block _ (lt_of_block HR.out)).trans HR.out
    have r0 := (cell_of_block hr9 0).1
    have r1 := (cell_of_block hr9 1).1
    have rf0 := (cell_of_block hr9 0).2
    have rf1 := (cell_of_block hr9 1).2
    have hs1 := heap_set_same _ (w.heap.size + 1) 0 (.int .i64 0) _ _ hr9
    have hs2 := heap_set_same _ (w.heap.size + 1) 1 (.slice none 0 0) _ _ hs1
    have HS2 := Lib.hid hs2
    have HAL := Lib.hid hal
    clear hs1 hs2 hr9 hal
    go_wp2
    have k5 := (cell_of_block HS2.out 0).1
    have k6 := (cell_of_block HS2.out 1).1
    have kf5 := (cell_of_block HS2.out 0).2
    have kf6 := (cell_of_block HS2.out 1).2
    refine bodyPost_ret (v := .tuple #[.agg #[.int .i64 0, .slice none 0 0], .slice (some ⟨u1.heap.size, 0, none⟩) 0 0]) (by simp [results, Tryd.results32, go_sem, k5, k6, kf5, kf6]) rfl ?_
    rw [show out = (⟨0, []⟩, []) from by rw [HOUT.out, hok]; rfl]
    exact ⟨none, some ⟨u1.heap.size, 0, none⟩, 0, 0, rfl, Nat.zero_le _, Nat.zero_le _, .nil _ _ _ _, .nil _ _ _ _, below_set (below_set (bthen HW.out HAL.out) (by show w.heap.size ≤ w.heap.size + 1; omega) _) (by show w.heap.size ≤ w.heap.size + 1; omega) _, apart_nil rfl⟩
  have HOK := Lib.hid hok
  have HOUT : Hid (out = bitsUnR n op xs) := Lib.hid (by rw [HOUT.out, hok]; rfl)
  have hnb : NB n := by have := (netOk_iff n).1 hok; exact ⟨this.1, this.2.1, this.2.2.1⟩
  obtain ⟨n0, n1, n2⟩ := hnb
  clear hok
  have HC := Lib.hid (l7Right_any A X c cx n xs u1 HX.out HXI.out hlx hn n0 (by omega))
  go_wp2_with fail
  refine HC.out.mono ?_
  rintro e u2 ⟨rfl, hb9⟩
  clear HC z0 z1
  have HV := Lib.hid ((hb9.block _ (lt_of_block HV.out)).trans HV.out)
  have HR := Lib.hid ((hb9.block _ (lt_of_block HR.out)).trans HR.out)
  have HW := Lib.hid (bthen HW.out hb9)
  have HG := Lib.hid (HG.out.up hb9)
  have HX := Lib.hid (HX.out.up hb9)
  clear hb9
  have z0 := (cell_of_block HV.out 0).1
  have z1 := (cell_of_block HV.out 1).1
  rcases hg : goodL n xs with _ | _
  · have hal : Below u2.heap.size u2 (u2.alloc (.cells #[] 3)) := (Below.refl _ _).alloc (Nat.le_refl _) _
    have hr9 := (hal.block _ (lt_of_block HR.out)).trans HR.out
    have r0 := (cell_of_block hr9 0).1
    have r1 := (cell_of_block hr9 1).1
    have rf0 := (cell_of_block hr9 0).2
    have rf1 := (cell_of_block hr9 1).2
    have hs1 := heap_set_same _ (w.heap.size + 1) 0 (.int .i64 0) _ _ hr9
    have hs2 := heap_set_same _ (w.heap.size + 1) 1 (.slice none 0 0) _ _ hs1
    have HS2 := Lib.hid hs2
    have HAL := Lib.hid hal
    clear hs1 hs2 hr9 hal
    go_wp2
    have k5 := (cell_of_block HS2.out 0).1
    have k6 := (cell_of_block HS2.out 1).1
    have kf5 := (cell_of_block HS2.out 0).2
    have kf6 := (cell_of_block HS2.out 1).2
    refine bodyPost_ret (v := .tuple #[.agg #[.int .i64 0, .slice none 0 0], .slice (some ⟨u2.heap.size, 0, none⟩) 0 0]) (by simp [results, Tryd.results32, go_sem, k5, k6, kf5, kf6]) rfl ?_
    rw [show out = (⟨0, []⟩, []) from by rw [HOUT.out]; unfold bitsUnR; rw [hg]; rfl]
    exact ⟨none, some ⟨u2.heap.size, 0, none⟩, 0, 0, rfl, Nat.zero_le _, Nat.zero_le _, .nil _ _ _ _, .nil _ _ _ _, below_set (below_set (bthen HW.out HAL.out) (by show w.heap.size ≤ w.heap.size + 1; omega) _) (by show w.heap.size ≤ w.heap.size + 1; omega) _, apart_nil rfl⟩
  have HGX := Lib.hid hg
  clear hg
  by_cases ho : opUn op = true
  rotate_left
  · have hne : op ≠ 1 ∧ op ≠ 2 := by refine ⟨fun e => ho (by rw [e]; rfl), fun e => ho (by rw [e]; rfl)⟩
    have HO := Lib.hid (show opUn op = false by simpa using ho)
    obtain ⟨ho1, ho2⟩ := hne
    have e1 : (op != 1) = true := by simpa using ho1
    have e2 : (op != 2) = true := by simpa using ho2
    clear ho ho1 ho2
    have hal : Below u2.heap.size u2 (u2.alloc (.cells #[] 3)) := (Below.refl _ _).alloc (Nat.le_refl _) _
    have hr9 := (hal.block _ (lt_of_block HR.out)).trans HR.out
    have r0 := (cell_of_block hr9 0).1
    have r1 := (cell_of_block hr9 1).1
    have rf0 := (cell_of_block hr9 0).2
    have rf1 := (cell_of_block hr9 1).2
    have hs1 := heap_set_same _ (w.heap.size + 1) 0 (.int .i64 0) _ _ hr9
    have hs2 := heap_set_same _ (w.heap.size + 1) 1 (.slice none 0 0) _ _ hs1
    have HS2 := Lib.hid hs2
    have HAL := Lib.hid hal
    clear hs1 hs2 hr9 hal
    go_wp2
    have k5 := (cell_of_block HS2.out 0).1
    have k6 := (cell_of_block HS2.out 1).1
    have kf5 := (cell_of_block HS2.out 0).2
    have kf6 := (cell_of_block HS2.out 1).2
    refine bodyPost_ret (v := .tuple #[.agg #[.int .i64 0, .slice none 0 0], .slice (some ⟨u2.heap.size, 0, none⟩) 0 0]) (by simp [results, Tryd.results32, go_sem, k5, k6, kf5, kf6]) rfl ?_
    rw [show out = (⟨0, []⟩, []) from by rw [HOUT.out]; unfold bitsUnR bitsOk; rw [HO.out]; simp]
    exact ⟨none, some ⟨u2.heap.size, 0, none⟩, 0, 0, rfl, Nat.zero_le _, Nat.zero_le _, .nil _ _ _ _, .nil _ _ _ _, below_set (below_set (bthen HW.out HAL.out) (by show w.heap.size ≤ w.heap.size + 1; omega) _) (by show w.heap.size ≤ w.heap.size + 1; omega) _, apart_nil rfl⟩
  have HOR : Hid (op = 1 ∨ op = 2) := Lib.hid (by unfold opUn at ho; simpa using ho)
  have HO := Lib.hid ho
  clear ho
  obtain ⟨l1, l2, m1⟩ := goodL_iff.1 HGX.out
  have hc9 := (l7Un_any (fun b => b < u2.heap.size) A c (n, true) op X cx xs u2 HG.out (fun _ h => h) hA ⟨n0, n1, n2⟩ HOR.out HX.out (fun x hx => (mark_mb ⟨n0, n1, n2⟩ (m1 x hx)).rb) (by omega))
  dsimp only at hc9
  have HC := Lib.hid hc9
  clear hc9
  have HTT := Lib.hid (told_out (n := n) (unP op xs))
  have HLN := Lib.hid (unP_len (o := opsR) op xs (n, true))
  have HNN : Hid (NB (run opsR (unP op xs) (n, true)).1.1) := Lib.hid (unP_nb ⟨n0, n1, n2⟩ (fun x hx => (mark_mb ⟨n0, n1, n2⟩ (m1 x hx)).rb))
  have HOUT2 : Hid (out = toldR (run opsR (unP op xs) (n, true))) := Lib.hid (by rw [HOUT.out]; unfold bitsUnR bitsOk; rw [HGX.out, HO.out]; exact HTT.out.symm)
  clear m1 HTT HOUT
  generalize run opsR (unP op xs) (n, true) = T at *
  have hor := HOR.out
  rcases hor with rfl | rfl
  · go_wp2_with fail
    refine HC.out.mono ?_
    rintro e u5 ⟨A5, c5, B5, d5, rfl, h1, h2, h3, h4, h5, hb9⟩
    have H2 := Lib.hid (h2.mono fun b hb => hb.elim (fun h9 => Nat.lt_of_lt_of_le h9 hb9.size) (fun h9 => h9.2))
    have H4 := Lib.hid (h4.mono fun b hb => hb.2)
    clear h2 h4 h5 HC z0 z1
    have HV := Lib.hid ((hb9.block _ (lt_of_block HV.out)).trans HV.out)
    have HR := Lib.hid ((hb9.block _ (lt_of_block HR.out)).trans HR.out)
    have HW := Lib.hid (bthen HW.out hb9)
    clear hb9
    have hbn : B5 = none → T.2.length = 0 := fun e => by
      rcases Nat.eq_zero_or_pos T.2.length with h0 | h0
      · exact h0
      · obtain ⟨ad, e9, _⟩ := H4.out h0; rw [e] at e9; cases e9
    have hln := HLN.out
    have hnn := HNN.out.2.2
    have HC := Lib.hid (l7Told_any A5 B5 c5 d5 T.1 T.2 u5 H2.out h1 (by omega) H4.out hbn (by omega))
    clear hbn hnn hln
    go_wp2_with fail
    refine HC.out.mono ?_
    rw [show toldR (T.1, T.2) = out from HOUT2.out.symm]
    rintro e u6 ⟨A6, B6, c6, d6, rfl, g1, g2, g3, g4, hb9, hap9⟩
    have G3 := Lib.hid g3
    have G4 := Lib.hid g4
    have HS := Lib.hid HW.out.size
    have HSZ5 := Lib.hid (show w.heap.size + 1 < u5.heap.size from lt_of_block HR.out)
    have HR := Lib.hid ((hb9.block _ (lt_of_block HR.out)).trans HR.out)
    have HW := Lib.hid (bthen HW.out hb9)
    clear hb9 g3 g4 HC
    have r0 := (cell_of_block HR.out 0).1
    have r1 := (cell_of_block HR.out 1).1
    have rf0 := (cell_of_block HR.out 0).2
    have rf1 := (cell_of_block HR.out 1).2
    go_wp2
    have hs1 := heap_set_same u6 (w.heap.size + 1) 0 (.int .i64 out.1.ins) _ _ HR.out
    have hs2 := heap_set_same _ (w.heap.size + 1) 1 (.slice A6 out.1.gs.length c6) _ _ hs1
    have hgr : u6.grownBy ((u6.setCell ⟨w.heap.size + 1, 0, none⟩ (.int .i64 out.1.ins)).setCell ⟨w.heap.size + 1, 1, none⟩ (.slice A6 out.1.gs.length c6)) (some (w.heap.size + 1)) := only_setCell (only_setCell (World.grownBy.refl _ _) _ _) _ _
    have k5 := (cell_of_block hs2 0).1
    have k6 := (cell_of_block hs2 1).1
    have kf5 := (cell_of_block hs2 0).2
    have kf6 := (cell_of_block hs2 1).2
    refine bodyPost_ret (v := .tuple #[.agg #[.int .i64 out.1.ins, .slice A6 out.1.gs.length c6], .slice B6 out.2.length d6]) (by simp [results, Tryd.results32, go_sem, k5, k6, kf5, kf6]) rfl ?_
    exact ⟨A6, B6, c6, d6, rfl, g1, g2, own_mono9 (own_grown9 G3.out hgr HSZ5.out) HS.out, own_mono9 (own_grown9 G4.out hgr HSZ5.out) HS.out, HW.out.grown hgr HW.out.size (fun k hk => by injection hk with hk; omega), hap9⟩
  · go_wp2_with fail
    refine HC.out.mono ?_
    rintro e u5 ⟨A5, c5, B5, d5, rfl, h1, h2, h3, h4, h5, hb9⟩
    have H2 := Lib.hid (h2.mono fun b hb => hb.elim (fun h9 => Nat.lt_of_lt_of_le h9 hb9.size) (fun h9 => h9.2))
    have H4 := Lib.hid (h4.mono fun b hb => hb.2)
    clear h2 h4 h5 HC z0 z1
    have HV := Lib.hid ((hb9.block _ (lt_of_block HV.out)).trans HV.out)
    have HR := Lib.hid ((hb9.block _ (lt_of_block HR.out)).trans HR.out)
    have HW := Lib.hid (bthen HW.out hb9)
    clear hb9
    have hbn : B5 = none → T.2.length = 0 := fun e => by
      rcases Nat.eq_zero_or_pos T.2.length with h0 | h0
      · exact h0
      · obtain ⟨ad, e9, _⟩ := H4.out h0; rw [e] at e9; cases e9
    have hln := HLN.out
    have hnn := HNN.out.2.2
    have HC := Lib.hid (l7Told_any A5 B5 c5 d5 T.1 T.2 u5 H2.out h1 (by omega) H4.out hbn (by omega))
    clear hbn hnn hln
    go_wp2_with fail
    refine HC.out.mono ?_
    rw [show toldR (T.1, T.2) = out from HOUT2.out.symm]
    rintro e u6 ⟨A6, B6, c6, d6, rfl, g1, g2, g3, g4, hb9, hap9⟩
    have G3 := Lib.hid g3
    have G4 := Lib.hid g4
    have HS := Lib.hid HW.out.size
    have HSZ5 := Lib.hid (show w.heap.size + 1 < u5.heap.size from lt_of_block HR.out)
    have HR := Lib.hid ((hb9.block _ (lt_of_block HR.out)).trans HR.out)
    have HW := Lib.hid (bthen HW.out hb9)
    clear hb9 g3 g4 HC
    have r0 := (cell_of_block HR.out 0).1
    have r1 := (cell_of_block HR.out 1).1
    have rf0 := (cell_of_block HR.out 0).2
    have rf1 := (cell_of_block HR.out 1).2
    go_wp2
    have hs1 := heap_set_same u6 (w.heap.size + 1) 0 (.int .i64 out.1.ins) _ _ HR.out
    have hs2 := heap_set_same _ (w.heap.size + 1) 1 (.slice A6 out.1.gs.length c6) _ _ hs1
    have hgr : u6.grownBy ((u6.setCell ⟨w.heap.size + 1, 0, none⟩ (.int .i64 out.1.ins)).setCell ⟨w.heap.size + 1, 1, none⟩ (.slice A6 out.1.gs.length c6)) (some (w.heap.size + 1)) := only_setCell (only_setCell (World.grownBy.refl _ _) _ _) _ _
    have k5 := (cell_of_block hs2 0).1
    have k6 := (cell_of_block hs2 1).1
    have kf5 := (cell_of_block hs2 0).2
    have kf6 := (cell_of_block hs2 1).2
    refine bodyPost_ret (v := .tuple #[.agg #[.int .i64 out.1.ins, .slice A6 out.1.gs.length c6], .slice B6 out.2.length d6]) (by simp [results, Tryd.results32, go_sem, k5, k6, kf5, kf6]) rfl ?_
    exact ⟨A6, B6, c6, d6, rfl, g1, g2, own_mono9 (own_grown9 G3.out hgr HSZ5.out) HS.out, own_mono9 (own_grown9 G4.out hgr HSZ5.out) HS.out, HW.out.grown hgr HW.out.size (fun k hk => by injection hk with hk; omega), hap9⟩
end Go.Proofs.YtjghcaghigebjaaDoor
