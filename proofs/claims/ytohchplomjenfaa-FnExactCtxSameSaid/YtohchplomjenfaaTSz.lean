/- Contracts of the laws' sizes: szDeclS, szTermS, szLayerS. -/
import Derived.Test.YtohchplomjenfaaOpenT
import Derived.Test.YtohchplomjenfaaProg
namespace Go.Proofs.Ytohchplomjenfaa
open Go Go.RowKit

def szRes (left : Int) (n : Nat) : Int := if left < n then -1 else left - n
theorem szRes_lt {l : Int} {n : Nat} (h : l < n) : szRes l n = -1 := by simp [szRes, h]
theorem szRes_ge {l : Int} {n : Nat} (h : ¬ l < n) : szRes l n = l - n := by simp [szRes, h]
def wsum {α : Type} (f : α → Nat) : List α → Nat
  | [] => 0
  | x :: xs => f x + wsum f xs
theorem wsum_take {α : Type} (f : α → Nat) : ∀ (xs : List α) (k : Nat) (h : k < xs.length), wsum f (xs.take (k + 1)) = wsum f (xs.take k) + f xs[k]
  | x :: xs, 0, h => by simp [wsum]
  | x :: xs, k + 1, h => by
    have := wsum_take f xs k (by simpa using h)
    simp only [List.take_succ_cons, wsum, List.getElem_cons_succ] at this ⊢
    omega
theorem wsum_le {α : Type} (f : α → Nat) : ∀ (xs : List α) (k : Nat), wsum f (xs.take k) ≤ wsum f xs
  | [], k => by simp [wsum]
  | x :: xs, 0 => by simp [wsum]
  | x :: xs, k + 1 => by
    have := wsum_le f xs k
    simp only [List.take_succ_cons, wsum]; omega
theorem wsum_mem {α : Type} (f : α → Nat) : ∀ {xs : List α} {x : α}, x ∈ xs → f x ≤ wsum f xs
  | y :: xs, x, h => by
    simp only [wsum]
    rcases List.mem_cons.1 h with rfl | h
    · omega
    · have := wsum_mem f h; omega
mutual
def T.w : T → Nat
  | .mk _ _ _ n k => n.size + T.wl k
def T.wl : List T → Nat
  | [] => 0
  | x :: xs => 1 + T.w x + T.wl xs
end
theorem T.wl_eq : ∀ xs : List T, T.wl xs = xs.length + wsum T.w xs
  | [] => by simp [T.wl, wsum]
  | x :: xs => by simp only [T.wl, wsum, List.length_cons, T.wl_eq xs]; omega
theorem T.w_eq (t : T) : t.w = t.name.size + (t.kids.length + wsum T.w t.kids) := by
  cases t; simp only [T.w, T.wl_eq]; rfl
def D.w (d : D) : Nat := d.name.size
def Ly.w (l : Ly) : Nat := (l.ds.length + wsum D.w l.ds) + (l.ts.length + wsum T.w l.ts)
/-- All lists are short. -/
def okT2 (t : T) : Prop := t.kids.length ≤ 1048576 ∧ t.name.size ≤ 1048576
theorem T.small (t : T) (h : t.w ≤ 1048576) : T.All okT2 t := by
  revert h
  refine T.ind (p := fun t => t.w ≤ 1048576 → T.All okT2 t) (fun t ih h => ?_) t
  rw [T.w_eq] at h
  refine .mk t ⟨by omega, by omega⟩ fun k hk => ih k hk ?_
  have := wsum_mem T.w hk
  omega
theorem T.smallS {xs : List T} (h : xs.length + wsum T.w xs ≤ 1048576) : xs.length ≤ 1048576 ∧ ∀ x ∈ xs, T.All okT2 x :=
  ⟨by omega, fun x hx => T.small x (by have := wsum_mem T.w hx; omega)⟩

theorem szDecl_any (d : D) (left : Int) (w : World) (hd : d.name.size ≤ 9223372036854775807) (h0 : 0 ≤ left) (h1 : left ≤ 1048576) :
    Calls Try.prog 87 #[.agg #[.string d.name, .int .i64 d.wide], .int .i64 left] w fun e w' => e = .returned (.int .i64 (szRes left (D.w d))) ∧ Below w.heap.size w w' := by
  by_cases h : left < d.name.size
  all_goals
    go_enter Try.func87, Try.ntmps87
    go_wp2
    go_ret
    exact ⟨ret_int (by unfold szRes D.w; first | rw [if_pos (by omega)] | rw [if_neg (by omega)]), (Below.refl _ _).alloc (Nat.le_refl _) _⟩

set_option maxHeartbeats 400000 in
theorem szDeclS_any (A : Option Addr) (c : Nat) (xs : List D) (left : Int) (F : Nat → Prop) (w : World) (h : Lay.decl.Sl w F A xs) (hF : ∀ b, F b → b < w.heap.size) (ho : ∀ d ∈ xs, d.name.size ≤ 9223372036854775807) (hn : xs.length ≤ 9223372036854775807) (h0 : 0 ≤ left) (h1 : left ≤ 1048576) :
    Calls Try.prog 67 #[.slice A xs.length c, .int .i64 left] w fun e w' => e = .returned (.int .i64 (szRes left (xs.length + wsum D.w xs))) ∧ Below w.heap.size w w' := by
  by_cases hl : left < xs.length
  · have HR := Lib.hid (szRes_lt (l := left) (n := xs.length + wsum D.w xs) (by omega))
    go_enter Try.func67, Try.ntmps67
    go_wp2
    go_ret
    exact ⟨ret_int (by rw [HR.out]), Below.refl _ _⟩
  · go_enter Try.func67, Try.ntmps67
    go_wp2
    go_loopw [1, 5] (fun l i wr => ∃ k : Nat, k ≤ xs.length ∧ i = .int .i64 k ∧ l = .int .i64 (left - xs.length - wsum D.w (xs.take k)) ∧ 0 ≤ left - xs.length - wsum D.w (xs.take k) ∧ Below w.heap.size w wr) (fun _ i _ => xs.length - (intOf i).toNat)
    case atStart => exact ⟨0, Nat.zero_le _, rfl, by simp [wsum], by simp [wsum]; omega, Below.refl _ _⟩
    case round =>
      obtain ⟨k, hk, rfl, rfl, hge, hb⟩ := hrel
      by_cases hlt : k < xs.length
      · have hlater := h.below hb hF
        have hFr : ∀ b, F b → b < wr.heap.size := fun b hb' => Nat.lt_of_lt_of_le (hF b hb') hb.size
        obtain ⟨ad, rfl, hf, c1, c2⟩ := hlater.at_decl hlt
        have hsn := wsum_take D.w xs k hlt
        have hle := wsum_le D.w xs (k + 1)
        have hk1 : (k : Int) < xs.length := by omega
        generalize hL : left - (xs.length : Int) - (wsum D.w (xs.take k) : Int) = L at *
        by_cases hs : L < (D.w xs[k] : Nat)
        · have HX := Lib.hid (szRes_lt hs)
          have HY := Lib.hid (szRes_lt (l := left) (n := xs.length + wsum D.w xs) (by omega))
          have hLb : 0 ≤ L ∧ L ≤ 1048576 := by omega
          obtain ⟨hL0, hL1⟩ := hLb
          clear hsn hle hL hs
          go_wp2_with fail
          refine (szDecl_any xs[k] L _ (ho _ (List.getElem_mem _)) hL0 hL1).mono ?_
          rw [HX.out]
          rintro e w2 ⟨rfl, hb2⟩
          have hbb := bthen hb hb2
          go_wp2
          go_ret
          exact ⟨ret_int (by rw [HY.out]), hbb⟩
        · have HX := Lib.hid (szRes_ge hs)
          have HY := Lib.hid (show left - (xs.length : Int) - (wsum D.w (xs.take (k + 1)) : Int) = L - (D.w xs[k] : Nat) by omega)
          have hLb : 0 ≤ L ∧ L ≤ 1048576 := by omega
          obtain ⟨hL0, hL1⟩ := hLb
          have hwb : ((D.w xs[k] : Nat) : Int) ≤ L := by omega
          clear hsn hle hL hs
          go_wp2_with fail
          refine (szDecl_any xs[k] L _ (ho _ (List.getElem_mem _)) hL0 hL1).mono ?_
          rw [HX.out]
          rintro e w2 ⟨rfl, hb2⟩
          have hbb := bthen hb hb2
          generalize hM : L - ((D.w xs[k] : Nat) : Int) = M at *
          have hM0 : 0 ≤ M := by omega
          have HM := Lib.hid hM
          clear hM hwb
          go_wp2
          go_roundw
          case rel => exact ⟨k + 1, by omega, by go_num, by rw [HY.out], by rw [HY.out]; exact hM0, hbb⟩
          case measure => simp [intOf]; omega
      · have hke : k = xs.length := by omega
        have HE := Lib.hid (show szRes left (xs.length + wsum D.w xs) = left - xs.length - wsum D.w (xs.take k) by rw [szRes_ge (by rw [hke, List.take_length] at hge; omega), hke, List.take_length]; omega)
        go_wp2
        go_ret
        exact ⟨ret_int (by rw [HE.out]), hb⟩

/-- What a term's size is. -/
def SzT (t : T) : Prop := ∀ (A : Option Addr) (c : Nat) (left : Int) (F : Nat → Prop) (w : World), Lay.term.Sl w F A t.kids → (∀ b, F b → b < w.heap.size) → 0 ≤ left → left ≤ 1048576 →
  Calls Try.prog 88 #[.agg #[.int .i64 t.op, .int .i64 t.a, .int .i64 t.b, .string t.name, .slice A t.kids.length c], .int .i64 left] w fun e w' => e = .returned (.int .i64 (szRes left t.w)) ∧ Below w.heap.size w w'

set_option maxHeartbeats 400000 in
theorem szTermS_any (A : Option Addr) (c : Nat) (xs : List T) (left : Int) (F : Nat → Prop) (w : World) (h : Lay.term.Sl w F A xs) (hF : ∀ b, F b → b < w.heap.size) (ho : ∀ t ∈ xs, SzT t) (hn : xs.length ≤ 9223372036854775807) (h0 : 0 ≤ left) (h1 : left ≤ 1048576) :
    Calls Try.prog 68 #[.slice A xs.length c, .int .i64 left] w fun e w' => e = .returned (.int .i64 (szRes left (xs.length + wsum T.w xs))) ∧ Below w.heap.size w w' := by
  by_cases hl : left < xs.length
  · have HR := Lib.hid (szRes_lt (l := left) (n := xs.length + wsum T.w xs) (by omega))
    go_enter Try.func68, Try.ntmps68
    go_wp2
    go_ret
    exact ⟨ret_int (by rw [HR.out]), Below.refl _ _⟩
  · go_enter Try.func68, Try.ntmps68
    go_wp2
    go_loopw [1, 5] (fun l i wr => ∃ k : Nat, k ≤ xs.length ∧ i = .int .i64 k ∧ l = .int .i64 (left - xs.length - wsum T.w (xs.take k)) ∧ 0 ≤ left - xs.length - wsum T.w (xs.take k) ∧ Below w.heap.size w wr) (fun _ i _ => xs.length - (intOf i).toNat)
    case atStart => exact ⟨0, Nat.zero_le _, rfl, by simp [wsum], by simp [wsum]; omega, Below.refl _ _⟩
    case round =>
      obtain ⟨k, hk, rfl, rfl, hge, hb⟩ := hrel
      by_cases hlt : k < xs.length
      · have hlater := h.below hb hF
        have hFr : ∀ b, F b → b < wr.heap.size := fun b hb' => Nat.lt_of_lt_of_le (hF b hb') hb.size
        obtain ⟨ad, A', c', rfl, hf, c1, c2, c3, c4, c5, hcc, hkk⟩ := hlater.at_term hlt
        have hsn := wsum_take T.w xs k hlt
        have hle := wsum_le T.w xs (k + 1)
        have hk1 : (k : Int) < xs.length := by omega
        generalize hL : left - (xs.length : Int) - (wsum T.w (xs.take k) : Int) = L at *
        by_cases hs : L < (T.w xs[k] : Nat)
        · have HX := Lib.hid (szRes_lt hs)
          have HY := Lib.hid (szRes_lt (l := left) (n := xs.length + wsum T.w xs) (by omega))
          have hLb : 0 ≤ L ∧ L ≤ 1048576 := by omega
          obtain ⟨hL0, hL1⟩ := hLb
          clear hsn hle hL hs
          go_wp2_with fail
          refine (ho xs[k] (List.getElem_mem _) A' c' L F _ hkk hFr hL0 hL1).mono ?_
          rw [HX.out]
          rintro e w2 ⟨rfl, hb2⟩
          have hbb := bthen hb hb2
          go_wp2
          go_ret
          exact ⟨ret_int (by rw [HY.out]), hbb⟩
        · have HX := Lib.hid (szRes_ge hs)
          have HY := Lib.hid (show left - (xs.length : Int) - (wsum T.w (xs.take (k + 1)) : Int) = L - (T.w xs[k] : Nat) by omega)
          have hLb : 0 ≤ L ∧ L ≤ 1048576 := by omega
          obtain ⟨hL0, hL1⟩ := hLb
          have hwb : ((T.w xs[k] : Nat) : Int) ≤ L := by omega
          clear hsn hle hL hs
          go_wp2_with fail
          refine (ho xs[k] (List.getElem_mem _) A' c' L F _ hkk hFr hL0 hL1).mono ?_
          rw [HX.out]
          rintro e w2 ⟨rfl, hb2⟩
          have hbb := bthen hb hb2
          generalize hM : L - ((T.w xs[k] : Nat) : Int) = M at *
          have hM0 : 0 ≤ M := by omega
          have HM := Lib.hid hM
          clear hM hwb
          go_wp2
          go_roundw
          case rel => exact ⟨k + 1, by omega, by go_num, by rw [HY.out], by rw [HY.out]; exact hM0, hbb⟩
          case measure => simp [intOf]; omega
      · have hke : k = xs.length := by omega
        have HE := Lib.hid (show szRes left (xs.length + wsum T.w xs) = left - xs.length - wsum T.w (xs.take k) by rw [szRes_ge (by rw [hke, List.take_length] at hge; omega), hke, List.take_length]; omega)
        go_wp2
        go_ret
        exact ⟨ret_int (by rw [HE.out]), hb⟩

theorem szTerm_any (t : T) (ho : okTerm t) : SzT t := by
  revert ho
  refine T.ind (p := fun t => okTerm t → SzT t) (fun t ih ho => ?_) t
  obtain ⟨_, _, _, hnm, hkl⟩ := ho.here
  have ihk : ∀ k ∈ t.kids, SzT k := fun k hk => ih k hk (ho.kid k hk)
  clear ih
  intro A c left F w h hF h0 h1
  have HW := Lib.hid (T.w_eq t)
  unfold maxLen at hnm hkl
  by_cases hl : left < t.name.size
  · have HR := Lib.hid (szRes_lt (l := left) (n := t.w) (by rw [T.w_eq]; omega))
    go_enter Try.func88, Try.ntmps88
    go_wp2
    go_ret
    exact ⟨ret_int (by rw [HR.out]), (Below.refl _ _).alloc (Nat.le_refl _) _⟩
  · have hw : Below w.heap.size w (w.alloc (.cells #[.int .i64 t.op, .int .i64 t.a, .int .i64 t.b, .string t.name, .slice A t.kids.length c] 124)) := (Below.refl _ _).alloc (Nat.le_refl _) _
    go_enter Try.func88, Try.ntmps88
    go_wp2_with fail
    refine (szTermS_any A c t.kids _ F _ (h.below hw hF) (fun b hb => Nat.lt_of_lt_of_le (hF b hb) hw.size) ihk (by omega) (by omega) (by omega)).mono ?_
    by_cases hs : left - (t.name.size : Int) < (t.kids.length + wsum T.w t.kids : Nat)
    · rw [szRes_lt hs]
      have HR := Lib.hid (szRes_lt (l := left) (n := t.w) (by rw [T.w_eq]; omega))
      rintro e w2 ⟨rfl, hb2⟩
      have hbb := bthen hw hb2
      go_wp2
      go_ret
      exact ⟨ret_int (by rw [HR.out]), hbb⟩
    · rw [szRes_ge hs]
      have HR := Lib.hid (show szRes left t.w = left - (t.name.size : Int) - (t.kids.length + wsum T.w t.kids : Nat) by rw [szRes_ge (by rw [T.w_eq]; omega), T.w_eq]; omega)
      rintro e w2 ⟨rfl, hb2⟩
      have hbb := bthen hw hb2
      generalize hM : left - (t.name.size : Int) - ((t.kids.length + wsum T.w t.kids : Nat) : Int) = M at *
      have hM0 : 0 ≤ M := by omega
      have HM := Lib.hid hM
      clear hM
      go_wp2
      go_ret
      exact ⟨ret_int (by rw [HR.out]), hbb⟩

theorem szLayer_any (l : Ly) (ho : okLayer l) (A B : Option Addr) (c d : Nat) (left : Int) (F : Nat → Prop) (w : World) (hA : Lay.decl.Sl w F A l.ds) (hB : Lay.term.Sl w F B l.ts) (hF : ∀ b, F b → b < w.heap.size) (h0 : 0 ≤ left) (h1 : left ≤ 1048576) :
    Calls Try.prog 44 #[.agg #[.slice A l.ds.length c, .slice B l.ts.length d], .int .i64 left] w fun e w' => e = .returned (.int .i64 (szRes left l.w)) ∧ Below w.heap.size w w' := by
  obtain ⟨⟨od1, od2⟩, ot1, ot2⟩ := ho
  unfold maxLen at od1 ot1
  have hod : ∀ x ∈ l.ds, x.name.size ≤ 9223372036854775807 := fun x hx => by have := (od2 x hx).1; unfold maxLen at this; omega
  have hot : ∀ x ∈ l.ts, SzT x := fun x hx => szTerm_any x (ot2 x hx)
  have hw : Below w.heap.size w (w.alloc (.cells #[.slice A l.ds.length c, .slice B l.ts.length d] 72)) := (Below.refl _ _).alloc (Nat.le_refl _) _
  clear od2 ot2
  go_enter Try.func44, Try.ntmps44
  go_wp2_with fail
  refine (szDeclS_any A c l.ds left F _ (hA.below hw hF) (fun b hb => Nat.lt_of_lt_of_le (hF b hb) hw.size) hod (by omega) h0 h1).mono ?_
  by_cases hs : left < (l.ds.length + wsum D.w l.ds : Nat)
  · rw [szRes_lt hs]
    have HR := Lib.hid (szRes_lt (l := left) (n := l.w) (by unfold Ly.w; omega))
    rintro e w2 ⟨rfl, hb2⟩
    have hbb := bthen hw hb2
    go_wp2
    go_ret
    exact ⟨ret_int (by rw [HR.out]), hbb⟩
  · rw [szRes_ge hs]
    rintro e w2 ⟨rfl, hb2⟩
    have hbb := bthen hw hb2
    obtain ⟨hcc, hff⟩ := bcell hb2
    have k1 : w2.cell? ⟨w.heap.size, 1, none⟩ = some (.slice B l.ts.length d) := (hcc _ _ (by simp)).trans (by simp [go_sem])
    have HW := Lib.hid (show l.w = (l.ds.length + wsum D.w l.ds) + (l.ts.length + wsum T.w l.ts) from rfl)
    generalize hM : left - ((l.ds.length + wsum D.w l.ds : Nat) : Int) = M at *
    have hM0 : 0 ≤ M := by omega
    have hM1 : M ≤ 1048576 := by omega
    have HM := Lib.hid hM
    clear hM hcc hff
    go_wp2_with fail
    refine (szTermS_any B d l.ts M F _ (hB.below hbb hF) (fun b hb => Nat.lt_of_lt_of_le (hF b hb) hbb.size) hot (by omega) hM0 hM1).mono ?_
    by_cases hs2 : M < (l.ts.length + wsum T.w l.ts : Nat)
    · rw [szRes_lt hs2]
      have HR := Lib.hid (szRes_lt (l := left) (n := l.w) (by rw [HW.out]; have := HM.out; omega))
      rintro e w3 ⟨rfl, hb3⟩
      have hbc := bthen hbb hb3
      go_wp2
      go_ret
      exact ⟨ret_int (by rw [HR.out]), hbc⟩
    · rw [szRes_ge hs2]
      have HR := Lib.hid (show szRes left l.w = M - (l.ts.length + wsum T.w l.ts : Nat) by rw [szRes_ge (by rw [HW.out]; have := HM.out; omega), HW.out]; have := HM.out; omega)
      rintro e w3 ⟨rfl, hb3⟩
      have hbc := bthen hbb hb3
      generalize hM : M - ((l.ts.length + wsum T.w l.ts : Nat) : Int) = M2 at *
      have hM20 : 0 ≤ M2 := by omega
      have HM2 := Lib.hid hM
      clear hM
      go_wp2
      go_ret
      exact ⟨ret_int (by rw [HR.out]), hbc⟩

set_option maxHeartbeats 400000 in
theorem szLayerS_any (A : Option Addr) (c : Nat) (xs : List Ly) (left : Int) (F : Nat → Prop) (w : World) (h : Lay.layer.Sl w F A xs) (hF : ∀ b, F b → b < w.heap.size) (ho : ∀ t ∈ xs, okLayer t) (hn : xs.length ≤ 9223372036854775807) (h0 : 0 ≤ left) (h1 : left ≤ 1048576) :
    Calls Try.prog 21 #[.slice A xs.length c, .int .i64 left] w fun e w' => e = .returned (.int .i64 (szRes left (xs.length + wsum Ly.w xs))) ∧ Below w.heap.size w w' := by
  by_cases hl : left < xs.length
  · have HR := Lib.hid (szRes_lt (l := left) (n := xs.length + wsum Ly.w xs) (by omega))
    go_enter Try.func21, Try.ntmps21
    go_wp2
    go_ret
    exact ⟨ret_int (by rw [HR.out]), Below.refl _ _⟩
  · go_enter Try.func21, Try.ntmps21
    go_wp2
    go_loopw [1, 5] (fun l i wr => ∃ k : Nat, k ≤ xs.length ∧ i = .int .i64 k ∧ l = .int .i64 (left - xs.length - wsum Ly.w (xs.take k)) ∧ 0 ≤ left - xs.length - wsum Ly.w (xs.take k) ∧ Below w.heap.size w wr) (fun _ i _ => xs.length - (intOf i).toNat)
    case atStart => exact ⟨0, Nat.zero_le _, rfl, by simp [wsum], by simp [wsum]; omega, Below.refl _ _⟩
    case round =>
      obtain ⟨k, hk, rfl, rfl, hge, hb⟩ := hrel
      by_cases hlt : k < xs.length
      · have hlater := h.below hb hF
        have hFr : ∀ b, F b → b < wr.heap.size := fun b hb' => Nat.lt_of_lt_of_le (hF b hb') hb.size
        obtain ⟨ad, A1, c1, A2, c2, rfl, hf, e1, e2, hl1, hl2, s1, s2⟩ := hlater.at_layer hlt
        have hsn := wsum_take Ly.w xs k hlt
        have hle := wsum_le Ly.w xs (k + 1)
        have hk1 : (k : Int) < xs.length := by omega
        generalize hL : left - (xs.length : Int) - (wsum Ly.w (xs.take k) : Int) = L at *
        by_cases hs : L < (Ly.w xs[k] : Nat)
        · have HX := Lib.hid (szRes_lt hs)
          have HY := Lib.hid (szRes_lt (l := left) (n := xs.length + wsum Ly.w xs) (by omega))
          have hLb : 0 ≤ L ∧ L ≤ 1048576 := by omega
          obtain ⟨hL0, hL1⟩ := hLb
          clear hsn hle hL hs
          go_wp2_with fail
          refine (szLayer_any xs[k] (ho _ (List.getElem_mem _)) A1 A2 c1 c2 L F _ s1 s2 hFr hL0 hL1).mono ?_
          rw [HX.out]
          rintro e w2 ⟨rfl, hb2⟩
          have hbb := bthen hb hb2
          go_wp2
          go_ret
          exact ⟨ret_int (by rw [HY.out]), hbb⟩
        · have HX := Lib.hid (szRes_ge hs)
          have HY := Lib.hid (show left - (xs.length : Int) - (wsum Ly.w (xs.take (k + 1)) : Int) = L - (Ly.w xs[k] : Nat) by omega)
          have hLb : 0 ≤ L ∧ L ≤ 1048576 := by omega
          obtain ⟨hL0, hL1⟩ := hLb
          have hwb : ((Ly.w xs[k] : Nat) : Int) ≤ L := by omega
          clear hsn hle hL hs
          go_wp2_with fail
          refine (szLayer_any xs[k] (ho _ (List.getElem_mem _)) A1 A2 c1 c2 L F _ s1 s2 hFr hL0 hL1).mono ?_
          rw [HX.out]
          rintro e w2 ⟨rfl, hb2⟩
          have hbb := bthen hb hb2
          generalize hM : L - ((Ly.w xs[k] : Nat) : Int) = M at *
          have hM0 : 0 ≤ M := by omega
          have HM := Lib.hid hM
          clear hM hwb
          go_wp2
          go_roundw
          case rel => exact ⟨k + 1, by omega, by go_num, by rw [HY.out], by rw [HY.out]; exact hM0, hbb⟩
          case measure => simp [intOf]; omega
      · have hke : k = xs.length := by omega
        have HE := Lib.hid (show szRes left (xs.length + wsum Ly.w xs) = left - xs.length - wsum Ly.w (xs.take k) by rw [szRes_ge (by rw [hke, List.take_length] at hge; omega), hke, List.take_length]; omega)
        go_wp2
        go_ret
        exact ⟨ret_int (by rw [HE.out]), hb⟩

end Go.Proofs.Ytohchplomjenfaa
