/- FnExactCtxNew: a context of one layer that holds nothing. -/
import Derived.Test.YtohchplomjenfaaLater
import Derived.Test.YtohchplomjenfaaRows
import Derived.Test.YtohchplomjenfaaOpen
namespace Go.Proofs.Ytohchplomjenfaa
open Go Go.RowKit Go.ChangeShapes Go.WideShapes Go.ChangeAt

theorem eqDeclS_nil (w : World) : Calls Try.prog 64 #[.slice none 0 0, .slice none 0 0] w fun e w' => e = .returned (.bool true) ∧ w' = w := by
  go_enter Try.func64, Try.ntmps64
  go_wp2
  go_loopw [5] (fun i wr => i = .int .i64 0 ∧ wr = w) (fun _ _ => 0)
  case atStart => exact ⟨rfl, rfl⟩
  case round =>
    obtain ⟨rfl, rfl⟩ := hrel
    go_wp2
    go_ret
    exact ⟨rfl, rfl⟩
theorem eqTermS_nil (w : World) : Calls Try.prog 65 #[.slice none 0 0, .slice none 0 0] w fun e w' => e = .returned (.bool true) ∧ w' = w := by
  go_enter Try.func65, Try.ntmps65
  go_wp2
  go_loopw [5] (fun i wr => i = .int .i64 0 ∧ wr = w) (fun _ _ => 0)
  case atStart => exact ⟨rfl, rfl⟩
  case round =>
    obtain ⟨rfl, rfl⟩ := hrel
    go_wp2
    go_ret
    exact ⟨rfl, rfl⟩
theorem markDeclS_nil (k : Int) (w : World) : Calls Try.prog 40 #[.slice none 0 0, .int .i64 k] w fun e w' => e = .returned (.int .i64 k) ∧ w' = w := by
  go_enter Try.func40, Try.ntmps40
  go_wp2
  go_loopw [1, 5] (fun kk i wr => kk = .int .i64 k ∧ i = .int .i64 0 ∧ wr = w) (fun _ _ _ => 0)
  case atStart => exact ⟨rfl, rfl, rfl⟩
  case round =>
    obtain ⟨rfl, rfl, rfl⟩ := hrel
    go_wp2
    go_ret
    exact ⟨rfl, rfl⟩
theorem markTermS_nil (k : Int) (w : World) : Calls Try.prog 41 #[.slice none 0 0, .int .i64 k] w fun e w' => e = .returned (.int .i64 k) ∧ w' = w := by
  go_enter Try.func41, Try.ntmps41
  go_wp2
  go_loopw [1, 5] (fun kk i wr => kk = .int .i64 k ∧ i = .int .i64 0 ∧ wr = w) (fun _ _ _ => 0)
  case atStart => exact ⟨rfl, rfl, rfl⟩
  case round =>
    obtain ⟨rfl, rfl, rfl⟩ := hrel
    go_wp2
    go_ret
    exact ⟨rfl, rfl⟩
theorem heldDeclS_nil (k : Int) (w : World) : Calls Try.prog 42 #[.slice none 0 0, .int .i64 k] w fun e w' => e = .returned (.int .i64 k) ∧ w' = w := by
  go_enter Try.func42, Try.ntmps42
  go_wp2
  go_loopw [1, 5] (fun kk i wr => kk = .int .i64 k ∧ i = .int .i64 0 ∧ wr = w) (fun _ _ _ => 0)
  case atStart => exact ⟨rfl, rfl, rfl⟩
  case round =>
    obtain ⟨rfl, rfl, rfl⟩ := hrel
    go_wp2
    go_ret
    exact ⟨rfl, rfl⟩
theorem heldTermS_nil (k : Int) (w : World) : Calls Try.prog 43 #[.slice none 0 0, .int .i64 k] w fun e w' => e = .returned (.int .i64 k) ∧ w' = w := by
  go_enter Try.func43, Try.ntmps43
  go_wp2
  go_loopw [1, 5] (fun kk i wr => kk = .int .i64 k ∧ i = .int .i64 0 ∧ wr = w) (fun _ _ _ => 0)
  case atStart => exact ⟨rfl, rfl, rfl⟩
  case round =>
    obtain ⟨rfl, rfl, rfl⟩ := hrel
    go_wp2
    go_ret
    exact ⟨rfl, rfl⟩

/-- The slice of one layer that holds nothing, at block b. -/
abbrev emptyAt (b : Nat) : Value := .slice (some ⟨b, 0, none⟩) 1 1
def EmptyIn (w : World) (b : Nat) : Prop := b < w.heap.size ∧ w.cell? ⟨b, 0, none⟩ = some (.slice none 0 0) ∧ w.cell? ⟨b, 1, none⟩ = some (.slice none 0 0)
theorem EmptyIn.up {w w' : World} {b : Nat} (h : EmptyIn w b) (hb : Below w.heap.size w w') : EmptyIn w' b := by
  obtain ⟨h1, h2, h3⟩ := h
  obtain ⟨hc, _⟩ := bcell hb
  exact ⟨Nat.lt_of_lt_of_le h1 hb.size, by rw [hc _ _ h1]; exact h2, by rw [hc _ _ h1]; exact h3⟩

theorem cell_new_at (w : World) (cs : Array Value) (t : TypeId) (i : Nat) : (w.alloc (.cells cs t)).cell? ⟨w.heap.size, i, none⟩ = cs[i]? := by
  show (match (w.heap.push (Obj.cells cs t))[w.heap.size]? with | some (Obj.cells c _ _) => c[i]? | _ => none) = _
  rw [Array.getElem?_push_size]
theorem specCtxNew_any (w : World) : Calls Try.prog 16 #[] w fun e w' => e = .returned (emptyAt w.heap.size) ∧ EmptyIn w' w.heap.size ∧ Below w.heap.size w w' := by
  go_enter Try.func16, Try.ntmps16
  go_wp2
  go_ret
  refine ⟨rfl, ⟨by simp, ?_, ?_⟩, ?_⟩
  · rw [cell_new_at]; rfl
  · rw [cell_new_at]; rfl
  · exact (Below.refl _ _).alloc (Nat.le_refl _) _
theorem implCtxNew_any (w : World) : Calls Try.prog 17 #[] w fun e w' => e = .returned (emptyAt w.heap.size) ∧ EmptyIn w' w.heap.size ∧ Below w.heap.size w w' := by
  go_enter Try.func17, Try.ntmps17
  go_wp2
  go_ret
  refine ⟨rfl, ⟨by simp, ?_, ?_⟩, ?_⟩
  · rw [cell_new_at]; rfl
  · rw [cell_new_at]; rfl
  · exact (Below.refl _ _).alloc (Nat.le_refl _) _

abbrev noLayer : Value := .agg #[.slice none 0 0, .slice none 0 0]
theorem eqLayer_nil (w : World) : Calls Try.prog 39 #[noLayer, noLayer] w fun e w' => e = .returned (.bool true) ∧ Below w.heap.size w w' := by
  go_enter Try.func39, Try.ntmps39
  go_wp2_with (first | (go_at_call 64; refine (eqDeclS_nil _).mono ?_; rintro e w' ⟨rfl, rfl⟩) | (go_at_call 65; refine (eqTermS_nil _).mono ?_; rintro e w' ⟨rfl, rfl⟩))
  go_ret
  exact ⟨rfl, ((Below.refl _ _).alloc (Nat.le_refl _) _).alloc (by simp) _⟩

theorem eqLayerS_new (b b' : Nat) (w : World) (h : EmptyIn w b) (h' : EmptyIn w b') : Calls Try.prog 18 #[emptyAt b, emptyAt b'] w fun e w' => e = .returned (.bool true) ∧ Below w.heap.size w w' := by
  go_enter Try.func18, Try.ntmps18
  go_wp2
  go_loopw [5] (fun i wr => ∃ k : Nat, k ≤ 1 ∧ i = .int .i64 k ∧ Below w.heap.size w wr) (fun i _ => 1 - (intOf i).toNat)
  case atStart => exact ⟨0, by omega, rfl, Below.refl _ _⟩
  case round =>
    obtain ⟨k, hk, rfl, hb⟩ := hrel
    have H := h.up hb
    have H' := h'.up hb
    obtain rfl | rfl : k = 0 ∨ k = 1 := by omega
    · obtain ⟨_, c1, c2⟩ := H
      obtain ⟨_, c1', c2'⟩ := H'
      have d1 := Later.cell c1
      have d2 := Later.cell c2
      have d1' := Later.cell c1'
      have d2' := Later.cell c2'
      go_wp2
      refine wp_region_later (by kernel_rfl) (by kernel_rfl) ?_
      repeat (go_big_quiet_step ((go_at_call 39; exact later_of_below (eqLayer_nil _))))
      refine wpQuiet_nil ?_
      rintro _ ⟨x, rfl⟩
      go_wp2
      go_roundw
      case rel => exact ⟨1, by omega, rfl, bthen hb x.le⟩
      case measure => simp [intOf]
    · go_wp2
      go_ret
      exact ⟨rfl, hb⟩

theorem markLayerS_new (b : Nat) (n : Int) (w : World) (h : EmptyIn w b) : Calls Try.prog 19 #[emptyAt b, .int .i64 n] w fun e w' => e = .returned (.int .i64 n) ∧ w' = w := by
  go_enter Try.func19, Try.ntmps19
  go_wp2
  go_loopw [1, 5] (fun kk i wr => ∃ k : Nat, k ≤ 1 ∧ kk = .int .i64 n ∧ i = .int .i64 k ∧ wr = w) (fun _ i _ => 1 - (intOf i).toNat)
  case atStart => exact ⟨0, by omega, rfl, rfl, rfl⟩
  case round =>
    obtain ⟨k, hk, rfl, rfl, rfl⟩ := hrel
    obtain ⟨_, c1, c2⟩ := h
    obtain rfl | rfl : k = 0 ∨ k = 1 := by omega
    · go_wp2_with (first | (go_at_call 40; refine (markDeclS_nil _ _).mono ?_; rintro e w' ⟨rfl, rfl⟩) | (go_at_call 41; refine (markTermS_nil _ _).mono ?_; rintro e w' ⟨rfl, rfl⟩))
      go_roundw
      case rel => exact ⟨1, by omega, by simp⟩
      case measure => simp [intOf]
    · go_wp2
      go_ret
      first | exact ⟨rfl, rfl⟩ | exact ⟨rfl, trivial⟩
theorem heldLayerS_new (b : Nat) (n : Int) (w : World) (hn : (n < 0) = False) (h : EmptyIn w b) : Calls Try.prog 20 #[emptyAt b, .int .i64 n] w fun e w' => e = .returned (.int .i64 n) ∧ w' = w := by
  go_enter Try.func20, Try.ntmps20
  go_wp2
  go_loopw [1, 5] (fun kk i wr => ∃ k : Nat, k ≤ 1 ∧ kk = .int .i64 n ∧ i = .int .i64 k ∧ wr = w) (fun _ i _ => 1 - (intOf i).toNat)
  case atStart => exact ⟨0, by omega, rfl, rfl, rfl⟩
  case round =>
    obtain ⟨k, hk, rfl, rfl, rfl⟩ := hrel
    obtain ⟨_, c1, c2⟩ := h
    obtain rfl | rfl : k = 0 ∨ k = 1 := by omega
    · go_wp2_with (first | (go_at_call 42; refine (heldDeclS_nil _ _).mono ?_; rintro e w' ⟨rfl, rfl⟩) | (go_at_call 43; refine (heldTermS_nil _ _).mono ?_; rintro e w' ⟨rfl, rfl⟩))
      go_roundw
      case rel => exact ⟨1, by omega, by simp⟩
      case measure => simp [intOf]
    · go_wp2
      go_ret
      first | exact ⟨rfl, rfl⟩ | exact ⟨rfl, trivial⟩

/-- A law's post: true, and below the heap as it was nothing has turned. -/
def LawTrue' (w : World) (e : Ending) (w' : World) : Prop := e = .returned (.bool true) ∧ Below w.heap.size w w'

theorem ctxNew_walk (w : World) : Calls Try.prog 5 #[] w (LawTrue' w) := by
  go_enter Try.func5, Try.ntmps5
  go_wp2_with fail
  refine (specCtxNew_any _).mono ?_
  rintro e w1 ⟨rfl, h1, hb1⟩
  go_wp2_with fail
  refine (implCtxNew_any _).mono ?_
  rintro e w2 ⟨rfl, h2, hb2⟩
  have h1 := h1.up hb2
  have hb := bthen hb1 hb2
  go_wp2_with fail
  refine (eqLayerS_new _ _ _ h2 h1).mono ?_
  rintro e w3 ⟨rfl, hb3⟩
  have h1 := h1.up hb3
  have h2 := h2.up hb3
  have hb := bthen hb hb3
  go_wp2_with fail
  refine (markLayerS_new _ 1 _ h2).mono ?_
  rintro e w4 ⟨rfl, rfl⟩
  go_wp2_with fail
  refine (heldLayerS_new _ 1 _ (by simp) h2).mono ?_
  rintro e w4 ⟨rfl, rfl⟩
  go_wp2_with fail
  refine (implCtxNew_any _).mono ?_
  rintro e w5 ⟨rfl, h5, hb5⟩
  have h1 := h1.up hb5
  have h2 := h2.up hb5
  have hb := bthen hb hb5
  go_wp2_with fail
  refine (eqLayerS_new _ _ _ h5 h1).mono ?_
  rintro e w6 ⟨rfl, hb6⟩
  have h2 := h2.up hb6
  have hb := bthen hb hb6
  go_wp2_with fail
  refine (heldLayerS_new _ 1 _ (by simp) h2).mono ?_
  rintro e w7 ⟨rfl, rfl⟩
  go_wp2_with fail
  go_ret
  exact ⟨rfl, hb⟩

set_option maxRecDepth 100000 in
theorem fnExactCtxNew_lifted (os : Os) (started : os.Started) (H : Type) (enc : TypeId × Value → H) :
    ReturnsInHanded {} Try.checked os 5 .any (Rows.fnExactCtxNewSpec.pre6 enc Try.prog Try.f5 Rows.fnExactCtxNewRow.domain false) (Rows.fnExactCtxNewSpec.post enc Try.prog Try.f5 false true false false) := by
  refine returnsInHanded_of_change (C := Try.checked) (by kernel_rfl) started (by kernel_rfl) Try.func5
    (ChangeSpec.witness6 (enc := enc) (C := Try.checked) false ⟨#[], #[], []⟩ 16 (by kernel_rfl) (by kernel_rfl) (by kernel_rfl) (by kernel_rfl)) ?_
  intro W base args ds gs before hval0 hW hcnd _
  have hval : ∀ (j : Nat) t v, Try.f5.params[j]? = some t → args[j]? = some v → Value.okWide Try.prog W .any base t v := hval0
  have hW' := hW
  obtain ⟨p, q, hA0, hV, rfl, hfz, hnd⟩ := hW
  have hA : DataW.TrodAll enc Try.prog W 0 (fun _ => true) true Try.f5.params.toList args.toList ds p := hA0
  rw [Try.params5] at hA hval
  obtain ⟨hargs, rfl, rfl⟩ := trodAll_nil hA
  obtain rfl : args = #[] := by cases args; simp_all
  obtain ⟨rfl, rfl⟩ := trodVars_none hV
  clear hA0 hval0
  refine (ctxNew_walk W ).mono fun e W' ⟨he, bel⟩ => ?_
  subst he
  exact ⟨_, rfl, _, _, _, [], _, [], hW', trodAll_mk1 (shut_bool Try.underlying4 _), trodAll_mk0, rfl, bel.frame _, fun h => by cases h⟩

/-- The given statement. -/
theorem fnExactCtxNew_holds : Rows.FnExactCtxNewSaid :=
  OpenClaim.holds_of_wide 5 Try.f5 rfl rfl rfl rfl rfl rfl rfl ⟨rfl, rfl, rfl, rfl, rfl⟩ rfl rfl rfl rfl rfl (by kernel_rfl) Try.func5 (by kernel_rfl)
    (of_decide_eq_true (by kernel_rfl)) (by unfold Func.isWrapper; first | (rw [if_pos (by decide +kernel)]; kernel_rfl) | (rw [if_neg (by decide +kernel)]; exact ⟨rfl, rfl⟩))
    (fun os started H enc _ => fnExactCtxNew_lifted os started H enc)
#print axioms fnExactCtxNew_holds
end Go.Proofs.Ytohchplomjenfaa
