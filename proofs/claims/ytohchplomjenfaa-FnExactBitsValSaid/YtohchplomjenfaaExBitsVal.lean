/- For every list of truth values and every list of integers, FnExactBitsVal returns true and its arguments read as they did; no condition. -/
import Derived.Test.YtohchplomjenfaaLit
import Derived.Test.YtohchplomjenfaaRows
import Derived.Test.YtohchplomjenfaaOpen
namespace Go.Proofs.Ytohchplomjenfaa
open Go Go.RowKit Go.ChangeShapes Go.WideShapes Go.ChangeAt

/-- A law's post: true, and below the heap as it was nothing has turned. -/
def LawTrue (w : World) (e : Ending) (w' : World) : Prop := e = .returned (.bool true) ∧ Below w.heap.size w w'

theorem exBitsVal_any (A B : Option Addr) (c d : Nat) (vals : List Bool) (a : List Int) (w : World) (h : Lay.bool.Sl w (· < w.heap.size) A vals) (hn : vals.length ≤ 9223372036854775807)
    (h' : Lay.int.Sl w (· < w.heap.size) B a) (hr : ∀ x ∈ a, -9223372036854775808 ≤ x ∧ x ≤ 9223372036854775807) (hn' : a.length ≤ 9223372036854775807) :
    Calls Try.prog 4 #[.slice A vals.length c, .slice B a.length d] w (LawTrue w) := by
  by_cases hl : 1048576 < vals.length
  · go_enter Try.func4, Try.ntmps4
    go_wp2
    go_ret
    exact ⟨rfl, Below.refl _ _⟩
  by_cases hl' : 1048576 < a.length
  · go_enter Try.func4, Try.ntmps4
    go_wp2
    go_ret
    exact ⟨rfl, Below.refl _ _⟩
  go_enter Try.func4, Try.ntmps4
  go_wp2_with fail
  refine (toBoolS_any A c vals _ w h (fun _ h => h) (by omega)).mono ?_
  rintro e w1 ⟨A1, c1, rfl, _, h1, hb1⟩
  have H1 := h1.rd
  have H' := h'.up hb1
  go_wp2_with fail
  refine (toIntS_any B d a _ w1 H' (fun _ h => h) (by omega)).mono ?_
  rintro e w2 ⟨A2, c2, rfl, _, h2, hb2⟩
  have H1 := H1.up hb2
  have H2 := h2.rd
  go_wp2_with fail
  refine (specBitsVal_any _ _ _ _ _ _ _ _ _ H1 (by omega) H2 hr (by omega)).mono ?_
  rintro e w2 ⟨rfl, rfl⟩
  have hb := bthen hb1 hb2
  have H := h.up hb
  have H' := H'.up hb2
  clear h1 h2 H1 H2 hb1 hb2
  go_wp2_with fail
  refine (toBoolS_any A c vals _ w2 H (fun _ h => h) (by omega)).mono ?_
  rintro e w3 ⟨A3, c3, rfl, _, h3, hb3⟩
  have H3 := h3.rd
  have hb := bthen hb hb3
  have H' := H'.up hb3
  go_wp2_with fail
  refine (toIntS_any B d a _ w3 H' (fun _ h => h) (by omega)).mono ?_
  rintro e w4 ⟨A4, c4, rfl, _, h4, hb4⟩
  have H4 := h4.rd
  have H3 := H3.up hb4
  have hb := bthen hb hb4
  go_wp2_with fail
  refine (implBitsVal_any _ _ _ _ _ _ _ _ _ H3 (by omega) H4 hr (by omega)).mono ?_
  rintro e w4 ⟨rfl, rfl⟩
  have H := h.up hb
  go_wp2_with fail
  refine (toBoolS_any A c vals _ w4 H (fun _ h => h) (by omega)).mono ?_
  rintro e w5 ⟨A5, c5, rfl, _, h5, hb5⟩
  have H5 := h5.rd
  have H3 := H3.up hb5
  have H4 := H4.up hb5
  have hb := bthen hb hb5
  go_wp2_with fail
  refine (eqBoolS_any _ _ _ _ _ _ _ _ _ H3 H5 (by omega) (by omega)).mono ?_
  rintro e w' ⟨rfl, n5, rfl⟩
  have hb := below_drewN hb n5
  have H' := h'.up hb
  go_wp2_with fail
  refine (toIntS_any B d a _ _ H' (fun _ h => h) (by omega)).mono ?_
  rintro e w6 ⟨A6, c6, rfl, _, h6, hb6⟩
  have H6 := h6.rd
  have H4 : Lay.int.Rd w6 A4 a := Lay.Sl.up (w := w5.drewN n5) H4 hb6
  have hb := bthen hb hb6
  go_wp2_with fail
  refine (eqIntS_any _ _ _ _ _ _ _ _ _ H4 H6 (by omega) (by omega)).mono ?_
  rintro e w' ⟨rfl, n6, rfl⟩
  go_wp2_with fail
  go_ret
  exact ⟨rfl, below_drewN hb n6⟩

theorem opens_ints : Opens Try.prog 24 Lay.int.slice (fun xs => xs.length ≤ maxLen ∧ ∀ x ∈ xs, okInt x) := Opens.slice Try.underlying24 (by kernel_rfl) (by decide) (Opens.int Try.underlying3)
theorem opens_bools : Opens Try.prog 23 Lay.bool.slice (fun xs => xs.length ≤ maxLen ∧ ∀ x ∈ xs, True) := Opens.slice Try.underlying23 (by kernel_rfl) (by decide) (Opens.bool Try.underlying4)
theorem le_maxLen {n : Nat} (h : n ≤ maxLen) : n ≤ 9223372036854775807 := by unfold maxLen at h; omega
theorem exBitsVal_walk {A B : Option Addr} {c d : Nat} {vals : List Bool} {a : List Int} (w : World) (hv : vals.length ≤ maxLen ∧ ∀ x ∈ vals, True) (h : Lay.bool.Rd w A vals) (ha : a.length ≤ maxLen ∧ ∀ x ∈ a, okInt x) (h' : Lay.int.Rd w B a) :
    Calls Try.prog 4 #[.slice A vals.length c, .slice B a.length d] w (LawTrue w) :=
  exBitsVal_any A B c d vals a w h (le_maxLen hv.1) h' ha.2 (le_maxLen ha.1)

set_option maxRecDepth 100000 in
theorem fnExactBitsVal_lifted (os : Os) (started : os.Started) (H : Type) (enc : TypeId × Value → H) :
    ReturnsInHanded {} Try.checked os 4 .any (Rows.fnExactBitsValSpec.pre6 enc Try.prog Try.f4 Rows.fnExactBitsValRow.domain false) (Rows.fnExactBitsValSpec.post enc Try.prog Try.f4 false true false false) := by
  refine returnsInHanded_of_change (C := Try.checked) (by kernel_rfl) started (by kernel_rfl) Try.func4
    (ChangeSpec.witness6 (enc := enc) (C := Try.checked) false ⟨#[], #[.slice none 0 0, .slice none 0 0], []⟩ 16 (by kernel_rfl) (by kernel_rfl) (by kernel_rfl) (by kernel_rfl)) ?_
  intro W base args ds gs before hval0 hW hcnd _
  have hval : ∀ (j : Nat) t v, Try.f4.params[j]? = some t → args[j]? = some v → Value.okWide Try.prog W .any base t v := hval0
  have hW' := hW
  obtain ⟨p, q, hA0, hV, rfl, hfz, hnd⟩ := hW
  have hA : DataW.TrodAll enc Try.prog W 0 (fun _ => true) true Try.f4.params.toList args.toList ds p := hA0
  rw [Try.params4] at hA hval
  obtain ⟨v0, vs0, d0, ds0, p0, q0, hargs, rfl, rfl, h0, r0⟩ := trodAll_cons hA
  obtain ⟨v1, vs1, d1, ds1, p1, q1, rfl, rfl, rfl, h1, r1⟩ := trodAll_cons r0
  obtain ⟨rfl, rfl, rfl⟩ := trodAll_nil r1
  obtain rfl : args = #[v0, v1] := by cases args; simp_all
  obtain ⟨rfl, rfl⟩ := trodVars_none hV
  have k0 := h0
  have lt0 : ∀ x ∈ p0, x.block < W.heap.size := by obtain ⟨m, hm⟩ := k0; exact DataW.trod_lt m _ _ _ hm
  have k1 := h1
  have lt1 : ∀ x ∈ p1, x.block < W.heap.size := by obtain ⟨m, hm⟩ := k1; exact DataW.trod_lt m _ _ _ hm
  obtain ⟨A0, c0, x0, rfl, hc0, ok0, rd0⟩ := open_arg Try.underlying23 opens_bools (hval 0 23 v0 rfl rfl) h0
  obtain ⟨A1, c1, x1, rfl, hc1, ok1, rd1⟩ := open_arg Try.underlying24 opens_ints (hval 1 24 v1 rfl rfl) h1
  clear hA0 hval0
  refine (exBitsVal_walk W ok0 rd0 ok1 rd1).mono fun e W' ⟨he, bel⟩ => ?_
  subst he
  exact ⟨_, rfl, _, _, _, [], _, [], hW', trodAll_mk1 (shut_bool Try.underlying4 _), (trodAll_cons_mk (Below.trod (by kernel_rfl) (by kernel_rfl) (of_decide_eq_true (by kernel_rfl)) k0 bel lt0) (trodAll_cons_mk (Below.trod (by kernel_rfl) (by kernel_rfl) (of_decide_eq_true (by kernel_rfl)) k1 bel lt1) trodAll_mk0)), rfl, bel.frame _, fun h => by cases h⟩

/-- The given statement. -/
theorem fnExactBitsVal_holds : Rows.FnExactBitsValSaid :=
  OpenClaim.holds_of_wide 4 Try.f4 rfl rfl rfl rfl rfl rfl rfl ⟨rfl, rfl, rfl, rfl, rfl⟩ rfl rfl rfl rfl rfl (by kernel_rfl) Try.func4 (by kernel_rfl)
    (of_decide_eq_true (by kernel_rfl)) (by unfold Func.isWrapper; first | (rw [if_pos (by decide +kernel)]; kernel_rfl) | (rw [if_neg (by decide +kernel)]; exact ⟨rfl, rfl⟩))
    (fun os started H enc _ => fnExactBitsVal_lifted os started H enc)
#print axioms fnExactBitsVal_holds
end Go.Proofs.Ytohchplomjenfaa
