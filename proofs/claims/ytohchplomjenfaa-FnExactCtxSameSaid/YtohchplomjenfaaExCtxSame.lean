/- FnExactCtxSame: the program's CtxSame says of any two contexts what the reference's says. -/
import Derived.Test.YtohchplomjenfaaTEq3
import Derived.Test.YtohchplomjenfaaRows
namespace Go.Proofs.Ytohchplomjenfaa
open Go Go.RowKit Go.ChangeShapes Go.WideShapes Go.ChangeAt

theorem opens_layers : Opens Try.prog 39 Lay.layer.slice (fun xs => xs.length ≤ maxLen ∧ ∀ x ∈ xs, okLayer x) :=
  Opens.slice Try.underlying39 (by kernel_rfl) (by decide)
    (Opens.layer Try.underlying72 (by kernel_rfl) (by kernel_rfl) (by kernel_rfl) rfl
      (Opens.slice Try.underlying69 (by kernel_rfl) (by decide) (Opens.decl Try.underlying121 (by kernel_rfl) Try.underlying3 (by kernel_rfl) Try.underlying9 (by kernel_rfl) rfl))
      (Opens.slice Try.underlying70 (by kernel_rfl) (by decide) (Opens.term Try.underlying124 (by kernel_rfl) Try.underlying70 (by kernel_rfl) Try.underlying3 (by kernel_rfl) Try.underlying9 (by kernel_rfl) rfl)))
theorem Ly.small (l : Ly) (h : l.w ≤ 1048576) : okL2 l := by
  unfold Ly.w at h
  obtain ⟨h1, h2⟩ := T.smallS (xs := l.ts) (by omega)
  exact ⟨by omega, h1, h2⟩
theorem Ly.smallS {xs : List Ly} (h : xs.length + wsum Ly.w xs ≤ 1048576) : xs.length ≤ 1048576 ∧ ∀ x ∈ xs, okL2 x :=
  ⟨by omega, fun x hx => Ly.small x (by have := wsum_mem Ly.w hx; omega)⟩
/-- A law's post: true, and below the heap as it was nothing has turned. -/
def LawT (w : World) (e : Ending) (w' : World) : Prop := e = .returned (.bool true) ∧ Below w.heap.size w w'

set_option maxHeartbeats 2000000 in
theorem ctxSame_walk {A B : Option Addr} {c d : Nat} {xs ys : List Ly} (W : World) (_ : xs.length ≤ c) (okx : xs.length ≤ maxLen ∧ ∀ x ∈ xs, okLayer x) (hx : Lay.layer.Rd W A xs) (_ : ys.length ≤ d) (oky : ys.length ≤ maxLen ∧ ∀ x ∈ ys, okLayer x) (hy : Lay.layer.Rd W B ys) :
    Calls Try.prog 6 #[.slice A xs.length c, .slice B ys.length d] W (LawT W) := by
  obtain ⟨okx1, okx2⟩ := okx
  obtain ⟨oky1, oky2⟩ := oky
  unfold maxLen at okx1 oky1
  have lt0 : ∀ b, b < W.heap.size → b < W.heap.size := fun _ h => h
  by_cases h1 : (1048576 : Int) < (xs.length + wsum Ly.w xs : Nat)
  · have H1 := Lib.hid (szRes_lt h1)
    go_enter Try.func6, Try.ntmps6
    go_wp2_with fail
    refine (szLayerS_any A c xs 1048576 _ _ hx lt0 okx2 (by omega) (by omega) (by omega)).mono ?_
    rw [H1.out]
    rintro e w1 ⟨rfl, hb1⟩
    go_wp2
    go_ret
    exact ⟨rfl, hb1⟩
  have H1 := Lib.hid (szRes_ge h1)
  generalize hn : xs.length + wsum Ly.w xs = n at *
  have HN := Lib.hid hn
  clear hn
  have hn0 : (n : Int) ≤ 1048576 := by omega
  by_cases h2 : (1048576 : Int) - n < (ys.length + wsum Ly.w ys : Nat)
  · have H2 := Lib.hid (szRes_lt h2)
    clear h1 h2
    go_enter Try.func6, Try.ntmps6
    go_wp2_with fail
    refine (szLayerS_any A c xs 1048576 _ _ hx lt0 okx2 (by omega) (by omega) (by omega)).mono ?_
    rw [HN.out, H1.out]
    rintro e w1 ⟨rfl, hb1⟩
    go_wp2_with fail
    refine (szLayerS_any B d ys _ _ _ (hy.up hb1) (fun _ h => h) oky2 (by omega) (by omega) (by omega)).mono ?_
    rw [H2.out]
    rintro e w2 ⟨rfl, hb2⟩
    go_wp2
    go_ret
    exact ⟨rfl, bthen hb1 hb2⟩
  have H2 := Lib.hid (szRes_ge h2)
  obtain ⟨sx1, sx2⟩ := Ly.smallS (xs := xs) (by rw [HN.out]; omega)
  obtain ⟨sy1, sy2⟩ := Ly.smallS (xs := ys) (by omega)
  generalize hm : (1048576 : Int) - n - (ys.length + wsum Ly.w ys : Nat) = m at *
  have hm0 : 0 ≤ m := by omega
  have HM := Lib.hid hm
  clear hm h1 h2
  go_enter Try.func6, Try.ntmps6
  go_wp2_with fail
  refine (szLayerS_any A c xs 1048576 _ _ hx lt0 okx2 (by omega) (by omega) (by omega)).mono ?_
  rw [HN.out, H1.out]
  rintro e w1 ⟨rfl, hb⟩
  go_wp2_with fail
  refine (szLayerS_any B d ys _ _ _ (hy.up hb) (fun _ h => h) oky2 (by omega) (by omega) (by omega)).mono ?_
  rw [H2.out]
  rintro e w2 ⟨rfl, hb2⟩
  have hb := bthen hb hb2
  clear hb2
  go_wp2_with fail
  refine (toLayerS_any A c xs _ _ (hx.up hb) (fun _ h => h) sx1 sx2).mono ?_
  rintro e w3 ⟨A1, c1, rfl, _, s1, hb3⟩
  have hb := bthen hb hb3
  go_wp2_with fail
  refine (toLayerS_any B d ys _ _ (hy.up hb) (fun _ h => h) sy1 sy2).mono ?_
  rintro e w4 ⟨A2, c2, rfl, _, s2, hb4⟩
  have hb := bthen hb hb4
  have s1 := s1.own_up hb4
  go_wp2_with fail
  refine (specCtxSame_any A1 A2 c1 c2 xs ys _ _ _ s1 s2 (fun _ h => h.2.1) (fun _ h => h.2.1) sx1 sy1 sx2 sy2).mono ?_
  rintro e w5 ⟨rfl, hb5⟩
  have hb := bthen hb hb5
  clear s1 s2 hb3 hb4 hb5
  go_wp2_with fail
  refine (toLayerS_any A c xs _ _ (hx.up hb) (fun _ h => h) sx1 sx2).mono ?_
  rintro e w6 ⟨A6, c6, rfl, _, s6, hb6⟩
  have hb := bthen hb hb6
  go_wp2_with fail
  refine (toLayerS_any B d ys _ _ (hy.up hb) (fun _ h => h) sy1 sy2).mono ?_
  rintro e w7 ⟨A7, c7, rfl, _, s7, hb7⟩
  have hb := bthen hb hb7
  have s6 := s6.own_up hb7
  go_wp2_with fail
  refine (implCtxSame_any A6 A7 c6 c7 xs ys _ _ _ s6 s7 (fun _ h => h.2.1) (fun _ h => h.2.1) sx1 sy1 sx2 sy2).mono ?_
  rintro e w8 ⟨rfl, hb8⟩
  have hb := bthen hb hb8
  have s6 := s6.own_up hb8
  have s7 := s7.own_up hb8
  have hq : (allSame Ly.same xs ys != allSame Ly.same xs ys) = false := by simp
  generalize allSame Ly.same xs ys = q at *
  clear hb6 hb7 hb8
  go_wp2_with fail
  refine (toLayerS_any A c xs _ _ (hx.up hb) (fun _ h => h) sx1 sx2).mono ?_
  rintro e w9 ⟨A9, c9, rfl, _, s9, hb9⟩
  have hb := bthen hb hb9
  have s6 := s6.own_up hb9
  have s7 := s7.own_up hb9
  go_wp2_with fail
  refine (eqLayerS_any A6 A9 c6 c9 xs xs _ _ _ s6 s9 (fun _ h => h.2.1) (fun _ h => h.2.1) sx1 sx1 sx2 sx2).mono ?_
  rw [allSame_self Ly.same_self]
  rintro e w10 ⟨rfl, hb10⟩
  have hb := bthen hb hb10
  have s7 := s7.own_up hb10
  clear s6 s9 hb9 hb10
  go_wp2_with fail
  refine (toLayerS_any B d ys _ _ (hy.up hb) (fun _ h => h) sy1 sy2).mono ?_
  rintro e w11 ⟨A11, c11, rfl, _, s11, hb11⟩
  have hb := bthen hb hb11
  have s7 := s7.own_up hb11
  go_wp2_with fail
  refine (eqLayerS_any A7 A11 c7 c11 ys ys _ _ _ s7 s11 (fun _ h => h.2.1) (fun _ h => h.2.1) sy1 sy1 sy2 sy2).mono ?_
  rw [allSame_self Ly.same_self]
  rintro e w12 ⟨rfl, hb12⟩
  have hb := bthen hb hb12
  go_wp2
  go_ret
  exact ⟨rfl, hb⟩

set_option maxRecDepth 100000 in
theorem fnExactCtxSame_lifted (os : Os) (started : os.Started) (H : Type) (enc : TypeId × Value → H) :
    ReturnsInHanded {} Try.checked os 6 .any (Rows.fnExactCtxSameSpec.pre6 enc Try.prog Try.f6 Rows.fnExactCtxSameRow.domain false) (Rows.fnExactCtxSameSpec.post enc Try.prog Try.f6 false true false false) := by
  refine returnsInHanded_of_change (C := Try.checked) (by kernel_rfl) started (by kernel_rfl) Try.func6
    (ChangeSpec.witness6 (enc := enc) (C := Try.checked) false ⟨#[], #[.slice none 0 0, .slice none 0 0], []⟩ 16 (by kernel_rfl) (by kernel_rfl) (by kernel_rfl) (by kernel_rfl)) ?_
  intro W base args ds gs before hval0 hW hcnd _
  have hval : ∀ (j : Nat) t v, Try.f6.params[j]? = some t → args[j]? = some v → Value.okWide Try.prog W .any base t v := hval0
  have hW' := hW
  obtain ⟨p, q, hA0, hV, rfl, hfz, hnd⟩ := hW
  have hA : DataW.TrodAll enc Try.prog W 0 (fun _ => true) true Try.f6.params.toList args.toList ds p := hA0
  rw [Try.params6] at hA hval
  obtain ⟨v0, vs0, d0, ds0, p0, q0, hargs, rfl, rfl, h0, r0⟩ := trodAll_cons hA
  obtain ⟨v1, vs1, d1, ds1, p1, q1, rfl, rfl, rfl, h1, r1⟩ := trodAll_cons r0
  obtain ⟨rfl, rfl, rfl⟩ := trodAll_nil r1
  obtain rfl : args = #[v0, v1] := by cases args; simp_all
  obtain ⟨rfl, rfl⟩ := trodVars_none hV
  have k0 := h0
  have lt0 : ∀ x ∈ p0, x.block < W.heap.size := by obtain ⟨m, hm⟩ := k0; exact DataW.trod_lt m _ _ _ hm
  have k1 := h1
  have lt1 : ∀ x ∈ p1, x.block < W.heap.size := by obtain ⟨m, hm⟩ := k1; exact DataW.trod_lt m _ _ _ hm
  obtain ⟨A0, c0, x0, rfl, hc0, ok0, rd0⟩ := open_arg Try.underlying39 opens_layers (hval 0 39 v0 rfl rfl) h0
  obtain ⟨A1, c1, x1, rfl, hc1, ok1, rd1⟩ := open_arg Try.underlying39 opens_layers (hval 1 39 v1 rfl rfl) h1
  clear hA0 hval0
  refine (ctxSame_walk W hc0 ok0 rd0 hc1 ok1 rd1).mono fun e W' ⟨he, bel⟩ => ?_
  subst he
  exact ⟨_, rfl, _, _, _, [], _, [], hW', trodAll_mk1 (shut_bool Try.underlying4 _), (trodAll_cons_mk (Below.trod (by kernel_rfl) (by kernel_rfl) (of_decide_eq_true (by kernel_rfl)) k0 bel lt0) (trodAll_cons_mk (Below.trod (by kernel_rfl) (by kernel_rfl) (of_decide_eq_true (by kernel_rfl)) k1 bel lt1) trodAll_mk0)), rfl, bel.frame _, fun h => by cases h⟩

/-- The given statement. -/
theorem fnExactCtxSame_holds : Rows.FnExactCtxSameSaid :=
  OpenClaim.holds_of_wide 6 Try.f6 rfl rfl rfl rfl rfl rfl rfl ⟨rfl, rfl, rfl, rfl, rfl⟩ rfl rfl rfl rfl rfl (by kernel_rfl) Try.func6 (by kernel_rfl)
    (of_decide_eq_true (by kernel_rfl)) (by unfold Func.isWrapper; first | (rw [if_pos (by decide +kernel)]; kernel_rfl) | (rw [if_neg (by decide +kernel)]; exact ⟨rfl, rfl⟩))
    (fun os started H enc _ => fnExactCtxSame_lifted os started H enc)
#print axioms fnExactCtxSame_holds
end Go.Proofs.Ytohchplomjenfaa
