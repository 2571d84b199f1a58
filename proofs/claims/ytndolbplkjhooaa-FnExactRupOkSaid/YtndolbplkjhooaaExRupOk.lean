/- FnExactRupOk: the program's RupOk says of any formula and clause what the reference's says. -/
import Derived.Test.YtndolbplkjhooaaTrail7
import Derived.Test.YtndolbplkjhooaaRows
namespace Go.Proofs.Ytndolbplkjhooaa
open Go Go.RowKit Go.ChangeShapes Go.WideShapes Go.ChangeAt Go.Deep

/-- A formula as a value: two cells. -/
def Lay.cnf : Lay C where
  size := 2
  R w F x vs := ∃ A c, vs = [.int .i64 x.many, .slice A x.list.length c] ∧ x.list.length ≤ c ∧ Lay.int.slice.Sl w F A x.list
  len := by rintro w F x vs ⟨A, c, rfl, _⟩; rfl
  keep := by rintro w w' F x vs hk ⟨A, c, rfl, h1, h2⟩; exact ⟨A, c, rfl, h1, h2.keep hk⟩
  mono := by rintro w F G x vs hk ⟨A, c, rfl, h1, h2⟩; exact ⟨A, c, rfl, h1, h2.mono hk⟩
def okList (l : List Int) : Prop := l.length ≤ maxLen ∧ ∀ x ∈ l, okInt x
def okCIn (x : C) : Prop := okInt x.many ∧ x.list.length ≤ maxLen ∧ ∀ l ∈ x.list, okList l
theorem Opens.cnf {P : Program} {t ti sg : TypeId} {fs : Array Field} (ht : P.underlying t = some (.struct fs)) (hc : P.cellsOf t = 2) (hti : P.underlying ti = some (.int .i64)) (htic : P.cellsOf ti = 1) (hsg : P.cellsOf sg = 1)
    (hf : fs.toList.map (fun f : Field => (f.type, f.offset)) = [(ti, 0), (sg, 1)]) (hg : Opens P sg Lay.int.slice.slice (fun xs => xs.length ≤ maxLen ∧ ∀ x ∈ xs, okList x)) : Opens P t Lay.cnf okCIn := by
  have hfi : ∀ i, (fs[i]?).map (fun f : Field => (f.type, f.offset)) = [(ti, 0), (sg, 1)][i]? := fun i => by
    rw [← hf, List.getElem?_map, Array.getElem?_toList]
  intro H enc w base spare held fuel cs x h
  obtain ⟨a, oka, ra⟩ := OpensF.field ht h (Nat.le_succ _) 0 ti 0 1 (hfi 0) htic ((Opens.int hti).at _)
  obtain ⟨gs, okg, A, c, r1, l1, s1⟩ := OpensF.field ht h (Nat.le_succ _) 1 sg 1 1 (hfi 1) hsg (hg.at _)
  have hlen := trod_cells ht h
  rw [hc] at hlen
  match cs, hlen with
  | [x0, x1], _ =>
    simp [Lay.int, Lay.flat] at ra r1
    subst ra r1
    exact ⟨⟨a, gs⟩, ⟨oka, okg⟩, A, c, rfl, l1, s1⟩
theorem opens_ints : Opens Try.prog 25 Lay.int.slice (fun xs => xs.length ≤ maxLen ∧ ∀ x ∈ xs, okInt x) := Opens.slice Try.underlying25 (by kernel_rfl) (by decide) (Opens.int Try.underlying3)
theorem opens_cnf : Opens Try.prog 24 Lay.cnf okCIn :=
  Opens.cnf Try.underlying24 (by kernel_rfl) Try.underlying3 (by kernel_rfl) (by kernel_rfl) rfl
    (Opens.slice Try.underlying22 (by kernel_rfl) (by decide) opens_ints)
/-- An argument that is a struct. -/
theorem open_struct {α : Type} {P : Program} {t : TypeId} {fs : Array Field} {L : Lay α} {ok : α → Prop} (ht : P.underlying t = some (.struct fs)) (ho : Opens P t L ok) {H : Type} {enc : TypeId × Value → H} {r : Reach} {b0 : Nat} {w : World} {base : Nat}
    {spare : Nat → Bool} {held : Bool} {v : Value} {d : DataW H} {p : List MemPlace} (hv : Value.okWide P w r b0 t v) (h : DataW.Trod enc P w base spare held t v d p) :
    ∃ cs a, v = .agg cs ∧ ok a ∧ L.R w (fun b => b < w.heap.size) a cs.toList := by
  obtain ⟨cs, rfl, _⟩ := okWide_struct ht hv
  obtain ⟨fuel, hf⟩ := h
  obtain ⟨a, hok, hr⟩ := ho H enc w base spare held fuel _ _ hf
  exact ⟨cs, a, rfl, hok, hr⟩
set_option maxRecDepth 100000 in
theorem open_cnf {H : Type} {enc : TypeId × Value → H} {r : Reach} {b0 : Nat} {w : World} {base : Nat} {spare : Nat → Bool} {held : Bool} {v : Value} {d : DataW H} {p : List MemPlace}
    (hv : Value.okWide Try.prog w r b0 24 v) (h : DataW.Trod enc Try.prog w base spare held 24 v d p) :
    ∃ A c x, v = .agg #[.int .i64 (C.many x), .slice A (C.list x).length c] ∧ x.list.length ≤ c ∧ okCIn x ∧ Lay.int.slice.Rd w A x.list := by
  have hh := open_struct (L := Lay.cnf) (ok := okCIn) Try.underlying24 opens_cnf hv h
  obtain ⟨cs, n, hv', hok, hR⟩ := hh
  obtain ⟨A, c, hcs, hl, hs⟩ := hR
  have hc : cs = #[.int .i64 n.many, .slice A n.list.length c] := Array.toList_inj.1 (hcs.trans rfl)
  exact ⟨A, c, n, by rw [hv', hc], hl, hok, hs⟩
/-- A law's post: true, and below the heap as it was nothing has turned. -/
def LawC (w : World) (e : Ending) (w' : World) : Prop := e = .returned (.bool true) ∧ Below w.heap.size w w'
theorem short_of {x : C} (h : listsW x.list ≤ 1048576) : shortC x := by
  unfold listsW at h
  exact ⟨by omega, fun l hl => by have := wsum_mem lw hl; have h8 : l.length = lw l := rfl; omega⟩
def Fact.copyC (x : C) : Fact := .of (fun v xw => ∃ A c, v = .agg #[.int .i64 x.many, .slice A x.list.length c] ∧ Lay.int.slice.Rd xw A x.list) fun _ _ _ ⟨A, c, h1, h2⟩ hb => ⟨A, c, h1, h2.up hb⟩
def Fact.boolC (W : World) (b : Bool) : Fact := .of (fun v xw => v = .bool b ∧ Below W.heap.size W xw) fun _ _ _ ⟨h1, h2⟩ hb => ⟨h1, bthen h2 hb⟩
set_option maxRecDepth 100000 in
set_option maxHeartbeats 2000000 in
theorem rupOk_walk (W : World) {A B : Option Addr} {c d : Nat} {x : C} {a : List Int} (_ : x.list.length ≤ c) (okx : okCIn x) (h : Lay.int.slice.Rd W A x.list) (_ : a.length ≤ d) (oka : a.length ≤ maxLen ∧ ∀ i ∈ a, okInt i) (h' : Lay.int.Rd W B a) :
    Calls Try.prog 3 #[.agg #[.int .i64 x.many, .slice A x.list.length c], .slice B a.length d] W (LawC W) := by
  obtain ⟨okm, okl, okg⟩ := okx
  obtain ⟨oka1, oka2⟩ := oka
  unfold maxLen at okl oka1
  have okg1 : ∀ l ∈ x.list, l.length ≤ 9223372036854775807 := fun l hl => by have := (okg l hl).1; unfold maxLen at this; omega
  have hW0 : Below W.heap.size W (W.alloc (.cells #[.int .i64 x.many, .slice A x.list.length c] 24)) := (Below.refl _ _).alloc (Nat.le_refl _) _
  have hS0 : (W.alloc (.cells #[.int .i64 x.many, .slice A x.list.length c] 24)).heap[W.heap.size]? = some (.cells #[.int .i64 x.many, .slice A x.list.length c] 24 (0, 0)) := heap_alloc_new _ _
  have H0 := h.up hW0
  have H1 := h'.up hW0
  by_cases hbig : (1048576 : Int) < a.length
  · clear H0 H1 hS0
    go_enter Try.func3, Try.ntmps3
    go_wp2
    go_ret
    exact ⟨rfl, hW0⟩
  have han : a.length ≤ 1048576 := by omega
  by_cases hbig2 : (1048576 : Int) < (listsW x.list : Nat)
  · have HSZ := Lib.hid (szRes_lt hbig2)
    clear hbig2
    go_enter Try.func3, Try.ntmps3
    go_wp2_with fail
    refine (szCnf_any A c x 1048576 _ _ H0 (fun _ h => h) okg1 okl (by omega) (by omega)).mono ?_
    rw [HSZ.out]
    rintro e w1 ⟨rfl, hb1⟩
    go_wp2
    go_ret
    exact ⟨rfl, bthen hW0 hb1⟩
  have HSZ := Lib.hid (szRes_ge hbig2)
  have hsh := short_of (x := x) (by omega)
  have HSH := Lib.hid hsh
  have hxl := hsh.1
  have hln : (0 : Int) ≤ 1048576 - (listsW x.list : Nat) := by omega
  have HI : Hid (∀ cl ∈ x.list, cl.length ≤ 1048576 ∧ i64s cl) := Lib.hid fun cl hc => ⟨hsh.2 cl hc, (okg cl hc).2⟩
  have HA : Hid (i64s a) := Lib.hid oka2
  have HO := Lib.hid okm
  clear hbig2 hsh okg okg1 oka2 okm
  go_enter Try.func3, Try.ntmps3
  go_wp2_with fail
  have okg1 : ∀ l ∈ x.list, l.length ≤ 9223372036854775807 := fun l hl => by have := HSH.out.2 l hl; omega
  refine (szCnf_any A c x 1048576 _ _ H0 (fun _ h => h) okg1 okl (by omega) (by omega)).mono ?_
  clear okg1
  rw [HSZ.out]
  generalize W.alloc (.cells #[.int .i64 x.many, .slice A x.list.length c] 24) = W0 at *
  have HS0 := Lib.hid hS0
  have hSlt := lt_of_block hS0
  clear hS0 h h' hbig
  rintro e w1 ⟨rfl, hb⟩

  have s0 : w1.cell? ⟨W.heap.size, 0, none⟩ = some (.int .i64 x.many) := (hb.cell (p := ⟨W.heap.size, 0, none⟩) hSlt).trans (cell_of_block HS0.out 0).1
  have s1 : w1.cell? ⟨W.heap.size, 1, none⟩ = some (.slice A x.list.length c) := (hb.cell (p := ⟨W.heap.size, 1, none⟩) hSlt).trans (cell_of_block HS0.out 1).1
  go_wp2_with fail
  clear s0 s1
  refine (toCnf_any x A c _ w1 (H0.up hb) (fun _ h => h) hxl HSH.out.2).mono ?_
  rintro e w2 ⟨A2, c2, rfl, _, s2, hb2⟩
  have hb := bthen hb hb2
  have R2 : Lay.int.slice.Rd w2 A2 x.list := s2.mono (fun _ h => h.2.1)
  clear s2 hb2
  go_wp2_with fail
  refine (toIntO_any B d a _ w2 (H1.up hb) (fun _ h => h) han).mono ?_
  rintro e w3 ⟨A3, c3, rfl, _, s3, hb3⟩
  have hb := bthen hb hb3
  have R3 : Lay.int.Rd w3 A3 a := s3.mono (fun _ h => h.2.1)
  have R2 := R2.up hb3
  clear s3 hb3
  go_wp2_with fail
  refine (specRupOk_any A2 A3 c2 c3 x a _ _ w3 R2 (fun _ h => h) R3 (fun _ h => h) HSH.out han).mono ?_
  rintro e w4 ⟨rfl, hb4⟩
  have hb := bthen hb hb4
  clear hb4 R2 R3
  have s0 : w4.cell? ⟨W.heap.size, 0, none⟩ = some (.int .i64 x.many) := (hb.cell (p := ⟨W.heap.size, 0, none⟩) hSlt).trans (cell_of_block HS0.out 0).1
  have s1 : w4.cell? ⟨W.heap.size, 1, none⟩ = some (.slice A x.list.length c) := (hb.cell (p := ⟨W.heap.size, 1, none⟩) hSlt).trans (cell_of_block HS0.out 1).1
  generalize hr9 : rupOk x a = r9 at *
  have HR9 := Lib.hid hr9
  clear hr9
  have hne : (r9 != r9) = false := by simp
  go_wp2_with fail
  clear s0 s1
  refine (toCnf_any x A c _ w4 (H0.up hb) (fun _ h => h) hxl HSH.out.2).mono ?_
  rintro e w5 ⟨A5, c5, rfl, hc5, s5, hb5⟩
  have hb := bthen hb hb5
  have R5 : Lay.int.slice.Rd w5 A5 x.list := s5.mono (fun _ h => h.2.1)
  have hal5 : Below w5.heap.size w5 (w5.alloc (.cells #[.int .i64 x.many, .slice A5 x.list.length c5] 28)) := (Below.refl _ _).alloc (Nat.le_refl _) _
  have B5 : (w5.alloc (.cells #[.int .i64 x.many, .slice A5 x.list.length c5] 28)).heap[w5.heap.size]? = some (.cells #[.int .i64 x.many, .slice A5 x.list.length c5] 28 (0, 0)) := heap_alloc_new _ _
  have R5 := R5.up hal5
  have hb := bthen hb hal5
  have B5H := Lib.hid B5
  have HC5 := Lib.hid hc5
  clear B5 hc5 s5 hb5 hal5
  go_wp2_with fail
  generalize w5.alloc (.cells #[.int .i64 x.many, .slice A5 x.list.length c5] 28) = w6 at *
  generalize w5.heap.size = i5 at *
  refine (toIntO_any B d a _ w6 (H1.up hb) (fun _ h => h) han).mono ?_
  rintro e w7 ⟨A7, c7, rfl, _, s7, hb7⟩
  have hb := bthen hb hb7
  have R7 : Lay.int.Rd w7 A7 a := s7.mono (fun _ h => h.2.1)
  have R5 := R5.up hb7
  have B5H := Lib.hid ((hb7.block _ (lt_of_block B5H.out)).trans B5H.out)
  clear s7 hb7
  have k0 : w7.cell? ⟨i5, 0, none⟩ = some (.int .i64 x.many) := (cell_of_block B5H.out 0).1
  have k1 : w7.cell? ⟨i5, 1, none⟩ = some (.slice A5 x.list.length c5) := (cell_of_block B5H.out 1).1
  go_wp2_with fail
  clear k0 k1
  refine (rupOkP_any x a A5 A7 c5 c7 _ _ w7 R5 (fun _ h => h) HC5.out HO.out hxl HI.out R7 (fun _ h => h) han HA.out).mono ?_
  rw [HR9.out]
  rintro e w8 ⟨rfl, hb8⟩
  have hb := bthen hb hb8
  have R7 := R7.up hb8
  have R5 := R5.up hb8
  have B5H := Lib.hid ((hb8.block _ (lt_of_block B5H.out)).trans B5H.out)
  clear hb8
  have s0 : w8.cell? ⟨W.heap.size, 0, none⟩ = some (.int .i64 x.many) := (hb.cell (p := ⟨W.heap.size, 0, none⟩) hSlt).trans (cell_of_block HS0.out 0).1
  have s1 : w8.cell? ⟨W.heap.size, 1, none⟩ = some (.slice A x.list.length c) := (hb.cell (p := ⟨W.heap.size, 1, none⟩) hSlt).trans (cell_of_block HS0.out 1).1
  have k0 : w8.cell? ⟨i5, 0, none⟩ = some (.int .i64 x.many) := (cell_of_block B5H.out 0).1
  have k1 : w8.cell? ⟨i5, 1, none⟩ = some (.slice A5 x.list.length c5) := (cell_of_block B5H.out 1).1
  have d0 := Later.cell s0
  have d1 := Later.cell s1
  have d2 := Later.cell k0
  have d3 := Later.cell k1
  go_wp2
  clear s0 s1 k0 k1
  refine wp_region_shares [[], [], [(1, 34)], [(0, 33), (2, 35)], [(3, 36)]]
    [.eq (.agg #[.int .i64 x.many, .slice A5 x.list.length c5]), .eq (.agg #[.int .i64 x.many, .slice A x.list.length c]), Fact.copyC x, Fact.boolC w8 true, Fact.boolC w8 false]
    [] [] [] [4] [(0, 33), (1, 34), (2, 35), (3, 36), (4, 37)] (by kernel_rfl) (by kernel_rfl) (by kernel_rfl) (by kernel_rfl)
    ⟨?_, ?_, ?_, ?_, ?_, trivial⟩ ?_

  · intro vals xw hC hF
    have hC := hC.resolve_left (by simp)
    have hsz := hC.size
    have e1 : xw.cell? _ = _ := d2 ⟨xw, hC⟩
    have e2 : xw.cell? _ = _ := d3 ⟨xw, hC⟩
    simp only [putsD, Act.put, List.setIfInBounds_toArray, List.set_cons_zero, List.set_cons_succ]
    go_wp2
    exact ⟨rfl, rfl, .inr (Below.refl _ _), .inr (.inl (by simp))⟩
  · intro vals xw hC hF
    have hC := hC.resolve_left (by simp)
    have hsz := hC.size
    have e1 : xw.cell? _ = _ := d0 ⟨xw, hC⟩
    have e2 : xw.cell? _ = _ := d1 ⟨xw, hC⟩
    simp only [putsD, Act.put, List.setIfInBounds_toArray, List.set_cons_zero, List.set_cons_succ]
    go_wp2
    exact ⟨rfl, rfl, .inr (Below.refl _ _), .inr (.inl (by simp))⟩
  · intro vals xw hC hF
    have hC := hC.resolve_left (by simp)
    have hsz := hC.size
    simp only [factsD, List.getD_cons_zero, List.getD_cons_succ, Fact.eq, Fact.row, Fact.lit, Fact.lit0, Fact.of, and_true, Fact.copyC, Fact.boolC] at hF
    simp only [putsD, Act.put, List.setIfInBounds_toArray, List.set_cons_zero, List.set_cons_succ]
    simp only [hF]
    go_wp2_with fail
    refine (toCnf_any x A c _ xw (H0.up (bthen hb hC)) (fun _ h => h) hxl HSH.out.2).mono ?_
    rintro e wx ⟨A9, c9, rfl, _, s9, hb9⟩
    have R9 : Lay.int.slice.Rd wx A9 x.list := s9.mono (fun _ h => h.2.1)
    clear s9
    go_wp2
    exact ⟨rfl, ⟨A9, c9, rfl, R9⟩, .inr hb9, .inr (.inl (by simp))⟩
  · intro vals xw hC hF
    have hC := hC.resolve_left (by simp)
    have hsz := hC.size
    simp only [factsD, List.getD_cons_zero, List.getD_cons_succ, Fact.eq, Fact.row, Fact.lit, Fact.lit0, Fact.of, and_true, Fact.copyC, Fact.boolC] at hF
    obtain ⟨e33, A9, c9, e35, R9⟩ := hF
    simp only [putsD, Act.put, List.setIfInBounds_toArray, List.set_cons_zero, List.set_cons_succ]
    simp only [e33, e35]
    go_wp2_with fail
    refine (eqCnf_any x x A5 A9 c5 c9 _ _ xw (R5.up hC) R9 (fun _ h => h) (fun _ h => h) hxl hxl HSH.out.2 HSH.out.2).mono ?_
    rw [eqC_self]
    rintro e wx ⟨rfl, hb9⟩
    go_wp2
    exact ⟨rfl, ⟨rfl, bthen hC hb9⟩, .inr hb9, .inr (.inl (by simp))⟩
  · intro vals xw hC hF
    have hC := hC.resolve_left (by simp)
    have hsz := hC.size
    simp only [factsD, List.getD_cons_zero, List.getD_cons_succ, Fact.eq, Fact.row, Fact.lit, Fact.lit0, Fact.of, and_true, Fact.copyC, Fact.boolC] at hF
    obtain ⟨e36, _⟩ := hF
    simp only [putsD, Act.put, List.setIfInBounds_toArray, List.set_cons_zero, List.set_cons_succ]
    simp only [e36]
    go_wp2
    exact ⟨rfl, ⟨rfl, hC⟩, .inr (Below.refl _ _), .inr (.inl (by simp))⟩
  · intro vals xw hF
    simp only [facts, List.getD_cons_zero, List.getD_cons_succ, Fact.eq, Fact.row, Fact.lit, Fact.lit0, Fact.of, and_true, Fact.copyC, Fact.boolC] at hF
    obtain ⟨e37, hbx⟩ := hF
    simp only [putsD, Act.put, List.setIfInBounds_toArray, List.set_cons_zero, List.set_cons_succ]
    simp only [e37]
    clear d0 d1 d2 d3 e37
    have hb := bthen hb hbx
    have R7 := R7.up hbx
    clear hbx
    go_wp2_with fail
    refine (toIntO_any B d a _ xw (H1.up hb) (fun _ h => h) han).mono ?_
    rintro e wy ⟨Ay, cy, rfl, _, sy, hby⟩
    have hb := bthen hb hby
    have Ry : Lay.int.Rd wy Ay a := sy.mono (fun _ h => h.2.1)
    have R7 := R7.up hby
    clear sy hby
    go_wp2_with fail
    refine (eqIntS_later A7 Ay c7 cy a a _ _ wy R7 Ry han han).mono ?_
    rw [eqL_self]
    rintro e wz ⟨rfl, hbz⟩
    have hb := bthen hb hbz
    go_wp2
    go_ret
    exact ⟨rfl, bthen hW0 hb⟩

set_option maxRecDepth 100000 in
theorem fnExactRupOk_lifted (os : Os) (started : os.Started) (H : Type) (enc : TypeId × Value → H) :
    ReturnsInHanded {} Try.checked os 3 .any (Rows.fnExactRupOkSpec.pre6 enc Try.prog Try.f3 Rows.fnExactRupOkRow.domain false) (Rows.fnExactRupOkSpec.post enc Try.prog Try.f3 false true false false) := by
  refine returnsInHanded_of_change (C := Try.checked) (by kernel_rfl) started (by kernel_rfl) Try.func3
    (ChangeSpec.witness6 (enc := enc) (C := Try.checked) false ⟨#[], #[.agg #[.int .i64 0, .slice none 0 0], .slice none 0 0], []⟩ 16 (by kernel_rfl) (by kernel_rfl) (by kernel_rfl) (by kernel_rfl)) ?_
  intro W base args ds gs before hval0 hW hcnd _
  have hval : ∀ (j : Nat) t v, Try.f3.params[j]? = some t → args[j]? = some v → Value.okWide Try.prog W .any base t v := hval0
  have hW' := hW
  obtain ⟨p, q, hA0, hV, rfl, hfz, hnd⟩ := hW
  have hA : DataW.TrodAll enc Try.prog W 0 (fun _ => true) true Try.f3.params.toList args.toList ds p := hA0
  rw [Try.params3] at hA hval
  obtain ⟨v0, vs0, d0, ds0, p0, q0, hargs, rfl, rfl, h0, r0⟩ := trodAll_cons hA
  obtain ⟨v1, vs1, d1, ds1, p1, q1, rfl, rfl, rfl, h1, r1⟩ := trodAll_cons r0
  obtain ⟨rfl, rfl, rfl⟩ := trodAll_nil r1
  obtain rfl : args = #[v0, v1] := by cases args; simp_all
  obtain ⟨rfl, rfl⟩ := trodVars_none hV
  have k0 := h0
  have lt0 : ∀ x ∈ p0, x.block < W.heap.size := by obtain ⟨m, hm⟩ := k0; exact DataW.trod_lt m _ _ _ hm
  have k1 := h1
  have lt1 : ∀ x ∈ p1, x.block < W.heap.size := by obtain ⟨m, hm⟩ := k1; exact DataW.trod_lt m _ _ _ hm
  obtain ⟨A0, c0, x0, rfl, hc0, ok0, rd0⟩ := open_cnf (hval 0 24 v0 rfl rfl) h0
  obtain ⟨A1, c1, x1, rfl, hc1, ok1, rd1⟩ := open_arg Try.underlying25 opens_ints (hval 1 25 v1 rfl rfl) h1
  clear hA0 hval0
  refine (rupOk_walk W hc0 ok0 rd0 hc1 ok1 rd1).mono fun e W' ⟨he, bel⟩ => ?_
  subst he
  exact ⟨_, rfl, _, _, _, [], _, [], hW', trodAll_mk1 (shut_bool Try.underlying4 _), (trodAll_cons_mk (Below.trod (by kernel_rfl) (by kernel_rfl) (of_decide_eq_true (by kernel_rfl)) k0 bel lt0) (trodAll_cons_mk (Below.trod (by kernel_rfl) (by kernel_rfl) (of_decide_eq_true (by kernel_rfl)) k1 bel lt1) trodAll_mk0)), rfl, bel.frame _, fun h => by cases h⟩

/-- The given statement. -/
theorem fnExactRupOk_holds : Rows.FnExactRupOkSaid :=
  OpenClaim.holds_of_wide 3 Try.f3 rfl rfl rfl rfl rfl rfl rfl ⟨rfl, rfl, rfl, rfl, rfl⟩ rfl rfl rfl rfl rfl (by kernel_rfl) Try.func3 (by kernel_rfl)
    (of_decide_eq_true (by kernel_rfl)) (by unfold Func.isWrapper; first | (rw [if_pos (by decide +kernel)]; kernel_rfl) | (rw [if_neg (by decide +kernel)]; exact ⟨rfl, rfl⟩))
    (fun os started H enc _ => fnExactRupOk_lifted os started H enc)
#print axioms fnExactRupOk_holds

end Go.Proofs.Ytndolbplkjhooaa
