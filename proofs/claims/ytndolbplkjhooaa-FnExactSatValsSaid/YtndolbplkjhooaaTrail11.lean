/- The program's search: a clause, given or learned; implies. -/
import Derived.Test.YtndolbplkjhooaaTrail10
namespace Go.Proofs.Ytndolbplkjhooaa
open Go Go.RowKit

/-- Block r holds a search. -/
def SrB (w : World) (r : Nat) (x : C) (A : Option Addr) (a t : Nat) (W : Value) (D : Option Addr) (n d : Nat) (code : Int) : Prop :=
  w.heap[r]? = some (.cells #[.int .i64 x.many, .slice A x.list.length a, .pointer (some ⟨t, 0, none⟩), W, .slice D n d, .int .i64 code] 103 (0, 0))
theorem clauseAt_any (x : C) (A D : Option Addr) (a d n t r k : Nat) (W V : Value) (code : Int) (w : World) (hx : x.list.length ≤ 1048576) (hb : SrB w r x A a t W D n d code)
    (h : (k < x.list.length ∧ ∃ ad, A = some ad ∧ w.cell? (ad.add k) = some V) ∨ (x.list.length ≤ k ∧ ∃ ad, D = some ad ∧ w.cell? (ad.add (k - x.list.length)) = some V)) (hk : k < x.list.length + n) (hn : n ≤ 1048576) :
    Calls Try.prog 85 #[.pointer (some ⟨r, 0, none⟩), .int .i64 k] w fun e w' => e = .returned V ∧ ∃ m, w' = w.drewN m := by
  have c1 : w.cell? ⟨r, 1, none⟩ = some (.slice A x.list.length a) := (cell_of_block hb 1).1
  have c4 : w.cell? ⟨r, 4, none⟩ = some (.slice D n d) := (cell_of_block hb 4).1
  clear hb
  rcases h with ⟨h1, ad, rfl, hc⟩ | ⟨h1, ad, rfl, hc⟩
  · have h1i : (k : Int) < x.list.length := by omega
    go_enter Try.func85, Try.ntmps85
    go_wp2
    go_ret
    exact ⟨rfl, 0, rfl⟩
  · have h1i : ¬ ((k : Int) < x.list.length) := by omega
    have h2 : ((k : Int) - x.list.length).toNat = k - x.list.length := by omega
    have h3 : (0 : Int) ≤ (k : Int) - x.list.length := by omega
    have h4 : (k : Int) - x.list.length < n := by omega
    have e1 : IntKind.i64.wrap ((k : Int) - x.list.length) = (k : Int) - x.list.length := IntWalk.i64_in _ (by omega)
    go_enter Try.func85, Try.ntmps85
    go_wp2
    go_quiet (fail)
    go_wp2
    go_ret
    exact ⟨rfl, _, rfl⟩

set_option maxRecDepth 100000 in
set_option maxHeartbeats 1000000 in
theorem implies_any (lo : Nat) (S : Nat → Prop) (M t k : Nat) (put ls cl : List Int) (A : Option Addr) (c : Nat) (w : World) (h : Tr lo S M w t put ls) (hg : Good M put) (hcl : Lay.int.Rd w A cl) (hn : cl.length ≤ 1048576) (hr : ∀ l ∈ cl, l ≠ 0 ∧ -(M : Int) ≤ l ∧ l ≤ M) (hk : k < put.length) (hM : M ≤ 1000000) :
    Calls Try.prog 84 #[.pointer (some ⟨t, 0, none⟩), .slice A cl.length c, .int .i64 k] w (RetB w (because (put.take k) cl put[k])) := by
  obtain ⟨hw, hB0, hB1, hWS⟩ := two_boxes w (.cells #[.pointer (some ⟨t, 0, none⟩)] 68) (.cells #[.int .i64 k] 3)
  have hml := hg.length
  have hT := h.up hw
  have hC := hcl.up hw
  have HE := Lib.hid (because_any (put.take k) cl put[k])
  have hk0 : (0 : Int) ≤ k := by omega
  have hk1 : (k : Int) < put.length := by omega
  have HTH := Lib.hid h
  clear h hcl
  generalize hW : (w.alloc (.cells #[.pointer (some ⟨t, 0, none⟩)] 68)).alloc (.cells #[.int .i64 k] 3) = W at *
  have c0 : W.cell? ⟨w.heap.size, 0, none⟩ = some (.pointer (some ⟨t, 0, none⟩)) := (cell_of_block hB0 0).1
  have c1 : W.cell? ⟨w.heap.size + 1, 0, none⟩ = some (.int .i64 k) := (cell_of_block hB1 0).1
  have HCO : Hid (∀ n, Calls Try.prog 95 #[.slice A cl.length c, .int .i64 put[k]] (W.drewN n) fun e w' => e = .returned (.bool (decide (put[k] ∈ cl))) ∧ W.drewN n = w') := Lib.hid fun n => contains_any cl put[k] A c _ (W.drewN n) (hC.drewN n) hn
  have HCF : Hid (∀ n, Calls Try.prog 86 #[.slice A cl.length c, .func (.func 96) #[] #[.pointer (some ⟨w.heap.size, 0, none⟩), .pointer (some ⟨w.heap.size + 1, 0, none⟩)]] (W.drewN n) fun e w' => e = .returned (.bool (cl.any (notWhy (put.take k) put[k]))) ∧ ∃ m, w' = (W.drewN n).drewN m) :=
    Lib.hid fun n => hasWhy_any lo S M t w.heap.size (w.heap.size + 1) put ls cl k A c _ (W.drewN n) (hC.drewN n) hn hr (hT.drewN n) hg hk hM c0 c1
  obtain ⟨A', B', c', d', Q', pl', h'⟩ := hT
  have z0 : W.cell? ⟨t, 0, none⟩ = some (.slice A' put.length c') := (cell_of_block h'.blk 0).1
  obtain ⟨ad, rfl, _, z3⟩ := (OwnI.rd h'.hput).at_int hk
  have HW := Lib.hid hw
  clear hB0 hB1 hWS hC h' hw hg hr
  generalize put[k] = m at *
  cases h1 : decide (m ∈ cl)
  · rw [h1] at HCO HE
    have HE := Lib.hid (HE.out.trans (by simp : _ = false))
    clear HCF h1
    go_enter Try.func84, Try.ntmps84
    go_wp2
    go_quiet ((go_at_call 95; with_reducible exact quiet_left (HCO.out _)))
    go_wp2
    go_ret
    exact ⟨ret_bool (by rw [HE.out]), below_drewN HW.out _⟩
  · rw [h1] at HCO HE
    have HE := Lib.hid (HE.out.trans (by simp : _ = !cl.any (notWhy (put.take k) m)))
    clear h1
    generalize cl.any (notWhy (put.take k) m) = b at *
    go_enter Try.func84, Try.ntmps84
    go_wp2
    go_quiet ((first | (go_at_call 95; with_reducible exact quiet_left (HCO.out _)) | (go_at_call 86; with_reducible exact quiet_drawn (HCF.out _))))
    go_wp2
    go_ret
    exact ⟨ret_bool (by rw [HE.out]), below_drewN HW.out _⟩
end Go.Proofs.Ytndolbplkjhooaa
