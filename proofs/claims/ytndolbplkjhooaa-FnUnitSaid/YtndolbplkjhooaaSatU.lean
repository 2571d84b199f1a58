/- The formula laws' contracts in one form. -/
import Derived.Test.YtndolbplkjhooaaUniC
namespace Go.Proofs.Ytndolbplkjhooaa
open Go Go.RowKit

theorem un_len {cs : List (List Int)} : ∀ (n : Nat) (put : List Int), (un cs n put).1.length ≤ put.length + n
  | 0, put => by simp [un]
  | n + 1, put => by
    rw [un]
    split
    · simp
    · split
      · simp
      · have := un_len (cs := cs) n (put ++ [(fd put cs 0 (-1) 0).2.2])
        simp at this
        omega
theorem unitAllP_len {x : C} {sl : List Int} (h : smInts sl) : (unitAllP x sl).1.length ≤ 1048576 := by
  by_cases hc : cnfOk x = true ∧ Good x.many sl
  · rw [unitAllP_yes hc]
    have h1 := (cnfOk_iff x).1 hc.1
    have h2 := hc.2.length
    unfold units
    have := un_len (cs := x.list) (x.many.toNat + 1 - sl.length) sl
    omega
  · rw [unitAllP_no hc]; simp
def ResIB (r : List Int × Bool) (w : World) (e : Ending) (w' : World) : Prop :=
  ∃ A c, e = .returned (.tuple #[.slice A r.1.length c, .bool r.2]) ∧ r.1.length ≤ c ∧ Lay.int.Sl w' (Own w.heap.size w') A r.1 ∧ Below w.heap.size w w'
theorem ResIB.of {r : List Int × Bool} {w : World} {e : Ending} {w' : World} (h : RetU w r e w') : ResIB r w e w' := by
  obtain ⟨A, c, h1, h2, h3⟩ := h
  exact ⟨A, c, h1, h2.cap, h2.own, h3⟩
theorem specUnitAll_u (x : C) (A : Option Addr) (c : Nat) (y : List Int) (B : Option Addr) (d : Nat) (w : World) (h : Lay.int.slice.Rd w A x.list) (_ : x.list.length ≤ c) (h' : Lay.int.Rd w B y) (_ : y.length ≤ d) (sx : smCnf x) (sy : smInts y) :
    Calls Try.prog 18 #[.agg #[.int .i64 x.many, .slice A x.list.length c], .slice B y.length d] w (ResIB (unitAllP x y) w) :=
  (specUnitAll_any A B c d x y _ _ w h (fun _ h => h) h' (fun _ h => h) sx.short sy.1 sy.2).mono fun _ _ h => .of h
theorem implUnitAll_u (x : C) (A : Option Addr) (c : Nat) (y : List Int) (B : Option Addr) (d : Nat) (w : World) (h : Lay.int.slice.Rd w A x.list) (hc : x.list.length ≤ c) (h' : Lay.int.Rd w B y) (_ : y.length ≤ d) (sx : smCnf x) (sy : smInts y) :
    Calls Try.prog 17 #[.agg #[.int .i64 x.many, .slice A x.list.length c], .slice B y.length d] w (ResIB (unitAllP x y) w) :=
  (unitAllImpl_any x y A B c d _ _ w h (fun _ h => h) hc sx.1 sx.2.1 sx.ints h' (fun _ h => h) sy.1 sy.2).mono fun _ _ h => .of h
end Go.Proofs.Ytndolbplkjhooaa
