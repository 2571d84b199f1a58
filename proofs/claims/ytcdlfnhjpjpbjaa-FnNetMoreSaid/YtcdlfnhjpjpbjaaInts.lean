/- Contracts of the copies and comparisons of lists of integers and of truth values. -/
import Derived.Test.YtcdlfnhjpjpbjaaBase
import Derived.Test.YtcdlfnhjpjpbjaaProg
namespace Go.Proofs.Ytcdlfnhjpjpbjaa
open Go Go.RowKit

theorem int_info : (Try.prog.info? 3).map (fun i => (i.zero, i.size, i.bytes)) = some (some (.int .i64 0), 1, 8) := by kernel_rfl
theorem bool_info : (Try.prog.info? 4).map (fun i => (i.zero, i.size, i.bytes)) = some (some (.bool false), 1, 1) := by kernel_rfl

theorem fill_set {α : Type} (xs : List α) (f : α → Value) (z : Value) (k : Nat) (hk : k < xs.length) :
    ((xs.take k).map f ++ List.replicate (xs.length - k) z).set k (f xs[k]) = (xs.take (k + 1)).map f ++ List.replicate (xs.length - (k + 1)) z := by
  have hl : ((xs.take k).map f).length = k := by simp; omega
  rw [List.set_append_right k _ (by omega), hl, Nat.sub_self, show xs.length - k = (xs.length - (k + 1)) + 1 from by omega, List.replicate_succ, List.set_cons_zero,
    List.take_succ_eq_append_getElem hk, List.map_append]
  simp

/-- What a function returns that makes a slice of its own and touches nothing else. -/
def RetSl {α : Type} (L : Lay α) (w : World) (xs : List α) (e : Ending) (w' : World) : Prop :=
  ∃ A c, e = .returned (.slice A xs.length c) ∧ xs.length ≤ c ∧ L.Sl w' (fun b => w.heap.size ≤ b ∧ b < w'.heap.size) A xs ∧ Below w.heap.size w w'

theorem retSl_of_own {α : Type} (L : Lay α) {w w' : World} {e : TypeId} {A : Option Addr} {n c : Nat} {cs : List Value} {xs : List α}
    (h : w'.ownsRow w.heap.size e L.size (.slice A n c) n cs) (hb : Below w.heap.size w w') (hn : n = xs.length)
    (hx : ∀ k x, xs[k]? = some x → ∃ vs, L.R w' (fun b => w.heap.size ≤ b ∧ b < w'.heap.size) x vs ∧ ∀ j u, vs[j]? = some u → cs[k * L.size + j]? = some u) :
    RetSl L w xs (.returned (.slice A n c)) w' := by
  subst hn
  refine ⟨A, c, rfl, ?_, .of_own h rfl (fun g h1 h2 => ⟨h1, h2⟩) hx, hb⟩
  rcases h.2 with ⟨h1, h2⟩ | ⟨g, cap, cur, h1, _, _, h2, _⟩
  · omega
  · injection h1 with _ _ h3; omega

theorem sl_ints_of_own {w : World} {F : Nat → Prop} {base : Nat} {e : TypeId} {A : Option Addr} {n c : Nat} {xs : List Int} (h : w.ownsRow base e 1 (.slice A n c) n (xs.map (Value.int .i64)))
    (hF : ∀ g, base ≤ g → g < w.heap.size → F g) : Lay.int.Sl w F A xs ∧ n = xs.length ∧ n ≤ c := by
  have hn : n = xs.length := by have := h.1; simp at this; omega
  refine ⟨.of_own h hn hF fun k x hx => ⟨_, rfl, fun j u hu => ?_⟩, hn, ?_⟩
  · match j, hu with
    | 0, hu => simp [Lay.int, Lay.flat, hx]; simpa using hu
  · rcases h.2 with ⟨h1, h2⟩ | ⟨g, cap, cur, h1, _, _, h2, _⟩
    · omega
    · injection h1 with _ _ h3; omega
theorem retInts_of_own {w w' : World} {e : TypeId} {A : Option Addr} {n c : Nat} {xs : List Int}
    (h : w'.ownsRow w.heap.size e 1 (.slice A n c) n (xs.map (Value.int .i64))) (hb : Below w.heap.size w w') : RetSl Lay.int w xs (.returned (.slice A n c)) w' := by
  obtain ⟨h1, rfl, h3⟩ := sl_ints_of_own (F := fun b => w.heap.size ≤ b ∧ b < w'.heap.size) h (fun g a b => ⟨a, b⟩)
  exact ⟨A, c, rfl, h3, h1, hb⟩
theorem sl_bools_of_own {w : World} {F : Nat → Prop} {base : Nat} {e : TypeId} {A : Option Addr} {n c : Nat} {xs : List Bool} (h : w.ownsRow base e 1 (.slice A n c) n (xs.map Value.bool))
    (hF : ∀ g, base ≤ g → g < w.heap.size → F g) : Lay.bool.Sl w F A xs ∧ n = xs.length ∧ n ≤ c := by
  have hn : n = xs.length := by have := h.1; simp at this; omega
  refine ⟨.of_own h hn hF fun k x hx => ⟨_, rfl, fun j u hu => ?_⟩, hn, ?_⟩
  · match j, hu with
    | 0, hu => simp [Lay.bool, Lay.flat, hx]; simpa using hu
  · rcases h.2 with ⟨h1, h2⟩ | ⟨g, cap, cur, h1, _, _, h2, _⟩
    · omega
    · injection h1 with _ _ h3; omega
theorem retBools_of_own {w w' : World} {e : TypeId} {A : Option Addr} {n c : Nat} {xs : List Bool}
    (h : w'.ownsRow w.heap.size e 1 (.slice A n c) n (xs.map Value.bool)) (hb : Below w.heap.size w w') : RetSl Lay.bool w xs (.returned (.slice A n c)) w' := by
  obtain ⟨h1, rfl, h3⟩ := sl_bools_of_own (F := fun b => w.heap.size ≤ b ∧ b < w'.heap.size) h (fun g a b => ⟨a, b⟩)
  exact ⟨A, c, rfl, h3, h1, hb⟩

theorem take_eq_step {α : Type} {xs ys : List α} {k : Nat} (h1 : k < xs.length) (h2 : k < ys.length) (h : xs.take k = ys.take k) (he : xs[k] = ys[k]) : xs.take (k + 1) = ys.take (k + 1) := by
  rw [List.take_succ_eq_append_getElem h1, List.take_succ_eq_append_getElem h2, h, he]
theorem eq_of_take {α : Type} {xs ys : List α} (hl : xs.length = ys.length) (h : xs.take xs.length = ys.take xs.length) : xs = ys := by
  rw [List.take_length, hl, List.take_length] at h; exact h

end Go.Proofs.Ytcdlfnhjpjpbjaa
