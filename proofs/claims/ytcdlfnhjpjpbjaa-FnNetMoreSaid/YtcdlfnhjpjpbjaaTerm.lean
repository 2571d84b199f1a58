/- Terms, declarations and layers, how they lie in memory. No program is named here. -/
import Derived.Test.YtcdlfnhjpjpbjaaLater
namespace Go.Proofs.Ytcdlfnhjpjpbjaa
open Go Go.RowKit

inductive T where
  | mk (op a b : Int) (name : ByteArray) (kids : List T) : T
namespace T
def op : T → Int | mk o _ _ _ _ => o
def a : T → Int | mk _ a _ _ _ => a
def b : T → Int | mk _ _ b _ _ => b
def name : T → ByteArray | mk _ _ _ n _ => n
def kids : T → List T | mk _ _ _ _ k => k
end T
/-- By the kids. -/
theorem T.ind {p : T → Prop} (h : ∀ t, (∀ k ∈ t.kids, p k) → p t) (t : T) : p t := by
  refine T.rec (motive_1 := p) (motive_2 := fun l => ∀ k ∈ l, p k) ?_ ?_ ?_ t
  · intro o a b n ks ih; exact h _ ih
  · intro k hk; cases hk
  · intro x xs hx hxs k hk
    rcases List.mem_cons.1 hk with rfl | hk
    · exact hx
    · exact hxs k hk
mutual
def T.same : T → T → Bool
  | .mk o a b n k, .mk o' a' b' n' k' => o == o' && a == a' && b == b' && n.toList == n'.toList && T.sameL k k'
def T.sameL : List T → List T → Bool
  | [], [] => true
  | x :: xs, y :: ys => T.same x y && T.sameL xs ys
  | _, _ => false
end
mutual
theorem T.same_self : ∀ t : T, T.same t t = true
  | .mk o a b n k => by simp [T.same, T.sameL_self k]
theorem T.sameL_self : ∀ l : List T, T.sameL l l = true
  | [] => rfl
  | x :: xs => by simp [T.sameL, T.same_self x, T.sameL_self xs]
end
theorem T.sameL_len : ∀ {xs ys : List T}, T.sameL xs ys = true → xs.length = ys.length
  | [], [], _ => rfl
  | x :: xs, y :: ys, h => by
    simp [T.sameL] at h
    simp [T.sameL_len h.2]
  | [], _ :: _, h => by simp [T.sameL] at h
  | _ :: _, [], h => by simp [T.sameL] at h
theorem T.sameL_iff : ∀ {xs ys : List T}, T.sameL xs ys = true ↔ xs.length = ys.length ∧ ∀ (i : Nat) (x y : T), xs[i]? = some x → ys[i]? = some y → T.same x y = true
  | [], [] => by simp [T.sameL]
  | [], _ :: _ => by simp [T.sameL]
  | _ :: _, [] => by simp [T.sameL]
  | x :: xs, y :: ys => by
    simp only [T.sameL, Bool.and_eq_true, T.sameL_iff (xs := xs) (ys := ys), List.length_cons]
    constructor
    · rintro ⟨h1, h2, h3⟩
      refine ⟨by omega, fun i x' y' hx hy => ?_⟩
      cases i with
      | zero => simp at hx hy; subst hx; subst hy; exact h1
      | succ i => exact h3 i x' y' (by simpa using hx) (by simpa using hy)
    · rintro ⟨h1, h2⟩
      exact ⟨h2 0 x y rfl rfl, by omega, fun i x' y' hx hy => h2 (i + 1) x' y' (by simpa using hx) (by simpa using hy)⟩

/-- The cells vs are the term t, read in w; all that they lead to lies in F. -/
inductive TermR (w : World) (F : Nat → Prop) : T → List Value → Prop
  | mk (o a b : Int) (n : ByteArray) (kids : List T) (A : Option Addr) (c : Nat) (vs : Nat → List Value) (hc : kids.length ≤ c)
      (hA : 0 < kids.length → ∃ ad, A = some ad ∧ F ad.block ∧ ∀ k, k < kids.length → ∀ j u, (vs k)[j]? = some u → w.cell? (ad.add (k * 5 + j)) = some u)
      (hk : ∀ k x, kids[k]? = some x → TermR w F x (vs k)) :
      TermR w F (.mk o a b n kids) [.int .i64 o, .int .i64 a, .int .i64 b, .string n, .slice A kids.length c]

def Lay.term : Lay T where
  size := 5
  R := TermR
  len := by rintro w F x vs ⟨⟩; rfl
  keep := by
    intro w w' F x vs hk h
    induction h with
    | mk o a b n kids A c vs hc hA hk' ih =>
      refine .mk o a b n kids A c vs hc (fun h0 => ?_) ih
      obtain ⟨ad, e, hf, hcell⟩ := hA h0
      exact ⟨ad, e, hf, fun k hk'' j u hu => (World.cell?_of_block (w := w) (by rw [block_of_add]; exact hk _ hf)).trans (hcell k hk'' j u hu)⟩
  mono := by
    intro w F G x vs hk h
    induction h with
    | mk o a b n kids A c vs hc hA hk' ih =>
      refine .mk o a b n kids A c vs hc (fun h0 => ?_) ih
      obtain ⟨ad, e, hf, hcell⟩ := hA h0
      exact ⟨ad, e, hk _ hf, hcell⟩

theorem TermR.form {w : World} {F : Nat → Prop} {t : T} {vs : List Value} (h : TermR w F t vs) :
    ∃ A c, vs = [.int .i64 t.op, .int .i64 t.a, .int .i64 t.b, .string t.name, .slice A t.kids.length c] ∧ t.kids.length ≤ c ∧ Lay.term.Sl w F A t.kids := by
  cases h with
  | mk o a b n kids A c vs hc hA hk =>
    refine ⟨A, c, rfl, hc, fun h0 => ?_⟩
    obtain ⟨ad, e, hf, hcell⟩ := hA h0
    refine ⟨ad, e, hf, fun k x hx => ⟨vs k, hk k x hx, fun j u hu => ?_⟩⟩
    have hlt : k < kids.length := by
      rcases Nat.lt_or_ge k kids.length with h | h
      · exact h
      · have hx' : kids[k]? = some x := hx
        rw [List.getElem?_eq_none h] at hx'; cases hx'
    exact hcell k hlt j u hu
theorem TermR.of {w : World} {F : Nat → Prop} {A : Option Addr} {c : Nat} {t : T} (hc : t.kids.length ≤ c) (h : Lay.term.Sl w F A t.kids) :
    TermR w F t [.int .i64 t.op, .int .i64 t.a, .int .i64 t.b, .string t.name, .slice A t.kids.length c] := by
  obtain ⟨o, a, b, n, kids⟩ := t
  change Lay.term.Sl w F A kids at h
  show TermR w F _ [.int .i64 o, .int .i64 a, .int .i64 b, .string n, .slice A kids.length c]
  by_cases h0 : 0 < kids.length
  · obtain ⟨ad, e, hf, hk⟩ := h h0
    have hk' : ∀ k, ∃ vs, ∀ x, kids[k]? = some x → TermR w F x vs ∧ ∀ j u, vs[j]? = some u → w.cell? (ad.add (k * 5 + j)) = some u := fun k => by
      cases hx : kids[k]? with
      | none => exact ⟨[], fun x h => by cases h⟩
      | some x =>
        obtain ⟨vs, h1, h2⟩ := hk k x hx
        exact ⟨vs, fun x' h => by cases h; exact ⟨h1, h2⟩⟩
    obtain ⟨f, hf'⟩ := Classical.axiomOfChoice hk'
    exact .mk o a b n kids A c f hc (fun _ => ⟨ad, e, hf, fun k hlt => (hf' k _ (List.getElem?_eq_getElem hlt)).2⟩) (fun k x hx => (hf' k x hx).1)
  · have : kids = [] := List.eq_nil_of_length_eq_zero (by omega)
    subst this
    exact .mk o a b n [] A c (fun _ => []) hc (fun h => absurd h (by simp)) (fun k x hx => by simp at hx)

theorem Lay.Sl.at_term {w : World} {F : Nat → Prop} {A : Option Addr} {xs : List T} (h : Lay.term.Sl w F A xs) {k : Nat} (hk : k < xs.length) :
    ∃ ad A' c', A = some ad ∧ F ad.block ∧ w.cell? (ad.add (k * 5)) = some (.int .i64 xs[k].op) ∧ w.cell? ⟨(ad.add (k * 5)).block, (ad.add (k * 5)).off + 1, none⟩ = some (.int .i64 xs[k].a) ∧
      w.cell? ⟨(ad.add (k * 5)).block, (ad.add (k * 5)).off + 2, none⟩ = some (.int .i64 xs[k].b) ∧ w.cell? ⟨(ad.add (k * 5)).block, (ad.add (k * 5)).off + 3, none⟩ = some (.string xs[k].name) ∧
      w.cell? ⟨(ad.add (k * 5)).block, (ad.add (k * 5)).off + 4, none⟩ = some (.slice A' xs[k].kids.length c') ∧ xs[k].kids.length ≤ c' ∧ Lay.term.Sl w F A' xs[k].kids := by
  obtain ⟨ad, e, hf, hc⟩ := h (by omega)
  obtain ⟨vs, hr, hcell⟩ := hc k xs[k] (List.getElem?_eq_getElem hk)
  obtain ⟨A', c', rfl, hl, hs⟩ := TermR.form hr
  have hc1 : ∀ j u, 0 < j → [Value.int .i64 xs[k].op, .int .i64 xs[k].a, .int .i64 xs[k].b, .string xs[k].name, .slice A' xs[k].kids.length c'][j]? = some u → w.cell? ⟨(ad.add (k * 5)).block, (ad.add (k * 5)).off + j, none⟩ = some u := fun j u hj hu => by
    have h1 : w.cell? (ad.add (k * 5 + j)) = some u := hcell j u hu
    rw [← add_of_add] at h1
    have : (ad.add (k * 5)).add j = ⟨(ad.add (k * 5)).block, (ad.add (k * 5)).off + j, none⟩ := by
      show (if j = 0 then _ else _) = _
      rw [if_neg (by omega)]
    rw [this] at h1; exact h1
  exact ⟨ad, A', c', e, hf, hcell 0 _ rfl, hc1 1 _ (by omega) rfl, hc1 2 _ (by omega) rfl, hc1 3 _ (by omega) rfl, hc1 4 _ (by omega) rfl, hl, hs⟩

structure D where
  name : ByteArray
  wide : Int
def D.same (x y : D) : Bool := x.name.toList == y.name.toList && x.wide == y.wide
theorem D.same_self (x : D) : D.same x x = true := by simp [D.same]
def Lay.decl : Lay D := Lay.flat 2 (fun d => [.string d.name, .int .i64 d.wide]) (fun _ => rfl)
theorem Lay.Sl.at_decl {w : World} {F : Nat → Prop} {A : Option Addr} {xs : List D} (h : Lay.decl.Sl w F A xs) {k : Nat} (hk : k < xs.length) :
    ∃ ad, A = some ad ∧ F ad.block ∧ w.cell? (ad.add (k * 2)) = some (.string xs[k].name) ∧ w.cell? ⟨(ad.add (k * 2)).block, (ad.add (k * 2)).off + 1, none⟩ = some (.int .i64 xs[k].wide) := by
  obtain ⟨ad, e, hf, hc⟩ := h (by omega)
  obtain ⟨vs, rfl, hcell⟩ := hc k xs[k] (List.getElem?_eq_getElem hk)
  refine ⟨ad, e, hf, hcell 0 _ rfl, ?_⟩
  show w.cell? ((ad.add (k * 2)).add 1) = _
  rw [add_of_add]; exact hcell 1 _ rfl

structure Ly where
  ds : List D
  ts : List T
/-- Two lists of as many, one by one alike. -/
def allSame {α : Type} (f : α → α → Bool) : List α → List α → Bool
  | [], [] => true
  | x :: xs, y :: ys => f x y && allSame f xs ys
  | _, _ => false
theorem allSame_self {α : Type} {f : α → α → Bool} (h : ∀ x, f x x = true) : ∀ l : List α, allSame f l l = true
  | [] => rfl
  | x :: xs => by simp [allSame, h x, allSame_self h xs]
theorem allSame_len {α : Type} {f : α → α → Bool} : ∀ {xs ys : List α}, xs.length ≠ ys.length → allSame f xs ys = false
  | [], [], h => absurd rfl h
  | [], _ :: _, _ => rfl
  | _ :: _, [], _ => rfl
  | x :: xs, y :: ys, h => by
    have : xs.length ≠ ys.length := fun e => h (by simp [e])
    simp [allSame, allSame_len this]
theorem allSame_drop {α : Type} {f : α → α → Bool} {xs ys : List α} {k : Nat} (hx : k < xs.length) (hy : k < ys.length) : allSame f (xs.drop k) (ys.drop k) = (f xs[k] ys[k] && allSame f (xs.drop (k + 1)) (ys.drop (k + 1))) := by
  rw [List.drop_eq_getElem_cons hx, List.drop_eq_getElem_cons hy]; rfl
theorem T.sameL_all : ∀ xs ys : List T, T.sameL xs ys = allSame T.same xs ys
  | [], [] => rfl
  | [], _ :: _ => rfl
  | _ :: _, [] => rfl
  | x :: xs, y :: ys => by simp [T.sameL, allSame, T.sameL_all xs ys]
def Ly.same (x y : Ly) : Bool := allSame D.same x.ds y.ds && allSame T.same x.ts y.ts
theorem Ly.same_self (x : Ly) : Ly.same x x = true := by simp [Ly.same, allSame_self D.same_self, allSame_self T.same_self]
def Lay.layer : Lay Ly where
  size := 2
  R w F x vs := ∃ A c B d, vs = [.slice A x.ds.length c, .slice B x.ts.length d] ∧ x.ds.length ≤ c ∧ x.ts.length ≤ d ∧ Lay.decl.Sl w F A x.ds ∧ Lay.term.Sl w F B x.ts
  len := by rintro w F x vs ⟨A, c, B, d, rfl, _⟩; rfl
  keep := by rintro w w' F x vs hk ⟨A, c, B, d, rfl, h1, h2, h3, h4⟩; exact ⟨A, c, B, d, rfl, h1, h2, h3.keep hk, h4.keep hk⟩
  mono := by rintro w F G x vs hk ⟨A, c, B, d, rfl, h1, h2, h3, h4⟩; exact ⟨A, c, B, d, rfl, h1, h2, h3.mono hk, h4.mono hk⟩
theorem Lay.Sl.at_layer {w : World} {F : Nat → Prop} {A : Option Addr} {xs : List Ly} (h : Lay.layer.Sl w F A xs) {k : Nat} (hk : k < xs.length) :
    ∃ ad A1 c1 A2 c2, A = some ad ∧ F ad.block ∧ w.cell? (ad.add (k * 2)) = some (.slice A1 xs[k].ds.length c1) ∧ w.cell? ⟨(ad.add (k * 2)).block, (ad.add (k * 2)).off + 1, none⟩ = some (.slice A2 xs[k].ts.length c2) ∧
      xs[k].ds.length ≤ c1 ∧ xs[k].ts.length ≤ c2 ∧ Lay.decl.Sl w F A1 xs[k].ds ∧ Lay.term.Sl w F A2 xs[k].ts := by
  obtain ⟨ad, e, hf, hc⟩ := h (by omega)
  obtain ⟨vs, ⟨A1, c1, A2, c2, rfl, h1, h2, h3, h4⟩, hcell⟩ := hc k xs[k] (List.getElem?_eq_getElem hk)
  refine ⟨ad, A1, c1, A2, c2, e, hf, hcell 0 _ rfl, ?_, h1, h2, h3, h4⟩
  show w.cell? ((ad.add (k * 2)).add 1) = _
  rw [add_of_add]; exact hcell 1 _ rfl
end Go.Proofs.Ytcdlfnhjpjpbjaa
