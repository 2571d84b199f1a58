/- The reference's draws of terms: l2Bent. -/
import Derived.Test.YtiahmfpfimmbgaaGreatDoorJFnCtx14
import Derived.Test.YtiahmfpfimmbgaaGreatDoorJFnCtx16
import Derived.Test.YtiahmfpfimmbgaaGreatDoorJFnCtx24
/-! The reference's draws of terms: l2Bent. -/
namespace Go.Proofs.YtiahmfpfimmbgaaGreatDoor
open Go Go.RowKit

/-- The reader's block, the box, the answer's box. -/
def S9 (r b z : Nat) : Nat → Prop := fun x => x = r ∨ x = b ∨ x = b + 1 ∨ x = z
def S8 (r b : Nat) : Nat → Prop := fun x => x = r ∨ x = b
/-- What l2Bent holds: the term in its box. -/
structure BSt (w0 : World) (r b z : Nat) (q : Int) (o a d : Int) (n : ByteArray) (ks : List T) (A : Option Addr) (c : Nat) (w : World) : Prop where
  rd : Rdr w r q
  gr : Gr (IsR r) w0 w
  box : w.heap[b]? = some (.cells #[.int .i64 o, .int .i64 a, .int .i64 d, .string n, .slice A ks.length c] 48 (0, 0))
  out : w.heap[b + 1]? = some (.cells #[.int .i64 0, .int .i64 0, .int .i64 0, .string ⟨#[]⟩, .slice none 0 0] 48 (0, 0))
  kids : Lay.term.Sl w (Ab (S9 r b z) w) A ks
  cap : ks.length ≤ c
  ok : T.All okT3 (.mk o a d n ks)
section
variable {w0 w w' : World} {r b z : Nat} {q q' : Int} {o a d : Int} {n : ByteArray} {ks : List T} {A : Option Addr} {c : Nat}
theorem BSt.up (h : BSt w0 r b z q o a d n ks A c w) (hb : Below w.heap.size w w') : BSt w0 r b z q o a d n ks A c w' :=
  ⟨h.rd.up hb, h.gr.up hb, (hb.block _ (lt_of_block h.box)).trans h.box, (hb.block _ (lt_of_block h.out)).trans h.out, h.kids.gr (.below hb), h.cap, h.ok⟩
theorem BSt.drew (h : BSt w0 r b z q o a d n ks A c w) (hR : Rdr w' r q') (hg : Gr (IsR r) w w') (hrb : r < b) : BSt w0 r b z q' o a d n ks A c w' :=
  ⟨hR, h.gr.trans hg, hg.heap (by show ¬ _ = r; omega) h.box, hg.heap (by show ¬ _ = r; omega) h.out, h.kids.gr (hg.mono fun x hx => .inl hx), h.cap, h.ok⟩
/-- What lies above the boxes has turned. -/
theorem BSt.low (h : BSt w0 r b z q o a d n ks A c w) (hk : Lay.term.Sl w (fun x => x < b ∧ ¬ x = r ∧ ¬ x = z) A ks) (hb : Below (b + 2) w w') (hrb : r < b) (hb0 : w0.heap.size ≤ b) : BSt w0 r b z q o a d n ks A c w' :=
  ⟨h.rd.keep fun x hx => hb.block x (by omega), h.gr.then (T := fun x => b + 2 ≤ x) ⟨hb.os, hb.tape, hb.output, hb.size, fun i _ hn => hb.block i (Nat.lt_of_not_le hn)⟩ fun x hx => .inr (by omega), (hb.block _ (by omega)).trans h.box, (hb.block _ (by omega)).trans h.out,
    (hk.keep fun x hx => hb.block x (by omega)).mono fun x hx => ⟨by have := lt_of_block h.box; have := hb.size; omega, fun e => by rcases e with e | e | e | e; exact hx.2.1 e; (have := hx.1; omega); (have := hx.1; omega); exact hx.2.2 e⟩, h.cap, h.ok⟩
theorem BSt.low9 {row : Option Nat} (h : BSt w0 r b z q o a d n ks A c w) (hg : w.grownBy w' row) (hk : Lay.term.Sl w (fun x => x < w.heap.size ∧ ¬ S9 r b z x ∧ row ≠ some x) A ks) (hr : ∀ g, row = some g → b + 2 ≤ g) (hrb : r < b) (hb0 : w0.heap.size ≤ b) : BSt w0 r b z q o a d n ks A c w' :=
  ⟨h.rd.own hg fun g e => by have := hr g e; omega, h.gr.own hg fun g e => by have := hr g e; omega, (hg.block _ (lt_of_block h.box) fun e => by have := hr _ e.symm; omega).trans h.box, (hg.block _ (lt_of_block h.out) fun e => by have := hr _ e.symm; omega).trans h.out,
    (hk.keep fun x hx => hg.block x hx.1 fun e => hx.2.2 e.symm).mono fun x hx => ⟨Nat.lt_of_lt_of_le hx.1 hg.size, hx.2.1⟩, h.cap, h.ok⟩
/-- Another term has been put into the box. -/
theorem BSt.put {o' a' d' : Int} {n' : ByteArray} {ks' : List T} {A' : Option Addr} {c' : Nat} (h : BSt w0 r b z q o a d n ks A c w) (hg : Gr (fun x => x = b) w w') (hrb : r < b) (hb0 : w0.heap.size ≤ b) (hx : w'.heap[b]? = some (.cells #[.int .i64 o', .int .i64 a', .int .i64 d', .string n', .slice A' ks'.length c'] 48 (0, 0)))
    (hk : Lay.term.Sl w (Ab (S9 r b z) w) A' ks') (hc : ks'.length ≤ c') (ho : T.All okT3 (.mk o' a' d' n' ks')) : BSt w0 r b z q o' a' d' n' ks' A' c' w' :=
  ⟨h.rd.gr hg fun x e => by rw [show x = b from e]; exact hrb, h.gr.then hg fun x e => .inr (by rw [show x = b from e]; exact hb0), hx, hg.heap (by show ¬ b + 1 = b; omega) h.out, hk.gr (hg.mono fun x e => .inr (.inl e)), hc, ho⟩
theorem gr_set (w : World) (b o : Nat) (v : Value) : Gr (fun x => x = b) w (w.setCell ⟨b, o, none⟩ v) := (Gr.refl _ w).set b o v (.inl rfl)
end
theorem T.eta (t : T) : T.mk t.op t.a t.b t.name t.kids = t := by cases t; rfl
theorem okT_set {o a d : Int} {n : ByteArray} {ks : List T} (h : T.All okT3 (.mk o a d n ks)) {o' a' d' : Int} {n' : ByteArray} (h0 : -9223372036854775808 ≤ o') (h1 : o' ≤ 9223372036854775807) (hn : n'.size ≤ 1048576) : T.All okT3 (.mk o' a' d' n' ks) := .mk _ ⟨⟨h.here.1.1, hn⟩, h0, h1⟩ h.kid
theorem okT_one {t : T} (h : T.All okT3 t) {o : Int} (h0 : -9223372036854775808 ≤ o) (h1 : o ≤ 9223372036854775807) : T.All okT3 (.mk o 0 0 ⟨#[]⟩ [t]) := .mk _ ⟨⟨by show ([t] : List T).length ≤ 1048576; simp, by show (0 : Nat) ≤ 1048576; omega⟩, h0, h1⟩ fun k hk => by
  have hk : k ∈ [t] := hk
  simp at hk
  subst hk
  exact h
def trueT : T := .mk 24 0 0 ⟨#[]⟩ []
theorem okT_more {o a d : Int} {n : ByteArray} {ks : List T} (h : T.All okT3 (.mk o a d n ks)) (hl : ks.length ≤ 12) : T.All okT3 (.mk o a d n (ks ++ [trueT])) := .mk _ ⟨⟨by show (ks ++ [trueT]).length ≤ 1048576; rw [List.length_append, List.length_singleton]; omega, h.here.1.2⟩, h.here.2⟩ fun k hk => by
  have hk : k ∈ ks ++ [trueT] := hk
  rcases List.mem_append.1 hk with hk | hk
  · exact h.kid k hk
  · simp at hk
    subst hk
    exact (okT_leaf (by omega) (by omega) (by decide)).five
/-- One term in a block of its own. -/
theorem one_term_sl {S : Nat → Prop} {w : World} {g : Nat} {A : Option Addr} {c : Nat} {t : T} (hb : w.heap[g]? = some (.cells #[.int .i64 t.op, .int .i64 t.a, .int .i64 t.b, .string t.name, .slice A t.kids.length c] 48 (0, 0))) (hS : ¬ S g) (hc : t.kids.length ≤ c) (hk : Lay.term.Sl w (Ab S w) A t.kids) :
    Lay.term.Sl w (Ab S w) (some ⟨g, 0, none⟩) [t] := fun _ => by
  refine ⟨_, rfl, ⟨lt_of_block hb, hS⟩, fun k x hx => ?_⟩
  match k, hx with
  | 0, hx =>
    injection hx with hx
    subst hx
    refine ⟨_, TermR.of hc hk, fun j u hu => ?_⟩
    have e : (⟨g, 0, none⟩ : Addr).add (0 * Lay.term.size + j) = ⟨g, j, none⟩ := by
      rw [Nat.zero_mul, Nat.zero_add]
      unfold Addr.add
      split
      · rename_i e; rw [e]
      · simp
    rw [e, (cell_of_block hb _).1]
    match j, hu with
    | 0, hu => exact hu
    | 1, hu => exact hu
    | 2, hu => exact hu
    | 3, hu => exact hu
    | 4, hu => exact hu
    | j + 5, hu => simp at hu
  | k + 1, hx => simp at hx
/-- append of some terms onto a row of the call's own. -/
theorem wpList_append_kids {Q : Exit → Act → World → Prop} {ops : Array Oper} {rest : List Oper} {o : Oper} {a : Act} {w : World} {S G : Nat → Prop} {lo : Nat} {A B : Option Addr} {c d : Nat} {xs zs ys : List T} (hgd : o.guard = none) (s x : Operand)
    (ho : o.op = .call { callee := .builtin .append, args := #[s, x], argTypes := #[24, 24] }) (hs : a.eval s = .slice A xs.length c) (hx : a.eval x = .slice B zs.length d)
    (hown : OwnL Lay.term (NotIn S) 48 w lo (.slice A xs.length c) xs) (hr : Lay.term.Sl w G B zs) (hG : ∀ b, G b → b < w.heap.size ∧ (Value.slice A xs.length c).ownBlock ≠ some b ∧ ¬ S b) (hn : xs.length ≤ 2000000) (hm : zs.length ≤ 2000000) (hlo : lo ≤ w.heap.size) (hy : ys = xs ++ zs)
    (h : ∀ A' c' w', OwnL Lay.term (NotIn S) 48 w' lo (.slice A' ys.length c') ys → Below lo w w' → w.grownBy w' (Value.slice A xs.length c).ownBlock → wpList Tryz.prog ops Q rest (a.put o.dst (.slice A' ys.length c')) w') : wpList Tryz.prog ops Q (o :: rest) a w := by
  obtain ⟨i0, hi0, hz0, hz1, hz2⟩ := info_parts term_info
  refine wpList_append_rows (L := Lay.term) (Q := NotIn S) hgd s x ho Tryz.underlying24 hi0 hz0 hz1 hz2 rfl (by show 0 < 5; omega) term_one hs hx hown (Stay.notIn S) hr hG hn hm (by omega) hlo hy ?_
  intro A' c' w' h1 h2 h3
  exact h A' c' w' h1 ((Below.refl _ _).grown h2 hlo (fun k hk => (hown.lt k hk).1)) h2
/-- A bent term. -/
def RetDB (r z : Nat) (p M : Int) (w : World) (e : Ending) (w' : World) : Prop :=
  ∃ (t : T) (A : Option Addr) (c : Nat), e = .returned (.agg #[.int .i64 t.op, .int .i64 t.a, .int .i64 t.b, .string t.name, .slice A t.kids.length c]) ∧ t.kids.length ≤ c ∧ Lay.term.Sl w' (Ab (fun x => x = z) w') A t.kids ∧ T.All okT3 t ∧ Drawn r p M w w'
/-- The term is put into the answer's box and handed back. -/
theorem BSt.fin {w0 w : World} {r b z : Nat} {p q : Int} {o a d : Int} {n : ByteArray} {ks : List T} {A : Option Addr} {c : Nat} (h : BSt w0 r b z q o a d n ks A c w) (h1 : p ≤ q) (h2 : q ≤ p + 3) (hb0 : w0.heap.size ≤ b) (hr : r < w0.heap.size) :
    (((((w.setCell ⟨b + 1, 0, none⟩ (.int .i64 o)).setCell ⟨b + 1, 1, none⟩ (.int .i64 a)).setCell ⟨b + 1, 2, none⟩ (.int .i64 d)).setCell ⟨b + 1, 3, none⟩ (.string n)).setCell ⟨b + 1, 4, none⟩ (.slice A ks.length c)).heap[b + 1]? = some (.cells #[.int .i64 o, .int .i64 a, .int .i64 d, .string n, .slice A ks.length c] 48 (0, 0)) ∧
    RetDB r z p 3 w0 (.returned (.agg #[.int .i64 o, .int .i64 a, .int .i64 d, .string n, .slice A ks.length c])) (((((w.setCell ⟨b + 1, 0, none⟩ (.int .i64 o)).setCell ⟨b + 1, 1, none⟩ (.int .i64 a)).setCell ⟨b + 1, 2, none⟩ (.int .i64 d)).setCell ⟨b + 1, 3, none⟩ (.string n)).setCell ⟨b + 1, 4, none⟩ (.slice A ks.length c)) :=
  have hg : Gr (S9 r b z) w (((((w.setCell ⟨b + 1, 0, none⟩ (.int .i64 o)).setCell ⟨b + 1, 1, none⟩ (.int .i64 a)).setCell ⟨b + 1, 2, none⟩ (.int .i64 d)).setCell ⟨b + 1, 3, none⟩ (.string n)).setCell ⟨b + 1, 4, none⟩ (.slice A ks.length c)) :=
    (((((Gr.refl _ w).set _ _ _ (.inl (.inr (.inr (.inl rfl))))).set _ _ _ (.inl (.inr (.inr (.inl rfl))))).set _ _ _ (.inl (.inr (.inr (.inl rfl))))).set _ _ _ (.inl (.inr (.inr (.inl rfl))))).set _ _ _ (.inl (.inr (.inr (.inl rfl))))
  ⟨box5 h.out, .mk o a d n ks, A, c, rfl, h.cap, (h.kids.gr hg).ab_mono fun x _ e => .inr (.inr (.inr e)), h.ok, drawn_store h1 h2 h.rd h.gr (by omega) hr⟩
set_option maxRecDepth 100000 in
set_option maxHeartbeats 16000000 in
theorem l2Bent_any (r z : Nat) (p : Int) (t : T) (A0 : Option Addr) (c0 : Nat) (w0 : World) (h : Rdr w0 r p) (hzl : z < w0.heap.size) {lo : Nat} (hk : TF lo w0 A0 t.kids) (hrlo : r < lo) (hzlo : z < lo) (hc0 : t.kids.length ≤ c0) (ho : T.All okT3 t) (h12 : t.kids.length ≤ 12) (p0 : 0 ≤ p) (p1 : p ≤ 900000000) :
    Calls Tryz.prog 87 #[.pointer (some ⟨r, 0, none⟩), .agg #[.int .i64 t.op, .int .i64 t.a, .int .i64 t.b, .string t.name, .slice A0 t.kids.length c0]] w0 (RetDB r z p 3 w0) := by
  have hrl := h.lt
  have hal1 : Below w0.heap.size w0 (w0.alloc (.cells #[.int .i64 t.op, .int .i64 t.a, .int .i64 t.b, .string t.name, .slice A0 t.kids.length c0] 48)) := (Below.refl _ _).alloc (Nat.le_refl _) _
  have hbx1 := heap_alloc_new w0 (.cells #[.int .i64 t.op, .int .i64 t.a, .int .i64 t.b, .string t.name, .slice A0 t.kids.length c0] 48)
  have hsz1 : (w0.alloc (.cells #[.int .i64 t.op, .int .i64 t.a, .int .i64 t.b, .string t.name, .slice A0 t.kids.length c0] 48)).heap.size = w0.heap.size + 1 := by show (w0.heap.push _).size = _; rw [Array.size_push]
  obtain ⟨w1, hw1⟩ : ∃ w1, w1 = w0.alloc (.cells #[.int .i64 t.op, .int .i64 t.a, .int .i64 t.b, .string t.name, .slice A0 t.kids.length c0] 48) := ⟨_, rfl⟩
  rw [← hw1] at hal1 hbx1 hsz1
  have hal2 : Below w1.heap.size w1 (w1.alloc (.cells #[.int .i64 0, .int .i64 0, .int .i64 0, .string ⟨#[]⟩, .slice none 0 0] 48)) := (Below.refl _ _).alloc (Nat.le_refl _) _
  have hbx2 := heap_alloc_new w1 (.cells #[.int .i64 0, .int .i64 0, .int .i64 0, .string ⟨#[]⟩, .slice none 0 0] 48)
  have hsz2 : (w1.alloc (.cells #[.int .i64 0, .int .i64 0, .int .i64 0, .string ⟨#[]⟩, .slice none 0 0] 48)).heap.size = w0.heap.size + 1 + 1 := by show (w1.heap.push _).size = _; rw [Array.size_push, hsz1]
  rw [hsz1] at hbx2
  obtain ⟨w2, hw2⟩ : ∃ w2, w2 = w1.alloc (.cells #[.int .i64 0, .int .i64 0, .int .i64 0, .string ⟨#[]⟩, .slice none 0 0] 48) := ⟨_, rfl⟩
  rw [← hw2] at hal2 hbx2 hsz2
  have hkn : Lay.term.Sl w0 (fun x => x < w0.heap.size ∧ ¬ x = r ∧ ¬ x = z) A0 t.kids := hk.mono fun x hx => ⟨hx.2, by have h1 : lo ≤ x := hx.1; omega, by have h1 : lo ≤ x := hx.1; omega⟩
  have hk1 : Lay.term.Sl w1 (fun x => x < w0.heap.size ∧ ¬ x = r ∧ ¬ x = z) A0 t.kids := hkn.keep fun x hx => hal1.block x hx.1
  have hk2 : Lay.term.Sl w2 (fun x => x < w0.heap.size ∧ ¬ x = r ∧ ¬ x = z) A0 t.kids := hk1.keep fun x hx => hal2.block x (by have h1 : x < w0.heap.size := hx.1; omega)
  have hS2 : BSt w0 r w0.heap.size z p t.op t.a t.b t.name t.kids A0 c0 w2 := ⟨(h.up hal1).up hal2, (Gr.below hal1).up hal2, (hal2.block _ (lt_of_block hbx1)).trans hbx1, hbx2, hk2.mono fun x hx => ⟨by have h1 : x < w0.heap.size := hx.1; omega, fun e => by rcases e with e | e | e | e; exact hx.2.1 e; (have := hx.1; omega); (have := hx.1; omega); exact hx.2.2 e⟩, hc0, by rw [T.eta]; exact ho⟩
  have hal3 : Below w2.heap.size w2 (w2.alloc (.cells #[] 48)) := (Below.refl _ _).alloc (Nat.le_refl _) _
  have hown3 : OwnL Lay.term (NotIn (S9 r w0.heap.size z)) 48 (w2.alloc (.cells #[] 48)) w2.heap.size (.slice (some ⟨w2.heap.size, 0, none⟩) ([] : List T).length 0) [] := ⟨[], own_lit0 rfl, fun i x h => by simp at h⟩
  have hS3 := hS2.up hal3
  have hk3 : Lay.term.Sl (w2.alloc (.cells #[] 48)) (fun x => x < w0.heap.size ∧ ¬ x = r ∧ ¬ x = z) A0 t.kids := hk2.keep fun x hx => hal3.block x (by have h1 : x < w0.heap.size := hx.1; omega)
  obtain ⟨w3, hw3⟩ : ∃ w3, w3 = w2.alloc (.cells #[] 48) := ⟨_, rfl⟩
  rw [← hw3] at hal3 hown3 hS3 hk3
  rw [hsz2] at hown3
  have HL3 : Hid (w0.heap.size + 1 + 1 ≤ w3.heap.size) := Lib.hid (by rw [← hsz2]; exact hal3.size)
  have HS3 := Lib.hid hS3
  have HO3 := Lib.hid hown3
  have HK3 := Lib.hid hk3
  have HSZ2 := Lib.hid hsz2
  have hl0 : ([] : List T).length ≤ 2000000 := by simp
  clear hrlo hzlo h hk hc0 ho hal1 hbx1 hsz1 hal2 hbx2 hkn hk1 hk2 hk3 hS2 hal3 hown3 hS3 hsz2
  have HW1 := Lib.hid hw1
  have HW2 := Lib.hid hw2
  have HW3 := Lib.hid hw3
  clear hw1 hw2 hw3
  have HGG : Hid (∀ x, (x < w0.heap.size ∧ ¬ x = r ∧ ¬ x = z) → x < w3.heap.size ∧ (Value.slice (some ⟨w0.heap.size + 1 + 1, 0, none⟩) ([] : List T).length 0).ownBlock ≠ some x ∧ ¬ S9 r w0.heap.size z x) := Lib.hid fun x hx => ⟨by have := HL3.out; have h1 : x < w0.heap.size := hx.1; omega, fun e => by
    have h1 : x < w0.heap.size := hx.1
    have e : some (w0.heap.size + 1 + 1) = some x := e
    injection e with e
    omega, fun e => by
    have h1 : x < w0.heap.size := hx.1
    rcases e with e | e | e | e
    · exact hx.2.1 e
    · have e : x = w0.heap.size := e
      omega
    · have e : x = w0.heap.size + 1 := e
      omega
    · exact hx.2.2 e⟩
  go_enter Tryz.func87, Tryz.ntmps87
  have c0w : w3.cell? ⟨w0.heap.size, 4, none⟩ = some (.slice A0 t.kids.length c0) := (cell_of_block HS3.out.box 4).1
  rw [HW3.out, HW2.out, HW1.out] at c0w
  obtain ⟨ys, hys⟩ : ∃ ys, ys = [] ++ t.kids := ⟨_, rfl⟩
  have HYS := Lib.hid hys
  clear hys
  have hl1 : t.kids.length ≤ 2000000 := by omega
  go_wp2_with (at_builtin; rw [← HW1.out, ← HW2.out, ← HW3.out]; refine wpList_append_kids (S := S9 r w0.heap.size z) (ys := ys) (by rfl) (.tmp 7) (.tmp 9) (by rfl) (by rfl) (by rfl) HO3.out HK3.out HGG.out hl0 hl1 HL3.out HYS.out ?_; intro A5 c5 w5 hown5 hb5 hg5)
  have HK5 : Hid (Lay.term.Sl w5 (fun x => x < w0.heap.size ∧ ¬ x = r ∧ ¬ x = z) A0 t.kids) := Lib.hid (HK3.out.keep fun x hx => hb5.block x (by have h1 : x < w0.heap.size := hx.1; omega))
  have HYK : Hid (ys = t.kids) := Lib.hid (by rw [HYS.out]; rfl)
  have hS5 : BSt w0 r w0.heap.size z p t.op t.a t.b t.name t.kids A0 c0 w5 := HS3.out.low HK3.out hb5 hrl (Nat.le_refl _)
  have HS5 := Lib.hid hS5
  have HO5 := Lib.hid hown5
  have hb0 : w0.heap.size ≤ w0.heap.size := Nat.le_refl _
  have hrl0 : r < w0.heap.size := hrl
  clear hS5 hown5 hb5 hg5 HS3 HO3 HK3 HL3 HW1 HW2 HW3 HYS hl0 hl1 c0w
  obtain ⟨u0, hu0⟩ : ∃ u0, u0 = w0 := ⟨_, rfl⟩
  have HU0 := Lib.hid hu0
  clear hu0 HSZ2
  generalize hbe : w0.heap.size = b at HS5 HO5 HK5 hrl hzl hb0 ⊢
  have hrb : r < b := hrl
  clear hrl
  have HBE := Lib.hid hbe
  have hb0 : w0.heap.size ≤ b := Nat.le_of_eq hbe
  clear hbe
  go_wp2_with fail
  refine (pick_any r p 60 w5 HS5.out.rd (by omega) (by omega) (by omega) (by omega)).mono ?_
  rintro e wr ⟨y, rfl, y0, y1, _, hR6, hg6⟩
  have hg6 := Gr.one (S := IsR r) hg6 rfl
  have HS := Lib.hid (HS5.out.drew hR6 hg6 hrb)
  have HO6 := Lib.hid (HO5.out.gr (hg6.mono fun x hx => .inl hx) fun x hx => by rcases hx with e | e | e | e; (have e : x = r := e; omega); (have e : x = b := e; omega); (have e : x = b + 1 := e; omega); (have e : x = z := e; omega))
  have HK6 : Hid (Lay.term.Sl wr (fun x => x < b ∧ ¬ x = r ∧ ¬ x = z) A0 t.kids) := Lib.hid (HK5.out.keep fun x hx => hg6.block x (by have h1 : x < b := hx.1; have := lt_of_block HS5.out.box; omega) hx.2.1)
  have HSZ : Hid (b + 2 ≤ wr.heap.size) := Lib.hid (by have := lt_of_block HS.out.out; omega)
  clear hR6 hg6 y1 HS5 HO5 HK5
  by_cases h0 : y = 0
  · subst h0
    have hal := (Below.refl wr.heap.size wr).alloc (Nat.le_refl _) (.cells #[.int .i64 0, .int .i64 18, .int .i64 28, .int .i64 3, .int .i64 16, .int .i64 25] 3)
    have HLT := Lib.hid (lit_sl (S := fun x => x = r) wr [0, 18, 28, 3, 16, 25] #[.int .i64 0, .int .i64 18, .int .i64 28, .int .i64 3, .int .i64 16, .int .i64 25] 3 rfl (by have := HSZ.out; omega))
    have HS1 := Lib.hid (HS.out.up hal)
    clear hal
    go_wp2_with fail
    refine (num_any r (p + 1) _ 6 [0, 18, 28, 3, 16, 25] _ HS1.out.rd HLT.out (by simp) (by simp) (by omega) (by omega)).mono ?_
    rintro e w7 ⟨k9, hz, rfl, hR7, hg7⟩
    have HS7 := Lib.hid (HS1.out.drew hR7 hg7 hrb)
    have hz9 : 0 ≤ k9 ∧ k9 ≤ 28 := by simp at hz; omega
    clear hz hR7 hg7 HLT HS1
    have HS8 : Hid (BSt w0 r b z (p + 1 + 1) k9 t.a t.b t.name t.kids A0 c0 (w7.setCell ⟨b, 0, none⟩ (.int .i64 k9))) := Lib.hid (HS7.out.put (gr_set _ _ _ _) hrb hb0 (heap_set_same w7 b 0 (.int .i64 k9) _ _ HS7.out.box) HS7.out.kids HS7.out.cap (okT_set HS7.out.ok (by omega) (by omega) HS7.out.ok.here.1.2))
    obtain ⟨sc, sg⟩ := cell_of_block HS7.out.box 0
    obtain ⟨cc0, gg0⟩ := (show (w7.setCell ⟨b, 0, none⟩ (.int .i64 k9)).cell? ⟨b, 0, none⟩ = _ ∧ (w7.setCell ⟨b, 0, none⟩ (.int .i64 k9)).frozen? ⟨b, 0, none⟩ = false from cell_of_block HS8.out.box 0)
    obtain ⟨cc1, gg1⟩ := (show (w7.setCell ⟨b, 0, none⟩ (.int .i64 k9)).cell? ⟨b, 1, none⟩ = _ ∧ (w7.setCell ⟨b, 0, none⟩ (.int .i64 k9)).frozen? ⟨b, 1, none⟩ = false from cell_of_block HS8.out.box 1)
    obtain ⟨cc2, gg2⟩ := (show (w7.setCell ⟨b, 0, none⟩ (.int .i64 k9)).cell? ⟨b, 2, none⟩ = _ ∧ (w7.setCell ⟨b, 0, none⟩ (.int .i64 k9)).frozen? ⟨b, 2, none⟩ = false from cell_of_block HS8.out.box 2)
    obtain ⟨cc3, gg3⟩ := (show (w7.setCell ⟨b, 0, none⟩ (.int .i64 k9)).cell? ⟨b, 3, none⟩ = _ ∧ (w7.setCell ⟨b, 0, none⟩ (.int .i64 k9)).frozen? ⟨b, 3, none⟩ = false from cell_of_block HS8.out.box 3)
    obtain ⟨cc4, gg4⟩ := (show (w7.setCell ⟨b, 0, none⟩ (.int .i64 k9)).cell? ⟨b, 4, none⟩ = _ ∧ (w7.setCell ⟨b, 0, none⟩ (.int .i64 k9)).frozen? ⟨b, 4, none⟩ = false from cell_of_block HS8.out.box 4)
    obtain ⟨co0, go0⟩ := (show (w7.setCell ⟨b, 0, none⟩ (.int .i64 k9)).cell? ⟨b + 1, 0, none⟩ = _ ∧ (w7.setCell ⟨b, 0, none⟩ (.int .i64 k9)).frozen? ⟨b + 1, 0, none⟩ = false from cell_of_block HS8.out.out 0)
    obtain ⟨co1, go1⟩ := (show (w7.setCell ⟨b, 0, none⟩ (.int .i64 k9)).cell? ⟨b + 1, 1, none⟩ = _ ∧ (w7.setCell ⟨b, 0, none⟩ (.int .i64 k9)).frozen? ⟨b + 1, 1, none⟩ = false from cell_of_block HS8.out.out 1)
    obtain ⟨co2, go2⟩ := (show (w7.setCell ⟨b, 0, none⟩ (.int .i64 k9)).cell? ⟨b + 1, 2, none⟩ = _ ∧ (w7.setCell ⟨b, 0, none⟩ (.int .i64 k9)).frozen? ⟨b + 1, 2, none⟩ = false from cell_of_block HS8.out.out 2)
    obtain ⟨co3, go3⟩ := (show (w7.setCell ⟨b, 0, none⟩ (.int .i64 k9)).cell? ⟨b + 1, 3, none⟩ = _ ∧ (w7.setCell ⟨b, 0, none⟩ (.int .i64 k9)).frozen? ⟨b + 1, 3, none⟩ = false from cell_of_block HS8.out.out 3)
    obtain ⟨co4, go4⟩ := (show (w7.setCell ⟨b, 0, none⟩ (.int .i64 k9)).cell? ⟨b + 1, 4, none⟩ = _ ∧ (w7.setCell ⟨b, 0, none⟩ (.int .i64 k9)).frozen? ⟨b + 1, 4, none⟩ = false from cell_of_block HS8.out.out 4)
    go_wp2
    have hfn := BSt.fin (p := p) HS8.out (by omega) (by omega) hb0 hrl0
    generalize ((((((w7.setCell ⟨b, 0, none⟩ (.int .i64 k9)).setCell ⟨b + 1, 0, none⟩ (.int .i64 k9)).setCell ⟨b + 1, 1, none⟩ (.int .i64 t.a)).setCell ⟨b + 1, 2, none⟩ (.int .i64 t.b)).setCell ⟨b + 1, 3, none⟩ (.string t.name)).setCell ⟨b + 1, 4, none⟩ (.slice A0 t.kids.length c0)) = w9 at *
    obtain ⟨hbx, hres⟩ := hfn
    have HRES := Lib.hid hres
    clear hres
    have e0 := (cell_of_block hbx 0).1
    have e1 := (cell_of_block hbx 1).1
    have e2 := (cell_of_block hbx 2).1
    have e3 := (cell_of_block hbx 3).1
    have e4 := (cell_of_block hbx 4).1
    simp at e0 e1 e2 e3 e4
    refine bodyPost_ret (v := .agg #[.int .i64 k9, .int .i64 t.a, .int .i64 t.b, .string t.name, .slice A0 t.kids.length c0]) (by simp [results, Tryz.results87, go_sem, e0, e1, e2, e3, e4]) rfl ?_
    exact HRES.out
  · have g0 : (y == 0) = false := by simpa using h0
    by_cases h1 : y = 1
    · subst h1
      go_wp2
      refine wp_region_rel4 [[], [(0, 21)], [], [], [(2, 23), (3, 24)], [(1, 22), (4, 25)], [], [(6, 27), (5, 26)]]
        (fun y y' => Gr (S8 r b) y y')
        []
        (fun f9 x9 => (∃ q9, p ≤ q9 ∧ q9 ≤ p + 1 + (if f9 4 = true then 1 else 0) ∧ Rdr x9 r q9) ∧ Gr (S8 r b) wr x9 ∧ Gr (IsR r) w0 x9 ∧ (f9 7 = false → x9.heap[b]? = some (.cells #[.int .i64 t.op, .int .i64 t.a, .int .i64 t.b, .string t.name, .slice A0 t.kids.length c0] 48 (0, 0))) ∧ (f9 7 = true → ∃ z9 : Int, x9.heap[b]? = some (.cells #[.int .i64 t.op, .int .i64 z9, .int .i64 t.b, .string t.name, .slice A0 t.kids.length c0] 48 (0, 0))))
        [fun vs9 _ => vs9 0 = (.pointer (some ⟨b, 1, none⟩)),
          fun vs9 _ => vs9 1 = (.int .i64 t.a),
          fun vs9 _ => vs9 2 = (.pointer (some ⟨r, 0, none⟩)),
          fun vs9 y9 => (fun v y => ∃ g : Nat, v = .slice (some ⟨g, 0, none⟩) 2 2 ∧ Lay.int.Sl y (Ab (S8 r b) y) (some ⟨g, 0, none⟩) [1, -1]) (vs9 3) y9,
          fun vs9 y9 => (fun v y => ∃ z : Int, v = .int .i64 z) (vs9 4) y9,
          fun vs9 y9 => (fun v y => ∃ z : Int, v = .int .i64 z) (vs9 5) y9,
          fun vs9 _ => vs9 6 = (.pointer (some ⟨b, 1, none⟩)),
          fun _ _ => True]
        [(0, 21), (1, 22), (2, 23), (3, 24), (4, 25), (5, 26), (6, 27)] (by kernel_rfl) (by kernel_rfl) (by kernel_rfl) (by kernel_rfl)
        (fun _ => Gr.refl _ _) trivial
        ⟨⟨.inr (fun _ _ _ h _ => h), trivial⟩,
          ⟨.inr (fun _ _ _ h _ => h), trivial⟩,
          ⟨.inr (fun _ _ _ h _ => h), trivial⟩,
          ⟨.inr (fun vs9 x9 y9 h9 hR9 => (show ∀ v9 y8 y7, (fun v y => ∃ g : Nat, v = .slice (some ⟨g, 0, none⟩) 2 2 ∧ Lay.int.Sl y (Ab (S8 r b) y) (some ⟨g, 0, none⟩) [1, -1]) v9 y8 → (fun y y' => Gr (S8 r b) y y') y8 y7 → (fun v y => ∃ g : Nat, v = .slice (some ⟨g, 0, none⟩) 2 2 ∧ Lay.int.Sl y (Ab (S8 r b) y) (some ⟨g, 0, none⟩) [1, -1]) v9 y7 from fun _ _ _ ⟨g, h1, h2⟩ hR => ⟨g, h1, h2.gr hR⟩) (vs9 3) x9 y9 h9 hR9), trivial⟩,
          ⟨.inr (fun vs9 x9 y9 h9 hR9 => (show ∀ v9 y8 y7, (fun v y => ∃ z : Int, v = .int .i64 z) v9 y8 → (fun y y' => Gr (S8 r b) y y') y8 y7 → (fun v y => ∃ z : Int, v = .int .i64 z) v9 y7 from fun _ _ _ h _ => h) (vs9 4) x9 y9 h9 hR9), trivial⟩,
          ⟨.inr (fun vs9 x9 y9 h9 hR9 => (show ∀ v9 y8 y7, (fun v y => ∃ z : Int, v = .int .i64 z) v9 y8 → (fun y y' => Gr (S8 r b) y y') y8 y7 → (fun v y => ∃ z : Int, v = .int .i64 z) v9 y7 from fun _ _ _ h _ => h) (vs9 5) x9 y9 h9 hR9), trivial⟩,
          ⟨.inr (fun _ _ _ h _ => h), trivial⟩,
          ⟨.inr (fun _ _ _ h _ => h), trivial⟩, trivial⟩ ⟨fun vs vs' x h _ hv => (by dsimp only at hv ⊢; first | (rw [← h]; exact hv) | exact hv),
          fun vs vs' x h _ hv => (by dsimp only at hv ⊢; first | (rw [← h]; exact hv) | exact hv),
          fun vs vs' x h _ hv => (by dsimp only at hv ⊢; first | (rw [← h]; exact hv) | exact hv),
          fun vs vs' x h _ hv => (by dsimp only at hv ⊢; first | (rw [← h]; exact hv) | exact hv),
          fun vs vs' x h _ hv => (by dsimp only at hv ⊢; first | (rw [← h]; exact hv) | exact hv),
          fun vs vs' x h _ hv => (by dsimp only at hv ⊢; first | (rw [← h]; exact hv) | exact hv),
          fun vs vs' x h _ hv => (by dsimp only at hv ⊢; first | (rw [← h]; exact hv) | exact hv),
          fun _ _ _ _ _ _ => trivial, trivial⟩ (⟨⟨p + 1, by omega, by simp, HS.out.rd.up (below_drewN (Below.refl _ _) 1)⟩, .below (below_drewN (Below.refl _ _) 1), HS.out.gr.up (below_drewN (Below.refl _ _) 1), fun _ => ((below_drewN (Below.refl _ _) 1 : Below wr.heap.size wr _).block _ (lt_of_block HS.out.box)).trans HS.out.box, fun e => absurd e (by simp)⟩) ⟨?_, ?_, ?_, ?_, ?_, ?_, ?_, ?_, trivial⟩ ?_
      · intro vals xw f hf1 hf2 hf3 hI hF
        clear hf2 hf3
        dsimp only [owes4, bare]
        simp only [putsD, Act.put, List.setIfInBounds_toArray, List.set_cons_zero, List.set_cons_succ]
        go_wp2
        exact ⟨rfl, rfl, Gr.refl _ _, hI⟩
      · intro vals xw f hf1 hf2 hf3 hI hF
        have k7 : f 7 = false := hf3 7 (by kernel_rfl)
        clear hf2 hf3
        simp only [saysD, List.getD_cons_zero, List.getD_cons_succ, and_true] at hF
        have e21 := hF
        dsimp only [owes4, bare]
        simp only [putsD, Act.put, List.setIfInBounds_toArray, List.set_cons_zero, List.set_cons_succ]
        simp only [e21]
        have cx := (cell_of_block (hI.2.2.2.1 k7) 1).1
        go_wp2
        exact ⟨rfl, rfl, Gr.refl _ _, hI⟩
      · intro vals xw f hf1 hf2 hf3 hI hF
        clear hf2 hf3
        dsimp only [owes4, bare]
        simp only [putsD, Act.put, List.setIfInBounds_toArray, List.set_cons_zero, List.set_cons_succ]
        go_wp2
        exact ⟨rfl, rfl, Gr.refl _ _, hI⟩
      · intro vals xw f hf1 hf2 hf3 hI hF
        have k7 : f 7 = false := hf3 7 (by kernel_rfl)
        have k4 : f 4 = false := hf3 4 (by kernel_rfl)
        clear hf2 hf3
        dsimp only [owes4, bare]
        simp only [putsD, Act.put, List.setIfInBounds_toArray, List.set_cons_zero, List.set_cons_succ]
        obtain ⟨⟨q9, i1, i2, i3⟩, i4, i5, i6, i7⟩ := hI
        have hal : Below xw.heap.size xw (xw.alloc (.cells #[.int .i64 1, .int .i64 (-1)] 3)) := (Below.refl _ _).alloc (Nat.le_refl _) _
        have hsl := lit_sl (S := S8 r b) xw [1, -1] #[.int .i64 1, .int .i64 (-1)] 3 rfl (by have h8 := i4.size; have h7 := HSZ.out; intro h9; rcases h9 with h9 | h9 <;> omega)
        have HSL := Lib.hid hsl
        have HAL := Lib.hid hal
        have I1 := Lib.hid (And.intro i1 (And.intro i2 i3))
        have I4 := Lib.hid (And.intro i4 (And.intro i5 (i6 k7)))
        clear i1 i2 i3 i4 i5 i6 i7 hal hsl
        go_wp2
        exact ⟨rfl, ⟨_, rfl, HSL.out⟩, .below HAL.out, ⟨q9, I1.out.1, I1.out.2.1, I1.out.2.2.up HAL.out⟩, I4.out.1.up HAL.out, I4.out.2.1.up HAL.out, fun _ => (HAL.out.block _ (lt_of_block I4.out.2.2)).trans I4.out.2.2, fun e => absurd (k7.symm.trans e) (by simp)⟩
      · intro vals xw f hf1 hf2 hf3 hI hF
        have k7 : f 7 = false := hf3 7 (by kernel_rfl)
        clear hf2 hf3
        simp only [saysD, List.getD_cons_zero, List.getD_cons_succ, and_true] at hF
        obtain ⟨e23, g, e24, hls⟩ := hF
        have e24 : vals 3 = .slice (some ⟨g, 0, none⟩) 2 2 := e24
        dsimp only [owes4, bare]
        simp only [putsD, Act.put, List.setIfInBounds_toArray, List.set_cons_zero, List.set_cons_succ]
        simp only [e23, e24]
        obtain ⟨⟨q9, i1, i2, i3⟩, i4, i5, i6, i7⟩ := hI
        rw [hf1, if_neg (by simp)] at i2
        have HN := Lib.hid (num_any r q9 _ 2 [1, -1] xw i3 (hls.ab_mono fun b9 _ hb => .inl hb) (by simp) (by simp) (by omega) (by omega))
        have I4 := Lib.hid (And.intro i4 (And.intro i5 (i6 k7)))
        clear i3 i4 i5 i6 i7 hls
        go_wp2_with fail
        refine HN.out.mono ?_
        rintro e wx ⟨z, _, rfl, hR9, hg9⟩
        have hg9 : Gr (IsR r) xw wx := hg9
        have HR9 := Lib.hid hR9
        have HG9 := Lib.hid hg9
        clear hR9 hg9 HN
        go_wp2
        exact ⟨rfl, ⟨z, rfl⟩, HG9.out.mono (fun x hx => .inl hx), ⟨q9 + 1, by omega, by simp [did]; omega, HR9.out⟩, I4.out.1.trans (HG9.out.mono fun x hx => .inl hx), I4.out.2.1.trans HG9.out, fun _ => HG9.out.heap (by show ¬ _ = r; omega) I4.out.2.2, fun e => absurd (k7.symm.trans e) (by simp)⟩
      · intro vals xw f hf1 hf2 hf3 hI hF
        clear hf2 hf3
        simp only [saysD, List.getD_cons_zero, List.getD_cons_succ, and_true] at hF
        obtain ⟨e22, z, e25⟩ := hF
        have e25 : vals 4 = .int .i64 z := e25
        dsimp only [owes4, bare]
        simp only [putsD, Act.put, List.setIfInBounds_toArray, List.set_cons_zero, List.set_cons_succ]
        simp only [e22, e25]
        go_wp2
        exact ⟨rfl, ⟨_, rfl⟩, Gr.refl _ _, hI⟩
      · intro vals xw f hf1 hf2 hf3 hI hF
        clear hf2 hf3
        dsimp only [owes4, bare]
        simp only [putsD, Act.put, List.setIfInBounds_toArray, List.set_cons_zero, List.set_cons_succ]
        go_wp2
        exact ⟨rfl, rfl, Gr.refl _ _, hI⟩
      · intro vals xw f hf1 hf2 hf3 hI hF
        have k4 : f 4 = true := hf2 4 (by kernel_rfl)
        clear hf2 hf3
        simp only [saysD, List.getD_cons_zero, List.getD_cons_succ, and_true] at hF
        obtain ⟨e27, z, e26⟩ := hF
        have e26 : vals 5 = .int .i64 z := e26
        dsimp only [owes4, bare]
        simp only [putsD, Act.put, List.setIfInBounds_toArray, List.set_cons_zero, List.set_cons_succ]
        simp only [e27, e26]
        obtain ⟨⟨q9, i1, i2, i3⟩, i4, i5, i6, i7⟩ := hI
        have j6 := i6 hf1
        have cx := (cell_of_block j6 1).1
        have gx := (cell_of_block j6 1).2
        have hh := heap_set_same xw b 1 (.int .i64 z) _ _ j6
        have HH := Lib.hid hh
        have HG9 := Lib.hid (gr_set xw b 1 (.int .i64 z))
        have I1 := Lib.hid (And.intro i1 (And.intro i2 i3))
        have I4 := Lib.hid (And.intro i4 i5)
        clear hh i1 i2 i3 i4 i5 i6 i7 j6
        go_wp2
        exact ⟨rfl, trivial, HG9.out.mono (fun x hx => .inr hx), ⟨q9, I1.out.1, I1.out.2.1, I1.out.2.2.gr HG9.out fun x e => by rw [show x = b from e]; exact hrb⟩, I4.out.1.trans (HG9.out.mono fun x hx => .inr hx), I4.out.2.then HG9.out (fun x e => .inr (by rw [show x = b from e]; exact hb0)), fun e => absurd e (by simp [did]), fun _ => ⟨z, HH.out⟩⟩
      · intro vals xw f hall hI hF
        rw [show List.range _ = [0, 1, 2, 3, 4, 5, 6, 7] from rfl] at hF
        simp only [says, List.getD_cons_zero, List.getD_cons_succ, and_true] at hF
        obtain ⟨⟨q9, i1, i2, i3⟩, i4, i5, _, i7⟩ := hI
        obtain ⟨z9, hx9⟩ := i7 (hall 7 (by decide))
        have i2 : q9 ≤ p + 2 := by rw [hall 4 (by decide)] at i2; simp at i2; omega
        have HS9 : Hid (BSt w0 r b z q9 t.op z9 t.b t.name t.kids A0 c0 xw) := Lib.hid ⟨i3, i5, hx9, i4.heap (by rintro (h9 | h9) <;> omega) HS.out.out, HS.out.kids.gr (i4.mono fun x hx => hx.elim .inl fun h9 => .inr (.inl h9)), HS.out.cap, okT_set HS.out.ok HS.out.ok.here.2.1 HS.out.ok.here.2.2 HS.out.ok.here.1.2⟩
        simp only [putsD, Act.put, List.setIfInBounds_toArray, List.set_cons_zero, List.set_cons_succ]
        clear hF hall i3 i4 i5 i7 hx9
        obtain ⟨cc0, gg0⟩ := (show xw.cell? ⟨b, 0, none⟩ = _ ∧ xw.frozen? ⟨b, 0, none⟩ = false from cell_of_block HS9.out.box 0)
        obtain ⟨cc1, gg1⟩ := (show xw.cell? ⟨b, 1, none⟩ = _ ∧ xw.frozen? ⟨b, 1, none⟩ = false from cell_of_block HS9.out.box 1)
        obtain ⟨cc2, gg2⟩ := (show xw.cell? ⟨b, 2, none⟩ = _ ∧ xw.frozen? ⟨b, 2, none⟩ = false from cell_of_block HS9.out.box 2)
        obtain ⟨cc3, gg3⟩ := (show xw.cell? ⟨b, 3, none⟩ = _ ∧ xw.frozen? ⟨b, 3, none⟩ = false from cell_of_block HS9.out.box 3)
        obtain ⟨cc4, gg4⟩ := (show xw.cell? ⟨b, 4, none⟩ = _ ∧ xw.frozen? ⟨b, 4, none⟩ = false from cell_of_block HS9.out.box 4)
        obtain ⟨co0, go0⟩ := (show xw.cell? ⟨b + 1, 0, none⟩ = _ ∧ xw.frozen? ⟨b + 1, 0, none⟩ = false from cell_of_block HS9.out.out 0)
        obtain ⟨co1, go1⟩ := (show xw.cell? ⟨b + 1, 1, none⟩ = _ ∧ xw.frozen? ⟨b + 1, 1, none⟩ = false from cell_of_block HS9.out.out 1)
        obtain ⟨co2, go2⟩ := (show xw.cell? ⟨b + 1, 2, none⟩ = _ ∧ xw.frozen? ⟨b + 1, 2, none⟩ = false from cell_of_block HS9.out.out 2)
        obtain ⟨co3, go3⟩ := (show xw.cell? ⟨b + 1, 3, none⟩ = _ ∧ xw.frozen? ⟨b + 1, 3, none⟩ = false from cell_of_block HS9.out.out 3)
        obtain ⟨co4, go4⟩ := (show xw.cell? ⟨b + 1, 4, none⟩ = _ ∧ xw.frozen? ⟨b + 1, 4, none⟩ = false from cell_of_block HS9.out.out 4)
        go_wp2
        have hfn := BSt.fin (p := p) HS9.out (by omega) (by omega) hb0 hrl0
        generalize (((((xw.setCell ⟨b + 1, 0, none⟩ (.int .i64 t.op)).setCell ⟨b + 1, 1, none⟩ (.int .i64 z9)).setCell ⟨b + 1, 2, none⟩ (.int .i64 t.b)).setCell ⟨b + 1, 3, none⟩ (.string t.name)).setCell ⟨b + 1, 4, none⟩ (.slice A0 t.kids.length c0)) = w9 at *
        obtain ⟨hbx, hres⟩ := hfn
        have HRES := Lib.hid hres
        clear hres
        have e0 := (cell_of_block hbx 0).1
        have e1 := (cell_of_block hbx 1).1
        have e2 := (cell_of_block hbx 2).1
        have e3 := (cell_of_block hbx 3).1
        have e4 := (cell_of_block hbx 4).1
        simp at e0 e1 e2 e3 e4
        refine bodyPost_ret (v := .agg #[.int .i64 t.op, .int .i64 z9, .int .i64 t.b, .string t.name, .slice A0 t.kids.length c0]) (by simp [results, Tryz.results87, go_sem, e0, e1, e2, e3, e4]) rfl ?_
        exact HRES.out
    · have g1 : (y == 1) = false := by simpa using h1
      by_cases h2 : y = 2
      · subst h2
        go_wp2
        refine wp_region_rel4 [[], [(0, 30)], [], [], [(2, 32), (3, 33)], [(1, 31), (4, 34)], [], [(6, 36), (5, 35)]]
          (fun y y' => Gr (S8 r b) y y')
          []
          (fun f9 x9 => (∃ q9, p ≤ q9 ∧ q9 ≤ p + 1 + (if f9 4 = true then 1 else 0) ∧ Rdr x9 r q9) ∧ Gr (S8 r b) wr x9 ∧ Gr (IsR r) w0 x9 ∧ (f9 7 = false → x9.heap[b]? = some (.cells #[.int .i64 t.op, .int .i64 t.a, .int .i64 t.b, .string t.name, .slice A0 t.kids.length c0] 48 (0, 0))) ∧ (f9 7 = true → ∃ z9 : Int, x9.heap[b]? = some (.cells #[.int .i64 t.op, .int .i64 t.a, .int .i64 z9, .string t.name, .slice A0 t.kids.length c0] 48 (0, 0))))
          [fun vs9 _ => vs9 0 = (.pointer (some ⟨b, 2, none⟩)),
            fun vs9 _ => vs9 1 = (.int .i64 t.b),
            fun vs9 _ => vs9 2 = (.pointer (some ⟨r, 0, none⟩)),
            fun vs9 y9 => (fun v y => ∃ g : Nat, v = .slice (some ⟨g, 0, none⟩) 3 3 ∧ Lay.int.Sl y (Ab (S8 r b) y) (some ⟨g, 0, none⟩) [1, -1, 16]) (vs9 3) y9,
            fun vs9 y9 => (fun v y => ∃ z : Int, v = .int .i64 z) (vs9 4) y9,
            fun vs9 y9 => (fun v y => ∃ z : Int, v = .int .i64 z) (vs9 5) y9,
            fun vs9 _ => vs9 6 = (.pointer (some ⟨b, 2, none⟩)),
            fun _ _ => True]
          [(0, 30), (1, 31), (2, 32), (3, 33), (4, 34), (5, 35), (6, 36)] (by kernel_rfl) (by kernel_rfl) (by kernel_rfl) (by kernel_rfl)
          (fun _ => Gr.refl _ _) trivial
          ⟨⟨.inr (fun _ _ _ h _ => h), trivial⟩,
            ⟨.inr (fun _ _ _ h _ => h), trivial⟩,
            ⟨.inr (fun _ _ _ h _ => h), trivial⟩,
            ⟨.inr (fun vs9 x9 y9 h9 hR9 => (show ∀ v9 y8 y7, (fun v y => ∃ g : Nat, v = .slice (some ⟨g, 0, none⟩) 3 3 ∧ Lay.int.Sl y (Ab (S8 r b) y) (some ⟨g, 0, none⟩) [1, -1, 16]) v9 y8 → (fun y y' => Gr (S8 r b) y y') y8 y7 → (fun v y => ∃ g : Nat, v = .slice (some ⟨g, 0, none⟩) 3 3 ∧ Lay.int.Sl y (Ab (S8 r b) y) (some ⟨g, 0, none⟩) [1, -1, 16]) v9 y7 from fun _ _ _ ⟨g, h1, h2⟩ hR => ⟨g, h1, h2.gr hR⟩) (vs9 3) x9 y9 h9 hR9), trivial⟩,
            ⟨.inr (fun vs9 x9 y9 h9 hR9 => (show ∀ v9 y8 y7, (fun v y => ∃ z : Int, v = .int .i64 z) v9 y8 → (fun y y' => Gr (S8 r b) y y') y8 y7 → (fun v y => ∃ z : Int, v = .int .i64 z) v9 y7 from fun _ _ _ h _ => h) (vs9 4) x9 y9 h9 hR9), trivial⟩,
            ⟨.inr (fun vs9 x9 y9 h9 hR9 => (show ∀ v9 y8 y7, (fun v y => ∃ z : Int, v = .int .i64 z) v9 y8 → (fun y y' => Gr (S8 r b) y y') y8 y7 → (fun v y => ∃ z : Int, v = .int .i64 z) v9 y7 from fun _ _ _ h _ => h) (vs9 5) x9 y9 h9 hR9), trivial⟩,
            ⟨.inr (fun _ _ _ h _ => h), trivial⟩,
            ⟨.inr (fun _ _ _ h _ => h), trivial⟩, trivial⟩ ⟨fun vs vs' x h _ hv => (by dsimp only at hv ⊢; first | (rw [← h]; exact hv) | exact hv),
            fun vs vs' x h _ hv => (by dsimp only at hv ⊢; first | (rw [← h]; exact hv) | exact hv),
            fun vs vs' x h _ hv => (by dsimp only at hv ⊢; first | (rw [← h]; exact hv) | exact hv),
            fun vs vs' x h _ hv => (by dsimp only at hv ⊢; first | (rw [← h]; exact hv) | exact hv),
            fun vs vs' x h _ hv => (by dsimp only at hv ⊢; first | (rw [← h]; exact hv) | exact hv),
            fun vs vs' x h _ hv => (by dsimp only at hv ⊢; first | (rw [← h]; exact hv) | exact hv),
            fun vs vs' x h _ hv => (by dsimp only at hv ⊢; first | (rw [← h]; exact hv) | exact hv),
            fun _ _ _ _ _ _ => trivial, trivial⟩ (⟨⟨p + 1, by omega, by simp, HS.out.rd.up (below_drewN (Below.refl _ _) 1)⟩, .below (below_drewN (Below.refl _ _) 1), HS.out.gr.up (below_drewN (Below.refl _ _) 1), fun _ => ((below_drewN (Below.refl _ _) 1 : Below wr.heap.size wr _).block _ (lt_of_block HS.out.box)).trans HS.out.box, fun e => absurd e (by simp)⟩) ⟨?_, ?_, ?_, ?_, ?_, ?_, ?_, ?_, trivial⟩ ?_
        · intro vals xw f hf1 hf2 hf3 hI hF
          clear hf2 hf3
          dsimp only [owes4, bare]
          simp only [putsD, Act.put, List.setIfInBounds_toArray, List.set_cons_zero, List.set_cons_succ]
          go_wp2
          exact ⟨rfl, rfl, Gr.refl _ _, hI⟩
        · intro vals xw f hf1 hf2 hf3 hI hF
          have k7 : f 7 = false := hf3 7 (by kernel_rfl)
          clear hf2 hf3
          simp only [saysD, List.getD_cons_zero, List.getD_cons_succ, and_true] at hF
          have e30 := hF
          dsimp only [owes4, bare]
          simp only [putsD, Act.put, List.setIfInBounds_toArray, List.set_cons_zero, List.set_cons_succ]
          simp only [e30]
          have cx := (cell_of_block (hI.2.2.2.1 k7) 2).1
          go_wp2
          exact ⟨rfl, rfl, Gr.refl _ _, hI⟩
        · intro vals xw f hf1 hf2 hf3 hI hF
          clear hf2 hf3
          dsimp only [owes4, bare]
          simp only [putsD, Act.put, List.setIfInBounds_toArray, List.set_cons_zero, List.set_cons_succ]
          go_wp2
          exact ⟨rfl, rfl, Gr.refl _ _, hI⟩
        · intro vals xw f hf1 hf2 hf3 hI hF
          have k7 : f 7 = false := hf3 7 (by kernel_rfl)
          have k4 : f 4 = false := hf3 4 (by kernel_rfl)
          clear hf2 hf3
          dsimp only [owes4, bare]
          simp only [putsD, Act.put, List.setIfInBounds_toArray, List.set_cons_zero, List.set_cons_succ]
          obtain ⟨⟨q9, i1, i2, i3⟩, i4, i5, i6, i7⟩ := hI
          have hal : Below xw.heap.size xw (xw.alloc (.cells #[.int .i64 1, .int .i64 (-1), .int .i64 16] 3)) := (Below.refl _ _).alloc (Nat.le_refl _) _
          have hsl := lit_sl (S := S8 r b) xw [1, -1, 16] #[.int .i64 1, .int .i64 (-1), .int .i64 16] 3 rfl (by have h8 := i4.size; have h7 := HSZ.out; intro h9; rcases h9 with h9 | h9 <;> omega)
          have HSL := Lib.hid hsl
          have HAL := Lib.hid hal
          have I1 := Lib.hid (And.intro i1 (And.intro i2 i3))
          have I4 := Lib.hid (And.intro i4 (And.intro i5 (i6 k7)))
          clear i1 i2 i3 i4 i5 i6 i7 hal hsl
          go_wp2
          exact ⟨rfl, ⟨_, rfl, HSL.out⟩, .below HAL.out, ⟨q9, I1.out.1, I1.out.2.1, I1.out.2.2.up HAL.out⟩, I4.out.1.up HAL.out, I4.out.2.1.up HAL.out, fun _ => (HAL.out.block _ (lt_of_block I4.out.2.2)).trans I4.out.2.2, fun e => absurd (k7.symm.trans e) (by simp)⟩
        · intro vals xw f hf1 hf2 hf3 hI hF
          have k7 : f 7 = false := hf3 7 (by kernel_rfl)
          clear hf2 hf3
          simp only [saysD, List.getD_cons_zero, List.getD_cons_succ, and_true] at hF
          obtain ⟨e32, g, e33, hls⟩ := hF
          have e33 : vals 3 = .slice (some ⟨g, 0, none⟩) 3 3 := e33
          dsimp only [owes4, bare]
          simp only [putsD, Act.put, List.setIfInBounds_toArray, List.set_cons_zero, List.set_cons_succ]
          simp only [e32, e33]
          obtain ⟨⟨q9, i1, i2, i3⟩, i4, i5, i6, i7⟩ := hI
          rw [hf1, if_neg (by simp)] at i2
          have HN := Lib.hid (num_any r q9 _ 3 [1, -1, 16] xw i3 (hls.ab_mono fun b9 _ hb => .inl hb) (by simp) (by simp) (by omega) (by omega))
          have I4 := Lib.hid (And.intro i4 (And.intro i5 (i6 k7)))
          clear i3 i4 i5 i6 i7 hls
          go_wp2_with fail
          refine HN.out.mono ?_
          rintro e wx ⟨z, _, rfl, hR9, hg9⟩
          have hg9 : Gr (IsR r) xw wx := hg9
          have HR9 := Lib.hid hR9
          have HG9 := Lib.hid hg9
          clear hR9 hg9 HN
          go_wp2
          exact ⟨rfl, ⟨z, rfl⟩, HG9.out.mono (fun x hx => .inl hx), ⟨q9 + 1, by omega, by simp [did]; omega, HR9.out⟩, I4.out.1.trans (HG9.out.mono fun x hx => .inl hx), I4.out.2.1.trans HG9.out, fun _ => HG9.out.heap (by show ¬ _ = r; omega) I4.out.2.2, fun e => absurd (k7.symm.trans e) (by simp)⟩
        · intro vals xw f hf1 hf2 hf3 hI hF
          clear hf2 hf3
          simp only [saysD, List.getD_cons_zero, List.getD_cons_succ, and_true] at hF
          obtain ⟨e31, z, e34⟩ := hF
          have e34 : vals 4 = .int .i64 z := e34
          dsimp only [owes4, bare]
          simp only [putsD, Act.put, List.setIfInBounds_toArray, List.set_cons_zero, List.set_cons_succ]
          simp only [e31, e34]
          go_wp2
          exact ⟨rfl, ⟨_, rfl⟩, Gr.refl _ _, hI⟩
        · intro vals xw f hf1 hf2 hf3 hI hF
          clear hf2 hf3
          dsimp only [owes4, bare]
          simp only [putsD, Act.put, List.setIfInBounds_toArray, List.set_cons_zero, List.set_cons_succ]
          go_wp2
          exact ⟨rfl, rfl, Gr.refl _ _, hI⟩
        · intro vals xw f hf1 hf2 hf3 hI hF
          have k4 : f 4 = true := hf2 4 (by kernel_rfl)
          clear hf2 hf3
          simp only [saysD, List.getD_cons_zero, List.getD_cons_succ, and_true] at hF
          obtain ⟨e36, z, e35⟩ := hF
          have e35 : vals 5 = .int .i64 z := e35
          dsimp only [owes4, bare]
          simp only [putsD, Act.put, List.setIfInBounds_toArray, List.set_cons_zero, List.set_cons_succ]
          simp only [e36, e35]
          obtain ⟨⟨q9, i1, i2, i3⟩, i4, i5, i6, i7⟩ := hI
          have j6 := i6 hf1
          have cx := (cell_of_block j6 2).1
          have gx := (cell_of_block j6 2).2
          have hh := heap_set_same xw b 2 (.int .i64 z) _ _ j6
          have HH := Lib.hid hh
          have HG9 := Lib.hid (gr_set xw b 2 (.int .i64 z))
          have I1 := Lib.hid (And.intro i1 (And.intro i2 i3))
          have I4 := Lib.hid (And.intro i4 i5)
          clear hh i1 i2 i3 i4 i5 i6 i7 j6
          go_wp2
          exact ⟨rfl, trivial, HG9.out.mono (fun x hx => .inr hx), ⟨q9, I1.out.1, I1.out.2.1, I1.out.2.2.gr HG9.out fun x e => by rw [show x = b from e]; exact hrb⟩, I4.out.1.trans (HG9.out.mono fun x hx => .inr hx), I4.out.2.then HG9.out (fun x e => .inr (by rw [show x = b from e]; exact hb0)), fun e => absurd e (by simp [did]), fun _ => ⟨z, HH.out⟩⟩
        · intro vals xw f hall hI hF
          rw [show List.range _ = [0, 1, 2, 3, 4, 5, 6, 7] from rfl] at hF
          simp only [says, List.getD_cons_zero, List.getD_cons_succ, and_true] at hF
          obtain ⟨⟨q9, i1, i2, i3⟩, i4, i5, _, i7⟩ := hI
          obtain ⟨z9, hx9⟩ := i7 (hall 7 (by decide))
          have i2 : q9 ≤ p + 2 := by rw [hall 4 (by decide)] at i2; simp at i2; omega
          have HS9 : Hid (BSt w0 r b z q9 t.op t.a z9 t.name t.kids A0 c0 xw) := Lib.hid ⟨i3, i5, hx9, i4.heap (by rintro (h9 | h9) <;> omega) HS.out.out, HS.out.kids.gr (i4.mono fun x hx => hx.elim .inl fun h9 => .inr (.inl h9)), HS.out.cap, okT_set HS.out.ok HS.out.ok.here.2.1 HS.out.ok.here.2.2 HS.out.ok.here.1.2⟩
          simp only [putsD, Act.put, List.setIfInBounds_toArray, List.set_cons_zero, List.set_cons_succ]
          clear hF hall i3 i4 i5 i7 hx9
          obtain ⟨cc0, gg0⟩ := (show xw.cell? ⟨b, 0, none⟩ = _ ∧ xw.frozen? ⟨b, 0, none⟩ = false from cell_of_block HS9.out.box 0)
          obtain ⟨cc1, gg1⟩ := (show xw.cell? ⟨b, 1, none⟩ = _ ∧ xw.frozen? ⟨b, 1, none⟩ = false from cell_of_block HS9.out.box 1)
          obtain ⟨cc2, gg2⟩ := (show xw.cell? ⟨b, 2, none⟩ = _ ∧ xw.frozen? ⟨b, 2, none⟩ = false from cell_of_block HS9.out.box 2)
          obtain ⟨cc3, gg3⟩ := (show xw.cell? ⟨b, 3, none⟩ = _ ∧ xw.frozen? ⟨b, 3, none⟩ = false from cell_of_block HS9.out.box 3)
          obtain ⟨cc4, gg4⟩ := (show xw.cell? ⟨b, 4, none⟩ = _ ∧ xw.frozen? ⟨b, 4, none⟩ = false from cell_of_block HS9.out.box 4)
          obtain ⟨co0, go0⟩ := (show xw.cell? ⟨b + 1, 0, none⟩ = _ ∧ xw.frozen? ⟨b + 1, 0, none⟩ = false from cell_of_block HS9.out.out 0)
          obtain ⟨co1, go1⟩ := (show xw.cell? ⟨b + 1, 1, none⟩ = _ ∧ xw.frozen? ⟨b + 1, 1, none⟩ = false from cell_of_block HS9.out.out 1)
          obtain ⟨co2, go2⟩ := (show xw.cell? ⟨b + 1, 2, none⟩ = _ ∧ xw.frozen? ⟨b + 1, 2, none⟩ = false from cell_of_block HS9.out.out 2)
          obtain ⟨co3, go3⟩ := (show xw.cell? ⟨b + 1, 3, none⟩ = _ ∧ xw.frozen? ⟨b + 1, 3, none⟩ = false from cell_of_block HS9.out.out 3)
          obtain ⟨co4, go4⟩ := (show xw.cell? ⟨b + 1, 4, none⟩ = _ ∧ xw.frozen? ⟨b + 1, 4, none⟩ = false from cell_of_block HS9.out.out 4)
          go_wp2
          have hfn := BSt.fin (p := p) HS9.out (by omega) (by omega) hb0 hrl0
          generalize (((((xw.setCell ⟨b + 1, 0, none⟩ (.int .i64 t.op)).setCell ⟨b + 1, 1, none⟩ (.int .i64 t.a)).setCell ⟨b + 1, 2, none⟩ (.int .i64 z9)).setCell ⟨b + 1, 3, none⟩ (.string t.name)).setCell ⟨b + 1, 4, none⟩ (.slice A0 t.kids.length c0)) = w9 at *
          obtain ⟨hbx, hres⟩ := hfn
          have HRES := Lib.hid hres
          clear hres
          have e0 := (cell_of_block hbx 0).1
          have e1 := (cell_of_block hbx 1).1
          have e2 := (cell_of_block hbx 2).1
          have e3 := (cell_of_block hbx 3).1
          have e4 := (cell_of_block hbx 4).1
          simp at e0 e1 e2 e3 e4
          refine bodyPost_ret (v := .agg #[.int .i64 t.op, .int .i64 t.a, .int .i64 z9, .string t.name, .slice A0 t.kids.length c0]) (by simp [results, Tryz.results87, go_sem, e0, e1, e2, e3, e4]) rfl ?_
          exact HRES.out
      · have g2 : (y == 2) = false := by simpa using h2
        by_cases h3 : y = 3
        · subst h3
          have HS8 : Hid (BSt w0 r b z (p + 1) t.op t.a t.b ⟨#[113]⟩ t.kids A0 c0 (wr.setCell ⟨b, 3, none⟩ (.string ⟨#[113]⟩))) := Lib.hid (HS.out.put (gr_set _ _ _ _) hrb hb0 (heap_set_same wr b 3 (.string ⟨#[113]⟩) _ _ HS.out.box) HS.out.kids HS.out.cap (okT_set HS.out.ok HS.out.ok.here.2.1 HS.out.ok.here.2.2 (by decide)))
          obtain ⟨sc, sg⟩ := cell_of_block HS.out.box 3
          obtain ⟨cc0, gg0⟩ := (show (wr.setCell ⟨b, 3, none⟩ (.string ⟨#[113]⟩)).cell? ⟨b, 0, none⟩ = _ ∧ (wr.setCell ⟨b, 3, none⟩ (.string ⟨#[113]⟩)).frozen? ⟨b, 0, none⟩ = false from cell_of_block HS8.out.box 0)
          obtain ⟨cc1, gg1⟩ := (show (wr.setCell ⟨b, 3, none⟩ (.string ⟨#[113]⟩)).cell? ⟨b, 1, none⟩ = _ ∧ (wr.setCell ⟨b, 3, none⟩ (.string ⟨#[113]⟩)).frozen? ⟨b, 1, none⟩ = false from cell_of_block HS8.out.box 1)
          obtain ⟨cc2, gg2⟩ := (show (wr.setCell ⟨b, 3, none⟩ (.string ⟨#[113]⟩)).cell? ⟨b, 2, none⟩ = _ ∧ (wr.setCell ⟨b, 3, none⟩ (.string ⟨#[113]⟩)).frozen? ⟨b, 2, none⟩ = false from cell_of_block HS8.out.box 2)
          obtain ⟨cc3, gg3⟩ := (show (wr.setCell ⟨b, 3, none⟩ (.string ⟨#[113]⟩)).cell? ⟨b, 3, none⟩ = _ ∧ (wr.setCell ⟨b, 3, none⟩ (.string ⟨#[113]⟩)).frozen? ⟨b, 3, none⟩ = false from cell_of_block HS8.out.box 3)
          obtain ⟨cc4, gg4⟩ := (show (wr.setCell ⟨b, 3, none⟩ (.string ⟨#[113]⟩)).cell? ⟨b, 4, none⟩ = _ ∧ (wr.setCell ⟨b, 3, none⟩ (.string ⟨#[113]⟩)).frozen? ⟨b, 4, none⟩ = false from cell_of_block HS8.out.box 4)
          obtain ⟨co0, go0⟩ := (show (wr.setCell ⟨b, 3, none⟩ (.string ⟨#[113]⟩)).cell? ⟨b + 1, 0, none⟩ = _ ∧ (wr.setCell ⟨b, 3, none⟩ (.string ⟨#[113]⟩)).frozen? ⟨b + 1, 0, none⟩ = false from cell_of_block HS8.out.out 0)
          obtain ⟨co1, go1⟩ := (show (wr.setCell ⟨b, 3, none⟩ (.string ⟨#[113]⟩)).cell? ⟨b + 1, 1, none⟩ = _ ∧ (wr.setCell ⟨b, 3, none⟩ (.string ⟨#[113]⟩)).frozen? ⟨b + 1, 1, none⟩ = false from cell_of_block HS8.out.out 1)
          obtain ⟨co2, go2⟩ := (show (wr.setCell ⟨b, 3, none⟩ (.string ⟨#[113]⟩)).cell? ⟨b + 1, 2, none⟩ = _ ∧ (wr.setCell ⟨b, 3, none⟩ (.string ⟨#[113]⟩)).frozen? ⟨b + 1, 2, none⟩ = false from cell_of_block HS8.out.out 2)
          obtain ⟨co3, go3⟩ := (show (wr.setCell ⟨b, 3, none⟩ (.string ⟨#[113]⟩)).cell? ⟨b + 1, 3, none⟩ = _ ∧ (wr.setCell ⟨b, 3, none⟩ (.string ⟨#[113]⟩)).frozen? ⟨b + 1, 3, none⟩ = false from cell_of_block HS8.out.out 3)
          obtain ⟨co4, go4⟩ := (show (wr.setCell ⟨b, 3, none⟩ (.string ⟨#[113]⟩)).cell? ⟨b + 1, 4, none⟩ = _ ∧ (wr.setCell ⟨b, 3, none⟩ (.string ⟨#[113]⟩)).frozen? ⟨b + 1, 4, none⟩ = false from cell_of_block HS8.out.out 4)
          go_wp2
          have hfn := BSt.fin (p := p) HS8.out (by omega) (by omega) hb0 hrl0
          generalize ((((((wr.setCell ⟨b, 3, none⟩ (.string ⟨#[113]⟩)).setCell ⟨b + 1, 0, none⟩ (.int .i64 t.op)).setCell ⟨b + 1, 1, none⟩ (.int .i64 t.a)).setCell ⟨b + 1, 2, none⟩ (.int .i64 t.b)).setCell ⟨b + 1, 3, none⟩ (.string ⟨#[113]⟩)).setCell ⟨b + 1, 4, none⟩ (.slice A0 t.kids.length c0)) = w9 at *
          obtain ⟨hbx, hres⟩ := hfn
          have HRES := Lib.hid hres
          clear hres
          have e0 := (cell_of_block hbx 0).1
          have e1 := (cell_of_block hbx 1).1
          have e2 := (cell_of_block hbx 2).1
          have e3 := (cell_of_block hbx 3).1
          have e4 := (cell_of_block hbx 4).1
          simp at e0 e1 e2 e3 e4
          refine bodyPost_ret (v := .agg #[.int .i64 t.op, .int .i64 t.a, .int .i64 t.b, .string ⟨#[113]⟩, .slice A0 t.kids.length c0]) (by simp [results, Tryz.results87, go_sem, e0, e1, e2, e3, e4]) rfl ?_
          exact HRES.out
        · have g3 : (y == 3) = false := by simpa using h3
          by_cases h4 : y = 4
          · subst h4
            have hal := (Below.refl wr.heap.size wr).alloc (Nat.le_refl _) (.cells #[.int .i64 24, .int .i64 0, .int .i64 0, .string ⟨#[]⟩, .slice none 0 0] 48)
            have hbx := heap_alloc_new wr (.cells #[.int .i64 24, .int .i64 0, .int .i64 0, .string ⟨#[]⟩, .slice none 0 0] 48)
            obtain ⟨wa, hwa⟩ : ∃ wa, wa = wr.alloc (.cells #[.int .i64 24, .int .i64 0, .int .i64 0, .string ⟨#[]⟩, .slice none 0 0] 48) := ⟨_, rfl⟩
            rw [← hwa] at hal hbx
            have HS1 := Lib.hid (HS.out.up hal)
            have HO7 := Lib.hid (HO6.out.up (Stay.notIn _) hal)
            have HSO := Lib.hid (fun g (hg : (Value.slice A5 ys.length c5).ownBlock = some g) => HO6.out.lt g hg)
            have HKa : Hid (Lay.term.Sl wa (fun x => x < b ∧ ¬ x = r ∧ ¬ x = z) A0 t.kids) := Lib.hid (HK6.out.keep fun x hx => hal.block x (by have h1 : x < b := hx.1; have := HSZ.out; omega))
            have HT7 : Hid (Lay.term.Sl wa (fun x => x = wr.heap.size) (some ⟨wr.heap.size, 0, none⟩) [trueT]) := Lib.hid ((one_term_sl (S := fun x => ¬ x = wr.heap.size) (t := trueT) (A := none) (c := 0) hbx (by simp) (Nat.le_refl _) (Lay.Sl.nil _ _ _ _)).mono fun x hx => Classical.byContradiction hx.2)
            have HWA := Lib.hid hwa
            have HLW : Hid (wr.heap.size < wa.heap.size) := Lib.hid (lt_of_block hbx)
            clear hal hbx hwa
            obtain ⟨zs, hzs⟩ : ∃ zs, zs = ys ++ [trueT] := ⟨_, rfl⟩
            have HZS := Lib.hid hzs
            have HZL : Hid (zs.length = ys.length + 1) := Lib.hid (by rw [hzs, List.length_append, List.length_singleton])
            clear hzs
            have hl1 : ys.length ≤ 2000000 := by rw [HYK.out]; omega
            have hl2 : ([trueT] : List T).length ≤ 2000000 := by simp
            have hlw : b + 1 + 1 ≤ wa.heap.size := by have := HLW.out; have := HSZ.out; omega
            have HGG : Hid (∀ x, x = wr.heap.size → x < wa.heap.size ∧ (Value.slice A5 ys.length c5).ownBlock ≠ some x ∧ ¬ S9 r b z x) := Lib.hid fun x hx => ⟨by rw [hx]; exact HLW.out, fun e => by
              have := (HSO.out x e).2
              omega, fun e => by
              have := HSZ.out
              rcases e with e | e | e | e
              · have e : x = r := e
                omega
              · have e : x = b := e
                omega
              · have e : x = b + 1 := e
                omega
              · have e : x = z := e
                omega⟩
            have HFN := Lib.hid (fun (A9 : Option Addr) (c9 : Nat) (w8 : World) (hown8 : OwnL Lay.term (NotIn (S9 r b z)) 48 w8 (b + 1 + 1) (.slice A9 zs.length c9) zs) (hg8 : wa.grownBy w8 (Value.slice A5 ys.length c5).ownBlock) =>
              (show BSt w0 r b z (p + 1) t.op t.a t.b t.name t.kids A0 c0 w8 ∧ Lay.term.Sl w8 (Ab (S9 r b z) w8) A9 zs ∧ zs.length ≤ c9 from ⟨HS1.out.low9 hg8 (HKa.out.mono fun x hx => ⟨by have h1 : x < b := hx.1; have := HLW.out; have := HSZ.out; omega, fun e => by
                have h1 : x < b := hx.1
                rcases e with e | e | e | e
                · exact hx.2.1 e
                · have e : x = b := e
                  omega
                · have e : x = b + 1 := e
                  omega
                · exact hx.2.2 e, fun e => by
                have h1 : x < b := hx.1
                have := (HSO.out x e).1
                omega⟩) (fun g e => by have := (HSO.out g e).1; omega) hrb hb0, hown8.ab (fun x e => by
                rcases e with e | e | e | e
                · have e : x = r := e
                  omega
                · have e : x = b := e
                  omega
                · have e : x = b + 1 := e
                  omega
                · have e : x = z := e
                  omega), (OwnL.cap hown8).2⟩))
            have HOKT : Hid (T.All okT3 (.mk t.op t.a t.b t.name zs)) := Lib.hid (by rw [HZS.out, HYK.out]; exact okT_more HS.out.ok h12)
            go_wp2_with (at_builtin; rw [← HWA.out]; refine wpList_append_kids (S := S9 r b z) (ys := zs) (by rfl) (.tmp 42) (.tmp 44) (by rfl) (by rfl) (by rfl) HO7.out HT7.out HGG.out hl1 hl2 hlw HZS.out ?_; intro A9 c9 w8 hown8 hb8 hg8; have h9 := HFN.out A9 c9 w8 hown8 hg8; have HS8 := Lib.hid h9.1; have HK8 := Lib.hid h9.2; clear h9 hown8 hb8 hg8; obtain ⟨sc, sg⟩ := cell_of_block HS8.out.box 4; have HS9 : Hid (BSt w0 r b z (p + 1) t.op t.a t.b t.name zs A9 c9 (w8.setCell ⟨b, 4, none⟩ (.slice A9 zs.length c9))) := Lib.hid (HS8.out.put (gr_set _ _ _ _) hrb hb0 (heap_set_same w8 b 4 (.slice A9 zs.length c9) _ _ HS8.out.box) HK8.out.1 HK8.out.2 HOKT.out); obtain ⟨cc0, gg0⟩ := (show (w8.setCell ⟨b, 4, none⟩ (.slice A9 zs.length c9)).cell? ⟨b, 0, none⟩ = _ ∧ (w8.setCell ⟨b, 4, none⟩ (.slice A9 zs.length c9)).frozen? ⟨b, 0, none⟩ = false from cell_of_block HS9.out.box 0); obtain ⟨cc1, gg1⟩ := (show (w8.setCell ⟨b, 4, none⟩ (.slice A9 zs.length c9)).cell? ⟨b, 1, none⟩ = _ ∧ (w8.setCell ⟨b, 4, none⟩ (.slice A9 zs.length c9)).frozen? ⟨b, 1, none⟩ = false from cell_of_block HS9.out.box 1); obtain ⟨cc2, gg2⟩ := (show (w8.setCell ⟨b, 4, none⟩ (.slice A9 zs.length c9)).cell? ⟨b, 2, none⟩ = _ ∧ (w8.setCell ⟨b, 4, none⟩ (.slice A9 zs.length c9)).frozen? ⟨b, 2, none⟩ = false from cell_of_block HS9.out.box 2); obtain ⟨cc3, gg3⟩ := (show (w8.setCell ⟨b, 4, none⟩ (.slice A9 zs.length c9)).cell? ⟨b, 3, none⟩ = _ ∧ (w8.setCell ⟨b, 4, none⟩ (.slice A9 zs.length c9)).frozen? ⟨b, 3, none⟩ = false from cell_of_block HS9.out.box 3); obtain ⟨cc4, gg4⟩ := (show (w8.setCell ⟨b, 4, none⟩ (.slice A9 zs.length c9)).cell? ⟨b, 4, none⟩ = _ ∧ (w8.setCell ⟨b, 4, none⟩ (.slice A9 zs.length c9)).frozen? ⟨b, 4, none⟩ = false from cell_of_block HS9.out.box 4); obtain ⟨co0, go0⟩ := (show (w8.setCell ⟨b, 4, none⟩ (.slice A9 zs.length c9)).cell? ⟨b + 1, 0, none⟩ = _ ∧ (w8.setCell ⟨b, 4, none⟩ (.slice A9 zs.length c9)).frozen? ⟨b + 1, 0, none⟩ = false from cell_of_block HS9.out.out 0); obtain ⟨co1, go1⟩ := (show (w8.setCell ⟨b, 4, none⟩ (.slice A9 zs.length c9)).cell? ⟨b + 1, 1, none⟩ = _ ∧ (w8.setCell ⟨b, 4, none⟩ (.slice A9 zs.length c9)).frozen? ⟨b + 1, 1, none⟩ = false from cell_of_block HS9.out.out 1); obtain ⟨co2, go2⟩ := (show (w8.setCell ⟨b, 4, none⟩ (.slice A9 zs.length c9)).cell? ⟨b + 1, 2, none⟩ = _ ∧ (w8.setCell ⟨b, 4, none⟩ (.slice A9 zs.length c9)).frozen? ⟨b + 1, 2, none⟩ = false from cell_of_block HS9.out.out 2); obtain ⟨co3, go3⟩ := (show (w8.setCell ⟨b, 4, none⟩ (.slice A9 zs.length c9)).cell? ⟨b + 1, 3, none⟩ = _ ∧ (w8.setCell ⟨b, 4, none⟩ (.slice A9 zs.length c9)).frozen? ⟨b + 1, 3, none⟩ = false from cell_of_block HS9.out.out 3); obtain ⟨co4, go4⟩ := (show (w8.setCell ⟨b, 4, none⟩ (.slice A9 zs.length c9)).cell? ⟨b + 1, 4, none⟩ = _ ∧ (w8.setCell ⟨b, 4, none⟩ (.slice A9 zs.length c9)).frozen? ⟨b + 1, 4, none⟩ = false from cell_of_block HS9.out.out 4))
            have hfn := BSt.fin (p := p) HS9.out (by omega) (by omega) hb0 hrl0
            generalize ((((((w8.setCell ⟨b, 4, none⟩ (.slice A9 zs.length c9)).setCell ⟨b + 1, 0, none⟩ (.int .i64 t.op)).setCell ⟨b + 1, 1, none⟩ (.int .i64 t.a)).setCell ⟨b + 1, 2, none⟩ (.int .i64 t.b)).setCell ⟨b + 1, 3, none⟩ (.string t.name)).setCell ⟨b + 1, 4, none⟩ (.slice A9 zs.length c9)) = w9 at *
            obtain ⟨hbx, hres⟩ := hfn
            have HRES := Lib.hid hres
            clear hres
            have e0 := (cell_of_block hbx 0).1
            have e1 := (cell_of_block hbx 1).1
            have e2 := (cell_of_block hbx 2).1
            have e3 := (cell_of_block hbx 3).1
            have e4 := (cell_of_block hbx 4).1
            simp at e0 e1 e2 e3 e4
            refine bodyPost_ret (v := .agg #[.int .i64 t.op, .int .i64 t.a, .int .i64 t.b, .string t.name, .slice A9 zs.length c9]) (by simp [results, Tryz.results87, go_sem, e0, e1, e2, e3, e4]) rfl ?_
            exact HRES.out
          · have g4 : (y == 4) = false := by simpa using h4
            by_cases h5 : y = 5
            · subst h5
              go_wp2
              go_loopw [6] (fun i wr => ∃ (j : Nat) (x : T) (A : Option Addr) (c : Nat), j ≤ 7 ∧ i = .int .i64 j ∧ Hid (BSt w0 r b z (p + 1) x.op x.a x.b x.name x.kids A c wr)) (fun i _ => 7 - (intOf i).toNat)
              case atStart => exact ⟨0, t, A0, c0, by omega, rfl, HS⟩
              case round =>
                clear HS HO6 HK6 HSZ
                obtain ⟨j, x, A, c, hj, rfl, HS⟩ := hrel
                by_cases hlt : j < 7
                · have hj1 : (j : Int) < 7 := by omega
                  have hal := (Below.refl wr.heap.size wr).alloc (Nat.le_refl _) (.cells #[.int .i64 x.op, .int .i64 x.a, .int .i64 x.b, .string x.name, .slice A x.kids.length c] 48)
                  have hbx := heap_alloc_new wr (.cells #[.int .i64 x.op, .int .i64 x.a, .int .i64 x.b, .string x.name, .slice A x.kids.length c] 48)
                  obtain ⟨wa, hwa⟩ : ∃ wa, wa = wr.alloc (.cells #[.int .i64 x.op, .int .i64 x.a, .int .i64 x.b, .string x.name, .slice A x.kids.length c] 48) := ⟨_, rfl⟩
                  rw [← hwa] at hal hbx
                  have HS1 := Lib.hid (HS.out.up hal)
                  have hnr : ¬ S9 r b z wr.heap.size := fun e => by
                    have h1 := lt_of_block HS.out.box
                    have h2 := lt_of_block HS.out.out
                    rcases e with e | e | e | e
                    · have e : wr.heap.size = r := e
                      omega
                    · have e : wr.heap.size = b := e
                      omega
                    · have e : wr.heap.size = b + 1 := e
                      omega
                    · have e : wr.heap.size = z := e
                      omega
                  have HT1 := Lib.hid (one_term_sl (S := S9 r b z) (t := x) hbx hnr HS.out.cap HS1.out.kids)
                  have HOX : Hid (T.All okT3 x) := Lib.hid (by have := HS.out.ok; rw [T.eta] at this; exact this)
                  have HS2 : Hid (BSt w0 r b z (p + 1) 25 0 0 ⟨#[]⟩ [x] (some ⟨wr.heap.size, 0, none⟩) 1 (((((wa.setCell ⟨b, 0, none⟩ (.int .i64 25)).setCell ⟨b, 1, none⟩ (.int .i64 0)).setCell ⟨b, 2, none⟩ (.int .i64 0)).setCell ⟨b, 3, none⟩ (.string ⟨#[]⟩)).setCell ⟨b, 4, none⟩ (.slice (some ⟨wr.heap.size, 0, none⟩) 1 1))) := Lib.hid (HS1.out.put (((((Gr.refl (fun x => x = b) wa).set b _ _ (.inl rfl)).set b _ _ (.inl rfl)).set b _ _ (.inl rfl)).set b _ _ (.inl rfl) |>.set b _ _ (.inl rfl)) hrb hb0 (box5 HS1.out.box) HT1.out (Nat.le_refl _) (okT_one HOX.out (by omega) (by omega)))
                  have HWA := Lib.hid hwa
                  clear hal hbx hwa hnr
                  obtain ⟨cc0, gg0⟩ := (show wr.cell? ⟨b, 0, none⟩ = _ ∧ wr.frozen? ⟨b, 0, none⟩ = false from cell_of_block HS.out.box 0)
                  obtain ⟨cc1, gg1⟩ := (show wr.cell? ⟨b, 1, none⟩ = _ ∧ wr.frozen? ⟨b, 1, none⟩ = false from cell_of_block HS.out.box 1)
                  obtain ⟨cc2, gg2⟩ := (show wr.cell? ⟨b, 2, none⟩ = _ ∧ wr.frozen? ⟨b, 2, none⟩ = false from cell_of_block HS.out.box 2)
                  obtain ⟨cc3, gg3⟩ := (show wr.cell? ⟨b, 3, none⟩ = _ ∧ wr.frozen? ⟨b, 3, none⟩ = false from cell_of_block HS.out.box 3)
                  obtain ⟨cc4, gg4⟩ := (show wr.cell? ⟨b, 4, none⟩ = _ ∧ wr.frozen? ⟨b, 4, none⟩ = false from cell_of_block HS.out.box 4)
                  obtain ⟨ca0, ga0⟩ := (show wa.cell? ⟨b, 0, none⟩ = _ ∧ wa.frozen? ⟨b, 0, none⟩ = false from cell_of_block HS1.out.box 0)
                  obtain ⟨ca1, ga1⟩ := (show wa.cell? ⟨b, 1, none⟩ = _ ∧ wa.frozen? ⟨b, 1, none⟩ = false from cell_of_block HS1.out.box 1)
                  obtain ⟨ca2, ga2⟩ := (show wa.cell? ⟨b, 2, none⟩ = _ ∧ wa.frozen? ⟨b, 2, none⟩ = false from cell_of_block HS1.out.box 2)
                  obtain ⟨ca3, ga3⟩ := (show wa.cell? ⟨b, 3, none⟩ = _ ∧ wa.frozen? ⟨b, 3, none⟩ = false from cell_of_block HS1.out.box 3)
                  obtain ⟨ca4, ga4⟩ := (show wa.cell? ⟨b, 4, none⟩ = _ ∧ wa.frozen? ⟨b, 4, none⟩ = false from cell_of_block HS1.out.box 4)
                  rw [HWA.out] at ca0 ga0 ca1 ga1 ca2 ga2 ca3 ga3 ca4 ga4
                  go_wp2
                  rw [← HWA.out]
                  generalize (((((wa.setCell ⟨b, 0, none⟩ (.int .i64 25)).setCell ⟨b, 1, none⟩ (.int .i64 0)).setCell ⟨b, 2, none⟩ (.int .i64 0)).setCell ⟨b, 3, none⟩ (.string ⟨#[]⟩)).setCell ⟨b, 4, none⟩ (.slice (some ⟨wr.heap.size, 0, none⟩) 1 1)) = w9 at *
                  clear ca0 ga0 cc0 gg0 ca1 ga1 cc1 gg1 ca2 ga2 cc2 gg2 ca3 ga3 cc3 gg3 ca4 ga4 cc4 gg4
                  go_roundw
                  case rel => exact ⟨j + 1, .mk 25 0 0 ⟨#[]⟩ [x], _, 1, by omega, by go_num, HS2⟩
                  case measure => simp [intOf]; omega
                · have hje : j = 7 := by omega
                  subst hje
                  obtain ⟨cc0, gg0⟩ := (show wr.cell? ⟨b, 0, none⟩ = _ ∧ wr.frozen? ⟨b, 0, none⟩ = false from cell_of_block HS.out.box 0)
                  obtain ⟨cc1, gg1⟩ := (show wr.cell? ⟨b, 1, none⟩ = _ ∧ wr.frozen? ⟨b, 1, none⟩ = false from cell_of_block HS.out.box 1)
                  obtain ⟨cc2, gg2⟩ := (show wr.cell? ⟨b, 2, none⟩ = _ ∧ wr.frozen? ⟨b, 2, none⟩ = false from cell_of_block HS.out.box 2)
                  obtain ⟨cc3, gg3⟩ := (show wr.cell? ⟨b, 3, none⟩ = _ ∧ wr.frozen? ⟨b, 3, none⟩ = false from cell_of_block HS.out.box 3)
                  obtain ⟨cc4, gg4⟩ := (show wr.cell? ⟨b, 4, none⟩ = _ ∧ wr.frozen? ⟨b, 4, none⟩ = false from cell_of_block HS.out.box 4)
                  obtain ⟨co0, go0⟩ := (show wr.cell? ⟨b + 1, 0, none⟩ = _ ∧ wr.frozen? ⟨b + 1, 0, none⟩ = false from cell_of_block HS.out.out 0)
                  obtain ⟨co1, go1⟩ := (show wr.cell? ⟨b + 1, 1, none⟩ = _ ∧ wr.frozen? ⟨b + 1, 1, none⟩ = false from cell_of_block HS.out.out 1)
                  obtain ⟨co2, go2⟩ := (show wr.cell? ⟨b + 1, 2, none⟩ = _ ∧ wr.frozen? ⟨b + 1, 2, none⟩ = false from cell_of_block HS.out.out 2)
                  obtain ⟨co3, go3⟩ := (show wr.cell? ⟨b + 1, 3, none⟩ = _ ∧ wr.frozen? ⟨b + 1, 3, none⟩ = false from cell_of_block HS.out.out 3)
                  obtain ⟨co4, go4⟩ := (show wr.cell? ⟨b + 1, 4, none⟩ = _ ∧ wr.frozen? ⟨b + 1, 4, none⟩ = false from cell_of_block HS.out.out 4)
                  go_wp2
                  have hfn := BSt.fin (p := p) HS.out (by omega) (by omega) hb0 hrl0
                  generalize (((((wr.setCell ⟨b + 1, 0, none⟩ (.int .i64 x.op)).setCell ⟨b + 1, 1, none⟩ (.int .i64 x.a)).setCell ⟨b + 1, 2, none⟩ (.int .i64 x.b)).setCell ⟨b + 1, 3, none⟩ (.string x.name)).setCell ⟨b + 1, 4, none⟩ (.slice A x.kids.length c)) = w9 at *
                  obtain ⟨hbx, hres⟩ := hfn
                  have HRES := Lib.hid hres
                  clear hres
                  have e0 := (cell_of_block hbx 0).1
                  have e1 := (cell_of_block hbx 1).1
                  have e2 := (cell_of_block hbx 2).1
                  have e3 := (cell_of_block hbx 3).1
                  have e4 := (cell_of_block hbx 4).1
                  simp at e0 e1 e2 e3 e4
                  refine bodyPost_ret (v := .agg #[.int .i64 x.op, .int .i64 x.a, .int .i64 x.b, .string x.name, .slice A x.kids.length c]) (by simp [results, Tryz.results87, go_sem, e0, e1, e2, e3, e4]) rfl ?_
                  exact HRES.out
            · have g5 : (y == 5) = false := by simpa using h5
              obtain ⟨cc0, gg0⟩ := (show wr.cell? ⟨b, 0, none⟩ = _ ∧ wr.frozen? ⟨b, 0, none⟩ = false from cell_of_block HS.out.box 0)
              obtain ⟨cc1, gg1⟩ := (show wr.cell? ⟨b, 1, none⟩ = _ ∧ wr.frozen? ⟨b, 1, none⟩ = false from cell_of_block HS.out.box 1)
              obtain ⟨cc2, gg2⟩ := (show wr.cell? ⟨b, 2, none⟩ = _ ∧ wr.frozen? ⟨b, 2, none⟩ = false from cell_of_block HS.out.box 2)
              obtain ⟨cc3, gg3⟩ := (show wr.cell? ⟨b, 3, none⟩ = _ ∧ wr.frozen? ⟨b, 3, none⟩ = false from cell_of_block HS.out.box 3)
              obtain ⟨cc4, gg4⟩ := (show wr.cell? ⟨b, 4, none⟩ = _ ∧ wr.frozen? ⟨b, 4, none⟩ = false from cell_of_block HS.out.box 4)
              obtain ⟨co0, go0⟩ := (show wr.cell? ⟨b + 1, 0, none⟩ = _ ∧ wr.frozen? ⟨b + 1, 0, none⟩ = false from cell_of_block HS.out.out 0)
              obtain ⟨co1, go1⟩ := (show wr.cell? ⟨b + 1, 1, none⟩ = _ ∧ wr.frozen? ⟨b + 1, 1, none⟩ = false from cell_of_block HS.out.out 1)
              obtain ⟨co2, go2⟩ := (show wr.cell? ⟨b + 1, 2, none⟩ = _ ∧ wr.frozen? ⟨b + 1, 2, none⟩ = false from cell_of_block HS.out.out 2)
              obtain ⟨co3, go3⟩ := (show wr.cell? ⟨b + 1, 3, none⟩ = _ ∧ wr.frozen? ⟨b + 1, 3, none⟩ = false from cell_of_block HS.out.out 3)
              obtain ⟨co4, go4⟩ := (show wr.cell? ⟨b + 1, 4, none⟩ = _ ∧ wr.frozen? ⟨b + 1, 4, none⟩ = false from cell_of_block HS.out.out 4)
              go_wp2
              have hfn := BSt.fin (p := p) HS.out (by omega) (by omega) hb0 hrl0
              generalize (((((wr.setCell ⟨b + 1, 0, none⟩ (.int .i64 t.op)).setCell ⟨b + 1, 1, none⟩ (.int .i64 t.a)).setCell ⟨b + 1, 2, none⟩ (.int .i64 t.b)).setCell ⟨b + 1, 3, none⟩ (.string t.name)).setCell ⟨b + 1, 4, none⟩ (.slice A0 t.kids.length c0)) = w9 at *
              obtain ⟨hbx, hres⟩ := hfn
              have HRES := Lib.hid hres
              clear hres
              have e0 := (cell_of_block hbx 0).1
              have e1 := (cell_of_block hbx 1).1
              have e2 := (cell_of_block hbx 2).1
              have e3 := (cell_of_block hbx 3).1
              have e4 := (cell_of_block hbx 4).1
              simp at e0 e1 e2 e3 e4
              refine bodyPost_ret (v := .agg #[.int .i64 t.op, .int .i64 t.a, .int .i64 t.b, .string t.name, .slice A0 t.kids.length c0]) (by simp [results, Tryz.results87, go_sem, e0, e1, e2, e3, e4]) rfl ?_
              exact HRES.out
end Go.Proofs.YtiahmfpfimmbgaaGreatDoor
