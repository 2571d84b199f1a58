/- The program's trail: newTrail, unit, trailOk. -/
import Derived.Test.YtndolbplkjhooaaTrail3
namespace Go.Proofs.Ytndolbplkjhooaa
open Go Go.RowKit

theorem PlacesOk.nil (M : Nat) : PlacesOk M [] (List.replicate (M + 1) 0) :=
  ⟨by simp, fun v h1 h2 => .inr ⟨by simp, by rw [List.getElem?_replicate, if_pos (by omega)]⟩⟩
def RetNew (M : Nat) (w : World) (e : Ending) (w' : World) : Prop := ∃ t, e = .returned (.pointer (some ⟨t, 0, none⟩)) ∧ Tr w.heap.size (fun _ => False) M w' t [] [] ∧ Below w.heap.size w w'
theorem newTrail_done {M : Nat} {w w1 : World} (h : w1.ownsRow w.heap.size 3 1 (.slice (some ⟨w.heap.size, 0, none⟩) (M + 1) (M + 1)) (M + 1) ((List.replicate (M + 1) (0 : Int)).map (Value.int .i64))) (hb : Below w.heap.size w w1) :
    Tr w.heap.size (fun _ => False) M (w1.alloc (.cells #[.slice none 0 0, .slice (some ⟨w.heap.size, 0, none⟩) (M + 1) (M + 1), .slice none 0 0] 74)) w1.heap.size [] [] ∧ Below w.heap.size w (w1.alloc (.cells #[.slice none 0 0, .slice (some ⟨w.heap.size, 0, none⟩) (M + 1) (M + 1), .slice none 0 0] 74)) :=
  ⟨⟨none, none, 0, 0, w.heap.size, List.replicate (M + 1) 0, ⟨⟨heap_alloc_new _ _, hb.size, World.ownsRow_nil _ _ _ _, h.alloc _, World.ownsRow_nil _ _ _ _, by simp [Value.ownBlock], by simp [Value.ownBlock], by simp [Value.ownBlock], fun _ h => h.elim⟩, PlacesOk.nil M, rfl, by simp⟩⟩, hb.alloc hb.size _⟩
theorem newTrail_any (M : Nat) (w : World) (hM : M ≤ 1000000) :
    Calls Try.prog 72 #[.int .i64 M] w (RetNew M w) := by
  obtain ⟨i0, hi0, hz0, hz1, hz2⟩ := info_parts int_info
  go_enter Try.func72, Try.ntmps72
  go_wp2_with (at_make; refine wpList_make_full _ rfl _ _ 25 rfl w.heap.size 3 i0 _ 1 Try.underlying25 hi0 hz0 hz1 .i64 .i64 _ _ (M + 1) rfl rfl (by push_cast; rfl) (by push_cast; rfl) (by rw [hz2]; omega) (by unfold maxLen; omega) (Nat.le_refl _) ?_; intro w1 hown hg1)
  have hb1 : Below w.heap.size w w1 := (Below.refl _ _).grown hg1 (Nat.le_refl _) (by simp)
  rw [show (madeCells (Value.int .i64 0).cells ((M + 1) * 1)).toList = (List.replicate (M + 1) (0 : Int)).map (Value.int .i64) from by
    rw [show (Value.int .i64 0).cells = #[Value.int .i64 0] from rfl, toList_madeCells_one]; simp] at hown
  have HD := Lib.hid (newTrail_done hown hb1)
  clear hown hb1 hg1
  go_wp2
  go_ret
  exact ⟨_, rfl, HD.out⟩

def lenAt (w : World) (t : Nat) : Nat := match w.cell? ⟨t, 0, none⟩ with | some (.slice _ n _) => n | _ => 0
theorem Tr.lenAt {lo M : Nat} {S : Nat → Prop} {w : World} {t : Nat} {put ls : List Int} (h : Tr lo S M w t put ls) : lenAt w t = put.length := by
  obtain ⟨A, B, c, d, Q, pl, h⟩ := h
  unfold Proofs.Ytndolbplkjhooaa.lenAt
  rw [(cell_of_block h.blk 0).1]
  rfl
def RetUnit (lo : Nat) (S : Nat → Prop) (M : Nat) (w : World) (t : Nat) (r : List Int × Bool) (e : Ending) (w' : World) : Prop := e = .returned (.bool r.2) ∧ (∃ ls, Tr lo S M w' t r.1 ls) ∧ BelowS lo S w w'
theorem Tr.drew {lo M : Nat} {S : Nat → Prop} {w0 w : World} {t : Nat} {put ls : List Int} (h : Tr lo S M w t put ls) (hb : BelowS lo S w0 w) (m : Nat) : BelowS lo S w0 (w.drewN m) := by
  obtain ⟨A, B, c, d, Q, pl, h⟩ := h
  exact hb.trans (BelowS.of (below_drewN (Below.refl _ _) m) h.toTrB.lt (fun x hx => (h.d4 x hx).1))
/-- A fresh block is spared. -/
theorem Tr.spare {lo M : Nat} {w : World} {t : Nat} {put ls : List Int} (h : Tr lo (fun _ => False) M w t put ls) (o : Obj) : Tr lo (fun x => x = w.heap.size) M (w.alloc o) t put ls := by
  obtain ⟨A, B, c, d, Q, pl, h⟩ := h
  have h9 := h.toTrB.up ((Below.refl _ _).alloc (Nat.le_refl _) o)
  have hq := h.toTrB.q
  have ht := lt_of_block h.blk
  refine ⟨A, B, c, d, Q, pl, ⟨⟨h9.blk, h9.hlo, h9.hput, h9.hpl, h9.hls, h9.d1, h9.d2, h9.d3, ?_⟩, h.ok, h.len, h.lv⟩⟩
  rintro x rfl
  refine ⟨by simp, by omega, by omega, fun e => ?_, fun e => ?_⟩
  · have := (h.hput.lt _ e).2; omega
  · have := (h.hls.lt _ e).2; omega
set_option maxRecDepth 100000 in
set_option maxHeartbeats 4000000 in
theorem unit_any (lo : Nat) (S : Nat → Prop) (M t : Nat) (put ls : List Int) (lists : List (List (List Int))) (B : Option Addr) (q : Nat) (G : Nat → Prop) (w : World) (h : Tr lo S M w t put ls) (hl : Lay.int.slice.slice.Sl w G B lists) (hG : ∀ b, G b → b < lo ∨ S b) (hg : Good M put)
    (hr : ∀ cls ∈ lists, cls.length ≤ 1048576 ∧ ∀ cl ∈ cls, (∀ l ∈ cl, l ≠ 0 ∧ -(M : Int) ≤ l ∧ l ≤ M) ∧ cl.length ≤ 1048576) (hn : lists.length ≤ 1048576) (hM : M ≤ 1000000) (hall : lists.flatten.length ≤ 1000000000) :
    Calls Try.prog 50 #[.pointer (some ⟨t, 0, none⟩), .slice B lists.length q] w (RetUnit lo S M w t (units M lists.flatten put)) := by
  have hrf : ∀ cl ∈ lists.flatten, ∀ l ∈ cl, l ≠ 0 ∧ -(M : Int) ≤ l ∧ l ≤ M := fun cl hc => by
    obtain ⟨cls, h1, h2⟩ := List.mem_flatten.1 hc
    exact ((hr cls h1).2 cl h2).1
  go_enter Try.func50, Try.ntmps50
  go_wp2
  go_loopw [4] (fun v wr => v = .bool false ∧ ∃ (cur lv : List Int), Tr lo S M wr t cur lv ∧ Good M cur ∧ units M lists.flatten put = units M lists.flatten cur ∧ BelowS lo S w wr) (fun _ wr => M - lenAt wr t)
  case atStart => exact ⟨rfl, put, ls, h, hg, rfl, BelowS.refl _ _ _⟩
  case round =>
    obtain ⟨rfl, cur, lv, htr, hgc, hun, hb⟩ := hrel
    have hnext := next_any lo S M t cur lv lists B q G wr htr (hl.keep fun b h9 => (hG b h9).elim (hb.1.block b) (hb.2 b)) hgc hr hn hM hall
    have hstep := units_step (many := (M : Int)) (cs := lists.flatten) hgc.length
    have hfree := fd_free (put := cur) (cs := lists.flatten) (k := 0) (u := -1) (f := 0) hrf (by omega) (by omega)
    have hgood := hgc.next hrf
    rw [hstep] at hun
    generalize fd cur lists.flatten 0 (-1) 0 = R at *
    obtain ⟨R1, R2, R3⟩ := R
    dsimp only at hnext hun hfree hgood
    have HN := Lib.hid hnext
    have HU := Lib.hid hun
    have HF := Lib.hid hfree
    have HG := Lib.hid hgood
    clear hnext hstep hfree hgood hun
    by_cases hc : 0 ≤ R1
    · have HE := Lib.hid (show units M lists.flatten put = (cur, true) by rw [HU.out, if_pos hc])
      go_wp2_with fail
      refine HN.out.mono ?_
      rintro e w' ⟨rfl, m9, rfl⟩
      go_wp2
      go_ret
      exact ⟨by rw [HE.out]; rfl, ⟨lv, by rw [HE.out]; exact htr.drewN _⟩, htr.drew hb _⟩
    by_cases hu : R2 < 0
    · have HE := Lib.hid (show units M lists.flatten put = (cur, false) by rw [HU.out, if_neg hc, if_pos hu])
      go_wp2_with fail
      refine HN.out.mono ?_
      rintro e w' ⟨rfl, m9, rfl⟩
      go_wp2
      go_ret
      exact ⟨ret_bool (by rw [HE.out]; simp; omega), ⟨lv, by rw [HE.out]; exact htr.drewN _⟩, htr.drew hb _⟩
    have HE := Lib.hid (show units M lists.flatten put = units M lists.flatten (cur ++ [R3]) by rw [HU.out, if_neg hc, if_neg hu])
    obtain ⟨f0, f1, f2, f3, f4⟩ := HF.out (by omega)
    have hgn := HG.out (by omega)
    have HGN := Lib.hid hgn
    have hgl := hgn.length
    go_wp2_with fail
    refine HN.out.mono ?_
    rintro e w' ⟨rfl, m9, rfl⟩
    clear hgn
    go_wp2_with fail
    refine (push_any lo S M t cur lv R3 false (wr.drewN m9) (htr.drewN m9) hgc f0 f1 f2 f3 f4 hM).mono ?_
    rintro e w8 ⟨rfl, htr8, hb8⟩
    go_wp2
    go_roundw
    case rel => exact ⟨rfl, cur ++ [R3], _, htr8, HGN.out, HE.out, (htr.drew hb m9).trans hb8⟩
    case measure =>
      rw [htr8.lenAt, htr.lenAt]
      rw [List.length_append, List.length_singleton] at hgl ⊢
      omega

theorem never_any (k : Int) (w : World) : Calls Try.prog 49 #[.int .i64 k] w fun e w' => e = .returned (.bool false) ∧ w = w' := by
  go_enter Try.func49, Try.ntmps49
  go_wp2
  go_ret
  exact ⟨rfl, rfl⟩

end Go.Proofs.Ytndolbplkjhooaa
