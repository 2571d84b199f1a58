/- The reference's search: l5Run. -/
import Derived.Test.YtbljfhmcebgdaaaJFnProof16
/-! The reference's search: l5Run. -/
namespace Go.Proofs.Ytbljfhmcebgdaaa
open Go Go.RowKit

/-- The search's variable is written. -/
theorem run_box {w y : World} {b lo : Nat} {F FL : Nat → Prop} {x : C} {s : S} {A P Q D : Option Addr} {p q d : Nat} {cs : Array Value} (h : SOwn y lo F FL x s A P Q D p q) (hF : ∀ k, F k → k < b) (hlo : b + 2 < lo) (hc : y.heap[b + 2]? = some (.cells cs 35 (0, 0))) (hcs : cs.size = 4) (hw : Below b w y) :
    ((((y.setCell ⟨b + 2, 0, none⟩ (.slice P s.put.length p)).setCell ⟨b + 2, 1, none⟩ (.slice Q s.why.length q)).setCell ⟨b + 2, 2, none⟩ (.slice D s.learned.length d)).setCell ⟨b + 2, 3, none⟩ (.int .i64 s.code)).heap[b + 2]? = some (.cells #[.slice P s.put.length p, .slice Q s.why.length q, .slice D s.learned.length d, .int .i64 s.code] 35 (0, 0)) ∧ SOwn ((((y.setCell ⟨b + 2, 0, none⟩ (.slice P s.put.length p)).setCell ⟨b + 2, 1, none⟩ (.slice Q s.why.length q)).setCell ⟨b + 2, 2, none⟩ (.slice D s.learned.length d)).setCell ⟨b + 2, 3, none⟩ (.int .i64 s.code)) lo F FL x s A P Q D p q ∧ Below b w ((((y.setCell ⟨b + 2, 0, none⟩ (.slice P s.put.length p)).setCell ⟨b + 2, 1, none⟩ (.slice Q s.why.length q)).setCell ⟨b + 2, 2, none⟩ (.slice D s.learned.length d)).setCell ⟨b + 2, 3, none⟩ (.int .i64 s.code)) ∧ (∀ k, k ≠ b + 2 → ((((y.setCell ⟨b + 2, 0, none⟩ (.slice P s.put.length p)).setCell ⟨b + 2, 1, none⟩ (.slice Q s.why.length q)).setCell ⟨b + 2, 2, none⟩ (.slice D s.learned.length d)).setCell ⟨b + 2, 3, none⟩ (.int .i64 s.code)).heap[k]? = y.heap[k]?) := by
  have f0 := heap_set_same _ (b + 2) 0 (.slice P s.put.length p) _ _ hc
  have f1 := heap_set_same _ (b + 2) 1 (.slice Q s.why.length q) _ _ f0
  have f2 := heap_set_same _ (b + 2) 2 (.slice D s.learned.length d) _ _ f1
  have f3 := heap_set_same _ (b + 2) 3 (.int .i64 s.code) _ _ f2
  have hg : Gr (fun k => k = b + 2) y ((((y.setCell ⟨b + 2, 0, none⟩ (.slice P s.put.length p)).setCell ⟨b + 2, 1, none⟩ (.slice Q s.why.length q)).setCell ⟨b + 2, 2, none⟩ (.slice D s.learned.length d)).setCell ⟨b + 2, 3, none⟩ (.int .i64 s.code)) := Gr.set (Gr.set (Gr.set (Gr.set (Gr.refl (fun k => k = b + 2) y) (b + 2) 0 _ (.inl rfl)) (b + 2) 1 _ (.inl rfl)) (b + 2) 2 _ (.inl rfl)) (b + 2) 3 _ (.inl rfl)
  refine ⟨?_, h.box hg (fun k hk => ?_), hw.trans (hg.to_below' (by have := h.le; omega) fun k hk => by have : k = b + 2 := hk; omega), fun k hk => ?_⟩
  · rw [f3]
    obtain ⟨l⟩ := cs
    match l, hcs with
    | [_, _, _, _], _ => rfl
  · have hk : k = b + 2 := hk
    subst hk
    exact ⟨hlo, fun e => by have := hF _ e; omega⟩
  · have e1 : ∀ (z : World) (o : Nat) (u : Value), (z.setCell ⟨b + 2, o, none⟩ u).heap[k]? = z.heap[k]? := fun z o u => Below.heap_setCell z ⟨b + 2, o, none⟩ u k hk
    rw [e1, e1, e1, e1]
/-- What l5Run gives: a search in rows of the call's own. -/
def RetRn (F : Nat → Prop) (x : C) (A : Option Addr) (s' : S) (w : World) (e : Ending) (w' : World) : Prop :=
  ∃ (P' Q' D' : Option Addr) (p' q' d' lo : Nat) (FL' : Nat → Prop), e = .returned (.agg #[.slice P' s'.put.length p', .slice Q' s'.why.length q', .slice D' s'.learned.length d', .int .i64 s'.code]) ∧ w.heap.size ≤ lo ∧ SOwn w' lo F FL' x s' A P' Q' D' p' q' ∧ Below w.heap.size w w'
theorem own_none (w : World) (lo : Nat) : OwnI w lo (.slice none ([] : List Int).length 0) [] := ⟨by simp, .inl ⟨rfl, rfl⟩⟩
theorem sown_new {w : World} {lo : Nat} {F : Nat → Prop} {x : C} {A : Option Addr} (h : Lay.int.slice.Sl w F A x.list) (hF : ∀ k, F k → k < lo) (hl : lo ≤ w.heap.size) : SOwn w lo F (fun _ => False) x (⟨[], [], [], 0⟩ : S) A none none none 0 0 :=
  ⟨h, own_none _ _, own_none _ _, fun g e => by simp [Value.ownBlock] at e, Lay.Sl.nil _ _ _ _, hF, fun k (hk : False) => hk.elim, hl, fun k (hk : False) => hk.elim⟩
/-- In the loop. -/
structure Run1 (w : World) (b : Nat) (F FL : Nat → Prop) (M : Nat) (x : C) (s : S) (A P Q D : Option Addr) (a p q d : Nat) (z : World) : Prop where
  so : SOwn z (b + 3) F FL x s A P Q D p q
  b0 : z.heap[b]? = some (.cells #[.int .i64 (M : Int), .slice A x.list.length a] 25 (0, 0))
  b1 : z.heap[b + 1]? = some (.cells #[.slice none 0 0, .slice none 0 0, .slice none 0 0, .int .i64 0] 35 (0, 0))
  b2 : z.heap[b + 2]? = some (.cells #[.slice P s.put.length p, .slice Q s.why.length q, .slice D s.learned.length d, .int .i64 s.code] 35 (0, 0))
  bel : Below b w z
theorem Run1.next {w : World} {b : Nat} {F FL FL' : Nat → Prop} {M : Nat} {x : C} {s s' : S} {A P Q D P' Q' D' : Option Addr} {a p q d p' q' d' : Nat} {z z' : World} (h : Run1 w b F FL M x s A P Q D a p q d z) (hF : ∀ k, F k → k < b) (hs : SOwn z' (b + 3) F FL' x s' A P' Q' D' p' q') (hb : Below (b + 3) z z') : Run1 w b F FL' M x s' A P' Q' D' a p' q' d' ((((z'.setCell ⟨b + 2, 0, none⟩ (.slice P' s'.put.length p')).setCell ⟨b + 2, 1, none⟩ (.slice Q' s'.why.length q')).setCell ⟨b + 2, 2, none⟩ (.slice D' s'.learned.length d')).setCell ⟨b + 2, 3, none⟩ (.int .i64 s'.code)) := by
  have h2 : z'.heap[b + 2]? = _ := (hb.block _ (by omega)).trans h.b2
  obtain ⟨g1, g2, g3, g4⟩ := run_box (w := w) (d := d') hs hF (by omega) h2 rfl (h.bel.trans (hb.mono (by omega)))
  exact ⟨g2, (g4 _ (by omega)).trans ((hb.block _ (by omega)).trans h.b0), (g4 _ (by omega)).trans ((hb.block _ (by omega)).trans h.b1), g1, g3⟩
theorem Run1.fin {w : World} {b : Nat} {F FL : Nat → Prop} {M : Nat} {x : C} {s : S} {A P Q D : Option Addr} {a p q d : Nat} {z : World} (h : Run1 w b F FL M x s A P Q D a p q d z) (hF : ∀ k, F k → k < b) (hb : b = w.heap.size) : ((((z.setCell ⟨b + 1, 0, none⟩ (.slice P s.put.length p)).setCell ⟨b + 1, 1, none⟩ (.slice Q s.why.length q)).setCell ⟨b + 1, 2, none⟩ (.slice D s.learned.length d)).setCell ⟨b + 1, 3, none⟩ (.int .i64 s.code)).heap[b + 1]? = some (.cells #[.slice P s.put.length p, .slice Q s.why.length q, .slice D s.learned.length d, .int .i64 s.code] 35 (0, 0)) ∧ RetRn F x A s w (.returned (.agg #[.slice P s.put.length p, .slice Q s.why.length q, .slice D s.learned.length d, .int .i64 s.code])) ((((z.setCell ⟨b + 1, 0, none⟩ (.slice P s.put.length p)).setCell ⟨b + 1, 1, none⟩ (.slice Q s.why.length q)).setCell ⟨b + 1, 2, none⟩ (.slice D s.learned.length d)).setCell ⟨b + 1, 3, none⟩ (.int .i64 s.code)) := by
  have f0 := heap_set_same _ (b + 1) 0 (.slice P s.put.length p) _ _ h.b1
  have f1 := heap_set_same _ (b + 1) 1 (.slice Q s.why.length q) _ _ f0
  have f2 := heap_set_same _ (b + 1) 2 (.slice D s.learned.length d) _ _ f1
  have f3 := heap_set_same _ (b + 1) 3 (.int .i64 s.code) _ _ f2
  have hg : Gr (fun k => k = b + 1) z ((((z.setCell ⟨b + 1, 0, none⟩ (.slice P s.put.length p)).setCell ⟨b + 1, 1, none⟩ (.slice Q s.why.length q)).setCell ⟨b + 1, 2, none⟩ (.slice D s.learned.length d)).setCell ⟨b + 1, 3, none⟩ (.int .i64 s.code)) := Gr.set (Gr.set (Gr.set (Gr.set (Gr.refl (fun k => k = b + 1) z) (b + 1) 0 _ (.inl rfl)) (b + 1) 1 _ (.inl rfl)) (b + 1) 2 _ (.inl rfl)) (b + 1) 3 _ (.inl rfl)
  refine ⟨f3, P, Q, D, p, q, d, b + 3, FL, rfl, by omega, h.so.box hg (fun k hk => ?_), ?_⟩
  · have hk : k = b + 1 := hk
    subst hk
    exact ⟨by omega, fun e => by have := hF _ e; omega⟩
  · rw [← hb]
    exact h.bel.trans (hg.to_below' (by have := h.so.le; omega) fun k hk => by have : k = b + 1 := hk; omega)
set_option maxRecDepth 100000 in
set_option maxHeartbeats 8000000 in
theorem l5Run_any (x : C) (A : Option Addr) (a M n : Nat) (F : Nat → Prop) (w : World) (hM : x.many = (M : Int)) (h : Lay.int.slice.Sl w F A x.list) (hF : ∀ b, F b → b < w.heap.size) (hc : cnfOk x = true) (hn : n ≤ 1000000) :
    Calls Try.prog 62 #[.agg #[.int .i64 x.many, .slice A x.list.length a], .int .i64 n] w (RetRn F x A (runP M x n (⟨[], [], [], 0⟩ : S)) w) := by
  have HMM := Lib.hid hM
  rw [hM]
  have hal1 : Below w.heap.size w (w.alloc (.cells #[.int .i64 (M : Int), .slice A x.list.length a] 25)) := (Below.refl _ _).alloc (Nat.le_refl _) _
  have hs1 : (w.alloc (.cells #[.int .i64 (M : Int), .slice A x.list.length a] 25)).heap.size = w.heap.size + 1 := by simp
  have hb1 := heap_alloc_new w (.cells #[.int .i64 (M : Int), .slice A x.list.length a] 25)
  obtain ⟨w1, hw1⟩ : ∃ w1, w1 = w.alloc (.cells #[.int .i64 (M : Int), .slice A x.list.length a] 25) := ⟨_, rfl⟩
  rw [← hw1] at hal1 hs1 hb1
  have hal2 : Below w1.heap.size w1 (w1.alloc (.cells #[.slice none 0 0, .slice none 0 0, .slice none 0 0, .int .i64 0] 35)) := (Below.refl _ _).alloc (Nat.le_refl _) _
  have hs2 : (w1.alloc (.cells #[.slice none 0 0, .slice none 0 0, .slice none 0 0, .int .i64 0] 35)).heap.size = w.heap.size + 1 + 1 := by simp [hs1]
  have hb2 := heap_alloc_new w1 (.cells #[.slice none 0 0, .slice none 0 0, .slice none 0 0, .int .i64 0] 35)
  rw [hs1] at hb2
  obtain ⟨w2, hw2⟩ : ∃ w2, w2 = w1.alloc (.cells #[.slice none 0 0, .slice none 0 0, .slice none 0 0, .int .i64 0] 35) := ⟨_, rfl⟩
  rw [← hw2] at hal2 hs2 hb2
  have hal3 : Below w2.heap.size w2 (w2.alloc (.cells #[.slice none 0 0, .slice none 0 0, .slice none 0 0, .int .i64 0] 35)) := (Below.refl _ _).alloc (Nat.le_refl _) _
  have hb3 := heap_alloc_new w2 (.cells #[.slice none 0 0, .slice none 0 0, .slice none 0 0, .int .i64 0] 35)
  have hs3 : (w2.alloc (.cells #[.slice none 0 0, .slice none 0 0, .slice none 0 0, .int .i64 0] 35)).heap.size = w.heap.size + 3 := by simp [hs2]
  rw [hs2] at hb3
  obtain ⟨w3, hw3⟩ : ∃ w3, w3 = w2.alloc (.cells #[.slice none 0 0, .slice none 0 0, .slice none 0 0, .int .i64 0] 35) := ⟨_, rfl⟩
  rw [← hw3] at hal3 hb3 hs3
  obtain ⟨b, hbe⟩ : ∃ b, b = w.heap.size := ⟨_, rfl⟩
  have hB1 := (hal3.block _ (Nat.lt_of_lt_of_le (lt_of_block hb1) hal2.size)).trans ((hal2.block _ (lt_of_block hb1)).trans hb1)
  have hB2 := (hal3.block _ (lt_of_block hb2)).trans hb2
  have hw03 := bthen (bthen hal1 hal2) hal3
  have HR3 : Hid (Run1 w b F (fun _ => False) M x (⟨[], [], [], 0⟩ : S) A none none none a 0 0 0 w3) := Lib.hid ⟨sown_new (h.keep fun k hk => hw03.block k (hF k hk)) (fun k hk => by have := hF k hk; omega) (by omega), by rw [hbe]; exact hB1, by rw [hbe]; exact hB2, by rw [hbe]; exact hb3, by rw [hbe]; exact hw03⟩
  have HF : Hid (∀ k, F k → k < b) := Lib.hid (by rw [hbe]; exact hF)
  have HC := Lib.hid hc
  have HBE := Lib.hid hbe
  have HW1 := Lib.hid hw1
  have HW2 := Lib.hid hw2
  have HW3 := Lib.hid hw3
  clear h hF hc hal1 hs1 hb1 hal2 hs2 hb2 hal3 hb3 hs3 hw03 hw1 hw2 hw3 hM hB1 hB2 hbe
  go_enter Try.func62, Try.ntmps62
  go_wp2
  rw [← HW1.out, ← HW2.out, ← HW3.out, ← HBE.out]
  clear HW1 HW2 HW3
  go_loopw [6] (fun i wr => ∃ (k : Nat) (s : S) (P Q D : Option Addr) (p q d : Nat) (FL : Nat → Prop), k ≤ n ∧ i = .int .i64 k ∧ Hid (Run1 w b F FL M x s A P Q D a p q d wr) ∧ Hid (SatGood x s) ∧ Hid (runP M x n (⟨[], [], [], 0⟩ : S) = runP M x (n - k) s)) (fun i _ => n - (intOf i).toNat)
  case atStart => exact ⟨0, (⟨[], [], [], 0⟩ : S), none, none, none, 0, 0, 0, fun _ => False, Nat.zero_le _, rfl, HR3, Lib.hid (sat_new HC.out), Lib.hid rfl⟩
  case round =>
    obtain ⟨k, s, P, Q, D, p, q, d, FL, hk, rfl, HR, HG, HT⟩ := hrel
    clear HR3
    obtain ⟨c0, c0'⟩ := cell_of_block HR.out.b0 0
    obtain ⟨c1, c1'⟩ := cell_of_block HR.out.b0 1
    obtain ⟨n0, n0'⟩ := cell_of_block HR.out.b2 0
    obtain ⟨n1, n1'⟩ := cell_of_block HR.out.b2 1
    obtain ⟨n2, n2'⟩ := cell_of_block HR.out.b2 2
    obtain ⟨n3, n3'⟩ := cell_of_block HR.out.b2 3
    by_cases hlt : k < n
    · have h1 : (k : Int) < (n : Int) := by omega
      by_cases h0 : s.code = 0
      · have g0 : (s.code == 0) = true := by simpa using h0
        have HT' : Hid (runP M x n (⟨[], [], [], 0⟩ : S) = runP M x (n - (k + 1)) (doP M x s)) := Lib.hid (by
          rw [HT.out, show n - k = (n - (k + 1)) + 1 by omega, runP, if_pos h0])
        have HDO := Lib.hid (l5Do_any x s A P Q D a p q d M (b + 3) F FL wr HMM.out HR.out.so HG.out)
        rw [HMM.out] at HDO
        clear h0 HT
        go_wp2_with fail
        refine HDO.out.mono ?_
        clear HDO n0 n0' n1 n1' n2 n2' n3 n3' c0 c1 c0' c1'
        rintro e w9 ⟨P', Q', D', p', q', d', FL', rfl, hso, hbl⟩
        have h2 := (hbl.block (b + 2) (by omega)).trans HR.out.b2
        obtain ⟨n0, n0'⟩ := cell_of_block h2 0
        obtain ⟨n1, n1'⟩ := cell_of_block h2 1
        obtain ⟨n2, n2'⟩ := cell_of_block h2 2
        obtain ⟨n3, n3'⟩ := cell_of_block h2 3
        have HN := Lib.hid (HR.out.next (d' := d') HF.out hso hbl)
        obtain ⟨s', hs'⟩ : ∃ s', s' = doP M x s := ⟨_, rfl⟩
        have HG' : Hid (SatGood x s') := Lib.hid (by rw [hs']; exact do_ok HG.out HMM.out)
        rw [← hs'] at HT' HN ⊢
        clear hs' h2 hso hbl
        go_wp2
        go_roundw
        case rel => exact ⟨k + 1, s', P', Q', D', p', q', d', FL', by omega, by go_num, HN, HG', HT'⟩
        case measure => simp [intOf]; omega
      · have g0 : (s.code == 0) = false := by simpa using h0
        have HE : Hid (runP M x n (⟨[], [], [], 0⟩ : S) = s) := Lib.hid (by
          rw [HT.out]
          cases n - k with
          | zero => rfl
          | succ m => rw [runP, if_neg h0])
        clear h0 HT
        obtain ⟨o0, o0'⟩ := cell_of_block HR.out.b1 0
        obtain ⟨o1, o1'⟩ := cell_of_block HR.out.b1 1
        obtain ⟨o2, o2'⟩ := cell_of_block HR.out.b1 2
        obtain ⟨o3, o3'⟩ := cell_of_block HR.out.b1 3
        go_wp2
        have hfin := HR.out.fin HF.out HBE.out
        generalize ((((wr.setCell ⟨b + 1, 0, none⟩ (.slice P s.put.length p)).setCell ⟨b + 1, 1, none⟩ (.slice Q s.why.length q)).setCell ⟨b + 1, 2, none⟩ (.slice D s.learned.length d)).setCell ⟨b + 1, 3, none⟩ (.int .i64 s.code)) = w9 at *
        obtain ⟨hbx, hres⟩ := hfin
        have HRES := Lib.hid hres
        clear hres
        have e0 := (cell_of_block hbx 0).1
        have e1 := (cell_of_block hbx 1).1
        have e2 := (cell_of_block hbx 2).1
        have e3 := (cell_of_block hbx 3).1
        simp at e0 e1 e2 e3
        refine bodyPost_ret (v := .agg #[.slice P s.put.length p, .slice Q s.why.length q, .slice D s.learned.length d, .int .i64 s.code]) (by simp [results, Try.results62, go_sem, e0, e1, e2, e3]) rfl ?_
        rw [HE.out]
        exact HRES.out
    · have h1 : ¬ (k : Int) < (n : Int) := by omega
      have HE : Hid (runP M x n (⟨[], [], [], 0⟩ : S) = s) := Lib.hid (by rw [HT.out, show n - k = 0 by omega]; rfl)
      clear HT
      obtain ⟨o0, o0'⟩ := cell_of_block HR.out.b1 0
      obtain ⟨o1, o1'⟩ := cell_of_block HR.out.b1 1
      obtain ⟨o2, o2'⟩ := cell_of_block HR.out.b1 2
      obtain ⟨o3, o3'⟩ := cell_of_block HR.out.b1 3
      go_wp2
      have hfin := HR.out.fin HF.out HBE.out
      generalize ((((wr.setCell ⟨b + 1, 0, none⟩ (.slice P s.put.length p)).setCell ⟨b + 1, 1, none⟩ (.slice Q s.why.length q)).setCell ⟨b + 1, 2, none⟩ (.slice D s.learned.length d)).setCell ⟨b + 1, 3, none⟩ (.int .i64 s.code)) = w9 at *
      obtain ⟨hbx, hres⟩ := hfin
      have HRES := Lib.hid hres
      clear hres
      have e0 := (cell_of_block hbx 0).1
      have e1 := (cell_of_block hbx 1).1
      have e2 := (cell_of_block hbx 2).1
      have e3 := (cell_of_block hbx 3).1
      simp at e0 e1 e2 e3
      refine bodyPost_ret (v := .agg #[.slice P s.put.length p, .slice Q s.why.length q, .slice D s.learned.length d, .int .i64 s.code]) (by simp [results, Try.results62, go_sem, e0, e1, e2, e3]) rfl ?_
      rw [HE.out]
      exact HRES.out
end Go.Proofs.Ytbljfhmcebgdaaa
