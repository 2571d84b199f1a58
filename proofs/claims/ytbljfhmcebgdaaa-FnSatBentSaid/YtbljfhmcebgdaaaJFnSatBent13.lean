/- The reference's search: l5Run. A drawn region whose operations write; what is so all along may look at the values. No program is named here. -/
import Derived.Test.YtbljfhmcebgdaaaJFnSatBent9
import Derived.Test.YtbljfhmcebgdaaaJFnSatBent12
/-! The reference's search: l5Run. -/
namespace Go.Proofs.Ytbljfhmcebgdaaa
open Go Go.RowKit

/-- The search's variable is written. -/
theorem run_box {w y : World} {b lo : Nat} {F FL : Nat → Prop} {x : C} {s : S} {A P Q D : Option Addr} {p q d : Nat} {cs : Array Value} (h : SOwn y lo F FL x s A P Q D p q) (hF : ∀ k, F k → k < b) (hlo : b + 2 < lo) (hc : y.heap[b + 2]? = some (.cells cs 35 (0, 0))) (hcs : cs.size = 4) (hw : Below b w y) :
    ((((y.setCell ⟨b + 2, 0, none⟩ (.slice P s.put.length p)).setCell ⟨b + 2, 1, none⟩ (.slice Q s.why.length q)).setCell ⟨b + 2, 2, none⟩ (.slice D s.learned.length d)).setCell ⟨b + 2, 3, none⟩ (.int .i64 s.code)).heap[b + 2]? = some (.cells #[.slice P s.put.length p, .slice Q s.why.length q, .slice D s.learned.length d, .int .i64 s.code] 35 (0, 0)) ∧ SOwn ((((y.setCell ⟨b + 2, 0, none⟩ (.slice P s.put.length p)).setCell ⟨b + 2, 1, none⟩ (.slice Q s.why.length q)).setCell ⟨b + 2, 2, none⟩ (.slice D s.learned.length d)).setCell ⟨b + 2, 3, none⟩ (.int .i64 s.code)) lo F FL x s A P Q D p q ∧ Below b w ((((y.setCell ⟨b + 2, 0, none⟩ (.slice P s.put.length p)).setCell ⟨b + 2, 1, none⟩ (.slice Q s.why.length q)).setCell ⟨b + 2, 2, none⟩ (.slice D s.learned.length d)).setCell ⟨b + 2, 3, none⟩ (.int .i64 s.code)) ∧ (∀ k, k ≠ b + 2 → ((((y.setCell ⟨b + 2, 0, none⟩ (.slice P s.put.length p)).setCell ⟨b + 2, 1, none⟩ (.slice Q s.why.length q)).setCell ⟨b + 2, 2, none⟩ (.slice D s.learned.length d)).setCell ⟨b + 2, 3, none⟩ (.int .i64 s.code)).heap[k]? = y.heap[k]?) := by
  have f0 := heap_set_same _ (b + 2) 0 (.slice P s.put.length p) _ _ hc
  have f1 := heap_set_same _ (b + 2) 1 (.slice Q s.why.length q) _ _ f0
  have f2 := heap_set_same _ (b + 2) 2 (.slice D s.learned.length d) _ _ f1
  have f3 := heap_set_same _ (b + 2) 3 (.int .i64 s.code) _ _ f2
  have hg : Gr (fun k => k = b + 2) y ((((y.setCell ⟨b + 2, 0, none⟩ (.slice P s.put.length p)).setCell ⟨b + 2, 1, none⟩ (.slice Q s.why.length q)).setCell ⟨b + 2, 2, none⟩ (.slice D s.learned.length d)).setCell ⟨b + 2, 3, none⟩ (.int .i64 s.code)) := Gr.set (Gr.set (Gr.set (Gr.set (Gr.refl (fun k => k = b + 2) y) (b + 2) 0 _ (.inl rfl)) (b + 2) 1 _ (.inl rfl)) (b + 2) 2 _ (.inl rfl)) (b + 2) 3 _ (.inl rfl)
  refine ⟨?_, h.box hg (fun k hk => ?_), hw.trans (hg.to_below' (by have := h.le; omega) fun k hk => by have : k = b + 2 := hk; omega), fun k hk => ?_⟩
  · rw [f3]
    obtain ⟨l⟩ := cs
    match l, hcs with
    | [_, _, _, _], _ => rfl
  · have hk : k = b + 2 := hk
    subst hk
    exact ⟨hlo, fun e => by have := hF _ e; omega⟩
  · have e1 : ∀ (z : World) (o : Nat) (u : Value), (z.setCell ⟨b + 2, o, none⟩ u).heap[k]? = z.heap[k]? := fun z o u => Below.heap_setCell z ⟨b + 2, o, none⟩ u k hk
    rw [e1, e1, e1, e1]
/-- What l5Run gives: a search in rows of the call's own. -/
def RetRn (F : Nat → Prop) (x : C) (A : Option Addr) (s' : S) (w : World) (e : Ending) (w' : World) : Prop :=
  ∃ (P' Q' D' : Option Addr) (p' q' d' lo : Nat) (FL' : Nat → Prop), e = .returned (.agg #[.slice P' s'.put.length p', .slice Q' s'.why.length q', .slice D' s'.learned.length d', .int .i64 s'.code]) ∧ w.heap.size ≤ lo ∧ SOwn w' lo F FL' x s' A P' Q' D' p' q' ∧ Below w.heap.size w w'
theorem own_none (w : World) (lo : Nat) : OwnI w lo (.slice none ([] : List Int).length 0) [] := ⟨by simp, .inl ⟨rfl, rfl⟩⟩
theorem sown_new {w : World} {lo : Nat} {F : Nat → Prop} {x : C} {A : Option Addr} (h : Lay.int.slice.Sl w F A x.list) (hF : ∀ k, F k → k < lo) (hl : lo ≤ w.heap.size) : SOwn w lo F (fun _ => False) x (⟨[], [], [], 0⟩ : S) A none none none 0 0 :=
  ⟨h, own_none _ _, own_none _ _, fun g e => by simp [Value.ownBlock] at e, Lay.Sl.nil _ _ _ _, hF, fun k (hk : False) => hk.elim, hl, fun k (hk : False) => hk.elim⟩
/-- In the loop. -/
structure Run1 (w : World) (b : Nat) (F FL : Nat → Prop) (M : Nat) (x : C) (s : S) (A P Q D : Option Addr) (a p q d : Nat) (z : World) : Prop where
  so : SOwn z (b + 3) F FL x s A P Q D p q
  b0 : z.heap[b]? = some (.cells #[.int .i64 (M : Int), .slice A x.list.length a] 25 (0, 0))
  b1 : z.heap[b + 1]? = some (.cells #[.slice none 0 0, .slice none 0 0, .slice none 0 0, .int .i64 0] 35 (0, 0))
  b2 : z.heap[b + 2]? = some (.cells #[.slice P s.put.length p, .slice Q s.why.length q, .slice D s.learned.length d, .int .i64 s.code] 35 (0, 0))
  bel : Below b w z
theorem Run1.next {w : World} {b : Nat} {F FL FL' : Nat → Prop} {M : Nat} {x : C} {s s' : S} {A P Q D P' Q' D' : Option Addr} {a p q d p' q' d' : Nat} {z z' : World} (h : Run1 w b F FL M x s A P Q D a p q d z) (hF : ∀ k, F k → k < b) (hs : SOwn z' (b + 3) F FL' x s' A P' Q' D' p' q') (hb : Below (b + 3) z z') : Run1 w b F FL' M x s' A P' Q' D' a p' q' d' ((((z'.setCell ⟨b + 2, 0, none⟩ (.slice P' s'.put.length p')).setCell ⟨b + 2, 1, none⟩ (.slice Q' s'.why.length q')).setCell ⟨b + 2, 2, none⟩ (.slice D' s'.learned.length d')).setCell ⟨b + 2, 3, none⟩ (.int .i64 s'.code)) := by
  have h2 : z'.heap[b + 2]? = _ := (hb.block _ (by omega)).trans h.b2
  obtain ⟨g1, g2, g3, g4⟩ := run_box (w := w) (d := d') hs hF (by omega) h2 rfl (h.bel.trans (hb.mono (by omega)))
  exact ⟨g2, (g4 _ (by omega)).trans ((hb.block _ (by omega)).trans h.b0), (g4 _ (by omega)).trans ((hb.block _ (by omega)).trans h.b1), g1, g3⟩
theorem Run1.fin {w : World} {b : Nat} {F FL : Nat → Prop} {M : Nat} {x : C} {s : S} {A P Q D : Option Addr} {a p q d : Nat} {z : World} (h : Run1 w b F FL M x s A P Q D a p q d z) (hF : ∀ k, F k → k < b) (hb : b = w.heap.size) : ((((z.setCell ⟨b + 1, 0, none⟩ (.slice P s.put.length p)).setCell ⟨b + 1, 1, none⟩ (.slice Q s.why.length q)).setCell ⟨b + 1, 2, none⟩ (.slice D s.learned.length d)).setCell ⟨b + 1, 3, none⟩ (.int .i64 s.code)).heap[b + 1]? = some (.cells #[.slice P s.put.length p, .slice Q s.why.length q, .slice D s.learned.length d, .int .i64 s.code] 35 (0, 0)) ∧ RetRn F x A s w (.returned (.agg #[.slice P s.put.length p, .slice Q s.why.length q, .slice D s.learned.length d, .int .i64 s.code])) ((((z.setCell ⟨b + 1, 0, none⟩ (.slice P s.put.length p)).setCell ⟨b + 1, 1, none⟩ (.slice Q s.why.length q)).setCell ⟨b + 1, 2, none⟩ (.slice D s.learned.length d)).setCell ⟨b + 1, 3, none⟩ (.int .i64 s.code)) := by
  have f0 := heap_set_same _ (b + 1) 0 (.slice P s.put.length p) _ _ h.b1
  have f1 := heap_set_same _ (b + 1) 1 (.slice Q s.why.length q) _ _ f0
  have f2 := heap_set_same _ (b + 1) 2 (.slice D s.learned.length d) _ _ f1
  have f3 := heap_set_same _ (b + 1) 3 (.int .i64 s.code) _ _ f2
  have hg : Gr (fun k => k = b + 1) z ((((z.setCell ⟨b + 1, 0, none⟩ (.slice P s.put.length p)).setCell ⟨b + 1, 1, none⟩ (.slice Q s.why.length q)).setCell ⟨b + 1, 2, none⟩ (.slice D s.learned.length d)).setCell ⟨b + 1, 3, none⟩ (.int .i64 s.code)) := Gr.set (Gr.set (Gr.set (Gr.set (Gr.refl (fun k => k = b + 1) z) (b + 1) 0 _ (.inl rfl)) (b + 1) 1 _ (.inl rfl)) (b + 1) 2 _ (.inl rfl)) (b + 1) 3 _ (.inl rfl)
  refine ⟨f3, P, Q, D, p, q, d, b + 3, FL, rfl, by omega, h.so.box hg (fun k hk => ?_), ?_⟩
  · have hk : k = b + 1 := hk
    subst hk
    exact ⟨by omega, fun e => by have := hF _ e; omega⟩
  · rw [← hb]
    exact h.bel.trans (hg.to_below' (by have := h.so.le; omega) fun k hk => by have : k = b + 1 := hk; omega)
set_option maxRecDepth 100000 in
set_option maxHeartbeats 8000000 in
theorem l5Run_any (x : C) (A : Option Addr) (a M n : Nat) (F : Nat → Prop) (w : World) (hM : x.many = (M : Int)) (h : Lay.int.slice.Sl w F A x.list) (hF : ∀ b, F b → b < w.heap.size) (hc : cnfOk x = true) (hn : n ≤ 1000000) :
    Calls Try.prog 62 #[.agg #[.int .i64 x.many, .slice A x.list.length a], .int .i64 n] w (RetRn F x A (runP M x n (⟨[], [], [], 0⟩ : S)) w) := by
  have HMM := Lib.hid hM
  rw [hM]
  have hal1 : Below w.heap.size w (w.alloc (.cells #[.int .i64 (M : Int), .slice A x.list.length a] 25)) := (Below.refl _ _).alloc (Nat.le_refl _) _
  have hs1 : (w.alloc (.cells #[.int .i64 (M : Int), .slice A x.list.length a] 25)).heap.size = w.heap.size + 1 := by simp
  have hb1 := heap_alloc_new w (.cells #[.int .i64 (M : Int), .slice A x.list.length a] 25)
  obtain ⟨w1, hw1⟩ : ∃ w1, w1 = w.alloc (.cells #[.int .i64 (M : Int), .slice A x.list.length a] 25) := ⟨_, rfl⟩
  rw [← hw1] at hal1 hs1 hb1
  have hal2 : Below w1.heap.size w1 (w1.alloc (.cells #[.slice none 0 0, .slice none 0 0, .slice none 0 0, .int .i64 0] 35)) := (Below.refl _ _).alloc (Nat.le_refl _) _
  have hs2 : (w1.alloc (.cells #[.slice none 0 0, .slice none 0 0, .slice none 0 0, .int .i64 0] 35)).heap.size = w.heap.size + 1 + 1 := by simp [hs1]
  have hb2 := heap_alloc_new w1 (.cells #[.slice none 0 0, .slice none 0 0, .slice none 0 0, .int .i64 0] 35)
  rw [hs1] at hb2
  obtain ⟨w2, hw2⟩ : ∃ w2, w2 = w1.alloc (.cells #[.slice none 0 0, .slice none 0 0, .slice none 0 0, .int .i64 0] 35) := ⟨_, rfl⟩
  rw [← hw2] at hal2 hs2 hb2
  have hal3 : Below w2.heap.size w2 (w2.alloc (.cells #[.slice none 0 0, .slice none 0 0, .slice none 0 0, .int .i64 0] 35)) := (Below.refl _ _).alloc (Nat.le_refl _) _
  have hb3 := heap_alloc_new w2 (.cells #[.slice none 0 0, .slice none 0 0, .slice none 0 0, .int .i64 0] 35)
  have hs3 : (w2.alloc (.cells #[.slice none 0 0, .slice none 0 0, .slice none 0 0, .int .i64 0] 35)).heap.size = w.heap.size + 3 := by simp [hs2]
  rw [hs2] at hb3
  obtain ⟨w3, hw3⟩ : ∃ w3, w3 = w2.alloc (.cells #[.slice none 0 0, .slice none 0 0, .slice none 0 0, .int .i64 0] 35) := ⟨_, rfl⟩
  rw [← hw3] at hal3 hb3 hs3
  obtain ⟨b, hbe⟩ : ∃ b, b = w.heap.size := ⟨_, rfl⟩
  have hB1 := (hal3.block _ (Nat.lt_of_lt_of_le (lt_of_block hb1) hal2.size)).trans ((hal2.block _ (lt_of_block hb1)).trans hb1)
  have hB2 := (hal3.block _ (lt_of_block hb2)).trans hb2
  have hw03 := bthen (bthen hal1 hal2) hal3
  have HR3 : Hid (Run1 w b F (fun _ => False) M x (⟨[], [], [], 0⟩ : S) A none none none a 0 0 0 w3) := Lib.hid ⟨sown_new (h.keep fun k hk => hw03.block k (hF k hk)) (fun k hk => by have := hF k hk; omega) (by omega), by rw [hbe]; exact hB1, by rw [hbe]; exact hB2, by rw [hbe]; exact hb3, by rw [hbe]; exact hw03⟩
  have HF : Hid (∀ k, F k → k < b) := Lib.hid (by rw [hbe]; exact hF)
  have HC := Lib.hid hc
  have HBE := Lib.hid hbe
  have HW1 := Lib.hid hw1
  have HW2 := Lib.hid hw2
  have HW3 := Lib.hid hw3
  clear h hF hc hal1 hs1 hb1 hal2 hs2 hb2 hal3 hb3 hs3 hw03 hw1 hw2 hw3 hM hB1 hB2 hbe
  go_enter Try.func62, Try.ntmps62
  go_wp2
  rw [← HW1.out, ← HW2.out, ← HW3.out, ← HBE.out]
  clear HW1 HW2 HW3
  go_loopw [6] (fun i wr => ∃ (k : Nat) (s : S) (P Q D : Option Addr) (p q d : Nat) (FL : Nat → Prop), k ≤ n ∧ i = .int .i64 k ∧ Hid (Run1 w b F FL M x s A P Q D a p q d wr) ∧ Hid (SatGood x s) ∧ Hid (runP M x n (⟨[], [], [], 0⟩ : S) = runP M x (n - k) s)) (fun i _ => n - (intOf i).toNat)
  case atStart => exact ⟨0, (⟨[], [], [], 0⟩ : S), none, none, none, 0, 0, 0, fun _ => False, Nat.zero_le _, rfl, HR3, Lib.hid (sat_new HC.out), Lib.hid rfl⟩
  case round =>
    obtain ⟨k, s, P, Q, D, p, q, d, FL, hk, rfl, HR, HG, HT⟩ := hrel
    clear HR3
    obtain ⟨c0, c0'⟩ := cell_of_block HR.out.b0 0
    obtain ⟨c1, c1'⟩ := cell_of_block HR.out.b0 1
    obtain ⟨n0, n0'⟩ := cell_of_block HR.out.b2 0
    obtain ⟨n1, n1'⟩ := cell_of_block HR.out.b2 1
    obtain ⟨n2, n2'⟩ := cell_of_block HR.out.b2 2
    obtain ⟨n3, n3'⟩ := cell_of_block HR.out.b2 3
    by_cases hlt : k < n
    · have h1 : (k : Int) < (n : Int) := by omega
      by_cases h0 : s.code = 0
      · have g0 : (s.code == 0) = true := by simpa using h0
        have HT' : Hid (runP M x n (⟨[], [], [], 0⟩ : S) = runP M x (n - (k + 1)) (doP M x s)) := Lib.hid (by
          rw [HT.out, show n - k = (n - (k + 1)) + 1 by omega, runP, if_pos h0])
        have HDO := Lib.hid (l5Do_any x s A P Q D a p q d M (b + 3) F FL wr HMM.out HR.out.so HG.out)
        rw [HMM.out] at HDO
        clear h0 HT
        go_wp2_with fail
        refine HDO.out.mono ?_
        clear HDO n0 n0' n1 n1' n2 n2' n3 n3' c0 c1 c0' c1'
        rintro e w9 ⟨P', Q', D', p', q', d', FL', rfl, hso, hbl⟩
        have h2 := (hbl.block (b + 2) (by omega)).trans HR.out.b2
        obtain ⟨n0, n0'⟩ := cell_of_block h2 0
        obtain ⟨n1, n1'⟩ := cell_of_block h2 1
        obtain ⟨n2, n2'⟩ := cell_of_block h2 2
        obtain ⟨n3, n3'⟩ := cell_of_block h2 3
        have HN := Lib.hid (HR.out.next (d' := d') HF.out hso hbl)
        obtain ⟨s', hs'⟩ : ∃ s', s' = doP M x s := ⟨_, rfl⟩
        have HG' : Hid (SatGood x s') := Lib.hid (by rw [hs']; exact do_ok HG.out HMM.out)
        rw [← hs'] at HT' HN ⊢
        clear hs' h2 hso hbl
        go_wp2
        go_roundw
        case rel => exact ⟨k + 1, s', P', Q', D', p', q', d', FL', by omega, by go_num, HN, HG', HT'⟩
        case measure => simp [intOf]; omega
      · have g0 : (s.code == 0) = false := by simpa using h0
        have HE : Hid (runP M x n (⟨[], [], [], 0⟩ : S) = s) := Lib.hid (by
          rw [HT.out]
          cases n - k with
          | zero => rfl
          | succ m => rw [runP, if_neg h0])
        clear h0 HT
        obtain ⟨o0, o0'⟩ := cell_of_block HR.out.b1 0
        obtain ⟨o1, o1'⟩ := cell_of_block HR.out.b1 1
        obtain ⟨o2, o2'⟩ := cell_of_block HR.out.b1 2
        obtain ⟨o3, o3'⟩ := cell_of_block HR.out.b1 3
        go_wp2
        have hfin := HR.out.fin HF.out HBE.out
        generalize ((((wr.setCell ⟨b + 1, 0, none⟩ (.slice P s.put.length p)).setCell ⟨b + 1, 1, none⟩ (.slice Q s.why.length q)).setCell ⟨b + 1, 2, none⟩ (.slice D s.learned.length d)).setCell ⟨b + 1, 3, none⟩ (.int .i64 s.code)) = w9 at *
        obtain ⟨hbx, hres⟩ := hfin
        have HRES := Lib.hid hres
        clear hres
        have e0 := (cell_of_block hbx 0).1
        have e1 := (cell_of_block hbx 1).1
        have e2 := (cell_of_block hbx 2).1
        have e3 := (cell_of_block hbx 3).1
        simp at e0 e1 e2 e3
        refine bodyPost_ret (v := .agg #[.slice P s.put.length p, .slice Q s.why.length q, .slice D s.learned.length d, .int .i64 s.code]) (by simp [results, Try.results62, go_sem, e0, e1, e2, e3]) rfl ?_
        rw [HE.out]
        exact HRES.out
    · have h1 : ¬ (k : Int) < (n : Int) := by omega
      have HE : Hid (runP M x n (⟨[], [], [], 0⟩ : S) = s) := Lib.hid (by rw [HT.out, show n - k = 0 by omega]; rfl)
      clear HT
      obtain ⟨o0, o0'⟩ := cell_of_block HR.out.b1 0
      obtain ⟨o1, o1'⟩ := cell_of_block HR.out.b1 1
      obtain ⟨o2, o2'⟩ := cell_of_block HR.out.b1 2
      obtain ⟨o3, o3'⟩ := cell_of_block HR.out.b1 3
      go_wp2
      have hfin := HR.out.fin HF.out HBE.out
      generalize ((((wr.setCell ⟨b + 1, 0, none⟩ (.slice P s.put.length p)).setCell ⟨b + 1, 1, none⟩ (.slice Q s.why.length q)).setCell ⟨b + 1, 2, none⟩ (.slice D s.learned.length d)).setCell ⟨b + 1, 3, none⟩ (.int .i64 s.code)) = w9 at *
      obtain ⟨hbx, hres⟩ := hfin
      have HRES := Lib.hid hres
      clear hres
      have e0 := (cell_of_block hbx 0).1
      have e1 := (cell_of_block hbx 1).1
      have e2 := (cell_of_block hbx 2).1
      have e3 := (cell_of_block hbx 3).1
      simp at e0 e1 e2 e3
      refine bodyPost_ret (v := .agg #[.slice P s.put.length p, .slice Q s.why.length q, .slice D s.learned.length d, .int .i64 s.code]) (by simp [results, Try.results62, go_sem, e0, e1, e2, e3]) rfl ?_
      rw [HE.out]
      exact HRES.out
end Go.Proofs.Ytbljfhmcebgdaaa

/-! A drawn region whose operations write; what is so all along may look at the values. No program is named here. -/
namespace Go.Proofs.Ytbljfhmcebgdaaa
open Go Go.RowKit
variable {P : Program} {Q : Exit → Act → World → Prop}
def relQ6 (R : World → World → Prop) (I : (Nat → Value) → (Nat → Bool) → World → Prop) (L : List Say) (vals : Nat → Value) (f : Nat → Bool) (k : Nat) (o : Oper) (a : Act) (x : World) : Exit → Act → World → Prop
  | .normal, a', x' => a'.defers = a.defers ∧ L.getD k (fun _ _ => True) (upd vals k (got o a')) x' ∧ R x x' ∧ I (upd vals k (got o a')) (did f k) x'
  | _, _, _ => False
def obligR6 (P : Program) (ops : List Oper) (D : List (List Nat)) (R : World → World → Prop) (I : (Nat → Value) → (Nat → Bool) → World → Prop) (L : List Say) (a : Act) (k : Nat) (o : Oper) : Prop :=
  ∀ (vals : Nat → Value) (x : World) (f : Nat → Bool), f k = false → (∀ j, reach ops ops.length k j = true → f j = true) → (∀ j, reach ops ops.length j k = true → f j = false) → I vals f x → says L vals x (D.getD k []) →
    ((∀ g b, o.guard = some (g, b) → vals g = .bool b) → o.wp P (puts ops vals (D.getD k []) a) x (relQ6 R I L vals f k o (puts ops vals (D.getD k []) a) x .normal) (relQ6 R I L vals f k o (puts ops vals (D.getD k []) a) x)) ∧
    (∀ g b, o.guard = some (g, b) → vals g ≠ .bool b → L.getD k (fun _ _ => True) (upd vals k undef) x ∧ I (upd vals k undef) (did f k) x)
structure RelInv6 (ops : List Oper) (I : (Nat → Value) → (Nat → Bool) → World → Prop) (L : List Say) (a : Act) (listed : Array Bool) (a' : Act) (x : World) (vals : Nat → Value) : Prop where
  size : listed.size = ops.length
  closed : ∀ j k, waits ops k j = true → listed.getD k false = true → listed.getD j false = true
  tsize : a'.tmps.size = a.tmps.size
  defers : a'.defers = a.defers
  old : ∀ t, (∀ j, listed.getD j false = true → dstOf ops j ≠ some t) → a'.tmps[t]? = a.tmps[t]?
  new : ∀ j t, listed.getD j false = true → dstOf ops j = some t → a'.tmps[t]? = some (vals j)
  inv : I vals (fun i => listed.getD i false) x
  fact : ∀ j, listed.getD j false = true → L.getD j (fun _ _ => True) vals x
def owes6 (P : Program) (R : World → World → Prop) (I : (Nat → Value) → (Nat → Bool) → World → Prop) (L : List Say) (vals : Nat → Value) (a : Act) (x : World) (f : Nat → Bool) (k : Nat) (o : Oper) (gd : Option (Nat × Bool)) : Prop :=
  match gd with
  | none => wpList P #[] (relQ6 R I L vals f k o a x) [bare o] a x
  | some (g, b) => (vals g = .bool b → wpList P #[] (relQ6 R I L vals f k o a x) [bare o] a x) ∧ (vals g ≠ .bool b → L.getD k (fun _ _ => True) (upd vals k undef) x ∧ I (upd vals k undef) (did f k) x)
theorem rel6_any {ops : List Oper} {D : List (List Nat)} {R : Nat → World → World → Prop} {I : (Nat → Value) → (Nat → Bool) → World → Prop} {L : List Say} {a : Act} (hRr : ∀ k x, R k x x) (hL : ∀ j k, k < ops.length → j ≠ k → reach ops ops.length j k = false → ∀ vs x x', L.getD j (fun _ _ => True) vs x → R k x x' → L.getD j (fun _ _ => True) vs x') (hLo : Locals D 0 L) (hB : relOk4 ops D a.tmps.size = true)
    (hs : ∀ k o, ops[k]? = some o → obligR6 P ops D (R k) I L a k o)
    (hfin : ∀ vals x f, (∀ i, i < ops.length → f i = true) → I vals f x → says L vals x (List.range ops.length) → Q .normal (puts ops vals (List.range ops.length) a) x) :
    ∀ (fuel : Nat) (listed : Array Bool) (a' : Act) (x : World) (vals : Nat → Value), cnt (fun i => listed.getD i false) ops.length ≤ fuel →
      RelInv6 ops I L a listed a' x vals → wpAny P .any ops.toArray Q fuel listed a' x := by
  have hdd : ∀ i j t, dstOf ops i = some t → dstOf ops j = some t → i = j := fun i j t hi hj => by
    have hjl : j < ops.length := dst_lt hj
    have ho : ops[j]? = some ops[j] := List.getElem?_eq_getElem hjl
    exact (relOk4_spec hB j _ ho).2.2.2.2.2.2 i t (dst_lt hi) hi (by simpa [dstOf, ho] using hj)
  have hds : ∀ j t, dstOf ops j = some t → t < a.tmps.size := fun j t hj => by
    have hjl : j < ops.length := dst_lt hj
    have ho : ops[j]? = some ops[j] := List.getElem?_eq_getElem hjl
    exact (relOk4_spec hB j _ ho).2.2.2.1 t (by simpa [dstOf, ho] using hj)
  have hdone : ∀ (listed : Array Bool) (a' : Act) (x : World) (vals : Nat → Value), (∀ i, i < ops.length → listed.getD i false = true) → RelInv6 ops I L a listed a' x vals → Q .normal a' x := by
    intro listed a' x vals hall inv
    have ha : a' = puts ops vals (List.range ops.length) a := by
      have ht : a'.tmps = (puts ops vals (List.range ops.length) a).tmps := by
        apply Array.ext_getElem?
        intro t
        by_cases h : ∃ j, dstOf ops j = some t
        · obtain ⟨j, hj⟩ := h
          rw [inv.new j t (hall j (dst_lt hj)) hj, puts_get (fun i j => hdd i j t) _ _ j (List.mem_range.2 (dst_lt hj)) hj (hds j t hj)]
        · rw [inv.old t (fun j _ e => h ⟨j, e⟩), puts_ne _ _ (fun i _ e => h ⟨i, e⟩)]
      have hdf : a'.defers = (puts ops vals (List.range ops.length) a).defers := by rw [puts_defers]; exact inv.defers
      cases a'
      cases hp : puts ops vals (List.range ops.length) a
      rw [hp] at ht hdf
      simp only at ht hdf
      rw [ht, hdf]
    rw [ha]
    exact hfin vals x _ hall inv.inv (says_iff.2 fun i hi => inv.fact i (hall i (List.mem_range.1 hi)))
  have hmin : ∀ (listed : Array Bool), listed.size = ops.length → ∀ i, i < ops.length → listed.getD i false = false → Region.ready .any ops.toArray listed ≠ [] := by
    intro listed hsz i
    induction i using Nat.strongRecOn with
    | _ i ih =>
      intro hi hun hr
      have ho : ops[i]? = some ops[i] := List.getElem?_eq_getElem hi
      by_cases h : ∀ e ∈ ops[i].after, Region.binds .any e = true → listed.getD e.on false = true
      · have : i ∈ Region.ready .any ops.toArray listed := mem_ready.2 ⟨getD_in (by omega) hun, ops[i], by simp [ho], h⟩
        rw [hr] at this; cases this
      · simp only [Classical.not_forall] at h
        obtain ⟨e, he, hb, hl⟩ := h
        have hlt := (relOk4_spec hB i _ ho).2.2.1 e he hb
        exact ih e.on hlt (by omega) (by simpa using hl) hr
  intro fuel
  induction fuel with
  | zero =>
    intro listed a' x vals hc inv
    have hall := cnt_zero (f := fun i => listed.getD i false) (Nat.le_zero.1 hc)
    refine ⟨?_, hdone _ _ _ _ hall inv⟩
    cases hr : Region.ready .any ops.toArray listed with
    | nil => rfl
    | cons k rs =>
      exfalso
      have hk : k ∈ Region.ready .any ops.toArray listed := by rw [hr]; simp
      obtain ⟨h0, o, ho, _⟩ := mem_ready.1 hk
      have hlt : k < ops.length := by
        have := (Array.getElem?_eq_some_iff.1 ho).1; simpa using this
      have h1 : listed.getD k false = true := hall k hlt
      rw [getD_both h0] at h1; cases h1
  | succ fuel ih =>
    intro listed a' x vals hc inv
    refine ⟨fun hr => ?_, fun k hk => ?_⟩
    · refine hdone _ _ _ _ (fun i hi => ?_) inv
      cases h : listed.getD i false with
      | true => rfl
      | false => exact absurd hr (hmin listed inv.size i hi h)
    · obtain ⟨h0, o, hoA, hwait⟩ := mem_ready.1 hk
      have ho : ops[k]? = some o := by simpa using hoA
      have hkl : k < ops.length := (List.getElem?_eq_some_iff.1 ho).1
      have h0f : listed.getD k false = false := getD_both h0
      have hsz : k < listed.size := by rw [inv.size]; exact hkl
      obtain ⟨hg, hsel, _, hdsz, hD, hlook, hdist⟩ := relOk4_spec hB k o ho
      have hw : ∀ m, waits ops k m = true → listed.getD m false = true := fun m hm => by
        obtain ⟨o', ho', e, he, hb, rfl⟩ := waits_spec.1 hm
        have : o' = o := Option.some.inj (ho'.symm.trans ho)
        subst this
        exact hwait e he hb
      have hDl : ∀ j ∈ D.getD k [], listed.getD j false = true := fun j hj => hw j (hD j hj).1
      have hdk : dstOf ops k = o.dst := by simp [dstOf, ho]
      -- the operation runs as it does in the small state
      have hexec : execOp a'.eval o = execOp (puts ops vals (D.getD k []) a).eval o := execOp_congr o hsel fun y hy => by
        cases y with
        | tmp t =>
          have ht : a'.tmps[t]? = (puts ops vals (D.getD k []) a).tmps[t]? := by
            by_cases h : ∃ j, dstOf ops j = some t
            · obtain ⟨j, hj⟩ := h
              rcases hlook j (dst_lt hj) (looks_spec ho hj hy) with hm | hm
              · rw [inv.new j t (hDl j hm) hj, puts_get (fun i j => hdd i j t) _ _ j hm hj (hds j t hj)]
              · have hjf : listed.getD j false = true → False := fun hjl => by
                  have := reach_listed inv.closed _ j k (fun m hm => inv.closed m j hm hjl) hm
                  rw [this] at h0f; cases h0f
                rw [inv.old t (fun i hi e => by have := hdd i j t e hj; subst this; exact hjf hi), puts_ne _ _ (fun i hi e => by have := hdd i j t e hj; subst this; exact hjf (hDl i hi))]
            · rw [inv.old t (fun j _ e => h ⟨j, e⟩), puts_ne _ _ (fun i _ e => h ⟨i, e⟩)]
          show a'.tmps.getD t undef = (puts ops vals (D.getD k []) a).tmps.getD t undef
          rw [Array.getD_eq_getD_getElem?, Array.getD_eq_getD_getElem?, ht]
        | _ => rfl
      have hcs := (cnt_set (f := fun i => listed.getD i false) (g := fun i => (listed.setIfInBounds k true).getD i false) h0f (getD_set (listed := listed) hsz) (n := ops.length)).2 hkl
      have hob := hs k o ho vals x (fun i => listed.getD i false) h0f (fun r h => reach_listed inv.closed _ k r (fun m hm => hw m hm) h) (fun r hr => by
        cases h : listed.getD r false with
        | false => rfl
        | true => exact absurd ((reach_listed inv.closed _ r k (fun m hm => inv.closed m r hm h) hr).symm.trans h0f) (by simp)) inv.inv (says_iff.2 fun j hj => inv.fact j (hDl j hj))
      have hbs : (puts ops vals (D.getD k []) a).tmps.size = a.tmps.size := puts_size _ _
      have hbd : (puts ops vals (D.getD k []) a).defers = a.defers := puts_defers _ _
      have next : ∀ v x', (L.getD k (fun _ _ => True) (upd vals k (got o ((puts ops vals (D.getD k []) a).put o.dst v))) x' ∧ R k x x' ∧ I (upd vals k (got o ((puts ops vals (D.getD k []) a).put o.dst v))) (did (fun i => listed.getD i false) k) x') →
          wpAny P .any ops.toArray Q fuel (listed.setIfInBounds k true) (a'.put o.dst v) x' := by
        intro v x' hq
        obtain ⟨hV, hR, hI'⟩ := hq
        have hgs := getD_set (listed := listed) hsz
        have hold : ∀ j, (listed.setIfInBounds k true).getD j false = true → j ≠ k → listed.getD j false = true := fun j hj hne => by
          rw [hgs, if_neg hne] at hj; exact hj
        refine ih _ _ x' (fun j => if j = k then got o ((puts ops vals (D.getD k []) a).put o.dst v) else vals j) ?_ ⟨by simp [inv.size], fun j m hm hl => ?_, by rw [put_size]; exact inv.tsize, by rw [put_defers]; exact inv.defers, fun t ht => ?_, fun j t hj hdj => ?_, by rw [show (fun i => (listed.setIfInBounds k true).getD i false) = fun j => if j = k then true else listed.getD j false from funext hgs]; exact hI', fun j hj => ?_⟩
        · omega
        · rw [hgs]
          by_cases e : j = k
          · rw [if_pos e]
          · rw [if_neg e]
            by_cases e' : m = k
            · subst e'; exact hw j hm
            · exact inv.closed j m hm (hold m hl e')
        · rw [put_get_ne _ _ _ _ (by
            have := ht k (by rw [hgs, if_pos rfl])
            rwa [hdk] at this)]
          refine inv.old t fun j hj => ht j ?_
          rw [hgs]; split <;> first | rfl | exact hj
        · by_cases e : j = k
          · subst e
            rw [hdk] at hdj
            have htl := hdsz t hdj
            rw [if_pos rfl, hdj, put_get _ _ _ (by rw [inv.tsize]; exact htl)]
            simp only [got, hdj]
            rw [Array.getD_eq_getD_getElem?, put_get _ _ _ (by rw [hbs]; exact htl)]
            rfl
          · rw [if_neg e, put_get_ne _ _ _ _ (fun e' => e (hdist j t (dst_lt hdj) hdj e'))]
            exact inv.new j t (hold j hj e) hdj
        · by_cases e : j = k
          · subst e; exact hV
          · have hjl := hold j hj e
            have hrj : reach ops ops.length j k = false := by
              cases h : reach ops ops.length j k with
              | false => rfl
              | true => rw [reach_listed inv.closed _ j k (fun m hm => inv.closed m j hm hjl) h] at h0f; cases h0f
            have hfj := hL j k hkl e hrj vals x x' (inv.fact j hjl) hR
            refine hLo.get j vals _ x' (by simp [upd, e]) (fun m hm => ?_) hfj
            have hmk : m ≠ k := fun e' => by
              have hjlt := listed_lt inv.size hjl
              have hw' := ((relOk4_spec hB j ops[j] (List.getElem?_eq_getElem hjlt)).2.2.2.2.1 m (by simpa using hm)).1
              rw [e'] at hw'
              rw [inv.closed k j hw' hjl] at h0f; cases h0f
            simp [upd, hmk]
      unfold wpOp
      rw [hoA]
      dsimp only
      have hgv : ∀ g b, o.guard = some (g, b) → ∃ d, dstOf ops g = some d ∧ a'.tmps[d]? = some (vals g) := fun g b hgb => by
        obtain ⟨h1, d, h2⟩ := hg g b hgb
        exact ⟨d, h2, inv.new g d (hDl g h1) h2⟩
      have hyield : ∀ g b, o.guard = some (g, b) → (Region.wanted o (yielded ops.toArray a'.tmps) = true ↔ vals g = .bool b) := fun g b hgb => by
        obtain ⟨d, h1, h2⟩ := hgv g b hgb
        have hy : yielded ops.toArray a'.tmps g = match some (vals g) with | some (.bool b) => some b | _ => none := by
          unfold yielded
          rw [show (ops.toArray[g]?).bind (·.dst) = some d from by simpa [dstOf] using h1]
          simp only [Option.bind_some, h2]
          cases vals g <;> rfl
        unfold Region.wanted
        rw [hgb]
        simp only [hy]
        constructor
        · intro h
          split at h
          · rename_i b' he
            injection he with he
            rw [he]
            have : b' = b := by simpa using h
            rw [this]
          · cases h
        · intro h
          rw [h]; simp
      have hskip : Region.wanted o (yielded ops.toArray a'.tmps) = false → wpAny P .any ops.toArray Q fuel (listed.setIfInBounds k true) (a'.put o.dst undef) x := fun hw0 => by
        cases hgd : o.guard with
        | none => unfold Region.wanted at hw0; rw [hgd] at hw0; cases hw0
        | some p =>
          obtain ⟨g, b⟩ := p
          have hne : vals g ≠ .bool b := fun e => by rw [(hyield g b hgd).2 e] at hw0; cases hw0
          obtain ⟨h1, h2⟩ := hob.2 g b hgd hne
          have : got o ((puts ops vals (D.getD k []) a).put o.dst undef) = undef := by
            unfold got
            cases hd : o.dst with
            | none => rfl
            | some d =>
              simp only
              rw [Array.getD_eq_getD_getElem?, put_get _ _ _ (by rw [hbs]; exact hdsz d hd)]
              rfl
          exact next undef x ⟨by rw [this]; exact h1, hRr k x, by rw [this]; exact h2⟩
      by_cases hwant : Region.wanted o (yielded ops.toArray a'.tmps) = true
      rotate_left
      · rw [if_neg hwant]
        exact hskip (by simpa using hwant)
      rw [if_pos hwant]
      have hob := hob.1 fun g b hgd => (hyield g b hgd).1 hwant
      refine .inl ?_
      unfold Oper.wp at hob ⊢
      rw [hexec]
      generalize (execOp (puts ops vals (D.getD k []) a).eval o).run P x = r at hob ⊢
      cases r with
      | ok n w' =>
        cases n <;> simp only [Oper.upon] at hob ⊢
        case value v => exact next v w' hob.2
        case skip => exact next _ w' hob.2
        case defer d =>
          have := hob.1
          rw [put_defers] at this
          exact absurd (congrArg List.length this) (by simp)
        case enter f args =>
          refine Calls.mono hob fun e w'' he => ?_
          cases e with
          | returned u => exact next u w'' he.2
          | panicked c => exact he.elim
          | outgrown => obtain ⟨_, _, h⟩ := he; exact h.elim
        case row row args => exact Rows.mono hob fun u w'' he => next u w'' he.2
      | halt e w' =>
        cases e <;> simp only [Oper.upon] at hob ⊢ <;> exact hob.elim


def shareR6 (P : Program) (ops : List Oper) (R : World → World → Prop) (I : (Nat → Value) → (Nat → Bool) → World → Prop) (L : List Say) (a : Act) (k : Nat) (o : Oper) (d : List (Nat × Tmp)) : Prop :=
  ∀ (vals : Nat → Value) (x : World) (f : Nat → Bool), f k = false → (∀ j, reach ops ops.length k j = true → f j = true) → (∀ j, reach ops ops.length j k = true → f j = false) → I vals f x → saysD L vals x d →
    owes6 P R I L vals (putsD vals d a) x f k o o.guard
def sharesR6 (P : Program) (ops : List Oper) (R : Nat → World → World → Prop) (I : (Nat → Value) → (Nat → Bool) → World → Prop) (L : List Say) (a : Act) : Nat → List Oper → List (List (Nat × Tmp)) → Prop
  | _, [], _ => True
  | _, _ :: _, [] => False
  | k, o :: l, d :: ds => shareR6 P ops (R k) I L a k o d ∧ sharesR6 P ops R I L a (k + 1) l ds
theorem sharesR6_get {ops : List Oper} {R : Nat → World → World → Prop} {I : (Nat → Value) → (Nat → Bool) → World → Prop} {L : List Say} {a : Act} : ∀ {l : List Oper} {ds : List (List (Nat × Tmp))} {k : Nat}, sharesR6 P ops R I L a k l ds →
    ∀ i o, l[i]? = some o → shareR6 P ops (R (k + i)) I L a (k + i) o (ds.getD i [])
  | [], _, _, _, i, o, h => by simp at h
  | _ :: _, [], _, h, _, _, _ => h.elim
  | o' :: l, d :: ds, k, h, 0, o, ho => by
    simp only [List.getElem?_cons_zero, Option.some.injEq] at ho
    subst ho; exact h.1
  | o' :: l, d :: ds, k, h, i + 1, o, ho => by
    simp only [List.getElem?_cons_succ] at ho
    have := sharesR6_get h.2 i o ho
    rw [show k + (i + 1) = k + 1 + i by omega]
    simpa using this
theorem wp_region_rel6 {id : Nat} {ops : List Oper} {a : Act} {w : World} (D : List (List (Nat × Tmp))) (R0 : World → World → Prop) (Rs : List (Nat × (World → World → Prop))) (I : (Nat → Value) → (Nat → Bool) → World → Prop) (L : List Say) (all : List (Nat × Tmp)) (hm : P.follows .mixedOrders = true)
    (hB : relOk4 ops (idxs D) a.tmps.size = true) (hD : D.all (fitsD ops) = true)
    (hall : (List.range ops.length).filterMap (fun i => (dstOf ops i).map fun t => (i, t)) = all)
    (hRr : ∀ x, R0 x x) (hRs : Refls Rs) (hL : Stabs3 ops R0 Rs 0 L) (hLo : Locals (idxs D) 0 L) (h0 : I (fun _ => undef) (fun _ => false) (w.drewN 1))
    (hs : sharesR6 P ops (relOf R0 Rs) I L a 0 ops D)
    (hfin : ∀ vals x f, (∀ i, i < ops.length → f i = true) → I vals f x → says L vals x (List.range ops.length) → Q .normal (putsD vals all a) x) : (Code.region id ops.toArray true).wp P Q a w := by
  refine wp_region_any hm ?_
  have z0 : ∀ j, (Array.replicate ops.toArray.size false).getD j false = false := fun j => getD_replicate_false _ _
  have hle : ∀ (f : Nat → Bool) (n : Nat), cnt f n ≤ n := fun f n => by
    induction n with
    | zero => exact Nat.le_refl _
    | succ n ih => simp only [cnt]; split <;> omega
  have hrel := rel6_any (P := P) (Q := Q) (ops := ops) (a := a) (D := idxs D) (R := relOf R0 Rs) (I := I) (L := L) (relOf_refl hRr hRs) (fun j k hk hjk hr vs x x' => Stabs3.get hk hL j (by rw [Nat.zero_add]; exact hjk) (by rw [Nat.zero_add]; exact hr) vs x x') hLo hB
  refine hrel (fun k o hk => ?_) (fun vals x f hn hI hf => ?_) _ _ _ _ (fun _ => undef) (Nat.le_trans (hle _ _) (by simp)) ?_
  rotate_left
  · rw [puts_all, hall]; exact hfin vals x f hn hI hf
  · exact ⟨by simp, fun j k _ hl => (by rw [z0] at hl; cases hl), rfl, rfl, fun _ _ => rfl, fun j t hj => (by rw [z0] at hj; cases hj), by rw [show (fun i => (Array.replicate ops.toArray.size false).getD i false) = fun _ => false from funext z0]; exact h0, fun j hj => (by rw [z0] at hj; cases hj)⟩
  · have hsh := sharesR6_get hs k o hk
    rw [Nat.zero_add] at hsh
    have hfit : fitsD ops (D.getD k []) = true := by
      rcases Nat.lt_or_ge k D.length with h | h
      · rw [show D.getD k [] = D[k] by simp [h]]; exact List.all_eq_true.1 hD _ (List.getElem_mem h)
      · rw [show D.getD k [] = [] by simp [h]]; rfl
    have hDk : (idxs D).getD k [] = (D.getD k []).map (·.1) := by
      unfold idxs
      rcases Nat.lt_or_ge k D.length with h | h
      · simp [h]
      · simp [h]
    intro vals x f hn hl hl2 hI hf
    rw [hDk, says_saysD] at hf
    have h := hsh vals x f hn hl hl2 hI hf
    rw [hDk, puts_putsD hfit]
    have hun : wpList P #[] (relQ6 (relOf R0 Rs k) I L vals f k o (putsD vals (D.getD k []) a) x) [bare o] (putsD vals (D.getD k []) a) x → o.wp P (putsD vals (D.getD k []) a) x (relQ6 (relOf R0 Rs k) I L vals f k o (putsD vals (D.getD k []) a) x .normal) (relQ6 (relOf R0 Rs k) I L vals f k o (putsD vals (D.getD k []) a) x) := fun h => by
      rcases wpList_bare h with h | ⟨_, _, h⟩
      · exact h
      · exact h.elim
    generalize o.guard = gd at h ⊢
    cases gd with
    | none => exact ⟨fun _ => hun h, fun g b e => by cases e⟩
    | some p =>
      obtain ⟨g, b⟩ := p
      exact ⟨fun e => hun (h.1 (e g b rfl)), fun g' b' e hne => by injection e with e; injection e with e1 e2; subst e1; subst e2; exact h.2 hne⟩
end Go.Proofs.Ytbljfhmcebgdaaa
