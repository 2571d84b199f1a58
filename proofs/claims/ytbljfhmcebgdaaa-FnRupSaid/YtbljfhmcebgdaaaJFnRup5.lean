/- The program's rup, RupOk. The program's UnitAll. Unit propagation is confluent: the plain law. No program is named here. What truth values say of clauses; counting through them; unit propagation is sound: the plain law. No program is named here. Reverse unit propagation is sound and monotone: the plain law. No program is named here. What a law leaves. What a mark does to memory: cells of plain values turn into others of their kind, in some blocks. Copies of the call's own, made between two sizes of the heap; what stays over calls and over marks. Marks on integers. Rows of integers: what comes in, copies, comparisons, marks; one form for all. The reference's check of what is put: l5Marks; UnitAll. The reference's UnitAll. Marks on integers, on rows of integers, on formulas. Formulas and rows of integers: what comes in, copies, comparisons, marks; one form for all. Where a search is: the plain law. The program's trail: place, implies. The program's readSat: its parts. -/
import Derived.Test.YtbljfhmcebgdaaaChecked
import Derived.Test.YtbljfhmcebgdaaaJFnRup0
import Derived.Test.YtbljfhmcebgdaaaJFnRup2
import Derived.Test.YtbljfhmcebgdaaaJFnRup3
import Derived.Test.YtbljfhmcebgdaaaJFnRup4
/-! The program's rup, RupOk. -/
namespace Go.Proofs.Ytbljfhmcebgdaaa
open Go Go.RowKit

theorem OwnI.nil (w : World) (lo : Nat) : OwnI w lo (.slice none 0 0) [] := World.ownsRow_nil _ _ _ _
set_option maxRecDepth 100000 in
set_option maxHeartbeats 400000 in
theorem rup_any (M : Nat) (cl : List Int) (lists : List (List (List Int))) (A B : Option Addr) (c q : Nat) (F G : Nat → Prop) (w : World) (hc : Lay.int.Sl w F A cl) (hF : ∀ b, F b → b < w.heap.size) (hn : cl.length ≤ 1048576) (hi : i64s cl) (hl : Lay.int.slice.slice.Sl w G B lists) (hG : ∀ b, G b → b < w.heap.size)
    (hr : ∀ cls ∈ lists, cls.length ≤ 1048576 ∧ ∀ cl ∈ cls, (∀ l ∈ cl, l ≠ 0 ∧ -(M : Int) ≤ l ∧ l ≤ M) ∧ cl.length ≤ 1048576) (hls : lists.length ≤ 1048576) (hM : M ≤ 700) (hall : lists.flatten.length ≤ 1000000000) :
    Calls Try.prog 43 #[.int .i64 M, .slice A cl.length c, .slice B lists.length q] w (RetB w (clOk M cl && (units M lists.flatten (cl.map fun l => -l)).2)) := by
  have hclause := clauseOk_any cl M A c F w hc hn hi (by omega) (by omega)
  by_cases h1 : clOk M cl = true
  · have hrng := clOk_rng h1
    have hgood : Good M (cl.map fun l => -l) := (cOk_good (Int.le_refl 0) h1).1
    rw [h1] at hclause ⊢
    have HC := Lib.hid hclause
    have HG := Lib.hid hgood
    clear hclause hgood h1
    go_enter Try.func43, Try.ntmps43
    go_wp2_with fail
    refine HC.out.mono ?_
    rintro e w' ⟨rfl, rfl⟩
    go_wp2
    go_loopw [7, 18] (fun s i wr => ∃ (k : Nat) (ns : List Int) (A2 : Option Addr) (c2 : Nat), k ≤ cl.length ∧ i = .int .i64 k ∧ s = .slice A2 ns.length c2 ∧ ns = (cl.take k).map (fun l => -l) ∧ OwnI wr w.heap.size (.slice A2 ns.length c2) ns ∧ Below w.heap.size w wr) (fun _ i _ => cl.length - (intOf i).toNat)
    case atStart => exact ⟨0, [], none, 0, Nat.zero_le _, rfl, rfl, rfl, OwnI.nil _ _, Below.refl _ _⟩
    case round =>
      obtain ⟨k, ns, A2, c2, hk, rfl, rfl, hns, hown, hb⟩ := hrel
      have hnl : ns.length = k := by rw [hns]; simp; omega
      have HNS := Lib.hid hns
      have HNL := Lib.hid hnl
      clear hns
      by_cases hlt : k < cl.length
      · obtain ⟨ad, rfl, hf, hcell⟩ := (hc.below hb hF).at_int hlt
        have hk1 : (k : Int) < cl.length := by omega
        obtain ⟨_, i1, i2⟩ := hrng _ (List.getElem_mem hlt)
        have htk : (cl.take (k + 1)).map (fun l => -l) = (cl.take k).map (fun l => -l) ++ [-cl[k]] := by rw [List.take_succ_eq_append_getElem hlt, List.map_append]; rfl
        generalize cl[k] = a at *
        have HTK := Lib.hid htk
        have e1 : IntKind.i64.wrap (-a) = -a := IntWalk.i64_in _ (by omega)
        obtain ⟨ps, hps⟩ : ∃ ps, ps = ns ++ [-a] := ⟨_, rfl⟩
        have HPS := Lib.hid hps
        have hlo := hb.size
        clear htk hps hnl
        go_wp2_with (at_builtin; refine wpList_append_int (ys := ps) (by rfl) (.tmp 22) (.tmp 25) (by rfl) (by rfl) (by rfl) hown (by have := HNL.out; omega) hlo HPS.out ?_; intro A1 c1 w1 hown1 hg1 hbk1)
        have hb1 := hb.trans (own_at_least hown hlo hg1)
        clear hbk1 hg1
        go_wp2
        go_roundw
        case rel => exact ⟨k + 1, ps, A1, c1, by omega, by go_num, rfl, by rw [HPS.out, HTK.out, HNS.out], hown1, hb1⟩
        case measure => simp [intOf]; omega
      · have hke : k = cl.length := by omega
        subst hke
        have hns : ns = cl.map (fun l => -l) := by rw [HNS.out, List.take_length]
        have hrd := hown.rd
        rw [← hns] at HG
        have HNS2 := Lib.hid hns
        have HT := Lib.hid (trailOk_any M ns A2 c2 _ wr hrd (fun _ h => h) (by have := HNL.out; omega) (fun l hl => by have := HG.out.rng l hl; omega) (by omega))
        have HL := Lib.hid ((hl.below hb hG).mono hG)
        clear hns hrd hown hnl
        go_wp2_with fail
        refine HT.out.mono ?_
        rintro e w2 (⟨_, t, ls, rfl, htr, hb2⟩ | ⟨hng, _⟩)
        · have hbb := hb.size
          have hu := unit_any wr.heap.size (fun _ => False) M t ns ls lists B q (fun b => b < w.heap.size) w2 htr (HL.out.below hb2 (fun b h => by omega)) (fun b h => .inl (by omega)) HG.out hr hls (by omega) hall
          go_wp2_with fail
          refine hu.mono ?_
          rintro e w3 ⟨rfl, _, hb3⟩
          have HB := Lib.hid (bthen hb (hb2.trans hb3.1))
          clear hu htr hb2 hb3
          go_wp2
          go_ret
          exact ⟨ret_bool (by rw [← HNS2.out]; simp), HB.out⟩
        · exact absurd HG.out hng
  · rw [Bool.not_eq_true] at h1
    rw [h1] at hclause ⊢
    have HC := Lib.hid hclause
    clear hclause h1
    go_enter Try.func43, Try.ntmps43
    go_wp2_with fail
    refine HC.out.mono ?_
    rintro e w' ⟨rfl, rfl⟩
    go_wp2
    go_ret
    exact ⟨ret_bool (by simp), Below.refl _ _⟩

theorem one_list {w : World} {F : Nat → Prop} {A : Option Addr} {p : Nat} {ls : List (List Int)} {t : TypeId} (h : Lay.int.slice.Sl w F A ls) (hF : ∀ b, F b → b < w.heap.size) (hp : ls.length ≤ p) :
    Lay.int.slice.slice.Sl (w.alloc (.cells #[.slice A ls.length p] t)) (fun b => b < (w.alloc (.cells #[.slice A ls.length p] t)).heap.size) (some ⟨w.heap.size, 0, none⟩) [ls] := by
  have hw : Below w.heap.size w (w.alloc (.cells #[.slice A ls.length p] t)) := (Below.refl _ _).alloc (Nat.le_refl _) _
  intro _
  refine ⟨⟨w.heap.size, 0, none⟩, rfl, by simp, fun k x hx => ?_⟩
  rcases k with _ | k
  · injection hx with hx
    subst hx
    refine ⟨[.slice A ls.length p], ⟨A, p, rfl, hp, (h.below hw hF).mono fun b hb => Nat.lt_of_lt_of_le (hF b hb) hw.size⟩, fun j u hu => ?_⟩
    rcases j with _ | j
    · injection hu with hu
      subst hu
      have := (cell_of_block (heap_alloc_new w (.cells #[.slice A ls.length p] t)) 0).1
      exact this.trans rfl
    · simp at hu
  · simp at hx
set_option maxHeartbeats 400000 in
theorem rupOkP_any (x : C) (cl : List Int) (A B : Option Addr) (p q : Nat) (F G : Nat → Prop) (w : World) (h : Lay.int.slice.Sl w F A x.list) (hF : ∀ b, F b → b < w.heap.size) (hp : x.list.length ≤ p) (hm : -9223372036854775808 ≤ x.many ∧ x.many ≤ 9223372036854775807) (hx : x.list.length ≤ 1048576)
    (hn : ∀ cl ∈ x.list, cl.length ≤ 1048576 ∧ i64s cl) (hc : Lay.int.Sl w G B cl) (hG : ∀ b, G b → b < w.heap.size) (hcn : cl.length ≤ 1048576) (hi : i64s cl) :
    Calls Try.prog 10 #[.agg #[.int .i64 x.many, .slice A x.list.length p], .slice B cl.length q] w (RetB w (rupOk x cl)) := by
  have hw : Below w.heap.size w (w.alloc (.cells #[.int .i64 x.many, .slice A x.list.length p] 25)) := (Below.refl _ _).alloc (Nat.le_refl _) _
  have hFW : ∀ b, F b → b < (w.alloc (.cells #[.int .i64 x.many, .slice A x.list.length p] 25)).heap.size := fun b h9 => Nat.lt_of_lt_of_le (hF b h9) hw.size
  have hGW : ∀ b, G b → b < (w.alloc (.cells #[.int .i64 x.many, .slice A x.list.length p] 25)).heap.size := fun b h9 => Nat.lt_of_lt_of_le (hG b h9) hw.size
  have K := h.below hw hF
  have KP := hc.below hw hG
  have v0 : (w.alloc (.cells #[.int .i64 x.many, .slice A x.list.length p] 25)).cell? ⟨w.heap.size, 0, none⟩ = some (.int .i64 x.many) := by simp [go_sem]
  have v1 : (w.alloc (.cells #[.int .i64 x.many, .slice A x.list.length p] 25)).cell? ⟨w.heap.size, 1, none⟩ = some (.slice A x.list.length p) := by simp [go_sem]
  have HE : Hid (rupOk x cl = (cnfOk x && (clOk x.many cl && (units x.many x.list (cl.map fun l => -l)).2))) := Lib.hid rfl
  generalize hW : w.alloc (.cells #[.int .i64 x.many, .slice A x.list.length p] 25) = W at *
  have HOK := Lib.hid (cnfOkP_any x A p F W K hFW hm (by omega) hn)
  by_cases h1 : cnfOk x = true
  · have hrng := cnfOk_rng h1
    have h19 := h1
    unfold cnfOk at h19
    simp only [Bool.and_eq_true, decide_eq_true_eq] at h19
    obtain ⟨⟨⟨m0, m1⟩, m2⟩, _⟩ := h19
    obtain ⟨M, hM⟩ : ∃ M : Nat, x.many = M := ⟨x.many.toNat, by omega⟩
    rw [h1] at HE HOK
    have HM := Lib.hid hM
    clear h1 hM
    go_enter Try.func10, Try.ntmps10
    go_wp2_with fail
    refine HOK.out.mono ?_
    rintro e w1 ⟨rfl, hb1⟩
    have v0 := (hb1.cell (World.block_lt_of_cell? W _ v0)).trans v0
    have v1 := (hb1.cell (World.block_lt_of_cell? W _ v1)).trans v1
    have K1 := K.below hb1 hFW
    have KP1 := KP.below hb1 hGW
    have hFw1 : ∀ b, F b → b < w1.heap.size := fun b h9 => Nat.lt_of_lt_of_le (hFW b h9) hb1.size
    have hGw1 : ∀ b, G b → b < w1.heap.size := fun b h9 => Nat.lt_of_lt_of_le (hGW b h9) hb1.size
    have hb2 : Below w1.heap.size w1 (w1.alloc (.cells #[.slice A x.list.length p] 23)) := (Below.refl _ _).alloc (Nat.le_refl _) _
    have hone := one_list (t := 23) K1 hFw1 hp
    have hrup := rup_any M cl [x.list] B (some ⟨w1.heap.size, 0, none⟩) q 1 G _ _ (KP1.below hb2 hGw1) (fun b h9 => Nat.lt_of_lt_of_le (hGw1 b h9) hb2.size) hcn hi hone (fun _ h9 => h9)
      (fun cls h9 => by rw [List.mem_singleton.1 h9]; exact ⟨hx, fun cl2 h8 => ⟨fun l h7 => by have := hrng cl2 h8 l h7; rw [HM.out] at this; exact this, (hn cl2 h8).1⟩⟩) (by simp) (by have := HM.out; omega) (by simp; omega)
    rw [← HM.out] at hrup
    simp only [List.flatten_cons, List.flatten_nil, List.append_nil, List.length_cons, List.length_nil, Nat.zero_add] at hrup
    have HR := Lib.hid hrup
    have HB := Lib.hid (hw.trans ((hb1.trans (hb2.mono hb1.size)).mono hw.size))
    clear hrup hone hb2 K1 KP1
    go_wp2_with fail
    refine HR.out.mono ?_
    rintro e w9 ⟨rfl, hb9⟩
    go_wp2
    go_ret
    exact ⟨ret_bool (by rw [HE.out]; simp), bthen HB.out hb9⟩
  · rw [Bool.not_eq_true] at h1
    rw [h1] at HE HOK
    clear h1
    go_enter Try.func10, Try.ntmps10
    go_wp2_with fail
    refine HOK.out.mono ?_
    rintro e w1 ⟨rfl, hb1⟩
    go_wp2
    go_ret
    exact ⟨ret_bool (by rw [HE.out]; simp), hw.trans (hb1.mono hw.size)⟩

end Go.Proofs.Ytbljfhmcebgdaaa

/-! The program's UnitAll. -/
namespace Go.Proofs.Ytbljfhmcebgdaaa
open Go Go.RowKit

end Go.Proofs.Ytbljfhmcebgdaaa

/-! Unit propagation is confluent: the plain law. No program is named here. -/
namespace Go.Proofs.Ytbljfhmcebgdaaa
open Go Go.RowKit

theorem lk_some {put : List Int} : ∀ {cl : List Int} {n f n' f' : Int}, lk put cl n f = some (n', f') →
    (∀ l ∈ cl, l ∉ put) ∧ n ≤ n' ∧ (n' = n → f' = f ∧ ∀ l ∈ cl, -l ∈ put) ∧ (n' = n + 1 → f' ∈ cl ∧ -f' ∉ put ∧ ∀ l ∈ cl, l = f' ∨ -l ∈ put)
  | [], n, f, n', f', h => by
    simp only [lk, Option.some.injEq, Prod.mk.injEq] at h
    obtain ⟨rfl, rfl⟩ := h
    exact ⟨by simp, Int.le_refl _, fun _ => ⟨rfl, by simp⟩, fun h => by omega⟩
  | l :: ls, n, f, n', f', h => by
    simp only [lk] at h
    split at h
    · cases h
    · rename_i h1
      split at h
      · rename_i h2
        obtain ⟨a, b, c, d⟩ := lk_some h
        refine ⟨fun x hx => ?_, b, fun e => ⟨(c e).1, fun x hx => ?_⟩, fun e => ⟨List.mem_cons_of_mem _ (d e).1, (d e).2.1, fun x hx => ?_⟩⟩
        · rcases List.mem_cons.1 hx with rfl | hx
          · exact h1
          · exact a x hx
        · rcases List.mem_cons.1 hx with rfl | hx
          · exact h2
          · exact (c e).2 x hx
        · rcases List.mem_cons.1 hx with rfl | hx
          · exact .inr h2
          · exact (d e).2.2 x hx
      · rename_i h2
        obtain ⟨a, b, c, d⟩ := lk_some h
        refine ⟨fun x hx => ?_, by omega, fun e => by omega, fun e => ?_⟩
        · rcases List.mem_cons.1 hx with rfl | hx
          · exact h1
          · exact a x hx
        · obtain ⟨e1, e2⟩ := c e
          subst e1
          refine ⟨List.mem_cons_self, h2, fun x hx => ?_⟩
          rcases List.mem_cons.1 hx with rfl | hx
          · exact .inl rfl
          · exact .inr (e2 x hx)
theorem lk_is0 {put : List Int} : ∀ {cl : List Int} {n f : Int}, (∀ l ∈ cl, l ∉ put ∧ -l ∈ put) → lk put cl n f = some (n, f)
  | [], n, f, _ => rfl
  | l :: ls, n, f, h => by
    simp only [lk]
    rw [if_neg (h l (by simp)).1, if_pos (h l (by simp)).2]
    exact lk_is0 fun x hx => h x (by simp [hx])
theorem lk_is1 {put : List Int} {m : Int} : ∀ {cl : List Int} {n f : Int}, cl.Nodup → m ∈ cl → m ∉ put → -m ∉ put → (∀ l ∈ cl, l ≠ m → l ∉ put ∧ -l ∈ put) → lk put cl n f = some (n + 1, m)
  | l :: ls, n, f, hn, hm, h1, h2, h => by
    simp only [lk]
    have hn' := List.nodup_cons.1 hn
    by_cases e : l = m
    · subst e
      rw [if_neg h1, if_neg h2]
      exact lk_is0 fun x hx => h x (by simp [hx]) (fun e => hn'.1 (e ▸ hx))
    · have := h l (by simp) e
      rw [if_neg this.1, if_pos this.2]
      have hm' : m ∈ ls := by
        rcases List.mem_cons.1 hm with h9 | h9
        · exact absurd h9.symm e
        · exact h9
      exact lk_is1 hn'.2 hm' h1 h2 fun x hx => h x (by simp [hx])
theorem fd_spec {put : List Int} : ∀ {cs : List (List Int)} {k u f : Int}, 0 ≤ k →
    (0 ≤ (fd put cs k u f).1 → ∃ cl ∈ cs, ∃ m, lk put cl 0 0 = some (0, m)) ∧
    ((fd put cs k u f).1 < 0 → (∀ cl ∈ cs, ∀ m, lk put cl 0 0 ≠ some (0, m)) ∧
      (((fd put cs k u f).2.1 = u ∧ (fd put cs k u f).2.2 = f ∧ (u < 0 → ∀ cl ∈ cs, ∀ m, lk put cl 0 0 ≠ some (1, m))) ∨
       (u < 0 ∧ 0 ≤ (fd put cs k u f).2.1 ∧ ∃ cl ∈ cs, lk put cl 0 0 = some (1, (fd put cs k u f).2.2))))
  | [], k, u, f, _ => by
    simp [fd]
  | cl :: cls, k, u, f, hk => by
    have ih := fun u f => @fd_spec put cls (k + 1) u f (by omega)
    simp only [fd]
    cases hl : lk put cl 0 0 with
    | none =>
      obtain ⟨a, b⟩ := ih u f
      refine ⟨fun h => ?_, fun h => ?_⟩
      · obtain ⟨c, hc, m, hm⟩ := a h
        exact ⟨c, List.mem_cons_of_mem _ hc, m, hm⟩
      · obtain ⟨b1, b2⟩ := b h
        refine ⟨fun c hc m => ?_, ?_⟩
        · rcases List.mem_cons.1 hc with rfl | hc
          · rw [hl]; simp
          · exact b1 c hc m
        · rcases b2 with ⟨e1, e2, e3⟩ | ⟨e1, e2, c, hc, e3⟩
          · refine .inl ⟨e1, e2, fun hu c hc m => ?_⟩
            rcases List.mem_cons.1 hc with rfl | hc
            · rw [hl]; simp
            · exact e3 hu c hc m
          · exact .inr ⟨e1, e2, c, List.mem_cons_of_mem _ hc, e3⟩
    | some p =>
      obtain ⟨n, m⟩ := p
      dsimp only
      by_cases h0 : n = 0
      · rw [if_pos h0]
        subst h0
        exact ⟨fun _ => ⟨cl, List.mem_cons_self, m, hl⟩, fun h => by dsimp only at h; omega⟩
      rw [if_neg h0]
      by_cases h1 : n = 1 ∧ u < 0
      · rw [if_pos h1]
        obtain ⟨rfl, hu⟩ := h1
        obtain ⟨a, b⟩ := ih k m
        refine ⟨fun h => ?_, fun h => ?_⟩
        · obtain ⟨c, hc, m, hm⟩ := a h
          exact ⟨c, List.mem_cons_of_mem _ hc, m, hm⟩
        · obtain ⟨b1, b2⟩ := b h
          refine ⟨fun c hc m' => ?_, ?_⟩
          · rcases List.mem_cons.1 hc with rfl | hc
            · rw [hl]; simp
            · exact b1 c hc m'
          · rcases b2 with ⟨e1, e2, _⟩ | ⟨e1, _⟩
            · exact .inr ⟨hu, by omega, cl, List.mem_cons_self, by rw [e2]; exact hl⟩
            · omega
      · rw [if_neg h1]
        obtain ⟨a, b⟩ := ih u f
        refine ⟨fun h => ?_, fun h => ?_⟩
        · obtain ⟨c, hc, m, hm⟩ := a h
          exact ⟨c, List.mem_cons_of_mem _ hc, m, hm⟩
        · obtain ⟨b1, b2⟩ := b h
          refine ⟨fun c hc m' => ?_, ?_⟩
          · rcases List.mem_cons.1 hc with rfl | hc
            · rw [hl]; simp [h0]
            · exact b1 c hc m'
          · rcases b2 with ⟨e1, e2, e3⟩ | ⟨e1, e2, c, hc, e3⟩
            · refine .inl ⟨e1, e2, fun hu c hc m' => ?_⟩
              rcases List.mem_cons.1 hc with rfl | hc
              · rw [hl]; intro h9; injection h9 with h9; injection h9 with h9 _; exact h1 ⟨h9, hu⟩
              · exact e3 hu c hc m'
            · exact .inr ⟨e1, e2, c, List.mem_cons_of_mem _ hc, e3⟩
theorem cOk_nodup {many last : Int} (h0 : 0 ≤ last) : ∀ {cl : List Int}, cOk many last cl = true → cl.Nodup
  | [], _ => List.nodup_nil
  | l :: ls, h => by
    have h' := h
    simp only [cOk, Bool.and_eq_true, decide_eq_true_eq] at h
    refine List.nodup_cons.2 ⟨fun hx => ?_, cOk_nodup (by omega) h.2⟩
    have := (cOk_mem (by omega) h.2 l hx).2.2.2
    omega
/-- Nothing is left to do, and nothing is wrong. -/
def Shut (many : Int) (cs : List (List Int)) (O : List Int) : Prop := Good many O ∧ ∀ cl ∈ cs, ∀ m, lk O cl 0 0 ≠ some (0, m) ∧ lk O cl 0 0 ≠ some (1, m)
theorem shut_step {many : Int} {cs : List (List Int)} {O P : List Int} (hO : Shut many cs O) (hn : ∀ cl ∈ cs, cl.Nodup) (hP : ∀ l ∈ P, l ∈ O) :
    (fd P cs 0 (-1) 0).1 < 0 ∧ (0 ≤ (fd P cs 0 (-1) 0).2.1 → (fd P cs 0 (-1) 0).2.2 ∈ O) := by
  obtain ⟨a, b⟩ := @fd_spec P cs 0 (-1) 0 (by omega)
  have h1 : (fd P cs 0 (-1) 0).1 < 0 := by
    rcases Int.lt_or_le (fd P cs 0 (-1) 0).1 0 with h | h
    · exact h
    · obtain ⟨cl, hc, m, hm⟩ := a h
      have hh := lk_some hm
      have hz : lk O cl 0 0 = some (0, 0) := lk_is0 fun l hl => by
        have h2 := hP _ ((hh.2.2.1 rfl).2 l hl)
        exact ⟨fun h3 => hO.1.apart h3 h2, h2⟩
      exact absurd hz (hO.2 cl hc 0).1
  refine ⟨h1, fun h2 => ?_⟩
  rcases (b h1).2 with ⟨e1, _⟩ | ⟨_, _, cl, hc, hm⟩
  · omega
  generalize (fd P cs 0 (-1) 0).2.2 = m at *
  have hh := (lk_some hm).2.2.2 (by omega)
  have hrest : ∀ l ∈ cl, l ≠ m → l ∉ O ∧ -l ∈ O := fun l hl hne => by
    have h2 := hP _ ((hh.2.2 l hl).resolve_left hne)
    exact ⟨fun h3 => hO.1.apart h3 h2, h2⟩
  by_cases hmO : m ∈ O
  · exact hmO
  by_cases hmO' : -m ∈ O
  · have hz : lk O cl 0 0 = some (0, 0) := lk_is0 fun l hl => by
      by_cases e : l = m
      · subst e; exact ⟨hmO, hmO'⟩
      · exact hrest l hl e
    exact absurd hz (hO.2 cl hc 0).1
  · exact absurd (lk_is1 (n := 0) (f := 0) (hn cl hc) hh.1 hmO hmO' hrest) (hO.2 cl hc m).2
theorem un_in {many : Int} {cs : List (List Int)} {O : List Int} (hO : Shut many cs O) (hn : ∀ cl ∈ cs, cl.Nodup) : ∀ (n : Nat) (P : List Int), (∀ l ∈ P, l ∈ O) → (un cs n P).2 = false ∧ ∀ l ∈ (un cs n P).1, l ∈ O
  | 0, P, hP => ⟨rfl, hP⟩
  | n + 1, P, hP => by
    have hs := shut_step hO hn hP
    simp only [un]
    rw [if_neg (by omega)]
    split
    · exact ⟨rfl, hP⟩
    · exact un_in hO hn n _ fun l hl => by
        rcases List.mem_append.1 hl with h | h
        · exact hP l h
        · rw [List.mem_singleton.1 h]; exact hs.2 (by omega)
/-- What a propagation gives: more than was put; if nothing is wrong all is done. -/
theorem un_out {many : Int} {cs : List (List Int)} (hc : ∀ cl ∈ cs, ∀ l ∈ cl, l ≠ 0 ∧ -many ≤ l ∧ l ≤ many) : ∀ (n : Nat) (P : List Int), Good many P → many.toNat + 1 - P.length ≤ n →
    (∃ s, (un cs n P).1 = P ++ s) ∧ Good many (un cs n P).1 ∧ ((un cs n P).2 = false → Shut many cs (un cs n P).1)
  | 0, P, hg, hf => by
    have := hg.length
    omega
  | n + 1, P, hg, hf => by
    have hl := hg.length
    obtain ⟨a, b⟩ := @fd_spec P cs 0 (-1) 0 (by omega)
    simp only [un]
    split
    · exact ⟨⟨[], by simp⟩, hg, by simp⟩
    · rename_i h1
      split
      · rename_i h2
        refine ⟨⟨[], by simp⟩, hg, fun _ => ⟨hg, fun cl hcl m => ?_⟩⟩
        obtain ⟨b1, b2⟩ := b (by omega)
        rcases b2 with ⟨_, _, e3⟩ | ⟨_, e2, _⟩
        · exact ⟨b1 cl hcl m, e3 (by omega) cl hcl m⟩
        · omega
      · rename_i h2
        have hg' := hg.next hc (by omega)
        obtain ⟨⟨s, hs⟩, h3, h4⟩ := un_out hc n _ hg' (by simp; omega)
        exact ⟨⟨(fd P cs 0 (-1) 0).2.2 :: s, by rw [hs]; simp⟩, h3, h4⟩
theorem units_out {many : Int} {cs : List (List Int)} (hc : ∀ cl ∈ cs, ∀ l ∈ cl, l ≠ 0 ∧ -many ≤ l ∧ l ≤ many) {P : List Int} (hg : Good many P) :
    (∃ s, (units many cs P).1 = P ++ s) ∧ Good many (units many cs P).1 ∧ ((units many cs P).2 = false → Shut many cs (units many cs P).1) := un_out hc _ P hg (Nat.le_refl _)
theorem cnfOk_nd {c : C} (h : cnfOk c = true) : ∀ cl ∈ c.list, cl.Nodup := fun cl hc => by
  simp only [cnfOk, Bool.and_eq_true, List.all_eq_true] at h
  exact cOk_nodup (Int.le_refl 0) (h.2 cl hc)
end Go.Proofs.Ytbljfhmcebgdaaa

/-! What truth values say of clauses; counting through them; unit propagation is sound: the plain law. No program is named here. -/
namespace Go.Proofs.Ytbljfhmcebgdaaa
open Go Go.RowKit

def inV (n : Nat) (l : Int) : Bool := decide (l ≠ 0 ∧ -(n : Int) ≤ l ∧ l ≤ n)
def holdsL (vs : List Bool) (l : Int) : Bool := inV vs.length l && (vs.getD (l.natAbs - 1) false == decide (0 < l))
def clHas (vs : List Bool) (cl : List Int) : Bool := cl.any (holdsL vs)
def cnfHas (x : C) (vs : List Bool) : Bool := cnfOk x && (decide ((vs.length : Int) = x.many) && x.list.all (clHas vs))
theorem holdsL_neg {vs : List Bool} {l : Int} (h : inV vs.length l = true) : holdsL vs (-l) = !holdsL vs l := by
  have h' := h
  unfold inV at h
  rw [decide_eq_true_eq] at h
  have h2 : inV vs.length (-l) = true := by unfold inV; rw [decide_eq_true_eq]; omega
  unfold holdsL
  rw [h', h2, Int.natAbs_neg]
  by_cases hp : 0 < l
  · rw [decide_eq_true hp, decide_eq_false (by omega)]
    cases vs.getD (l.natAbs - 1) false <;> rfl
  · rw [decide_eq_false hp, decide_eq_true (by omega)]
    cases vs.getD (l.natAbs - 1) false <;> rfl
theorem cnfHas_iff {x : C} {vs : List Bool} : cnfHas x vs = true ↔ cnfOk x = true ∧ (vs.length : Int) = x.many ∧ ∀ cl ∈ x.list, clHas vs cl = true := by
  unfold cnfHas
  simp only [Bool.and_eq_true, decide_eq_true_eq, List.all_eq_true]
/-- Whatever makes all clauses true makes true what is propagated, and nothing is wrong. -/
theorem un_sound {many : Int} {cs : List (List Int)} {vs : List Bool} (hlen : (vs.length : Int) = many) (hc : ∀ cl ∈ cs, ∀ l ∈ cl, l ≠ 0 ∧ -many ≤ l ∧ l ≤ many) (hall : ∀ cl ∈ cs, clHas vs cl = true) :
    ∀ (n : Nat) (P : List Int), (∀ l ∈ P, holdsL vs l = true) → (∀ l ∈ (un cs n P).1, holdsL vs l = true) ∧ (un cs n P).2 = false
  | 0, P, hP => ⟨hP, rfl⟩
  | n + 1, P, hP => by
    obtain ⟨a, b⟩ := @fd_spec P cs 0 (-1) 0 (by omega)
    have hin : ∀ cl ∈ cs, ∀ l ∈ cl, inV vs.length l = true := fun cl hcl l hl => by
      have := hc cl hcl l hl
      unfold inV; rw [decide_eq_true_eq]; omega
    have hfalse : ∀ cl ∈ cs, ∀ l ∈ cl, -l ∈ P → holdsL vs l = false := fun cl hcl l hl h => by
      have h1 := hP _ h
      rw [holdsL_neg (hin cl hcl l hl)] at h1
      simpa using h1
    have h1 : (fd P cs 0 (-1) 0).1 < 0 := by
      rcases Int.lt_or_le (fd P cs 0 (-1) 0).1 0 with h | h
      · exact h
      · obtain ⟨cl, hcl, m, hm⟩ := a h
        have hh := (lk_some hm).2.2.1 rfl
        have hx := hall cl hcl
        unfold clHas at hx
        obtain ⟨l, hl, hl2⟩ := List.any_eq_true.1 hx
        rw [hfalse cl hcl l hl (hh.2 l hl)] at hl2
        cases hl2
    simp only [un]
    rw [if_neg (by omega)]
    split
    · exact ⟨hP, rfl⟩
    · rename_i h2
      refine un_sound hlen hc hall n _ fun l hl => ?_
      rcases List.mem_append.1 hl with h | h
      · exact hP l h
      · rw [List.mem_singleton.1 h]
        rcases (b h1).2 with ⟨e1, _⟩ | ⟨_, _, cl, hcl, hm⟩
        · omega
        · generalize (fd P cs 0 (-1) 0).2.2 = m at *
          have hh := (lk_some hm).2.2.2 (by omega)
          have hx := hall cl hcl
          unfold clHas at hx
          obtain ⟨l', hl', hl2⟩ := List.any_eq_true.1 hx
          rcases hh.2.2 l' hl' with e | e
          · rw [← e]; exact hl2
          · rw [hfalse cl hcl l' hl' e] at hl2; cases hl2
/-- The truth values as a number: the first is the highest. -/
def bval : List Bool → Nat → Nat
  | [], a => a
  | b :: bs, a => bval bs (2 * a + if b then 1 else 0)
theorem bval_add : ∀ (bs : List Bool) (a : Nat), bval bs a = a * 2 ^ bs.length + bval bs 0
  | [], a => by simp [bval]
  | b :: bs, a => by
    rw [bval, bval_add bs, bval, bval_add bs (2 * 0 + _)]
    simp only [List.length_cons, Nat.pow_succ]
    generalize 2 ^ bs.length = q
    cases b
    · simp only [Bool.false_eq_true, if_false, Nat.add_zero, Nat.mul_zero, Nat.zero_mul, Nat.zero_add]
      rw [Nat.mul_comm 2 a, Nat.mul_assoc, Nat.mul_comm 2]
    · simp only [if_true, Nat.mul_zero, Nat.zero_add, Nat.add_mul, Nat.one_mul]
      rw [Nat.mul_comm 2 a, Nat.mul_assoc, Nat.mul_comm 2]
      omega
theorem bval_lt : ∀ (bs : List Bool), bval bs 0 < 2 ^ bs.length
  | [] => by simp [bval]
  | b :: bs => by
    have h1 := bval_lt bs
    rw [bval, bval_add]
    simp only [List.length_cons, Nat.pow_succ]
    cases b <;> simp <;> omega
/-- All ahead of it are true, and false behind: one step of counting, from a place on. -/
theorem bval_ones : ∀ (n : Nat), bval (List.replicate n true) 0 + 1 = 2 ^ n
  | 0 => rfl
  | n + 1 => by
    have := bval_ones n
    rw [List.replicate_succ, bval, bval_add]
    simp only [List.length_replicate, Nat.pow_succ]
    simp
    omega
theorem bval_zeros : ∀ (n : Nat), bval (List.replicate n false) 0 = 0
  | 0 => rfl
  | n + 1 => by rw [List.replicate_succ, bval]; simpa using bval_zeros n
theorem bval_append : ∀ (cs bs : List Bool) (a : Nat), bval (cs ++ bs) a = bval bs (bval cs a)
  | [], bs, a => rfl
  | x :: cs, bs, a => by simp only [List.cons_append, bval, bval_append cs bs]
/-- The next ones: the last false turns true, all behind it false. -/
theorem bval_next (pre : List Bool) (n : Nat) : bval (pre ++ true :: List.replicate n false) 0 = bval (pre ++ false :: List.replicate n true) 0 + 1 := by
  rw [bval_append, bval_append, bval, bval, bval_add, bval_add (List.replicate n true), bval_zeros]
  have := bval_ones n
  simp only [List.length_replicate]
  generalize bval pre 0 = p
  simp only [if_true, Bool.false_eq_true, if_false, Nat.add_zero, Nat.add_mul, Nat.one_mul]
  omega
end Go.Proofs.Ytbljfhmcebgdaaa

/-! Reverse unit propagation is sound and monotone: the plain law. No program is named here. -/
namespace Go.Proofs.Ytbljfhmcebgdaaa
open Go Go.RowKit

theorem rupOk_iff {x : C} {cl : List Int} : rupOk x cl = true ↔ cnfOk x = true ∧ clOk x.many cl = true ∧ (units x.many x.list (cl.map fun l => -l)).2 = true := by
  unfold rupOk rupP
  rw [Bool.and_eq_true, Bool.and_eq_true]
theorem clOk_put {many : Int} {cl : List Int} (h : clOk many cl = true) : Good many (cl.map fun l => -l) := (cOk_good (Int.le_refl 0) h).1
/-- What follows by what must be so alone follows. -/
theorem rup_follows {x : C} {cl : List Int} (h : rupOk x cl = true) (vs : List Bool) (hv : cnfHas x vs = true) : clHas vs cl = true := by
  obtain ⟨h1, h2, h3⟩ := rupOk_iff.1 h
  obtain ⟨_, hlen, hall⟩ := cnfHas_iff.1 hv
  cases hc : clHas vs cl with
  | true => rfl
  | false =>
    have hn : ∀ l ∈ cl, holdsL vs l = false := fun l hl => by
      have hc := hc
      unfold clHas at hc
      have := List.any_eq_false.1 hc l hl
      simpa using this
    have hr := clOk_rng h2
    have := (un_sound (vs := vs) hlen (cnfOk_rng h1) hall (x.many.toNat + 1 - (cl.map fun l => -l).length) (cl.map fun l => -l) fun l hl => by
      obtain ⟨y, hy, rfl⟩ := List.mem_map.1 hl
      rw [holdsL_neg (by unfold inV; rw [decide_eq_true_eq]; have := hr y hy; omega), hn y hy]
      rfl).2
    unfold units at h3
    rw [this] at h3
    cases h3
/-- More clauses, and more numbers in the clause. -/
theorem rup_more {x x' : C} {cl cl' : List Int} (h : rupOk x cl = true) (hok : cnfOk x' = true) (hm : x'.many = x.many) (hc : ∀ c ∈ x.list, c ∈ x'.list) (hcl : clOk x'.many cl' = true) (hs : ∀ l ∈ cl, l ∈ cl') : rupOk x' cl' = true := by
  obtain ⟨h1, h2, h3⟩ := rupOk_iff.1 h
  refine rupOk_iff.2 ⟨hok, hcl, ?_⟩
  cases hu : (units x'.many x'.list (cl'.map fun l => -l)).2 with
  | true => rfl
  | false =>
    obtain ⟨⟨s, e⟩, _, hsh⟩ := units_out (cnfOk_rng hok) (clOk_put hcl)
    have hO := hsh hu
    rw [hm] at hO hcl e hsh hu
    have hO2 : Shut x.many x.list (units x.many x'.list (cl'.map fun l => -l)).1 := ⟨hO.1, fun c hcx m => hO.2 c (hc c hcx) m⟩
    have := (un_in hO2 (cnfOk_nd h1) (x.many.toNat + 1 - (cl.map fun l => -l).length) (cl.map fun l => -l) fun l hl => by
      obtain ⟨y, hy, rfl⟩ := List.mem_map.1 hl
      rw [e]
      exact List.mem_append_left _ (List.mem_map.2 ⟨y, hs y hy, rfl⟩)).1
    unfold units at h3
    rw [this] at h3
    cases h3
/-- The clause with one number more. -/
def longP (m : Int) : Bool → List Int → List Int
  | true, [] => []
  | false, [] => [-m]
  | true, l :: ls => l :: longP m true ls
  | false, l :: ls => if m ≤ (l.natAbs : Int) then (if m < (l.natAbs : Int) then [-m] else []) ++ l :: longP m true ls else l :: longP m false ls
theorem longP_true (m : Int) : ∀ cl : List Int, longP m true cl = cl
  | [] => rfl
  | l :: ls => by simp only [longP]; rw [longP_true m ls]
theorem longP_mem (m : Int) : ∀ (b : Bool) (cl : List Int), ∀ l ∈ cl, l ∈ longP m b cl
  | true, cl, l, h => by rw [longP_true]; exact h
  | false, y :: ys, l, h => by
    simp only [longP]
    split
    · rw [longP_true]; exact List.mem_append_right _ h
    · rcases List.mem_cons.1 h with rfl | h
      · exact List.mem_cons_self ..
      · exact List.mem_cons_of_mem _ (longP_mem m false ys l h)
theorem longP_ok {many m : Int} (h1 : 1 ≤ m) (h2 : m ≤ many) : ∀ {last : Int} {cl : List Int}, last < m → cOk many last cl = true → cOk many last (longP m false cl) = true
  | last, [], hl, _ => by
    simp only [longP, cOk, Bool.and_eq_true, decide_eq_true_eq]
    exact ⟨⟨⟨by omega, by omega⟩, by omega⟩, trivial⟩
  | last, y :: ys, hl, h => by
    have h' := h
    simp only [cOk, Bool.and_eq_true, decide_eq_true_eq] at h'
    simp only [longP]
    split
    · rename_i h9
      rw [longP_true]
      split
      · rename_i h8
        simp only [List.singleton_append, cOk, Bool.and_eq_true, decide_eq_true_eq]
        exact ⟨⟨⟨by omega, by omega⟩, by omega⟩, ⟨⟨h'.1.1, by omega⟩, h'.2⟩⟩
      · exact h
    · rename_i h9
      simp only [cOk, Bool.and_eq_true, decide_eq_true_eq]
      exact ⟨h'.1, longP_ok h1 h2 (by omega) h'.2⟩
theorem rup_long {x : C} {cl : List Int} {m : Int} (h : rupOk x cl = true) (h1 : 1 ≤ m) (h2 : m ≤ x.many) : rupOk x (longP m false cl) = true :=
  rup_more h (rupOk_iff.1 h).1 rfl (fun _ h => h) (longP_ok h1 h2 (by omega) (rupOk_iff.1 h).2.1) (longP_mem m false cl)
theorem cnfOk_more {x : C} {m : Int} (h : cnfOk x = true) (hl : x.list.length ≤ 2499) (h1 : 1 ≤ m) (h2 : m ≤ x.many) : cnfOk ⟨x.many, x.list ++ [[m]]⟩ = true := by
  unfold cnfOk at h ⊢
  simp only [Bool.and_eq_true, decide_eq_true_eq, List.all_eq_true] at h ⊢
  refine ⟨⟨h.1.1, by rw [List.length_append, List.length_singleton]; omega⟩, fun c hc => ?_⟩
  rcases List.mem_append.1 hc with hc | hc
  · exact h.2 c hc
  · rw [List.mem_singleton.1 hc]
    simp only [clOk, cOk, Bool.and_eq_true, decide_eq_true_eq]
    exact ⟨⟨⟨by omega, h2⟩, by omega⟩, trivial⟩
theorem rup_extra {x : C} {cl : List Int} {m : Int} (h : rupOk x cl = true) (hl : x.list.length ≤ 2499) (h1 : 1 ≤ m) (h2 : m ≤ x.many) : rupOk ⟨x.many, x.list ++ [[m]]⟩ cl = true :=
  rup_more h (cnfOk_more (rupOk_iff.1 h).1 hl h1 h2) rfl (fun c hc => List.mem_append_left _ hc) (rupOk_iff.1 h).2.1 (fun _ h => h)
end Go.Proofs.Ytbljfhmcebgdaaa

/-! What a law leaves. -/
namespace Go.Proofs.Ytbljfhmcebgdaaa
open Go Go.RowKit

def LawC (w : World) (e : Ending) (w' : World) : Prop := e = .returned (.bool true) ∧ Below w.heap.size w w'
end Go.Proofs.Ytbljfhmcebgdaaa

/-! What a mark does to memory: cells of plain values turn into others of their kind, in some blocks. -/
namespace Go.Proofs.Ytbljfhmcebgdaaa
open Go Go.RowKit

/-- One value for another of its kind; a slice or a pointer for itself alone. -/
inductive Kin : Value → Value → Prop
  | same (v : Value) : Kin v v
  | int (a b : Int) : Kin (.int .i64 a) (.int .i64 b)
  | bool (a b : Bool) : Kin (.bool a) (.bool b)
  | str (a b : ByteArray) : Kin (.string a) (.string b)
theorem Kin.trans {a b c : Value} (h : Kin a b) (h' : Kin b c) : Kin a c := by
  cases h <;> cases h' <;> constructor
theorem Kin.ofInt {a : Int} {v : Value} (h : Kin (.int .i64 a) v) : ∃ b, v = .int .i64 b := by
  cases h
  · exact ⟨a, rfl⟩
  · exact ⟨_, rfl⟩
/-- Nothing turned but plain values in the blocks F. -/
structure Dab (F : Nat → Prop) (w w' : World) : Prop where
  os : w'.os = w.os
  tape : w'.tape = w.tape
  output : w'.output = w.output
  size : w.heap.size ≤ w'.heap.size
  block : ∀ b, b < w.heap.size → ¬ F b → w'.heap[b]? = w.heap[b]?
  kin : ∀ a v, w.cell? a = some v → ∃ v', w'.cell? a = some v' ∧ Kin v v'
  frz : ∀ a : Addr, a.block < w.heap.size → w'.frozen? a = w.frozen? a
theorem Dab.refl (F : Nat → Prop) (w : World) : Dab F w w := ⟨rfl, rfl, rfl, Nat.le_refl _, fun _ _ _ => rfl, fun _ v h => ⟨v, h, .same v⟩, fun _ _ => rfl⟩
theorem Dab.trans {F : Nat → Prop} {a b c : World} (h : Dab F a b) (k : Dab F b c) : Dab F a c := by
  refine ⟨k.os.trans h.os, k.tape.trans h.tape, k.output.trans h.output, Nat.le_trans h.size k.size, fun i hi hn => (k.block i (Nat.lt_of_lt_of_le hi h.size) hn).trans (h.block i hi hn), fun p v hv => ?_, fun p hp => (k.frz p (Nat.lt_of_lt_of_le hp h.size)).trans (h.frz p hp)⟩
  obtain ⟨v1, h1, k1⟩ := h.kin p v hv
  obtain ⟨v2, h2, k2⟩ := k.kin p v1 h1
  exact ⟨v2, h2, k1.trans k2⟩
theorem Dab.mono {F G : Nat → Prop} {w w' : World} (h : Dab F w w') (hFG : ∀ b, F b → G b) : Dab G w w' := ⟨h.os, h.tape, h.output, h.size, fun b hb hn => h.block b hb (fun hf => hn (hFG b hf)), h.kin, h.frz⟩
theorem Dab.of {F : Nat → Prop} {w w' : World} (h : Below w.heap.size w w') : Dab F w w' := by
  have hlt : ∀ p v, w.cell? p = some v → p.block < w.heap.size := fun p v hv => World.block_lt_of_cell? w p hv
  exact ⟨h.os, h.tape, h.output, h.size, fun b hb _ => h.block b hb, fun p v hv => ⟨v, (World.cell?_of_block (h.block _ (hlt p v hv))).trans hv, .same v⟩, fun p hp => World.frozen?_of_block (h.block _ hp)⟩
theorem Dab.set {F : Nat → Prop} {w : World} {p : Addr} {u z : Value} (hF : F p.block) (hz : w.cell? p = some z) (hk : Kin z u) : Dab F w (w.setCell p u) := by
  refine ⟨rfl, rfl, rfl, by simp [World.setCell], fun b _ hn => Below.heap_setCell w p _ b (fun e => hn (e ▸ hF)), fun a v hv => ?_, fun a _ => World.frozen?_setCell _ _ _ _⟩
  by_cases e : p = a
  · subst e
    rw [hz] at hv
    injection hv with hv
    subst hv
    exact ⟨u, World.cell?_setCell_same _ _ _ hz, hk⟩
  · exact ⟨v, (World.cell?_setCell_other _ _ _ _ e).trans hv, .same v⟩
theorem Dab.then {F : Nat → Prop} {a b c : World} (h : Below a.heap.size a b) (k : Dab F b c) : Dab F a c := (Dab.of h).trans k
theorem Dab.below {F : Nat → Prop} {w w' : World} {B : Nat} (h : Dab F w w') (hB : B ≤ w.heap.size) (hF : ∀ b, F b → B ≤ b) : Below B w w' :=
  ⟨h.os, h.tape, h.output, h.size, fun b hb => h.block b (Nat.lt_of_lt_of_le hb hB) (fun hf => absurd (hF b hf) (by omega))⟩
/-- n integers lie there, and may be written. -/
def IntsAt (w : World) (F : Nat → Prop) (A : Option Addr) (n : Nat) : Prop :=
  0 < n → ∃ ad, A = some ad ∧ F ad.block ∧ ∀ k, k < n → (∃ z, w.cell? (ad.add k) = some (.int .i64 z)) ∧ w.frozen? (ad.add k) = false
theorem IntsAt.mono {w : World} {F G : Nat → Prop} {A : Option Addr} {n : Nat} (h : IntsAt w F A n) (hFG : ∀ b, F b → G b) : IntsAt w G A n := fun hn => by
  obtain ⟨ad, e, hf, hc⟩ := h hn
  exact ⟨ad, e, hFG _ hf, hc⟩
theorem IntsAt.of {w : World} {F G : Nat → Prop} {A : Option Addr} {xs : List Int} (h : Lay.int.Sl w F A xs) (hF : ∀ b, F b → G b ∧ ∀ o, w.frozen? ⟨b, o, none⟩ = false) : IntsAt w G A xs.length := fun hn => by
  obtain ⟨ad, e, hf, hc⟩ := h hn
  refine ⟨ad, e, (hF _ hf).1, fun k hk => ?_⟩
  obtain ⟨vs, rfl, hcell⟩ := hc k xs[k] (List.getElem?_eq_getElem hk)
  refine ⟨⟨xs[k], by simpa [Lay.int, Lay.flat] using hcell 0 _ rfl⟩, ?_⟩
  have := (hF _ hf).2 (ad.add k).off
  rw [← this]
  unfold World.frozen?
  rw [block_of_add]
/-- Rows of integers lie there. -/
def RowsAt (w : World) (F : Nat → Prop) (A : Option Addr) (ns : List Nat) : Prop :=
  0 < ns.length → ∃ ad, A = some ad ∧ ∀ k (h : k < ns.length), ∃ A' c', w.cell? (ad.add k) = some (.slice A' ns[k] c') ∧ IntsAt w F A' ns[k]
theorem RowsAt.of {w : World} {F G : Nat → Prop} {A : Option Addr} {xs : List (List Int)} (h : Lay.int.slice.Sl w F A xs) (hF : ∀ b, F b → G b ∧ ∀ o, w.frozen? ⟨b, o, none⟩ = false) : RowsAt w G A (xs.map List.length) := fun hn => by
  obtain ⟨ad, e, _, _⟩ := h (by simpa using hn)
  refine ⟨ad, e, fun k hk => ?_⟩
  obtain ⟨ad2, A', c', e2, _, hc, _, hs⟩ := h.at_slice (k := k) (by simpa using hk)
  rw [e] at e2
  injection e2 with e2
  subst e2
  rw [List.getElem_map]
  exact ⟨A', c', hc, IntsAt.of hs hF⟩
def nsum : List Nat → Nat
  | [] => 0
  | n :: ns => n + nsum ns
end Go.Proofs.Ytbljfhmcebgdaaa

/-! Copies of the call's own, made between two sizes of the heap; what stays over calls and over marks. -/
namespace Go.Proofs.Ytbljfhmcebgdaaa
open Go Go.RowKit

/-- Between two sizes. -/
def Rng (lo hi b : Nat) : Prop := lo ≤ b ∧ b < hi
/-- A block of a copy: made between two sizes of the heap, may be written. -/
def Cp (lo hi : Nat) (w : World) (b : Nat) : Prop := lo ≤ b ∧ b < hi ∧ hi ≤ w.heap.size ∧ ∀ o, w.frozen? ⟨b, o, none⟩ = false
theorem Cp.up {lo hi : Nat} {w w' : World} {b : Nat} (h : Cp lo hi w b) (hb : Below w.heap.size w w') : Cp lo hi w' b :=
  ⟨h.1, h.2.1, Nat.le_trans h.2.2.1 hb.size, fun o => (World.frozen?_of_block (a := ⟨b, o, none⟩) (hb.block b (by have := h.2.1; have := h.2.2.1; omega))).trans (h.2.2.2 o)⟩
theorem Cp.lt {lo hi : Nat} {w : World} {b : Nat} (h : Cp lo hi w b) : b < w.heap.size := Nat.lt_of_lt_of_le h.2.1 h.2.2.1
section
variable {α : Type} {L : Lay α} {w w' : World} {lo hi : Nat} {A : Option Addr} {xs : List α}
theorem Dab.rng (hd : Dab (Cp lo hi w) w w') : Dab (Rng lo hi) w w' := hd.mono fun _ h => ⟨h.1, h.2.1⟩
end
end Go.Proofs.Ytbljfhmcebgdaaa

/-! Marks on integers. -/
namespace Go.Proofs.Ytbljfhmcebgdaaa
open Go Go.RowKit

end Go.Proofs.Ytbljfhmcebgdaaa

/-! Rows of integers: what comes in, copies, comparisons, marks; one form for all. -/
namespace Go.Proofs.Ytbljfhmcebgdaaa
open Go Go.RowKit Go.ChangeShapes Go.WideShapes Go.ChangeAt Go.Deep

def okList (l : List Int) : Prop := l.length ≤ maxLen ∧ ∀ x ∈ l, okInt x
/-- Small enough for every count. -/
def smInts (xs : List Int) : Prop := xs.length ≤ 1048576 ∧ i64s xs
/-- A row of the call's own is a copy that may be written. -/
theorem OwnI.own {w : World} {base c : Nat} {A : Option Addr} {xs : List Int} (h : OwnI w base (.slice A xs.length c) xs) : Lay.int.Sl w (Own base w) A xs := fun hn => by
  obtain ⟨A', c', e, _, hs⟩ := h.form
  injection e with e1 e2 e3
  subst e1
  obtain ⟨ad, e, hf, hc⟩ := hs hn
  refine ⟨ad, e, ⟨hf.1, hf.2, fun o => ?_⟩, hc⟩
  subst e
  rcases h.2 with ⟨e, _⟩ | ⟨g, cap, cur, e, _, hg, _⟩
  · cases e
  · injection e with e1 e2 e3
    injection e1 with e1
    subst e1
    unfold World.frozen?
    rw [hg]
    simp
theorem OwnI.cap {w : World} {base c : Nat} {A : Option Addr} {xs : List Int} (h : OwnI w base (.slice A xs.length c) xs) : xs.length ≤ c := by
  obtain ⟨A', c', e, hl, hs⟩ := h.form
  injection e with e1 e2 e3
  omega
end Go.Proofs.Ytbljfhmcebgdaaa

/-! The reference's check of what is put: l5Marks; UnitAll. -/
namespace Go.Proofs.Ytbljfhmcebgdaaa
open Go Go.RowKit

/-- The row says which variables are put. -/
def SeenOk (M : Nat) (put : List Int) (sn : List Bool) : Prop := sn.length = M + 1 ∧ ∀ v : Nat, 1 ≤ v → v ≤ M → sn[v]? = some (decide (∃ l ∈ put, l.natAbs = v))
theorem SeenOk.snoc {M : Nat} {put : List Int} {sn : List Bool} (h : SeenOk M put sn) (l : Int) (h1 : l.natAbs ≤ M) : SeenOk M (put ++ [l]) (sn.set l.natAbs true) := by
  refine ⟨by rw [List.length_set]; exact h.1, fun v hv1 hv2 => ?_⟩
  by_cases e : l.natAbs = v
  · rw [← e, List.getElem?_set_self (by rw [h.1]; omega), decide_eq_true ⟨l, by simp, rfl⟩]
  · rw [List.getElem?_set_ne e, h.2 v hv1 hv2]
    congr 1
    rw [Bool.eq_iff_iff, decide_eq_true_eq, decide_eq_true_eq]
    constructor
    · rintro ⟨x, hx, he⟩; exact ⟨x, List.mem_append_left _ hx, he⟩
    · rintro ⟨x, hx, he⟩
      rcases List.mem_append.1 hx with hx | hx
      · exact ⟨x, hx, he⟩
      · rw [List.mem_singleton.1 hx] at he; exact absurd he e
theorem SeenOk.is {M : Nat} {put : List Int} {sn : List Bool} (h : SeenOk M put sn) {l : Int} (h0 : l ≠ 0) (h1 : l.natAbs ≤ M) : sn[l.natAbs]? = some (decide (l ∈ put ∨ -l ∈ put)) := by
  rw [h.2 _ (by omega) h1]
  congr 1
  rw [Bool.eq_iff_iff, decide_eq_true_eq, decide_eq_true_eq]
  constructor
  · rintro ⟨x, hx, he⟩
    have : x = l ∨ x = -l := by omega
    rcases this with e | e
    · exact .inl (e ▸ hx)
    · exact .inr (e ▸ hx)
  · rintro (hx | hx)
    · exact ⟨_, hx, rfl⟩
    · exact ⟨_, hx, by omega⟩


end Go.Proofs.Ytbljfhmcebgdaaa

/-! The reference's UnitAll. -/
namespace Go.Proofs.Ytbljfhmcebgdaaa
open Go Go.RowKit

end Go.Proofs.Ytbljfhmcebgdaaa

/-! Marks on integers, on rows of integers, on formulas. -/
namespace Go.Proofs.Ytbljfhmcebgdaaa
open Go Go.RowKit

end Go.Proofs.Ytbljfhmcebgdaaa

/-! Formulas and rows of integers: what comes in, copies, comparisons, marks; one form for all. -/
namespace Go.Proofs.Ytbljfhmcebgdaaa
open Go Go.RowKit Go.ChangeShapes Go.WideShapes Go.ChangeAt Go.Deep

/-- A formula as a value: two cells. -/
def Lay.cnf : Lay C where
  size := 2
  R w F x vs := ∃ A c, vs = [.int .i64 x.many, .slice A x.list.length c] ∧ x.list.length ≤ c ∧ Lay.int.slice.Sl w F A x.list
  len := by rintro w F x vs ⟨A, c, rfl, _⟩; rfl
  keep := by rintro w w' F x vs hk ⟨A, c, rfl, h1, h2⟩; exact ⟨A, c, rfl, h1, h2.keep hk⟩
  mono := by rintro w F G x vs hk ⟨A, c, rfl, h1, h2⟩; exact ⟨A, c, rfl, h1, h2.mono hk⟩
def okCIn (x : C) : Prop := okInt x.many ∧ x.list.length ≤ maxLen ∧ ∀ l ∈ x.list, okList l
theorem Opens.cnf {P : Program} {t ti sg : TypeId} {fs : Array Field} (ht : P.underlying t = some (.struct fs)) (hc : P.cellsOf t = 2) (hti : P.underlying ti = some (.int .i64)) (htic : P.cellsOf ti = 1) (hsg : P.cellsOf sg = 1)
    (hf : fs.toList.map (fun f : Field => (f.type, f.offset)) = [(ti, 0), (sg, 1)]) (hg : Opens P sg Lay.int.slice.slice (fun xs => xs.length ≤ maxLen ∧ ∀ x ∈ xs, okList x)) : Opens P t Lay.cnf okCIn := by
  have hfi : ∀ i, (fs[i]?).map (fun f : Field => (f.type, f.offset)) = [(ti, 0), (sg, 1)][i]? := fun i => by
    rw [← hf, List.getElem?_map, Array.getElem?_toList]
  intro H enc w base spare held fuel cs x h
  obtain ⟨a, oka, ra⟩ := OpensF.field ht h (Nat.le_succ _) 0 ti 0 1 (hfi 0) htic ((Opens.int hti).at _)
  obtain ⟨gs, okg, A, c, r1, l1, s1⟩ := OpensF.field ht h (Nat.le_succ _) 1 sg 1 1 (hfi 1) hsg (hg.at _)
  have hlen := trod_cells ht h
  rw [hc] at hlen
  match cs, hlen with
  | [x0, x1], _ =>
    simp [Lay.int, Lay.flat] at ra r1
    subst ra r1
    exact ⟨⟨a, gs⟩, ⟨oka, okg⟩, A, c, rfl, l1, s1⟩
def smRows (xs : List (List Int)) : Prop := xs.length ≤ 1048576 ∧ (∀ l ∈ xs, smInts l) ∧ nsum (xs.map List.length) ≤ 1048576
def smCnf (x : C) : Prop := okInt x.many ∧ smRows x.list
theorem smCnf.short {x : C} (h : smCnf x) : shortC x := ⟨h.2.1, fun l hl => (h.2.2.1 l hl).1⟩
theorem smCnf.ints {x : C} (h : smCnf x) : ∀ cl ∈ x.list, cl.length ≤ 1048576 ∧ i64s cl := fun l hl => h.2.2.1 l hl
end Go.Proofs.Ytbljfhmcebgdaaa

/-! Where a search is: the plain law. -/
namespace Go.Proofs.Ytbljfhmcebgdaaa
open Go Go.RowKit

structure S where
  put : List Int
  why : List Int
  learned : List (List Int)
  code : Int
/-- A clause is why a mark is put, behind others. -/
def because (pre cl : List Int) (m : Int) : Bool := decide (m ∈ cl) && cl.all (fun l => l == m || decide (-l ∈ pre))
def whyOk (cs : List (List Int)) (pre : List Int) (m k : Int) : Bool := k == -1 || (decide (0 ≤ k) && decide (k < cs.length) && because pre (cs.getD k.toNat []) m)
def whysF (cs : List (List Int)) : List Int → List Int → List Int → Bool
  | pre, m :: ms, k :: ks => whyOk cs pre m k && whysF cs (pre ++ [m]) ms ks
  | _, _, _ => true
/-- What is true of every valid search. -/
structure SatGood (c : C) (s : S) : Prop where
  cnf : cnfOk c = true
  learned : s.learned.length ≤ 300
  code0 : 0 ≤ s.code
  code1 : s.code ≤ 3
  len : s.put.length = s.why.length
  good : Good c.many s.put
  cls : ∀ cl ∈ s.learned, clOk c.many cl = true
  whys : whysF (c.list ++ s.learned) [] s.put s.why = true
/-- How it reads. -/
structure SatR (w : World) (F : Nat → Prop) (A B D : Option Addr) (s : S) : Prop where
  a : Lay.int.Sl w F A s.put
  b : Lay.int.Sl w F B s.why
  d : Lay.int.slice.Sl w F D s.learned
theorem SatR.below {w w' : World} {F : Nat → Prop} {A B D : Option Addr} {s : S} {n : Nat} (h : SatR w F A B D s) (hb : Below n w w') (hF : ∀ b, F b → b < n) : SatR w' F A B D s := ⟨h.a.below hb hF, h.b.below hb hF, h.d.below hb hF⟩
theorem SatR.keep {w w' : World} {F : Nat → Prop} {A B D : Option Addr} {s : S} (h : SatR w F A B D s) (hk : ∀ b, F b → w'.heap[b]? = w.heap[b]?) : SatR w' F A B D s := ⟨h.a.keep hk, h.b.keep hk, h.d.keep hk⟩
theorem SatR.mono {w : World} {F G : Nat → Prop} {A B D : Option Addr} {s : S} (h : SatR w F A B D s) (hk : ∀ b, F b → G b) : SatR w G A B D s := ⟨h.a.mono hk, h.b.mono hk, h.d.mono hk⟩
/-- The k-th clause, given or learned. -/
theorem clause_at {w : World} {F : Nat → Prop} {A D : Option Addr} {xs ys : List (List Int)} (h : Lay.int.slice.Sl w F A xs) (h' : Lay.int.slice.Sl w F D ys) {k : Nat} (hk : k < xs.length + ys.length) :
    ∃ A' c', Lay.int.Sl w F A' ((xs ++ ys).getD k []) ∧ ((xs ++ ys).getD k []).length ≤ c' ∧ ((k < xs.length ∧ ∃ ad, A = some ad ∧ w.cell? (ad.add k) = some (.slice A' ((xs ++ ys).getD k []).length c')) ∨
      (xs.length ≤ k ∧ ∃ ad, D = some ad ∧ w.cell? (ad.add (k - xs.length)) = some (.slice A' ((xs ++ ys).getD k []).length c'))) := by
  rcases Nat.lt_or_ge k xs.length with h1 | h1
  · obtain ⟨ad, A', c', e, _, hc, hl, hs⟩ := h.at_slice h1
    have he : (xs ++ ys).getD k [] = xs[k] := by rw [List.getD_eq_getElem?_getD, List.getElem?_append_left h1, List.getElem?_eq_getElem h1]; rfl
    rw [he]
    exact ⟨A', c', hs, hl, .inl ⟨h1, ad, e, hc⟩⟩
  · have h2 : k - xs.length < ys.length := by omega
    obtain ⟨ad, A', c', e, _, hc, hl, hs⟩ := h'.at_slice h2
    have he : (xs ++ ys).getD k [] = ys[k - xs.length] := by rw [List.getD_eq_getElem?_getD, List.getElem?_append_right h1, List.getElem?_eq_getElem h2]; rfl
    rw [he]
    exact ⟨A', c', hs, hl, .inr ⟨h1, ad, e, hc⟩⟩
end Go.Proofs.Ytbljfhmcebgdaaa

/-! The program's trail: place, implies. -/
namespace Go.Proofs.Ytbljfhmcebgdaaa
open Go Go.RowKit

end Go.Proofs.Ytbljfhmcebgdaaa

/-! The program's readSat: its parts. -/
namespace Go.Proofs.Ytbljfhmcebgdaaa
open Go Go.RowKit

theorem any_drop {f : Int → Bool} {xs : List Int} {k : Nat} (h : k < xs.length) : (xs.drop k).any f = (f xs[k] || (xs.drop (k + 1)).any f) := by
  rw [List.drop_eq_getElem_cons h]; rfl
end Go.Proofs.Ytbljfhmcebgdaaa
