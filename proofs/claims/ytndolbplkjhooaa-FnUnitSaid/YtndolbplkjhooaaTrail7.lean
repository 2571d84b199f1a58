/- The program's rup, RupOk. -/
import Derived.Test.YtndolbplkjhooaaTrail6
namespace Go.Proofs.Ytndolbplkjhooaa
open Go Go.RowKit

theorem OwnI.nil (w : World) (lo : Nat) : OwnI w lo (.slice none 0 0) [] := World.ownsRow_nil _ _ _ _
set_option maxRecDepth 100000 in
set_option maxHeartbeats 400000 in
theorem rup_any (M : Nat) (cl : List Int) (lists : List (List (List Int))) (A B : Option Addr) (c q : Nat) (F G : Nat → Prop) (w : World) (hc : Lay.int.Sl w F A cl) (hF : ∀ b, F b → b < w.heap.size) (hn : cl.length ≤ 1048576) (hi : i64s cl) (hl : Lay.int.slice.slice.Sl w G B lists) (hG : ∀ b, G b → b < w.heap.size)
    (hr : ∀ cls ∈ lists, cls.length ≤ 1048576 ∧ ∀ cl ∈ cls, (∀ l ∈ cl, l ≠ 0 ∧ -(M : Int) ≤ l ∧ l ≤ M) ∧ cl.length ≤ 1048576) (hls : lists.length ≤ 1048576) (hM : M ≤ 700) (hall : lists.flatten.length ≤ 1000000000) :
    Calls Try.prog 42 #[.int .i64 M, .slice A cl.length c, .slice B lists.length q] w (RetB w (clOk M cl && (units M lists.flatten (cl.map fun l => -l)).2)) := by
  have hclause := clauseOk_any cl M A c F w hc hn hi (by omega) (by omega)
  by_cases h1 : clOk M cl = true
  · have hrng := clOk_rng h1
    have hgood : Good M (cl.map fun l => -l) := (cOk_good (Int.le_refl 0) h1).1
    rw [h1] at hclause ⊢
    have HC := Lib.hid hclause
    have HG := Lib.hid hgood
    clear hclause hgood h1
    go_enter Try.func42, Try.ntmps42
    go_wp2_with fail
    refine HC.out.mono ?_
    rintro e w' ⟨rfl, rfl⟩
    go_wp2
    go_loopw [7, 18] (fun s i wr => ∃ (k : Nat) (ns : List Int) (A2 : Option Addr) (c2 : Nat), k ≤ cl.length ∧ i = .int .i64 k ∧ s = .slice A2 ns.length c2 ∧ ns = (cl.take k).map (fun l => -l) ∧ OwnI wr w.heap.size (.slice A2 ns.length c2) ns ∧ Below w.heap.size w wr) (fun _ i _ => cl.length - (intOf i).toNat)
    case atStart => exact ⟨0, [], none, 0, Nat.zero_le _, rfl, rfl, rfl, OwnI.nil _ _, Below.refl _ _⟩
    case round =>
      obtain ⟨k, ns, A2, c2, hk, rfl, rfl, hns, hown, hb⟩ := hrel
      have hnl : ns.length = k := by rw [hns]; simp; omega
      have HNS := Lib.hid hns
      have HNL := Lib.hid hnl
      clear hns
      by_cases hlt : k < cl.length
      · obtain ⟨ad, rfl, hf, hcell⟩ := (hc.below hb hF).at_int hlt
        have hk1 : (k : Int) < cl.length := by omega
        obtain ⟨_, i1, i2⟩ := hrng _ (List.getElem_mem hlt)
        have htk : (cl.take (k + 1)).map (fun l => -l) = (cl.take k).map (fun l => -l) ++ [-cl[k]] := by rw [List.take_succ_eq_append_getElem hlt, List.map_append]; rfl
        generalize cl[k] = a at *
        have HTK := Lib.hid htk
        have e1 : IntKind.i64.wrap (-a) = -a := IntWalk.i64_in _ (by omega)
        obtain ⟨ps, hps⟩ : ∃ ps, ps = ns ++ [-a] := ⟨_, rfl⟩
        have HPS := Lib.hid hps
        have hlo := hb.size
        clear htk hps hnl
        go_wp2_with (at_builtin; refine wpList_append_int (ys := ps) (by rfl) (.tmp 22) (.tmp 25) (by rfl) (by rfl) (by rfl) hown (by have := HNL.out; omega) hlo HPS.out ?_; intro A1 c1 w1 hown1 hg1 hbk1)
        have hb1 := hb.trans (own_at_least hown hlo hg1)
        clear hbk1 hg1
        go_wp2
        go_roundw
        case rel => exact ⟨k + 1, ps, A1, c1, by omega, by go_num, rfl, by rw [HPS.out, HTK.out, HNS.out], hown1, hb1⟩
        case measure => simp [intOf]; omega
      · have hke : k = cl.length := by omega
        subst hke
        have hns : ns = cl.map (fun l => -l) := by rw [HNS.out, List.take_length]
        have hrd := hown.rd
        rw [← hns] at HG
        have HNS2 := Lib.hid hns
        have HT := Lib.hid (trailOk_any M ns A2 c2 _ wr hrd (fun _ h => h) (by have := HNL.out; omega) (fun l hl => by have := HG.out.rng l hl; omega) (by omega))
        have HL := Lib.hid ((hl.below hb hG).mono hG)
        clear hns hrd hown hnl
        go_wp2_with fail
        refine HT.out.mono ?_
        rintro e w2 (⟨_, t, ls, rfl, htr, hb2⟩ | ⟨hng, _⟩)
        · have hbb := hb.size
          have hu := unit_any wr.heap.size (fun _ => False) M t ns ls lists B q (fun b => b < w.heap.size) w2 htr (HL.out.below hb2 (fun b h => by omega)) (fun b h => .inl (by omega)) HG.out hr hls (by omega) hall
          go_wp2_with fail
          refine hu.mono ?_
          rintro e w3 ⟨rfl, _, hb3⟩
          have HB := Lib.hid (bthen hb (hb2.trans hb3.1))
          clear hu htr hb2 hb3
          go_wp2
          go_ret
          exact ⟨ret_bool (by rw [← HNS2.out]; simp), HB.out⟩
        · exact absurd HG.out hng
  · rw [Bool.not_eq_true] at h1
    rw [h1] at hclause ⊢
    have HC := Lib.hid hclause
    clear hclause h1
    go_enter Try.func42, Try.ntmps42
    go_wp2_with fail
    refine HC.out.mono ?_
    rintro e w' ⟨rfl, rfl⟩
    go_wp2
    go_ret
    exact ⟨ret_bool (by simp), Below.refl _ _⟩

theorem one_list {w : World} {F : Nat → Prop} {A : Option Addr} {p : Nat} {ls : List (List Int)} {t : TypeId} (h : Lay.int.slice.Sl w F A ls) (hF : ∀ b, F b → b < w.heap.size) (hp : ls.length ≤ p) :
    Lay.int.slice.slice.Sl (w.alloc (.cells #[.slice A ls.length p] t)) (fun b => b < (w.alloc (.cells #[.slice A ls.length p] t)).heap.size) (some ⟨w.heap.size, 0, none⟩) [ls] := by
  have hw : Below w.heap.size w (w.alloc (.cells #[.slice A ls.length p] t)) := (Below.refl _ _).alloc (Nat.le_refl _) _
  intro _
  refine ⟨⟨w.heap.size, 0, none⟩, rfl, by simp, fun k x hx => ?_⟩
  rcases k with _ | k
  · injection hx with hx
    subst hx
    refine ⟨[.slice A ls.length p], ⟨A, p, rfl, hp, (h.below hw hF).mono fun b hb => Nat.lt_of_lt_of_le (hF b hb) hw.size⟩, fun j u hu => ?_⟩
    rcases j with _ | j
    · injection hu with hu
      subst hu
      have := (cell_of_block (heap_alloc_new w (.cells #[.slice A ls.length p] t)) 0).1
      exact this.trans rfl
    · simp at hu
  · simp at hx
set_option maxHeartbeats 400000 in
theorem rupOkP_any (x : C) (cl : List Int) (A B : Option Addr) (p q : Nat) (F G : Nat → Prop) (w : World) (h : Lay.int.slice.Sl w F A x.list) (hF : ∀ b, F b → b < w.heap.size) (hp : x.list.length ≤ p) (hm : -9223372036854775808 ≤ x.many ∧ x.many ≤ 9223372036854775807) (hx : x.list.length ≤ 1048576)
    (hn : ∀ cl ∈ x.list, cl.length ≤ 1048576 ∧ i64s cl) (hc : Lay.int.Sl w G B cl) (hG : ∀ b, G b → b < w.heap.size) (hcn : cl.length ≤ 1048576) (hi : i64s cl) :
    Calls Try.prog 13 #[.agg #[.int .i64 x.many, .slice A x.list.length p], .slice B cl.length q] w (RetB w (rupOk x cl)) := by
  have hw : Below w.heap.size w (w.alloc (.cells #[.int .i64 x.many, .slice A x.list.length p] 28)) := (Below.refl _ _).alloc (Nat.le_refl _) _
  have hFW : ∀ b, F b → b < (w.alloc (.cells #[.int .i64 x.many, .slice A x.list.length p] 28)).heap.size := fun b h9 => Nat.lt_of_lt_of_le (hF b h9) hw.size
  have hGW : ∀ b, G b → b < (w.alloc (.cells #[.int .i64 x.many, .slice A x.list.length p] 28)).heap.size := fun b h9 => Nat.lt_of_lt_of_le (hG b h9) hw.size
  have K := h.below hw hF
  have KP := hc.below hw hG
  have v0 : (w.alloc (.cells #[.int .i64 x.many, .slice A x.list.length p] 28)).cell? ⟨w.heap.size, 0, none⟩ = some (.int .i64 x.many) := by simp [go_sem]
  have v1 : (w.alloc (.cells #[.int .i64 x.many, .slice A x.list.length p] 28)).cell? ⟨w.heap.size, 1, none⟩ = some (.slice A x.list.length p) := by simp [go_sem]
  have HE : Hid (rupOk x cl = (cnfOk x && (clOk x.many cl && (units x.many x.list (cl.map fun l => -l)).2))) := Lib.hid rfl
  generalize hW : w.alloc (.cells #[.int .i64 x.many, .slice A x.list.length p] 28) = W at *
  have HOK := Lib.hid (cnfOkP_any x A p F W K hFW hm (by omega) hn)
  by_cases h1 : cnfOk x = true
  · have hrng := cnfOk_rng h1
    have h19 := h1
    unfold cnfOk at h19
    simp only [Bool.and_eq_true, decide_eq_true_eq] at h19
    obtain ⟨⟨⟨m0, m1⟩, m2⟩, _⟩ := h19
    obtain ⟨M, hM⟩ : ∃ M : Nat, x.many = M := ⟨x.many.toNat, by omega⟩
    rw [h1] at HE HOK
    have HM := Lib.hid hM
    clear h1 hM
    go_enter Try.func13, Try.ntmps13
    go_wp2_with fail
    refine HOK.out.mono ?_
    rintro e w1 ⟨rfl, hb1⟩
    have v0 := (hb1.cell (World.block_lt_of_cell? W _ v0)).trans v0
    have v1 := (hb1.cell (World.block_lt_of_cell? W _ v1)).trans v1
    have K1 := K.below hb1 hFW
    have KP1 := KP.below hb1 hGW
    have hFw1 : ∀ b, F b → b < w1.heap.size := fun b h9 => Nat.lt_of_lt_of_le (hFW b h9) hb1.size
    have hGw1 : ∀ b, G b → b < w1.heap.size := fun b h9 => Nat.lt_of_lt_of_le (hGW b h9) hb1.size
    have hb2 : Below w1.heap.size w1 (w1.alloc (.cells #[.slice A x.list.length p] 22)) := (Below.refl _ _).alloc (Nat.le_refl _) _
    have hone := one_list (t := 22) K1 hFw1 hp
    have hrup := rup_any M cl [x.list] B (some ⟨w1.heap.size, 0, none⟩) q 1 G _ _ (KP1.below hb2 hGw1) (fun b h9 => Nat.lt_of_lt_of_le (hGw1 b h9) hb2.size) hcn hi hone (fun _ h9 => h9)
      (fun cls h9 => by rw [List.mem_singleton.1 h9]; exact ⟨hx, fun cl2 h8 => ⟨fun l h7 => by have := hrng cl2 h8 l h7; rw [HM.out] at this; exact this, (hn cl2 h8).1⟩⟩) (by simp) (by have := HM.out; omega) (by simp; omega)
    rw [← HM.out] at hrup
    simp only [List.flatten_cons, List.flatten_nil, List.append_nil, List.length_cons, List.length_nil, Nat.zero_add] at hrup
    have HR := Lib.hid hrup
    have HB := Lib.hid (hw.trans ((hb1.trans (hb2.mono hb1.size)).mono hw.size))
    clear hrup hone hb2 K1 KP1
    go_wp2_with fail
    refine HR.out.mono ?_
    rintro e w9 ⟨rfl, hb9⟩
    go_wp2
    go_ret
    exact ⟨ret_bool (by rw [HE.out]; simp), bthen HB.out hb9⟩
  · rw [Bool.not_eq_true] at h1
    rw [h1] at HE HOK
    clear h1
    go_enter Try.func13, Try.ntmps13
    go_wp2_with fail
    refine HOK.out.mono ?_
    rintro e w1 ⟨rfl, hb1⟩
    go_wp2
    go_ret
    exact ⟨ret_bool (by rw [HE.out]; simp), hw.trans (hb1.mono hw.size)⟩

end Go.Proofs.Ytndolbplkjhooaa
