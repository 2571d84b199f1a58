/- FnExactBlastIns: the program's BlastIns answers, for any declarations and any environment, what the reference's answers, in memory of its own. -/
import Derived.Test.YthcmflhhpgmfaaaDoorChecked
import Derived.Ground.NamesProg
import Derived.Shelf.Strings.SlTrimAscii
import Derived.Test.YthcmflhhpgmfaaaDoorProg
import Derived.Test.YthcmflhhpgmfaaaDoorRows
import Derived.Test.YthcmflhhpgmfaaaDoorTie
import Derived.Test.YthcmflhhpgmfaaaDoorCards
import Derived.ProofKit
import Derived.OpenShut
import Derived.LaidMore
import Derived.Lay
import Derived.LaidOnce
import Derived.SevenTiedAt
import Derived.Stop.Joined
import Derived.Test.YthcmflhhpgmfaaaDoorJExBlastIns0
/-! Own rows of truth values; append. -/
namespace Go.Proofs.YthcmflhhpgmfaaaDoor
open Go Go.RowKit

def OwnB (w : World) (lo : Nat) (v : Value) (bs : List Bool) : Prop := w.ownsRow lo 4 1 v bs.length (bs.map Value.bool)
theorem OwnB.rd {w : World} {lo c : Nat} {A : Option Addr} {bs : List Bool} (h : OwnB w lo (.slice A bs.length c) bs) : Lay.bool.Rd w A bs := (sl_bools_of_own h (fun g _ hg => hg)).1
theorem OwnB.up {w w' : World} {lo : Nat} {v : Value} {bs : List Bool} (h : OwnB w lo v bs) (hb : Below w.heap.size w w') : OwnB w' lo v bs := own_below h hb (Nat.le_refl _)
theorem OwnB.set {w : World} {lo g c k : Nat} {bs : List Bool} (h : OwnB w lo (.slice (some ⟨g, 0, none⟩) bs.length c) bs) (b : Bool) : OwnB (w.setCell ⟨g, k, none⟩ (.bool b)) lo (.slice (some ⟨g, 0, none⟩) bs.length c) (bs.set k b) := by
  have := (h.stored k (.bool b)).1
  unfold OwnB
  rw [List.length_set, List.map_set]
  exact this
theorem OwnB.cell {w : World} {lo g c k : Nat} {bs : List Bool} (h : OwnB w lo (.slice (some ⟨g, 0, none⟩) bs.length c) bs) (hk : k < bs.length) : w.cell? ⟨g, k, none⟩ = some (.bool bs[k]) ∧ w.frozen? ⟨g, k, none⟩ = false := by
  refine ⟨?_, h.frozenAt k⟩
  have hc := h.2
  rcases hc with ⟨e, _⟩ | ⟨g', cap, cur, e, _, _, h3, _⟩
  · cases e
  · have hx := h.cellAt k (by simp; omega)
    rw [hx, List.getElem?_map, List.getElem?_eq_getElem hk]; rfl
theorem OwnB.form {w : World} {lo : Nat} {v : Value} {bs : List Bool} (h : OwnB w lo v bs) : ∃ A c, v = .slice A bs.length c ∧ bs.length ≤ c := by
  rcases h.2 with ⟨h1, h2⟩ | ⟨g, cap, cur, h1, _, _, h3, _⟩
  · exact ⟨none, 0, by rw [h1, h2], by rw [h2]; exact Nat.le_refl _⟩
  · exact ⟨_, cap, h1, h3⟩
theorem OwnB.cap {w : World} {lo c n : Nat} {A : Option Addr} {bs : List Bool} (h : OwnB w lo (.slice A n c) bs) : n = bs.length ∧ bs.length ≤ c := by
  obtain ⟨A', c', e, hl⟩ := h.form
  injection e with e1 e2 e3
  exact ⟨e2, by omega⟩
/-- append of one truth value onto a row of the call's own. -/
theorem wpList_append_bool {Q : Exit → Act → World → Prop} {ops : Array Oper} {rest : List Oper} {o : Oper} {a : Act} {W : World} {lo : Nat} {A : Option Addr} {c : Nat} {xs ys : List Bool} {x : Bool} {e' : TypeId} (hgd : o.guard = none) (s y : Operand)
    (ho : o.op = .call { callee := .builtin .append, args := #[s, y], argTypes := #[23, 23] }) (hs : a.eval s = .slice A xs.length c) (hy : a.eval y = .slice (some ⟨W.heap.size, 0, none⟩) 1 1)
    (hown : OwnB W lo (.slice A xs.length c) xs) (hn : xs.length ≤ 3000000) (hlo : lo ≤ W.heap.size) (hys : ys = xs ++ [x])
    (h : ∀ A' c' w', OwnB w' lo (.slice A' ys.length c') ys → Below lo W w' → wpList Tryd.prog ops Q rest (a.put o.dst (.slice A' ys.length c')) w') :
    wpList Tryd.prog ops Q (o :: rest) a (W.alloc (.cells #[.bool x] e')) := by
  obtain ⟨i0, hi0, hz0, hz1, hz2⟩ := info_parts bool_info
  have hl : ys.length = xs.length + 1 := by rw [hys]; simp
  have hm : ys.map Value.bool = xs.map Value.bool ++ [.bool x] := by rw [hys]; simp
  refine wpList_append1 (P := Tryd.prog) hgd s y 23 ho lo 4 i0 _ 1 Tryd.underlying23 hi0 hz0 hz1 hz2 (by rfl) _ xs.length (xs.map Value.bool) (.bool x) e' hs hown hy (by rfl) (by unfold maxLen; omega) (by omega) hlo ?_
  intro v' w' ho' hb
  rw [← hl, ← hm] at ho'
  obtain ⟨A', c', rfl, _⟩ := OwnB.form (bs := ys) ho'
  exact h A' c' w' ho' hb
end Go.Proofs.YthcmflhhpgmfaaaDoor

/-! append of one integer onto a row of the call's own, and where the row lies then. -/
namespace Go.Proofs.YthcmflhhpgmfaaaDoor
open Go Go.RowKit

end Go.Proofs.YthcmflhhpgmfaaaDoor

/-! The reference's environments: EnvOk, l1Bit, BlastIns, l2Bool, BlastEnv. -/
namespace Go.Proofs.YthcmflhhpgmfaaaDoor
open Go Go.RowKit

theorem OwnB.own {w : World} {base c : Nat} {A : Option Addr} {xs : List Bool} (h : OwnB w base (.slice A xs.length c) xs) : Lay.bool.Sl w (Own base w) A xs := fun hn => by
  obtain ⟨h1, _, h3⟩ := sl_bools_of_own (F := fun b => base ≤ b ∧ b < w.heap.size) h (fun g a b => ⟨a, b⟩)
  obtain ⟨ad, e, hf, hc⟩ := h1 hn
  subst e
  refine ⟨ad, rfl, ⟨hf.1, hf.2, fun o => ?_⟩, hc⟩
  rcases h.2 with ⟨e, _⟩ | ⟨g, cap, cur, e, _, hg, _⟩
  · cases e
  · injection e with e1 e2 e3
    injection e1 with e1
    subst e1
    unfold World.frozen?
    rw [hg]
    simp
/-- A row of the call's own is an answer. -/
theorem OwnB.ret {w w' : World} {c : Nat} {A : Option Addr} {xs : List Bool} (h : OwnB w' w.heap.size (.slice A xs.length c) xs) (hb : Below w.heap.size w w') : RetO Lay.bool w xs (.returned (.slice A xs.length c)) w' :=
  ⟨A, c, rfl, (OwnB.cap h).2, h.own, hb⟩
theorem OwnI.ret {w w' : World} {c : Nat} {A : Option Addr} {xs : List Int} (h : OwnI w' w.heap.size (.slice A xs.length c) xs) (hb : Below w.heap.size w w') : RetO Lay.int w xs (.returned (.slice A xs.length c)) w' :=
  ⟨A, c, rfl, h.cap, h.own, hb⟩
set_option maxRecDepth 100000 in
set_option maxHeartbeats 4000000 in
theorem specEnvOk_any (A B : Option Addr) (c d : Nat) (xs : List D) (env : List Int) (F : Nat → Prop) (w : World) (h : Lay.decl.Sl w F A xs) (hF : ∀ b, F b → b < w.heap.size) (h' : Lay.int.Sl w F B env) (hn : xs.length ≤ 9223372036854775807) (hm : env.length ≤ 9223372036854775807) (ho : okNames xs) (hc : xs.length ≤ c) :
    Calls Tryd.prog 37 #[.slice A xs.length c, .slice B env.length d] w (RetB w (envOk xs env)) := by
  cases hd : declOk xs
  · have HD := Lib.hid (specDeclOk_any A c xs F w h hF hn ho hc)
    rw [hd] at HD
    have HE := Lib.hid (envOk_no1 (env := env) hd)
    clear hd
    go_enter Tryd.func37, Tryd.ntmps37
    go_wp2_with fail
    refine HD.out.mono ?_
    rintro e w1 ⟨rfl, hb⟩
    go_wp2
    go_ret
    exact ⟨ret_bool (by rw [HE.out]), hb⟩
  · have HD := Lib.hid (specDeclOk_any A c xs F w h hF hn ho hc)
    rw [hd] at HD
    obtain ⟨hl4, hw4, _⟩ := declOk_facts hd
    by_cases hl : env.length = xs.length
    · have HE := Lib.hid (envOk_go hd hl)
      have HL := Lib.hid hl
      have hbe : ((env.length : Int) != (xs.length : Int)) = false := by simp [hl]
      clear hd hl hw4
      go_enter Tryd.func37, Tryd.ntmps37
      go_wp2_with fail
      refine HD.out.mono ?_
      rintro e w1 ⟨rfl, hb1⟩
      go_wp2
      clear hbe
      go_loopw [5] (fun i wr => ∃ k : Nat, k ≤ xs.length ∧ i = .int .i64 k ∧ Below w.heap.size w wr ∧ Hid (envGo xs env = envGo (xs.drop k) (env.drop k))) (fun i _ => xs.length - (intOf i).toNat)
      case atStart => exact ⟨0, Nat.zero_le _, rfl, hb1, Lib.hid rfl⟩
      case round =>
        obtain ⟨k, hk, rfl, hb, HT⟩ := hrel
        by_cases hlt : k < xs.length
        · have hlt' : k < env.length := by have := HL.out; omega
          obtain ⟨ad, rfl, hf, c1, c2⟩ := (h.below hb hF).at_decl hlt
          obtain ⟨ad', rfl, hf', c3⟩ := (h'.below hb hF).at_int hlt'
          have d2 := Later.cell c2
          have d3 := Later.cell c3
          have hk1 : (k : Int) < xs.length := by omega
          have hk2 : (k : Int) < env.length := by omega
          have HS := Lib.hid (envGo_step xs env k hlt hlt')
          have HV := Lib.hid (fun z => specVecOk_any xs[k].wide env[k] z)
          clear h h'
          cases hv : vecB xs[k].wide env[k]
          · have HX : Hid (envOk xs env = false) := Lib.hid (by rw [HE.out, HT.out, HS.out, hv]; rfl)
            rw [hv] at HV
            clear hv
            go_wp2
            refine wp_region_later (by kernel_rfl) (by kernel_rfl) ?_
            repeat (go_big_quiet_step ((go_at_call 54; exact later_of_below (HV.out _))))
            refine wpQuiet_nil ?_
            rintro _ ⟨x9, rfl⟩
            go_wp2
            go_ret
            exact ⟨ret_bool (by rw [HX.out]), bthen hb x9.le⟩
          · have HX : Hid (envGo xs env = envGo (xs.drop (k + 1)) (env.drop (k + 1))) := Lib.hid (by rw [HT.out, HS.out, hv]; rfl)
            rw [hv] at HV
            clear hv
            go_wp2
            refine wp_region_later (by kernel_rfl) (by kernel_rfl) ?_
            repeat (go_big_quiet_step ((go_at_call 54; exact later_of_below (HV.out _))))
            refine wpQuiet_nil ?_
            rintro _ ⟨x9, rfl⟩
            go_wp2
            go_roundw
            case rel => exact ⟨k + 1, by omega, by go_num, bthen hb x9.le, HX⟩
            case measure => simp [intOf]; omega
        · have HX : Hid (envOk xs env = true) := Lib.hid (by rw [HE.out, HT.out, List.drop_of_length_le (by omega)]; rfl)
          have hke : k = xs.length := by omega
          subst hke
          go_wp2
          go_ret
          exact ⟨ret_bool (by rw [HX.out]), hb⟩
    · have HE := Lib.hid (envOk_no2 (ds := xs) hl)
      have hbe : ((env.length : Int) != (xs.length : Int)) = true := by simp; omega
      clear hd hl hw4
      go_enter Tryd.func37, Tryd.ntmps37
      go_wp2_with fail
      refine HD.out.mono ?_
      rintro e w1 ⟨rfl, hb1⟩
      go_wp2
      go_ret
      exact ⟨ret_bool (by rw [HE.out]), hb1⟩
/-- A bit as a number. -/
def bitI (n : Int) (j : Nat) : Int := n / ((2 ^ j : Nat) : Int) % 2
theorem bitI_one {n : Int} {j : Nat} (h0 : 0 ≤ n) : (bitI n j == 1) = n.toNat.testBit j := by
  obtain ⟨m, rfl⟩ := Int.eq_ofNat_of_zero_le h0
  unfold bitI
  have e : ((m : Int) / ((2 ^ j : Nat) : Int)) % 2 = ((m / 2 ^ j % 2 : Nat) : Int) := by simp
  rw [e, Int.toNat_natCast, Nat.testBit_eq_decide_div_mod_eq, Bool.eq_iff_iff, beq_iff_eq, decide_eq_true_eq]
  omega
set_option maxHeartbeats 1000000 in
theorem l1Bit_v (n : Int) (i : Nat) (w : World) (hi : i ≤ 16) (h0 : 0 ≤ n) (h1 : n < 16) : Calls Tryd.prog 38 #[.int .i64 n, .int .i64 (i : Int)] w fun e w' => e = .returned (.int .i64 (bitI n i)) ∧ w = w' := by
  unfold bitI
  obtain ⟨T, hT⟩ : ∃ T : Nat, T = 2 ^ i := ⟨_, rfl⟩
  have hT0 : 0 < T := by rw [hT]; exact Nat.two_pow_pos i
  have hT1 : T ≤ 65536 := by rw [hT]; exact (Nat.pow_le_pow_right (by omega) hi : 2 ^ i ≤ 2 ^ 16)
  have HTWO := Lib.hid (l1Two_q i w hi)
  rw [← hT] at HTWO ⊢
  clear hT
  have hz : ((T : Int) == 0) = false := by simpa using (by omega : ¬ T = 0)
  have hq0 : 0 ≤ n / (T : Int) := Int.ediv_nonneg h0 (by omega)
  go_enter Tryd.func38, Tryd.ntmps38
  go_wp2_with fail
  refine HTWO.out.mono ?_
  rintro e w9 ⟨rfl, rfl⟩
  go_wp2
  go_ret
  exact ⟨rfl, rfl⟩
set_option maxRecDepth 100000 in
set_option maxHeartbeats 4000000 in
theorem specBlastIns_any (A B : Option Addr) (c d : Nat) (xs : List D) (env : List Int) (w : World) (h : Lay.decl.Rd w A xs) (h' : Lay.int.Rd w B env) (hn : xs.length ≤ 9223372036854775807) (hm : env.length ≤ 9223372036854775807) (ho : okNames xs) (hc : xs.length ≤ c) :
    Calls Tryd.prog 18 #[.slice A xs.length c, .slice B env.length d] w (RetO Lay.bool w (blastIns xs env)) := by
  have hal : Below w.heap.size w (w.alloc (.cells #[] 4)) := (Below.refl _ _).alloc (Nat.le_refl _) _
  have hol : OwnB (w.alloc (.cells #[] 4)) w.heap.size (.slice (some ⟨w.heap.size, 0, none⟩) ([] : List Bool).length 0) [] := own_lit0 rfl
  have HD := Lib.hid (specEnvOk_any A B c d xs env _ _ (h.up hal) (fun _ hb => hb) (h'.up hal) hn hm ho hc)
  have HAL := Lib.hid hal
  have HOL := Lib.hid hol
  clear hal hol
  go_enter Tryd.func18, Tryd.ntmps18
  go_wp2_with fail
  refine HD.out.mono ?_
  cases hd : envOk xs env
  · have HE : Hid (blastIns xs env = []) := Lib.hid (by unfold blastIns; rw [hd]; rfl)
    clear hd
    rintro e w1 ⟨rfl, hb⟩
    have HB := Lib.hid (bthen HAL.out hb)
    have HO := Lib.hid (HOL.out.up hb)
    clear hb
    go_wp2
    go_ret
    rw [HE.out]
    exact HO.out.ret HB.out
  · obtain ⟨hd1, hl, hgo⟩ := envOk_facts hd
    obtain ⟨hl4, hw4, _⟩ := declOk_facts hd1
    have HE : Hid (blastIns xs env = insGo xs env) := Lib.hid (by unfold blastIns; rw [hd]; rfl)
    have HW := Lib.hid hw4
    have HL := Lib.hid hl
    have HGO := Lib.hid hgo
    clear hd hl hgo hd1 hw4
    rintro e w1 ⟨rfl, hb⟩
    have HB := Lib.hid (bthen HAL.out hb)
    have HO := Lib.hid (HOL.out.up hb)
    clear hb
    go_wp2
    go_loopw [5, 6] (fun s i wr => ∃ (k : Nat) (bs : List Bool) (A8 : Option Addr) (c8 : Nat), k ≤ xs.length ∧ i = .int .i64 k ∧ s = .slice A8 bs.length c8 ∧ bs.length ≤ 4 * k ∧ OwnB wr w.heap.size (.slice A8 bs.length c8) bs ∧ Below w.heap.size w wr ∧ Hid (insGo xs env = bs ++ insGo (xs.drop k) (env.drop k))) (fun _ i _ => xs.length - (intOf i).toNat)
    case atStart => exact ⟨0, [], _, _, Nat.zero_le _, rfl, rfl, by simp, HO.out, HB.out, Lib.hid rfl⟩
    case round =>
      obtain ⟨k, bs, A8, c8, hk, rfl, rfl, hbl, hown, hb, HT⟩ := hrel
      obtain ⟨wo, hwo⟩ : ∃ wo, wo = wr := ⟨_, rfl⟩
      subst hwo
      by_cases hlt : k < xs.length
      · have hlt' : k < env.length := by have := HL.out; omega
        obtain ⟨ad, rfl, hf, c1, c2⟩ := (h.up hb).at_decl hlt
        obtain ⟨ad', hAd, hf', c3⟩ := h'.at_int hlt'
        subst hAd
        have hk1 : (k : Int) < xs.length := by omega
        have hk2 : (k : Int) < env.length := by omega
        obtain ⟨W, hW⟩ : ∃ W : Nat, xs[k].wide = (W : Int) := ⟨xs[k].wide.toNat, by have := (HW.out _ (List.getElem_mem hlt)).2.1; omega⟩
        have hW4 : 1 ≤ W ∧ W ≤ 4 := by have := (HW.out _ (List.getElem_mem hlt)).2; omega
        obtain ⟨hW1, hW4⟩ := hW4
        have hvb := vecB_bounds (envGo_at HGO.out k hlt hlt')
        obtain ⟨_, _, hn0, hn1⟩ := hvb
        have HS := Lib.hid (insGo_step xs env k hlt hlt')
        obtain ⟨n, hn9⟩ : ∃ n, n = env[k] := ⟨_, rfl⟩
        rw [← hn9] at hn0 hn1 c3 HS
        rw [hW] at c2
        rw [hW, Int.toNat_natCast] at HS
        have HT2 : Hid (insGo xs env = bs ++ (downB n W ++ insGo (xs.drop (k + 1)) (env.drop (k + 1)))) := Lib.hid (by rw [HT.out, HS.out])
        clear hn9 hW HT HS HO HOL
        go_wp2
        go_loopw [5, 7] (fun s i wr => ∃ (m : Nat) (ps : List Bool) (A8 : Option Addr) (c8 : Nat), m ≤ W ∧ i = .int .i64 ((m : Int) - 1) ∧ s = .slice A8 ps.length c8 ∧ ps.length + m ≤ 4 * (k + 1) ∧ OwnB wr w.heap.size (.slice A8 ps.length c8) ps ∧ Below w.heap.size w wr ∧ Hid (insGo xs env = ps ++ (downB n m ++ insGo (xs.drop (k + 1)) (env.drop (k + 1))))) (fun _ i _ => (intOf i + 1).toNat)
        case atStart => exact ⟨W, bs, _, _, Nat.le_refl _, rfl, rfl, by omega, hown, hb, HT2⟩
        case round =>
          obtain ⟨m, ps, A9, c9, hm, rfl, rfl, hpl, hown, hb, HT⟩ := hrel
          rcases m with _ | m
          · go_wp2
            go_roundw
            case rel => exact ⟨k + 1, ps, A9, c9, by omega, by go_num, rfl, by omega, hown, hb, Lib.hid (by rw [HT.out]; rfl)⟩
            case measure => simp [intOf]; omega
          · have e1 : (((m + 1 : Nat) : Int) - 1) = (m : Int) := by omega
            rw [e1]
            have c3 := (hb.cell (World.block_lt_of_cell? w _ c3)).trans c3
            obtain ⟨qs, hqs⟩ : ∃ qs, qs = ps ++ [n.toNat.testBit m] := ⟨_, rfl⟩
            have HQS := Lib.hid (show qs = ps ++ [(bitI n m == 1)] by rw [hqs, bitI_one hn0])
            have HQL : Hid (qs.length = ps.length + 1) := Lib.hid (by rw [hqs]; simp)
            have HT2 : Hid (insGo xs env = qs ++ (downB n m ++ insGo (xs.drop (k + 1)) (env.drop (k + 1)))) := Lib.hid (by rw [HT.out, hqs]; simp [downB])
            have hps20 : ps.length ≤ 100 := by omega
            have hsz := hb.size
            clear hqs HT e1
            go_wp2_with fail
            refine (l1Bit_v n m _ (by omega) hn0 hn1).mono ?_
            rintro e w9 ⟨rfl, rfl⟩
            obtain ⟨z, hz⟩ : ∃ z, z = bitI n m := ⟨_, rfl⟩
            rw [← hz] at HQS ⊢
            clear hz
            go_wp2_with (at_builtin; refine wpList_append_bool (ys := qs) (by rfl) (.tmp 30) (.tmp 38) (by rfl) (by rfl) (by rfl) hown (by omega) hsz HQS.out ?_; intro A7 c7 w7 hown7 hb7)
            have hbq := hb.trans hb7
            go_roundw
            case rel => exact ⟨m, qs, A7, c7, by omega, by go_num, rfl, by rw [HQL.out]; omega, hown7, hbq, HT2⟩
            case measure => simp [intOf]
      · have hke : k = xs.length := by omega
        subst hke
        have HX : Hid (blastIns xs env = bs) := Lib.hid (by rw [HE.out, HT.out, List.drop_length]; simp [insGo])
        go_wp2
        go_ret
        rw [HX.out]
        exact hown.ret hb
end Go.Proofs.YthcmflhhpgmfaaaDoor

/-! Declarations as arguments: sizes, copies, comparisons, marks. -/
namespace Go.Proofs.YthcmflhhpgmfaaaDoor
open Go Go.RowKit Go.ChangeShapes Go.WideShapes Go.ChangeAt Go.Deep

theorem opens_decls : Opens Tryd.prog 22 Lay.decl.slice (fun xs => xs.length ≤ maxLen ∧ ∀ x ∈ xs, okDecl x) :=
  Opens.slice Tryd.underlying22 (by kernel_rfl) (by decide) (Opens.decl Tryd.underlying49 (by kernel_rfl) Tryd.underlying3 (by kernel_rfl) Tryd.underlying9 (by kernel_rfl) rfl)
def wtD (xs : List D) : Nat := xs.length + wsum D.w xs
def okDs (xs : List D) : Prop := xs.length ≤ maxLen ∧ ∀ x ∈ xs, okDecl x
/-- Small enough for every count. -/
def smDecls (xs : List D) : Prop := xs.length ≤ 1048576 ∧ okNames xs ∧ ∀ d ∈ xs, okInt d.wide
theorem smDecls_of {xs : List D} (h : okDs xs) (hw : wtD xs ≤ 1048576) : smDecls xs := by
  unfold wtD at hw
  exact ⟨by omega, fun d hd => by have := (h.2 d hd).1; unfold maxLen at this; omega, fun d hd => (h.2 d hd).2⟩
theorem szDecls_u (xs : List D) (A : Option Addr) (c : Nat) (left : Int) (w : World) (h : Lay.decl.Rd w A xs) (ok : okDs xs) (h0 : 0 ≤ left) (h1 : left ≤ 1048576) :
    Calls Tryd.prog 6 #[.slice A xs.length c, .int .i64 left] w (RetZ (szRes left (wtD xs)) w) :=
  szDeclS_any A c xs left _ w h (fun _ h => h) (fun d hd => by have := (ok.2 d hd).1; unfold maxLen at this; omega) (by have := ok.1; unfold maxLen at this; omega) h0 h1
theorem toDecls_u (xs : List D) (A : Option Addr) (c : Nat) (w : World) (h : Lay.decl.Rd w A xs) (hs : smDecls xs) :
    Calls Tryd.prog 8 #[.slice A xs.length c] w (RetO Lay.decl w xs) := toDeclS_any A c xs _ w h (fun _ h => h) hs.1
theorem eqDecls_u (xs : List D) (A B : Option Addr) (c d : Nat) (w : World) (h : Lay.decl.Rd w A xs) (h' : Lay.decl.Rd w B xs) (hs : xs.length ≤ 1048576) :
    Calls Tryd.prog 12 #[.slice A xs.length c, .slice B xs.length d] w (RetB w true) := by
  have := eqDeclS_any A B c d xs xs _ _ w h h' (fun _ h => h) (fun _ h => h) hs hs
  rw [allSame_self D.same_self] at this
  exact this
/-- n declarations lie there, and may be written. -/
def DeclsAt (w : World) (F : Nat → Prop) (A : Option Addr) (n : Nat) : Prop :=
  0 < n → ∃ ad, A = some ad ∧ F ad.block ∧ ∀ k, k < n → (∃ s, w.cell? (ad.add (k * 2)) = some (.string s)) ∧ (∃ z, w.cell? (ad.add (k * 2 + 1)) = some (.int .i64 z)) ∧ w.frozen? (ad.add (k * 2)) = false ∧ w.frozen? (ad.add (k * 2 + 1)) = false
theorem DeclsAt.dab {w w' : World} {F G : Nat → Prop} {A : Option Addr} {n : Nat} (h : DeclsAt w F A n) (hd : Dab G w w') : DeclsAt w' F A n := fun hn => by
  obtain ⟨ad, e, hf, hc⟩ := h hn
  refine ⟨ad, e, hf, fun k hk => ?_⟩
  obtain ⟨⟨s, hs⟩, ⟨z, hz⟩, f0, f1⟩ := hc k hk
  obtain ⟨v, hv, hk'⟩ := hd.kin _ _ hs
  obtain ⟨b, rfl⟩ := hk'.ofStr
  obtain ⟨v, hv2, hk'⟩ := hd.kin _ _ hz
  obtain ⟨b2, rfl⟩ := hk'.ofInt
  exact ⟨⟨b, hv⟩, ⟨b2, hv2⟩, (hd.frz _ (World.block_lt_of_cell? w _ hs)).trans f0, (hd.frz _ (World.block_lt_of_cell? w _ hz)).trans f1⟩
theorem DeclsAt.of {w : World} {F G : Nat → Prop} {A : Option Addr} {xs : List D} (h : Lay.decl.Sl w F A xs) (hF : ∀ b, F b → G b ∧ ∀ o, w.frozen? ⟨b, o, none⟩ = false) : DeclsAt w G A xs.length := fun hn => by
  obtain ⟨ad, e, hf, hc⟩ := h hn
  have hfz : ∀ j, w.frozen? (ad.add j) = false := fun j => by
    have := (hF _ hf).2 (ad.add j).off
    rw [← this]
    unfold World.frozen?
    rw [block_of_add]
  refine ⟨ad, e, (hF _ hf).1, fun k hk => ?_⟩
  obtain ⟨vs, rfl, hcell⟩ := hc k xs[k] (List.getElem?_eq_getElem hk)
  exact ⟨⟨xs[k].name, by simpa [Lay.decl, Lay.flat] using hcell 0 _ rfl⟩, ⟨xs[k].wide, by simpa [Lay.decl, Lay.flat] using hcell 1 _ rfl⟩, hfz _, hfz _⟩
/-- Marked declarations. -/
def upD (n : Nat) (k0 : Int) : List D := (List.range n).map fun i : Nat => ⟨markT (k0 + 2 * (i : Int)), k0 + 2 * (i : Int) + 1⟩
theorem upD_len (n : Nat) (k0 : Int) : (upD n k0).length = n := by simp [upD]
theorem upD_get (n : Nat) (k0 : Int) (i : Nat) (h : i < (upD n k0).length) : (upD n k0)[i] = ⟨markT (k0 + 2 * (i : Int)), k0 + 2 * (i : Int) + 1⟩ := by simp [upD]
theorem ad_two (ad : Addr) (k : Nat) : (⟨(ad.add (k * 2)).block, (ad.add (k * 2)).off + 1, none⟩ : Addr) = ad.add (k * 2 + 1) := by
  rw [← add_of_add]
  show _ = (if (1 : Nat) = 0 then _ else _)
  rw [if_neg (by omega)]
def RetMkD (F : Nat → Prop) (A : Option Addr) (n : Nat) (k0 : Int) (w : World) (e : Ending) (w' : World) : Prop := e = .returned (.int .i64 (k0 + 2 * n)) ∧ Dab F w w' ∧ Lay.decl.Sl w' F A (upD n k0)
set_option maxRecDepth 100000 in
set_option maxHeartbeats 2000000 in
theorem markDeclS_sl (A : Option Addr) (c : Nat) (xs : List D) (k0 : Int) (F : Nat → Prop) (w : World) (h : Lay.decl.Sl w F A xs) (hfz : ∀ b, F b → ∀ o, w.frozen? ⟨b, o, none⟩ = false) (hn : xs.length ≤ 1048576) (h0 : 1 ≤ k0) (h1 : k0 ≤ 1000000000) :
    Calls Tryd.prog 14 #[.slice A xs.length c, .int .i64 k0] w (RetMkD F A xs.length k0 w) := by
  have H := Lib.hid (DeclsAt.of (G := F) h fun b hb => ⟨hb, hfz b hb⟩)
  clear h hfz
  generalize xs.length = n at *
  go_enter Tryd.func14, Tryd.ntmps14
  go_wp2
  go_loopw [1, 5] (fun kk i wr => ∃ (j : Nat) (T : Int), j ≤ n ∧ i = .int .i64 j ∧ kk = .int .i64 T ∧ Hid (T = k0 + 2 * (j : Int)) ∧ 1 ≤ T ∧ T ≤ 1000000000 + 2 * j ∧ Dab F w wr ∧ Hid (∀ ad, A = some ad → ∀ i, i < j → wr.cell? (ad.add (i * 2)) = some (.string (markT (k0 + 2 * (i : Int)))) ∧ wr.cell? (ad.add (i * 2 + 1)) = some (.int .i64 (k0 + 2 * (i : Int) + 1)))) (fun _ i _ => n - (intOf i).toNat)
  case atStart => exact ⟨0, k0, Nat.zero_le _, rfl, rfl, Lib.hid (by simp), h0, by omega, Dab.refl _ _, Lib.hid fun _ _ i hi => absurd hi (by omega)⟩
  case round =>
    obtain ⟨j, T, hj, rfl, rfl, HTT, T0, T1, hd, HS⟩ := hrel
    have HD := Lib.hid hd
    clear hd
    by_cases hlt : j < n
    · obtain ⟨ad, hA, hf, hc⟩ := H.out.dab HD.out (by omega)
      have HSA := Lib.hid (HS.out ad hA)
      subst hA
      obtain ⟨⟨s9, hs9⟩, ⟨z9, hz9⟩, f0, f1⟩ := hc j hlt
      have hj2 : (j : Int) < n := by omega
      have HF := Lib.hid hf
      have HC0 := Lib.hid hs9
      have HC1 := Lib.hid hz9
      clear hc hf
      go_wp2_with fail
      refine (markText_any T wr T0 (by omega)).mono ?_
      rintro e w2 ⟨rfl, hb2⟩
      have e0 := (hb2.cell (World.block_lt_of_cell? wr _ HC0.out)).trans HC0.out
      have e1 := (hb2.cell (World.block_lt_of_cell? wr _ HC1.out)).trans HC1.out
      have g0 := (hb2.frozen (World.block_lt_of_cell? wr _ HC0.out)).trans f0
      have g1 := (hb2.frozen (World.block_lt_of_cell? wr _ HC1.out)).trans f1
      obtain ⟨t9, ht9⟩ : ∃ t9, t9 = markT T := ⟨_, rfl⟩
      have HT9 := Lib.hid ht9
      rw [← ht9]
      have hne : ad.add (j * 2) ≠ ad.add (j * 2 + 1) := add_ne (by omega)
      have d1 : (w2.setCell (ad.add (j * 2)) (.string t9)).cell? (ad.add (j * 2 + 1)) = some (.int .i64 z9) := (World.cell?_setCell_other _ _ _ _ hne).trans e1
      have k1 : (w2.setCell (ad.add (j * 2)) (.string t9)).frozen? (ad.add (j * 2 + 1)) = false := (World.frozen?_setCell _ _ _ _).trans g1
      have HDD : Hid (Dab F w ((w2.setCell (ad.add (j * 2)) (.string t9)).setCell (ad.add (j * 2 + 1)) (.int .i64 (T + 1)))) := Lib.hid
        (((HD.out.trans (Dab.of hb2)).trans (Dab.set (by rw [block_of_add]; exact HF.out) e0 (.str _ _))).trans (Dab.set (by rw [block_of_add]; exact HF.out) d1 (.int _ _)))
      have HST : Hid (∀ i, i < j + 1 → ((w2.setCell (ad.add (j * 2)) (.string t9)).setCell (ad.add (j * 2 + 1)) (.int .i64 (T + 1))).cell? (ad.add (i * 2)) = some (.string (markT (k0 + 2 * (i : Int)))) ∧
          ((w2.setCell (ad.add (j * 2)) (.string t9)).setCell (ad.add (j * 2 + 1)) (.int .i64 (T + 1))).cell? (ad.add (i * 2 + 1)) = some (.int .i64 (k0 + 2 * (i : Int) + 1))) := Lib.hid fun i hi => by
        by_cases e : i = j
        · subst e
          exact ⟨(World.cell?_setCell_other _ _ _ _ hne.symm).trans ((World.cell?_setCell_same _ _ _ e0).trans (by rw [HT9.out, HTT.out])), (World.cell?_setCell_same _ _ _ d1).trans (by rw [HTT.out])⟩
        · obtain ⟨q0, q1⟩ := HSA.out i (by omega)
          have q0 := (hb2.cell (World.block_lt_of_cell? wr _ q0)).trans q0
          have q1 := (hb2.cell (World.block_lt_of_cell? wr _ q1)).trans q1
          exact ⟨(World.cell?_setCell_other _ _ _ _ (add_ne (by omega))).trans ((World.cell?_setCell_other _ _ _ _ (add_ne (by omega))).trans q0), (World.cell?_setCell_other _ _ _ _ (add_ne (by omega))).trans ((World.cell?_setCell_other _ _ _ _ (add_ne (by omega))).trans q1)⟩
      rw [← ad_two] at d1 k1 HDD HST
      clear ht9 hne e1 g1 hb2 hs9 hz9 f0 f1
      go_wp2
      go_roundw
      case rel => exact ⟨j + 1, T + 1 + 1, by omega, by go_num, by go_num, Lib.hid (by have := HTT.out; push_cast; omega), by omega, by omega, HDD.out, Lib.hid fun ad' e i hi => by injection e with e; subst e; exact HST.out i hi⟩
      case measure => simp [intOf]; omega
    · have : j = n := by omega
      subst this
      go_wp2
      go_ret
      refine ⟨ret_int HTT.out, HD.out, fun hpos => ?_⟩
      rw [upD_len] at hpos
      obtain ⟨ad, hA, hf, _⟩ := H.out.dab HD.out hpos
      refine ⟨ad, hA, hf, fun k x hx => ?_⟩
      have hk : k < (upD j k0).length := (List.getElem?_eq_some_iff.1 hx).1
      rw [List.getElem?_eq_getElem hk, upD_get] at hx
      injection hx with hx
      subst hx
      rw [upD_len] at hk
      obtain ⟨q0, q1⟩ := HS.out ad hA k hk
      refine ⟨[.string (markT (k0 + 2 * (k : Int))), .int .i64 (k0 + 2 * (k : Int) + 1)], rfl, fun i u hu => ?_⟩
      rcases i with _ | _ | i
      · injection hu with hu
        subst hu
        exact q0
      · injection hu with hu
        subst hu
        exact q1
      · simp at hu
def MkDs (A : Option Addr) (n lo hi : Nat) (k0 : Int) (w : World) (e : Ending) (w' : World) : Prop := e = .returned (.int .i64 (k0 + (2 * n : Nat))) ∧ Dab (Rng lo hi) w w' ∧ Lay.decl.Sl w' (Cp lo hi w') A (upD n k0)
theorem markDecls_u (xs : List D) (A : Option Addr) (c lo hi : Nat) (k0 : Int) (w : World) (h : Lay.decl.Sl w (Cp lo hi w) A xs) (hs : xs.length ≤ 1048576) (h0 : 1 ≤ k0) (h1 : k0 ≤ 500000000) :
    Calls Tryd.prog 14 #[.slice A xs.length c, .int .i64 k0] w (MkDs A xs.length lo hi k0 w) :=
  (markDeclS_sl A c xs k0 _ w h (fun _ h => h.2.2.2) hs h0 (by omega)).mono fun _ _ ⟨h, h', h2⟩ => ⟨h.trans (ret_int (by push_cast; rfl)), h'.rng, h2.cp_mk h'⟩
end Go.Proofs.YthcmflhhpgmfaaaDoor

/-! strings.Trim at the letters a to z, out of the kit's shelf of library contracts (laid by the kit's lay-plain tool). -/
namespace Go.Proofs.YthcmflhhpgmfaaaDoor
open Go Go.RowKit Go.Shelf

def lays160_ren : Go.Shelf.Ren := ⟨fun | 160 => 51 | 232 => 60 | 231 => 59 | 227 => 61 | 234 => 63 | 233 => 62 | 236 => 65 | 235 => 64 | 228 => 67 | 271 => 70 | 151 => 69 | 197 => 68 | 120 => 73 | 152 => 72 | 260 => 71 | 137 => 74 | 119 => 75 | 224 => 76 | 225 => 77 | 217 => 78 | 266 => 79 | n => n, fun | 9 => 9 | 4 => 4 | 3 => 3 | 5 => 5 | 117 => 84 | 116 => 83 | 0 => 0 | 124 => 87 | 21 => 21 | 105 => 90 | 46 => 95 | 119 => 94 | 139 => 98 | 138 => 97 | n => n, fun | 3 => 0 | 4 => 1 | n => n⟩
theorem lays160 : Go.Proofs.Lays.n160 Tryd.prog lays160_ren := {
  mixed := by kernel_rfl
  f119 := Tryd.func75.trans (congrArg some (by kernel_rfl))
  f120 := Tryd.func73.trans (congrArg some (by kernel_rfl))
  f137 := Tryd.func74.trans (congrArg some (by kernel_rfl))
  f151 := Tryd.func69.trans (congrArg some (by kernel_rfl))
  f152 := Tryd.func72.trans (congrArg some (by kernel_rfl))
  f160 := Tryd.func51.trans (congrArg some (by kernel_rfl))
  f197 := Tryd.func68.trans (congrArg some (by kernel_rfl))
  f217 := Tryd.func78.trans (congrArg some (by kernel_rfl))
  f224 := Tryd.func76.trans (congrArg some (by kernel_rfl))
  f225 := Tryd.func77.trans (congrArg some (by kernel_rfl))
  f227 := Tryd.func61.trans (congrArg some (by kernel_rfl))
  f228 := Tryd.func67.trans (congrArg some (by kernel_rfl))
  f231 := Tryd.func59.trans (congrArg some (by kernel_rfl))
  f232 := Tryd.func60.trans (congrArg some (by kernel_rfl))
  f233 := Tryd.func62.trans (congrArg some (by kernel_rfl))
  f234 := Tryd.func63.trans (congrArg some (by kernel_rfl))
  f235 := Tryd.func64.trans (congrArg some (by kernel_rfl))
  f236 := Tryd.func65.trans (congrArg some (by kernel_rfl))
  f260 := Tryd.func71.trans (congrArg some (by kernel_rfl))
  f266 := Tryd.func79.trans (congrArg some (by kernel_rfl))
  f271 := Tryd.func70.trans (congrArg some (by kernel_rfl))
  t0 := Tryd.underlying0
  a0 := Tryd.isAgg0
  z0 := Tryd.sizeOf0
  v0 := Tryd.zeroValue0
  t3 := Tryd.underlying3
  a3 := Tryd.isAgg3
  z3 := Tryd.sizeOf3
  v3 := Tryd.zeroValue3
  t4 := Tryd.underlying4
  a4 := Tryd.isAgg4
  z4 := Tryd.sizeOf4
  v4 := Tryd.zeroValue4
  t5 := Tryd.underlying5
  a5 := Tryd.isAgg5
  z5 := Tryd.sizeOf5
  v5 := Tryd.zeroValue5
  t9 := Tryd.underlying9
  a9 := Tryd.isAgg9
  z9 := Tryd.sizeOf9
  v9 := Tryd.zeroValue9
  t21 := Tryd.underlying21
  a21 := Tryd.isAgg21
  z21 := Tryd.sizeOf21
  v21 := Tryd.zeroValue21
  t46 := Tryd.underlying95
  a46 := Tryd.isAgg95
  z46 := Tryd.sizeOf95
  v46 := Tryd.zeroValue95
  t105 := Tryd.underlying90
  a105 := Tryd.isAgg90
  z105 := Tryd.sizeOf90
  v105 := Tryd.zeroValue90
  t116 := Tryd.underlying83
  a116 := Tryd.isAgg83
  z116 := Tryd.sizeOf83
  t117 := Tryd.underlying84
  a117 := Tryd.isAgg84
  z117 := Tryd.sizeOf84
  v117 := Tryd.zeroValue84
  t119 := Tryd.underlying94
  a119 := Tryd.isAgg94
  z119 := Tryd.sizeOf94
  t124 := Tryd.underlying87
  a124 := Tryd.isAgg87
  z124 := Tryd.sizeOf87
  v124 := Tryd.zeroValue87
  t138 := Tryd.underlying97
  a138 := Tryd.isAgg97
  z138 := Tryd.sizeOf97
  v138 := Tryd.zeroValue97
  t139 := Tryd.underlying98
  a139 := Tryd.isAgg98
  z139 := Tryd.sizeOf98
  v139 := Tryd.zeroValue98
  g3 := by kernel_rfl
  g4 := by kernel_rfl }

theorem dropWhile_all {α : Type} {p : α → Bool} : ∀ {l : List α}, (∀ x ∈ l.dropWhile p, p x = true) → l.dropWhile p = []
  | [], _ => rfl
  | x :: xs, h => by
    cases hx : p x
    · rw [List.dropWhile_cons_of_neg (by simp [hx])] at h
      exact absurd (h x (List.mem_cons_self ..)) (by simp [hx])
    · rw [List.dropWhile_cons_of_pos hx] at h ⊢
      exact dropWhile_all h
theorem dropWhile_nil {α : Type} {p : α → Bool} : ∀ {l : List α}, l.dropWhile p = [] → ∀ x ∈ l, p x = true
  | [], _, x, hx => by cases hx
  | y :: ys, h, x, hx => by
    cases hy : p y
    · rw [List.dropWhile_cons_of_neg (by simp [hy])] at h; cases h
    · rw [List.dropWhile_cons_of_pos hy] at h
      rcases List.mem_cons.1 hx with rfl | hx
      · exact hy
      · exact dropWhile_nil h x hx
theorem dropWhile_of {α : Type} {p : α → Bool} : ∀ {l : List α}, (∀ x ∈ l, p x = true) → l.dropWhile p = []
  | [], _ => rfl
  | x :: xs, h => by
    rw [List.dropWhile_cons_of_pos (h x (List.mem_cons_self ..))]
    exact dropWhile_of fun y hy => h y (List.mem_cons_of_mem _ hy)
theorem trimS_nil (l cs : List UInt8) : (Lib.trimS l cs).isEmpty = l.all (cs.contains ·) := by
  rw [Bool.eq_iff_iff, List.isEmpty_iff, List.all_eq_true]
  unfold Lib.trimS Lib.trimLeftS Lib.trimRightS
  constructor
  · intro h x hx
    have h1 : l.reverse.dropWhile (cs.contains ·) = [] := dropWhile_all fun y hy => dropWhile_nil h y (by simpa using hy)
    exact dropWhile_nil h1 x (by simpa using hx)
  · intro h
    rw [dropWhile_of (l := l.reverse) fun x hx => h x (by simpa using hx)]
    rfl
def azL : List UInt8 := [97, 98, 99, 100, 101, 102, 103, 104, 105, 106, 107, 108, 109, 110, 111, 112, 113, 114, 115, 116, 117, 118, 119, 120, 121, 122]
theorem az_letter (c : UInt8) : azL.contains c = letter c := by
  have h : ∀ n : Fin 256, azL.contains (UInt8.ofNat n.val) = letter (UInt8.ofNat n.val) := by decide +kernel
  have := h ⟨c.toNat, c.toNat_lt⟩
  simpa using this
/-- Trim at the letters: what is left is empty just if all are letters. -/
theorem trimAz_any (s : ByteArray) (w : World) (hs : s.size ≤ 9223372036854775807) :
    Calls Tryd.prog 51 #[.string s, .string ⟨#[97, 98, 99, 100, 101, 102, 103, 104, 105, 106, 107, 108, 109, 110, 111, 112, 113, 114, 115, 116, 117, 118, 119, 120, 121, 122]⟩] w
      fun e w' => ∃ r : ByteArray, e = .returned (.string r) ∧ r.toList.isEmpty = allLet s ∧ Below w.heap.size w w' := by
  have hcon := Any.strings_Trim_laid lays160 (by kernel_rfl) s ⟨#[97, 98, 99, 100, 101, 102, 103, 104, 105, 106, 107, 108, 109, 110, 111, 112, 113, 114, 115, 116, 117, 118, 119, 120, 121, 122]⟩ w hs (by decide) (ascii_of_all (by decide))
  refine hcon.mono fun e w' ⟨h1, h2⟩ => ⟨_, h1, ?_, h2⟩
  rw [Lib.toList_data]
  show (Lib.trimS s.data.toList azL).isEmpty = _
  rw [trimS_nil]
  unfold allLet
  exact congrArg (fun f => s.data.toList.all f) (funext az_letter)
end Go.Proofs.YthcmflhhpgmfaaaDoor

/-! The program's declarations: DeclOk, bitsOf, EnvOk. -/
namespace Go.Proofs.YthcmflhhpgmfaaaDoor
open Go Go.RowKit

set_option maxHeartbeats 1000000 in
/-- The closure: whether a declaration has the name of the one in block b. -/
theorem declOk1_any (y x : D) (b : Nat) (w : World) (hb : w.heap[b]? = some (.cells #[.string x.name, .int .i64 x.wide] 52 (0, 0))) :
    Calls Tryd.prog 53 #[.agg #[.string y.name, .int .i64 y.wide], .pointer (some ⟨b, 0, none⟩)] w (RetB w (y.name.toList == x.name.toList)) := by
  have hal : Below w.heap.size w (w.alloc (.cells #[.string y.name, .int .i64 y.wide] 52)) := (Below.refl _ _).alloc (Nat.le_refl _) _
  have c0 : w.cell? ⟨b, 0, none⟩ = some (.string x.name) := (cell_of_block hb 0).1
  have hlt := lt_of_block hb
  have HAL := Lib.hid hal
  obtain ⟨q, hq⟩ : ∃ q, q = (y.name.toList == x.name.toList) := ⟨_, rfl⟩
  rw [← hq]
  have g9 := hq.symm
  clear hal hb hq
  go_enter Tryd.func53, Tryd.ntmps53
  go_wp2
  go_ret
  exact ⟨rfl, HAL.out⟩
set_option maxHeartbeats 2000000 in
theorem indexName_any (A : Option Addr) (c : Nat) (xs : List D) (x : D) (b : Nat) (F : Nat → Prop) (w : World) (h : Lay.decl.Sl w F A xs) (hF : ∀ b, F b → b < w.heap.size) (hb : w.heap[b]? = some (.cells #[.string x.name, .int .i64 x.wide] 52 (0, 0))) (hn : xs.length ≤ 9223372036854775807) :
    Calls Tryd.prog 66 #[.slice A xs.length c, .func (.func 53) #[] #[.pointer (some ⟨b, 0, none⟩)]] w fun e w' => e = .returned (.int .i64 (fN 0 xs x.name)) ∧ Below w.heap.size w w' := by
  have HB := Lib.hid hb
  clear hb
  go_enter Tryd.func66, Tryd.ntmps66
  go_wp2
  go_loopw [8] (fun i wr => ∃ k : Nat, k ≤ xs.length ∧ i = .int .i64 k ∧ Below w.heap.size w wr ∧ Hid (fN 0 xs x.name = fN k (xs.drop k) x.name)) (fun i _ => xs.length - (intOf i).toNat)
  case atStart => exact ⟨0, Nat.zero_le _, rfl, Below.refl _ _, Lib.hid rfl⟩
  case round =>
    obtain ⟨k, hk, rfl, hbr, HT⟩ := hrel
    by_cases hlt : k < xs.length
    · obtain ⟨ad, rfl, hf, c1, c2⟩ := (h.below hbr hF).at_decl hlt
      have hk1 : (k : Int) < xs.length := by omega
      have HS := Lib.hid (fN_step xs k x.name hlt)
      have HC := Lib.hid (declOk1_any xs[k] x b wr ((hbr.block _ (lt_of_block HB.out)).trans HB.out))
      obtain ⟨q, hq⟩ : ∃ q, q = (xs[k].name.toList == x.name.toList) := ⟨_, rfl⟩
      have HQ := Lib.hid hq
      rw [← hq] at HC
      clear hq
      go_wp2_with fail
      refine HC.out.mono ?_
      rintro e w2 ⟨rfl, hb2⟩
      have hbq := bthen hbr hb2
      cases q
      · have HE : Hid (fN 0 xs x.name = fN (k + 1) (xs.drop (k + 1)) x.name) := Lib.hid (by rw [HT.out, HS.out, ← HQ.out]; rfl)
        go_wp2
        go_roundw
        case rel => exact ⟨k + 1, by omega, by go_num, hbq, HE⟩
        case measure => simp [intOf]; omega
      · have HE : Hid (fN 0 xs x.name = (k : Int)) := Lib.hid (by rw [HT.out, HS.out, ← HQ.out]; rfl)
        go_wp2
        go_ret
        exact ⟨ret_int (by rw [HE.out]), hbq⟩
    · have HE : Hid (fN 0 xs x.name = -1) := Lib.hid (by rw [HT.out, List.drop_of_length_le (by omega)]; rfl)
      have hke : k = xs.length := by omega
      subst hke
      go_wp2
      go_ret
      exact ⟨ret_int (by rw [HE.out]), hbr⟩
set_option maxHeartbeats 1000000 in
theorem hasName_any (A : Option Addr) (c : Nat) (xs : List D) (x : D) (b : Nat) (F : Nat → Prop) (w : World) (h : Lay.decl.Sl w F A xs) (hF : ∀ b, F b → b < w.heap.size) (hb : w.heap[b]? = some (.cells #[.string x.name, .int .i64 x.wide] 52 (0, 0))) (hn : xs.length ≤ 9223372036854775807) :
    Calls Tryd.prog 52 #[.slice A xs.length c, .func (.func 53) #[] #[.pointer (some ⟨b, 0, none⟩)]] w (RetB w (hasN xs x.name)) := by
  have HC := Lib.hid (indexName_any A c xs x b F w h hF hb hn)
  have HH := Lib.hid (fN_has 0 xs x.name)
  have HG := Lib.hid (fN_ge 0 xs x.name)
  obtain ⟨q, hq⟩ : ∃ q, q = fN 0 xs x.name := ⟨_, rfl⟩
  rw [← hq] at HC HH HG
  clear hq h hb
  by_cases hq0 : 0 ≤ q
  · have HE : Hid (hasN xs x.name = true) := Lib.hid (HH.out.1 hq0)
    go_enter Tryd.func52, Tryd.ntmps52
    go_wp2_with fail
    refine HC.out.mono ?_
    rintro e w2 ⟨rfl, hb2⟩
    go_wp2
    go_ret
    exact ⟨ret_bool (by rw [HE.out]), hb2⟩
  · have HE : Hid (hasN xs x.name = false) := Lib.hid (Bool.eq_false_iff.2 fun h9 => hq0 (HH.out.2 h9))
    go_enter Tryd.func52, Tryd.ntmps52
    go_wp2_with fail
    refine HC.out.mono ?_
    rintro e w2 ⟨rfl, hb2⟩
    go_wp2
    go_ret
    exact ⟨ret_bool (by rw [HE.out]; exact decide_eq_false (by omega)), hb2⟩
theorem nameOk_short {s : ByteArray} (h : ¬ 1 ≤ s.size) : nameOk s = false := by unfold nameOk; rw [decide_eq_false h]; rfl
theorem nameOk_long {s : ByteArray} (h : ¬ s.size ≤ 4) : nameOk s = false := by unfold nameOk; rw [decide_eq_false h]; simp
theorem nameOk_tru {s : ByteArray} (h : tru s = true) : nameOk s = false := by unfold nameOk; rw [h]; simp
theorem nameOk_let {s : ByteArray} (h : allLet s = false) : nameOk s = false := by unfold nameOk; rw [h]; simp
theorem nameOk_yes {s : ByteArray} (h1 : 1 ≤ s.size) (h4 : s.size ≤ 4) (ht : tru s = false) (hl : allLet s = true) : nameOk s = true := by unfold nameOk; rw [decide_eq_true h1, decide_eq_true h4, ht, hl]; rfl
set_option maxRecDepth 100000 in
set_option maxHeartbeats 4000000 in
theorem implDeclOk_any (A : Option Addr) (c : Nat) (xs : List D) (F : Nat → Prop) (w : World) (h : Lay.decl.Sl w F A xs) (hF : ∀ b, F b → b < w.heap.size) (hn : xs.length ≤ 9223372036854775807) (ho : okNames xs) (hc : xs.length ≤ c) :
    Calls Tryd.prog 32 #[.slice A xs.length c] w (RetB w (declOk xs)) := by
  by_cases hl4 : xs.length ≤ 4
  · go_enter Tryd.func32, Tryd.ntmps32
    go_wp2
    go_loopw [3, 11] (fun b i wr => ∃ (k : Nat) (n : Int), k ≤ xs.length ∧ i = .int .i64 k ∧ b = .int .i64 n ∧ 0 ≤ n ∧ n ≤ 4 * k ∧ Below w.heap.size w wr ∧ Hid (dGo [] 0 xs = dGo (xs.take k) n (xs.drop k))) (fun _ i _ => xs.length - (intOf i).toNat)
    case atStart => exact ⟨0, 0, Nat.zero_le _, rfl, rfl, by omega, by omega, Below.refl _ _, Lib.hid rfl⟩
    case round =>
      obtain ⟨k, n, hk, rfl, rfl, n0, n1, hb, HT⟩ := hrel
      by_cases hlt : k < xs.length
      · have hr := h.below hb hF
        obtain ⟨ad, rfl, hf, c1, c2⟩ := hr.at_decl hlt
        have hk1 : (k : Int) < xs.length := by omega
        have hos := ho _ (List.getElem_mem hlt)
        have hal : Below wr.heap.size wr (wr.alloc (.cells #[.string xs[k].name, .int .i64 xs[k].wide] 52)) := (Below.refl _ _).alloc (Nat.le_refl _) _
        have HAL := Lib.hid (bthen hb hal)
        have HBX := Lib.hid (heap_alloc_new wr (.cells #[.string xs[k].name, .int .i64 xs[k].wide] 52))
        have hkc : k ≤ c := by omega
        clear hal hr
        by_cases h1 : 1 ≤ xs[k].name.size
        · by_cases h4 : xs[k].name.size ≤ 4
          · obtain ⟨q, hq⟩ : ∃ q, q = tru xs[k].name := ⟨_, rfl⟩
            have HQ := Lib.hid hq
            have g9 : (xs[k].name.toList == [116, 114, 117, 101]) = q := hq.symm
            clear hq
            cases q
            · have HTR := Lib.hid (fun z => trimAz_any xs[k].name z hos)
              obtain ⟨p, hp⟩ : ∃ p, p = allLet xs[k].name := ⟨_, rfl⟩
              have HP := Lib.hid hp
              rw [← hp] at HTR
              clear hp
              go_wp2_with fail
              generalize wr.alloc (.cells #[.string xs[k].name, .int .i64 xs[k].wide] 52) = w1 at *
              refine (HTR.out _).mono ?_
              rintro e w2 ⟨r, rfl, hre, hb2⟩
              have HB2 := Lib.hid (bthen HAL.out hb2)
              have HBX := Lib.hid ((hb2.block _ (lt_of_block HBX.out)).trans HBX.out)
              clear hb2 g9 c1 c2
              cases p
              · have HB : Hid (declOk xs = false) := Lib.hid (declOk_bad xs k n hlt HT.out (dOne_name (nameOk_let HP.out.symm)))
                go_wp2
                go_ret
                exact ⟨ret_bool (by rw [HB.out]), HB2.out⟩
              · have HNM : Hid (nameOk xs[k].name = true) := Lib.hid (nameOk_yes h1 h4 HQ.out.symm HP.out.symm)
                have e9 : (xs.take k).length = k := by rw [List.length_take]; omega
                have HCN := Lib.hid (hasName_any (some ad) c (xs.take k) xs[k] wr.heap.size F w2 ((h.below HB2.out hF).take k) (fun b hb9 => Nat.lt_of_lt_of_le (hF b hb9) HB2.out.size) HBX.out (by omega))
                rw [e9] at HCN
                clear e9 h1 h4
                go_wp2_with fail
                refine HCN.out.mono ?_
                rintro e w3 ⟨rfl, hb3⟩
                have HB3 := Lib.hid (bthen HB2.out hb3)
                have HBX := Lib.hid ((hb3.block _ (lt_of_block HBX.out)).trans HBX.out)
                obtain ⟨u, hu⟩ : ∃ u, u = hasN (xs.take k) xs[k].name := ⟨_, rfl⟩
                have HU := Lib.hid hu
                rw [← hu]
                clear hu hb3 hre
                have v1 := (cell_of_block HBX.out 1).1
                cases u
                · by_cases hw1 : 1 ≤ xs[k].wide
                  · by_cases hw4 : xs[k].wide ≤ 4
                    · have HX : Hid (dGo [] 0 xs = dGo (xs.take (k + 1)) (n + xs[k].wide) (xs.drop (k + 1))) := Lib.hid (declOk_next xs k n hlt HT.out (dOne_yes HNM.out hw1 hw4 HU.out.symm))
                      go_wp2
                      go_roundw
                      case rel => exact ⟨k + 1, n + xs[k].wide, by omega, by go_num, rfl, by omega, by omega, HB3.out, HX⟩
                      case measure => simp [intOf]; omega
                    · have HB : Hid (declOk xs = false) := Lib.hid (declOk_bad xs k n hlt HT.out (dOne_high hw4))
                      go_wp2
                      go_ret
                      exact ⟨ret_bool (by rw [HB.out]), HB3.out⟩
                  · have HB : Hid (declOk xs = false) := Lib.hid (declOk_bad xs k n hlt HT.out (dOne_low hw1))
                    go_wp2
                    go_ret
                    exact ⟨ret_bool (by rw [HB.out]), HB3.out⟩
                · have HB : Hid (declOk xs = false) := Lib.hid (declOk_bad xs k n hlt HT.out (dOne_seen HU.out.symm))
                  go_wp2
                  go_ret
                  exact ⟨ret_bool (by rw [HB.out]), HB3.out⟩
            · have HB : Hid (declOk xs = false) := Lib.hid (declOk_bad xs k n hlt HT.out (dOne_name (nameOk_tru HQ.out.symm)))
              go_wp2
              go_ret
              exact ⟨ret_bool (by rw [HB.out]), HAL.out⟩
          · have HB : Hid (declOk xs = false) := Lib.hid (declOk_bad xs k n hlt HT.out (dOne_name (nameOk_long h4)))
            go_wp2
            go_ret
            exact ⟨ret_bool (by rw [HB.out]), HAL.out⟩
        · have HB : Hid (declOk xs = false) := Lib.hid (declOk_bad xs k n hlt HT.out (dOne_name (nameOk_short h1)))
          go_wp2
          go_ret
          exact ⟨ret_bool (by rw [HB.out]), HAL.out⟩
      · have hke : k = xs.length := by omega
        subst hke
        have HE := Lib.hid (declOk_end xs n hl4 HT.out)
        go_wp2
        go_ret
        exact ⟨ret_bool (by rw [HE.out]), hb⟩
  · have HE := Lib.hid (declOk_long xs hl4)
    go_enter Tryd.func32, Tryd.ntmps32
    go_wp2
    go_ret
    exact ⟨ret_bool (by rw [HE.out]), Below.refl _ _⟩
set_option maxRecDepth 100000 in
set_option maxHeartbeats 4000000 in
theorem implEnvOk_any (A B : Option Addr) (c d : Nat) (xs : List D) (env : List Int) (F : Nat → Prop) (w : World) (h : Lay.decl.Sl w F A xs) (hF : ∀ b, F b → b < w.heap.size) (h' : Lay.int.Sl w F B env) (hn : xs.length ≤ 9223372036854775807) (hm : env.length ≤ 9223372036854775807) (ho : okNames xs) (hc : xs.length ≤ c) :
    Calls Tryd.prog 26 #[.slice A xs.length c, .slice B env.length d] w (RetB w (envOk xs env)) := by
  cases hd : declOk xs
  · have HD := Lib.hid (implDeclOk_any A c xs F w h hF hn ho hc)
    rw [hd] at HD
    have HE := Lib.hid (envOk_no1 (env := env) hd)
    clear hd
    go_enter Tryd.func26, Tryd.ntmps26
    go_wp2_with fail
    refine HD.out.mono ?_
    rintro e w1 ⟨rfl, hb⟩
    go_wp2
    go_ret
    exact ⟨ret_bool (by rw [HE.out]), hb⟩
  · have HD := Lib.hid (implDeclOk_any A c xs F w h hF hn ho hc)
    rw [hd] at HD
    obtain ⟨hl4, hw4, _⟩ := declOk_facts hd
    by_cases hl : env.length = xs.length
    · have HE := Lib.hid (envOk_go hd hl)
      have HL := Lib.hid hl
      have hbe : ((env.length : Int) != (xs.length : Int)) = false := by simp [hl]
      clear hd hl hw4
      go_enter Tryd.func26, Tryd.ntmps26
      go_wp2_with fail
      refine HD.out.mono ?_
      rintro e w1 ⟨rfl, hb1⟩
      go_wp2
      clear hbe
      go_loopw [19] (fun i wr => ∃ k : Nat, k ≤ xs.length ∧ i = .int .i64 k ∧ Below w.heap.size w wr ∧ Hid (envGo xs env = envGo (xs.drop k) (env.drop k))) (fun i _ => xs.length - (intOf i).toNat)
      case atStart => exact ⟨0, Nat.zero_le _, rfl, hb1, Lib.hid rfl⟩
      case round =>
        obtain ⟨k, hk, rfl, hb, HT⟩ := hrel
        by_cases hlt : k < xs.length
        · have hlt' : k < env.length := by have := HL.out; omega
          obtain ⟨ad, rfl, hf, c1, c2⟩ := (h.below hb hF).at_decl hlt
          obtain ⟨ad', rfl, hf', c3⟩ := (h'.below hb hF).at_int hlt'
          have hk1 : (k : Int) < xs.length := by omega
          have hk2 : (k : Int) < env.length := by omega
          have HS := Lib.hid (envGo_step xs env k hlt hlt')
          have HV := Lib.hid (fun z => implVecOk_any xs[k].wide env[k] z)
          clear h h'
          cases hv : vecB xs[k].wide env[k]
          · have HX : Hid (envOk xs env = false) := Lib.hid (by rw [HE.out, HT.out, HS.out, hv]; rfl)
            rw [hv] at HV
            clear hv
            go_wp2_with fail
            refine (HV.out _).mono ?_
            rintro e w9 ⟨rfl, hb9⟩
            go_wp2
            go_ret
            exact ⟨ret_bool (by rw [HX.out]), bthen hb hb9⟩
          · have HX : Hid (envGo xs env = envGo (xs.drop (k + 1)) (env.drop (k + 1))) := Lib.hid (by rw [HT.out, HS.out, hv]; rfl)
            rw [hv] at HV
            clear hv
            go_wp2_with fail
            refine (HV.out _).mono ?_
            rintro e w9 ⟨rfl, hb9⟩
            have hbq := bthen hb hb9
            go_wp2
            go_roundw
            case rel => exact ⟨k + 1, by omega, by go_num, hbq, HX⟩
            case measure => simp [intOf]; omega
        · have HX : Hid (envOk xs env = true) := Lib.hid (by rw [HE.out, HT.out, List.drop_of_length_le (by omega)]; rfl)
          have hke : k = xs.length := by omega
          subst hke
          have hel : ¬ ((xs.length : Int) < (env.length : Int)) := by have := HL.out; omega
          go_wp2
          go_ret
          exact ⟨ret_bool (by rw [HX.out]), hb⟩
    · have HE := Lib.hid (envOk_no2 (ds := xs) hl)
      have hbe : ((env.length : Int) != (xs.length : Int)) = true := by simp; omega
      clear hd hl hw4
      go_enter Tryd.func26, Tryd.ntmps26
      go_wp2_with fail
      refine HD.out.mono ?_
      rintro e w1 ⟨rfl, hb1⟩
      go_wp2
      go_ret
      exact ⟨ret_bool (by rw [HE.out]), hb1⟩
end Go.Proofs.YthcmflhhpgmfaaaDoor

/-! A drawn region whose operations write old memory: each operation once, in whatever world its turn comes; a relation that all keep, and an invariant. No program is named here. -/
namespace Go.Proofs.YthcmflhhpgmfaaaDoor
open Go Go.RowKit

variable {P : Program} {Q : Exit → Act → World → Prop}
end Go.Proofs.YthcmflhhpgmfaaaDoor

/-! Drawn regions that draw from a reader; literals. -/
namespace Go.Proofs.YthcmflhhpgmfaaaDoor
open Go Go.RowKit

end Go.Proofs.YthcmflhhpgmfaaaDoor

/-! The program's bit vectors: VecOk, VecSigned, VecCmp where the vectors are right. -/
namespace Go.Proofs.YthcmflhhpgmfaaaDoor
open Go Go.RowKit

theorem sixteen {n : Int} (h0 : 0 ≤ n) (h : n < 16) : n = 0 ∨ n = 1 ∨ n = 2 ∨ n = 3 ∨ n = 4 ∨ n = 5 ∨ n = 6 ∨ n = 7 ∨ n = 8 ∨ n = 9 ∨ n = 10 ∨ n = 11 ∨ n = 12 ∨ n = 13 ∨ n = 14 ∨ n = 15 := by omega
/-- A number's bit. -/
def bitV (n : Int) (k : Nat) : Bool := n.toNat.testBit k
set_option maxHeartbeats 4000000 in
theorem bit_any (n : Int) (k : Nat) (w : World) (h0 : 0 ≤ n) (hn : n < 16) (hk : k < 4) :
    Calls Tryd.prog 39 #[.int .u64 n, .int .i64 (k : Int)] w fun e w' => e = .returned (.bool (bitV n k)) ∧ w = w' := by
  have hk4 : k = 0 ∨ k = 1 ∨ k = 2 ∨ k = 3 := by omega
  rcases hk4 with rfl | rfl | rfl | rfl <;> rcases sixteen h0 hn with rfl | rfl | rfl | rfl | rfl | rfl | rfl | rfl | rfl | rfl | rfl | rfl | rfl | rfl | rfl | rfl
  all_goals
    clear h0 hn hk
    simp only [Int.cast_ofNat_Int]
    go_enter Tryd.func39, Tryd.ntmps39
    go_wp2
    go_ret
    exact ⟨rfl, rfl⟩
end Go.Proofs.YthcmflhhpgmfaaaDoor

/-! The program's BlastIns and BlastEnv. -/
namespace Go.Proofs.YthcmflhhpgmfaaaDoor
open Go Go.RowKit

theorem own_nilB (w : World) (lo : Nat) : OwnB w lo (.slice none ([] : List Bool).length 0) [] := ⟨by simp, .inl ⟨rfl, rfl⟩⟩
theorem retO_nilB (w w' : World) (h : Below w.heap.size w w') : RetO Lay.bool w [] (.returned (.slice none 0 0)) w' := ⟨none, 0, rfl, Nat.le_refl _, .nil _ _ _ _, h⟩
set_option maxRecDepth 100000 in
set_option maxHeartbeats 4000000 in
theorem implBlastIns_any (A B : Option Addr) (c d : Nat) (xs : List D) (env : List Int) (w : World) (h : Lay.decl.Rd w A xs) (h' : Lay.int.Rd w B env) (hn : xs.length ≤ 9223372036854775807) (hm : env.length ≤ 9223372036854775807) (ho : okNames xs) (hc : xs.length ≤ c) :
    Calls Tryd.prog 20 #[.slice A xs.length c, .slice B env.length d] w (RetO Lay.bool w (blastIns xs env)) := by
  have HD := Lib.hid (implEnvOk_any A B c d xs env _ _ h (fun _ hb => hb) h' hn hm ho hc)
  go_enter Tryd.func20, Tryd.ntmps20
  go_wp2_with fail
  refine HD.out.mono ?_
  cases hd : envOk xs env
  · have HE : Hid (blastIns xs env = []) := Lib.hid (by unfold blastIns; rw [hd]; rfl)
    clear hd
    rintro e w1 ⟨rfl, hb⟩
    go_wp2
    go_ret
    rw [HE.out]
    exact retO_nilB _ _ hb
  · obtain ⟨hd1, hl, hgo⟩ := envOk_facts hd
    obtain ⟨hl4, hw4, _⟩ := declOk_facts hd1
    have HE : Hid (blastIns xs env = insGo xs env) := Lib.hid (by unfold blastIns; rw [hd]; rfl)
    have HW := Lib.hid hw4
    have HL := Lib.hid hl
    have HGO := Lib.hid hgo
    clear hd hl hgo hd1 hw4
    rintro e w1 ⟨rfl, hb⟩
    go_wp2
    go_loopw [5, 15] (fun s i wr => ∃ (k : Nat) (bs : List Bool) (A8 : Option Addr) (c8 : Nat), k ≤ xs.length ∧ i = .int .i64 k ∧ s = .slice A8 bs.length c8 ∧ bs.length ≤ 4 * k ∧ OwnB wr w.heap.size (.slice A8 bs.length c8) bs ∧ Below w.heap.size w wr ∧ Hid (insGo xs env = bs ++ insGo (xs.drop k) (env.drop k))) (fun _ i _ => xs.length - (intOf i).toNat)
    case atStart => exact ⟨0, [], none, 0, Nat.zero_le _, rfl, rfl, by simp, own_nilB _ _, hb, Lib.hid rfl⟩
    case round =>
      obtain ⟨k, bs, A8, c8, hk, rfl, rfl, hbl, hown, hb, HT⟩ := hrel
      obtain ⟨wo, hwo⟩ : ∃ wo, wo = wr := ⟨_, rfl⟩
      subst hwo
      by_cases hlt : k < xs.length
      · have hlt' : k < env.length := by have := HL.out; omega
        obtain ⟨ad, rfl, hf, c1, c2⟩ := (h.up hb).at_decl hlt
        obtain ⟨ad', hAd, hf', c3⟩ := h'.at_int hlt'
        subst hAd
        have hk1 : (k : Int) < xs.length := by omega
        have hk2 : (k : Int) < env.length := by omega
        obtain ⟨W, hW⟩ : ∃ W : Nat, xs[k].wide = (W : Int) := ⟨xs[k].wide.toNat, by have := (HW.out _ (List.getElem_mem hlt)).2.1; omega⟩
        have hW4 : 1 ≤ W ∧ W ≤ 4 := by have := (HW.out _ (List.getElem_mem hlt)).2; omega
        obtain ⟨hW1, hW4⟩ := hW4
        have hvb := vecB_bounds (envGo_at HGO.out k hlt hlt')
        obtain ⟨_, _, hn0, hn1⟩ := hvb
        have HS := Lib.hid (insGo_step xs env k hlt hlt')
        obtain ⟨n, hn9⟩ : ∃ n, n = env[k] := ⟨_, rfl⟩
        rw [← hn9] at hn0 hn1 c3 HS
        rw [hW] at c2
        rw [hW, Int.toNat_natCast] at HS
        have HT2 : Hid (insGo xs env = bs ++ (downB n W ++ insGo (xs.drop (k + 1)) (env.drop (k + 1)))) := Lib.hid (by rw [HT.out, HS.out])
        have hal : Below wo.heap.size wo (wo.alloc (.cells #[.string xs[k].name, .int .i64 (W : Int)] 52)) := (Below.refl _ _).alloc (Nat.le_refl _) _
        have HO2 := Lib.hid (hown.up hal)
        have HB2 := Lib.hid (bthen hb hal)
        clear hn9 hW HT HS hal hown
        go_wp2
        clear c1 c2
        go_loopw [5, 8] (fun s i wr => ∃ (m : Nat) (ps : List Bool) (A8 : Option Addr) (c8 : Nat), m ≤ W ∧ i = .int .i64 ((m : Int) - 1) ∧ s = .slice A8 ps.length c8 ∧ ps.length + m ≤ 4 * (k + 1) ∧ OwnB wr w.heap.size (.slice A8 ps.length c8) ps ∧ Below w.heap.size w wr ∧ Hid (insGo xs env = ps ++ (downB n m ++ insGo (xs.drop (k + 1)) (env.drop (k + 1))))) (fun _ i _ => (intOf i + 1).toNat)
        case atStart => exact ⟨W, bs, _, _, Nat.le_refl _, rfl, rfl, by omega, HO2.out, HB2.out, HT2⟩
        case round =>
          obtain ⟨m, ps, A9, c9, hm, rfl, rfl, hpl, hown, hb, HT⟩ := hrel
          rcases m with _ | m
          · go_wp2
            go_roundw
            case rel => exact ⟨k + 1, ps, A9, c9, by omega, by go_num, rfl, by omega, hown, hb, Lib.hid (by rw [HT.out]; rfl)⟩
            case measure => simp [intOf]; omega
          · have e1 : (((m + 1 : Nat) : Int) - 1) = (m : Int) := by omega
            rw [e1]
            have c3 := (hb.cell (World.block_lt_of_cell? w _ c3)).trans c3
            obtain ⟨z, hz⟩ : ∃ z, z = n.toNat.testBit m := ⟨_, rfl⟩
            obtain ⟨qs, hqs⟩ : ∃ qs, qs = ps ++ [z] := ⟨_, rfl⟩
            have HQS := Lib.hid hqs
            have HQL : Hid (qs.length = ps.length + 1) := Lib.hid (by rw [hqs]; simp)
            have HT2 : Hid (insGo xs env = qs ++ (downB n m ++ insGo (xs.drop (k + 1)) (env.drop (k + 1)))) := Lib.hid (by rw [HT.out, hqs, hz]; simp [downB])
            have HBIT := Lib.hid (fun q => bit_any n m q hn0 hn1 (by omega))
            unfold bitV at HBIT
            rw [← hz] at HBIT
            have hps20 : ps.length ≤ 100 := by omega
            have hsz := hb.size
            have hnw : IntKind.u64.wrap n = n := by rw [IntKind.wrap_u64]; omega
            clear hqs HT e1 hz
            go_wp2_with fail
            clear hnw
            refine (HBIT.out _).mono ?_
            rintro e w9 ⟨rfl, rfl⟩
            go_wp2_with (at_builtin; refine wpList_append_bool (ys := qs) (by rfl) (.tmp 27) (.tmp 35) (by rfl) (by rfl) (by rfl) hown (by omega) hsz HQS.out ?_; intro A7 c7 w7 hown7 hb7)
            have hbq := hb.trans hb7
            go_roundw
            case rel => exact ⟨m, qs, A7, c7, by omega, by go_num, rfl, by rw [HQL.out]; omega, hown7, hbq, HT2⟩
            case measure => simp [intOf]
      · have hke : k = xs.length := by omega
        subst hke
        have HX : Hid (blastIns xs env = bs) := Lib.hid (by rw [HE.out, HT.out, List.drop_length]; simp [insGo])
        go_wp2
        go_ret
        rw [HX.out]
        exact hown.ret hb
end Go.Proofs.YthcmflhhpgmfaaaDoor

/-! BlastEnv and BlastIns, one form for the program's and the reference's. -/
namespace Go.Proofs.YthcmflhhpgmfaaaDoor
open Go Go.RowKit

theorem insGo_len : ∀ (xs : List D) (env : List Int), (∀ x ∈ xs, x.wide ≤ 4) → (insGo xs env).length ≤ 4 * xs.length
  | [], _, _ => by simp [insGo]
  | _ :: _, [], _ => by simp [insGo]
  | x :: xs, n :: ns, h => by
    have := insGo_len xs ns fun y hy => h y (List.mem_cons_of_mem _ hy)
    have h4 := h x (List.mem_cons_self ..)
    simp only [insGo, List.length_append, downB_len, List.length_cons]
    omega
theorem blastIns_len (xs : List D) (env : List Int) : (blastIns xs env).length ≤ 1048576 := by
  unfold blastIns
  split
  · rename_i h
    have h1 := declOk_facts (envOk_facts h).1
    have := insGo_len xs env fun x hx => (h1.2.1 x hx).2.2
    omega
  · simp
section
variable (x0 : List D) (A0 : Option Addr) (c0 : Nat)
theorem specBlastIns_u (x1 : List Int) (A1 : Option Addr) (c1 : Nat) (w : World) (h0 : Lay.decl.Rd w A0 x0) (hc0 : x0.length ≤ c0) (h1 : Lay.int.Rd w A1 x1) (_ : x1.length ≤ c1) (s0 : smDecls x0) (s1 : smInts x1) :
    Calls Tryd.prog 18 #[.slice A0 x0.length c0, .slice A1 x1.length c1] w (RetO Lay.bool w (blastIns x0 x1)) :=
  specBlastIns_any A0 A1 c0 c1 x0 x1 w h0 h1 (by have := s0.1; omega) (by have := s1.1; omega) s0.2.1 hc0
theorem implBlastIns_u (x1 : List Int) (A1 : Option Addr) (c1 : Nat) (w : World) (h0 : Lay.decl.Rd w A0 x0) (hc0 : x0.length ≤ c0) (h1 : Lay.int.Rd w A1 x1) (_ : x1.length ≤ c1) (s0 : smDecls x0) (s1 : smInts x1) :
    Calls Tryd.prog 20 #[.slice A0 x0.length c0, .slice A1 x1.length c1] w (RetO Lay.bool w (blastIns x0 x1)) :=
  implBlastIns_any A0 A1 c0 c1 x0 x1 w h0 h1 (by have := s0.1; omega) (by have := s1.1; omega) s0.2.1 hc0
end
end Go.Proofs.YthcmflhhpgmfaaaDoor

/-! What the rows list of the library's variables: tables that the proofs do not read. -/
namespace Go.Proofs.YthcmflhhpgmfaaaDoor
open Go

theorem dr_own : ownKnob Tryd.prog.godebug = none := by kernel_rfl
abbrev laidU : List (String × DataW Unit) := [("unicode/utf8.acceptRanges", Rows.laid_unicode_utf8_acceptRanges), ("unicode/utf8.first", Rows.laid_unicode_utf8_first)]
end Go.Proofs.YthcmflhhpgmfaaaDoor

/-! FnExactBlastIns: the program's BlastIns answers, for any declarations and any environment, what the reference's answers, in memory of its own. -/
namespace Go.Proofs.YthcmflhhpgmfaaaDoor
open Go Go.RowKit Go.ChangeShapes Go.WideShapes Go.ChangeAt Go.Deep

set_option maxRecDepth 100000 in
set_option maxHeartbeats 4000000 in
theorem fnExactBlastIns_walk (W : World) {Ap0a : Option Addr} {cp0a : Nat} {x0 : List D} {Ap1a : Option Addr} {cp1a : Nat} {x1 : List Int} (_ : x0.length ≤ cp0a) (ok0 : okDs x0) (hp0a : Lay.decl.Rd W Ap0a x0) (_ : x1.length ≤ cp1a) (ok1 : (x1.length ≤ maxLen ∧ ∀ i ∈ x1, okInt i)) (hp1a : Lay.int.Rd W Ap1a x1) :
    Calls Tryd.prog 4 #[.slice Ap0a x0.length cp0a, .slice Ap1a x1.length cp1a] W (LawC W) := by
  have HW0 : Hid (Below W.heap.size W W) := Lib.hid (Below.refl _ _)
  have Hp0a := hp0a
  have Hp1a := hp1a
  clear hp0a hp1a
  have OK0 := Lib.hid ok0
  clear ok0
  have OK1 := Lib.hid ok1
  clear ok1
  by_cases hbig1 : (1048576 : Int) < x1.length
  · go_enter Tryd.func4, Tryd.ntmps4
    go_wp2
    go_ret
    exact ⟨rfl, HW0.out⟩
  have SM1 : Hid (smInts x1) := Lib.hid (smInts_of OK1.out (by omega))
  go_enter Tryd.func4, Tryd.ntmps4
  have hb : Below W.heap.size W W := Below.refl _ _
  go_wp2_with fail
  refine (szDecls_u x0 Ap0a cp0a 1048576 _ (Hp0a.up hb) OK0.out (by omega) (by omega)).mono ?_
  rintro e u1 ⟨rfl, hbu1⟩
  have hb := bthen hb hbu1
  clear hbu1
  by_cases hbig0 : (1048576 : Int) < (wtD x0 : Nat)
  · have HSZ := Lib.hid (szRes_lt hbig0)
    clear hbig0
    rw [HSZ.out]
    go_wp2
    go_ret
    exact ⟨rfl, bthen HW0.out hb⟩
  have SM0 : Hid (smDecls x0) := Lib.hid (smDecls_of OK0.out (by omega))
  have HSZ0 := Lib.hid (szRes_ge hbig0)
  rw [HSZ0.out]
  have hln9 : (0 : Int) ≤ (1048576 - (wtD x0 : Nat)) := by omega
  clear hbig0
  generalize hr9 : blastIns x0 x1 = r9 at *
  have HR9 := Lib.hid hr9
  clear hr9
  have HRS0 := Lib.hid (show r9.length ≤ 1048576 by rw [← HR9.out]; exact blastIns_len _ _)
  go_wp2_with fail
  refine (toDecls_u x0 Ap0a cp0a _ (Hp0a.up hb) SM0.out).mono ?_
  rintro e u2 ⟨Aq0a, cq0a, rfl, hcq0a, sq0a, hbq0⟩
  have hb := bthen hb hbq0
  clear hbq0
  go_wp2_with fail
  refine (toInts_u x1 Ap1a cp1a _ (Hp1a.up hb) SM1.out).mono ?_
  rintro e u3 ⟨Aq1a, cq1a, rfl, hcq1a, sq1a, hbq1⟩
  have hb := bthen hb hbq1
  have sq0a := sq0a.own_up hbq1
  clear hbq1
  go_wp2_with fail
  refine (specBlastIns_u x0 Aq0a cq0a x1 Aq1a cq1a _ (sq0a.own_rd) hcq0a (sq1a.own_rd) hcq1a SM0.out SM1.out).mono ?_
  rw [HR9.out]
  rintro e u4 ⟨Aw0a, cw0a, rfl, hcw0a, sw0a, hb9⟩
  clear sq0a
  clear sq1a
  have hb := bthen hb hb9
  clear hb9
  have Rw0a := sw0a.cp_of
  clear sw0a
  go_wp2_with fail
  have z0 : W.heap.size ≤ u4.heap.size := hb.size
  have hs : Below u4.heap.size u4 u4 := Below.refl _ _
  refine (toDecls_u x0 Ap0a cp0a _ (Hp0a.up hb) SM0.out).mono ?_
  rintro e u5 ⟨Ak0a, ck0a, rfl, hck0a, sk0a, hbk0⟩
  have hb := bthen hb hbk0
  have hs := bthen hs hbk0
  have Rw0a := Rw0a.cp_up hbk0
  clear hbk0
  go_wp2_with fail
  have Rk0a := sk0a.cp_of
  clear sk0a
  have z1 : u4.heap.size ≤ u5.heap.size := hs.size
  clear hs
  have hs : Below u5.heap.size u5 u5 := Below.refl _ _
  refine (toInts_u x1 Ap1a cp1a _ (Hp1a.up hb) SM1.out).mono ?_
  rintro e u6 ⟨Ak1a, ck1a, rfl, hck1a, sk1a, hbk1⟩
  have hb := bthen hb hbk1
  have hs := bthen hs hbk1
  have Rw0a := Rw0a.cp_up hbk1
  have Rk0a := Rk0a.cp_up hbk1
  clear hbk1
  go_wp2_with fail
  have Rk1a := sk1a.cp_of
  clear sk1a
  have z2 : u5.heap.size ≤ u6.heap.size := hs.size
  clear hs
  have hs : Below u6.heap.size u6 u6 := Below.refl _ _
  refine (implBlastIns_u x0 Ak0a ck0a x1 Ak1a ck1a _ (Rk0a.cp_rd) hck0a (Rk1a.cp_rd) hck1a SM0.out SM1.out).mono ?_
  rw [HR9.out]
  rintro e u7 ⟨Ag0a, cg0a, rfl, hcg0a, sg0a, hb9⟩
  have hb := bthen hb hb9
  have hs := bthen hs hb9
  have Rw0a := Rw0a.cp_up hb9
  have Rk0a := Rk0a.cp_up hb9
  have Rk1a := Rk1a.cp_up hb9
  clear hb9
  have Rg0a := sg0a.cp_of
  clear sg0a
  have z3 : u6.heap.size ≤ u7.heap.size := hs.size
  clear hs
  have hs : Below u7.heap.size u7 u7 := Below.refl _ _
  go_wp2_with fail
  refine (eqBools_u r9 Ag0a Aw0a cg0a cw0a _ Rg0a.cp_rd Rw0a.cp_rd HRS0.out).mono ?_
  rintro e u8 ⟨rfl, hb9⟩
  have hb := bthen hb hb9
  have hs := bthen hs hb9
  have Rw0a := Rw0a.cp_up hb9
  have Rk0a := Rk0a.cp_up hb9
  have Rk1a := Rk1a.cp_up hb9
  have Rg0a := Rg0a.cp_up hb9
  clear hb9
  go_wp2_with fail
  refine (toDecls_u x0 Ap0a cp0a _ (Hp0a.up hb) SM0.out).mono ?_
  rintro e u9 ⟨Ay0a, cy0a, rfl, hcy0a, sy0a, hby0⟩
  have hb := bthen hb hby0
  have hs := bthen hs hby0
  have Rw0a := Rw0a.cp_up hby0
  have Rk0a := Rk0a.cp_up hby0
  have Rk1a := Rk1a.cp_up hby0
  have Rg0a := Rg0a.cp_up hby0
  clear hby0
  go_wp2_with fail
  refine (eqDecls_u x0 Ak0a Ay0a ck0a cy0a _ Rk0a.cp_rd sy0a.own_rd SM0.out.1).mono ?_
  rintro e u10 ⟨rfl, hb9⟩
  clear sy0a
  have hb := bthen hb hb9
  have hs := bthen hs hb9
  have Rw0a := Rw0a.cp_up hb9
  have Rk0a := Rk0a.cp_up hb9
  have Rk1a := Rk1a.cp_up hb9
  have Rg0a := Rg0a.cp_up hb9
  clear hb9
  go_wp2_with fail
  refine (toInts_u x1 Ap1a cp1a _ (Hp1a.up hb) SM1.out).mono ?_
  rintro e u11 ⟨Ay1a, cy1a, rfl, hcy1a, sy1a, hby1⟩
  have hb := bthen hb hby1
  have hs := bthen hs hby1
  have Rw0a := Rw0a.cp_up hby1
  have Rk0a := Rk0a.cp_up hby1
  have Rk1a := Rk1a.cp_up hby1
  have Rg0a := Rg0a.cp_up hby1
  clear hby1
  go_wp2_with fail
  refine (eqInts_u x1 Ak1a Ay1a ck1a cy1a _ Rk1a.cp_rd sy1a.own_rd SM1.out.1).mono ?_
  rintro e u12 ⟨rfl, hb9⟩
  clear sy1a
  have hb := bthen hb hb9
  have hs := bthen hs hb9
  have Rw0a := Rw0a.cp_up hb9
  have Rk0a := Rk0a.cp_up hb9
  have Rk1a := Rk1a.cp_up hb9
  have Rg0a := Rg0a.cp_up hb9
  clear hb9
  go_wp2_with fail
  refine (markDecls_u x0 Ak0a ck0a _ _ 1 _ Rk0a SM0.out.1 (by omega) (by omega)).mono ?_
  rintro e u13 ⟨rfl, hd, _⟩
  clear hs
  have Rw0a := Rw0a.cp_dab hd (by intro b h1 h2 h3; have := h3.1; have := h3.2; omega)
  clear Rk0a
  have Rk1a := Rk1a.cp_dab hd (by intro b h1 h2 h3; have := h3.1; have := h3.2; omega)
  have Rg0a := Rg0a.cp_dab hd (by intro b h1 h2 h3; have := h3.1; have := h3.2; omega)
  have hb := below_rng hb hd hb.size (by omega)
  clear hd
  obtain ⟨k9_1, hk9, hk9a, hk9b⟩ : ∃ k9 : Int, k9 = 1 + (2 * x0.length : Nat) ∧ 1 ≤ k9 ∧ k9 ≤ 10000000 := ⟨_, rfl, by omega, by have := SM0.out.1; omega⟩
  rw [← hk9]
  clear hk9
  go_wp2_with fail
  refine (markInts_u x1 Ak1a ck1a _ _ k9_1 _ Rk1a SM1.out.1 (by omega) (by omega)).mono ?_
  rintro e u14 ⟨rfl, hd, _⟩
  have Rw0a := Rw0a.cp_dab hd (by intro b h1 h2 h3; have := h3.1; have := h3.2; omega)
  clear Rk1a
  have Rg0a := Rg0a.cp_dab hd (by intro b h1 h2 h3; have := h3.1; have := h3.2; omega)
  have hb := below_rng hb hd hb.size (by omega)
  clear hd
  obtain ⟨k9_2, hk9, hk9a, hk9b⟩ : ∃ k9 : Int, k9 = k9_1 + (x1.length : Nat) ∧ 1 ≤ k9 ∧ k9 ≤ 20000000 := ⟨_, rfl, by omega, by have := SM1.out.1; omega⟩
  rw [← hk9]
  clear hk9
  go_wp2_with fail
  refine (eqBools_u r9 Ag0a Aw0a cg0a cw0a _ Rg0a.cp_rd Rw0a.cp_rd HRS0.out).mono ?_
  rintro e u15 ⟨rfl, hb9⟩
  have hb := bthen hb hb9
  have Rw0a := Rw0a.cp_up hb9
  have Rg0a := Rg0a.cp_up hb9
  clear hb9
  go_wp2_with fail
  refine (markBools_u r9 Ag0a cg0a _ _ 1 _ Rg0a HRS0.out (by omega) (by omega)).mono ?_
  rintro e u16 ⟨rfl, hd, RM0⟩
  have Rw0a := Rw0a.cp_dab hd (by intro b h1 h2 h3; have := h3.1; have := h3.2; omega)
  clear Rg0a
  have hb := below_rng hb hd hb.size (by omega)
  clear hd
  obtain ⟨m9, hm9, hm9a⟩ : ∃ m9 : Int, m9 = 1 + (r9.length : Nat) ∧ 0 ≤ m9 := ⟨_, rfl, by omega⟩
  rw [← hm9]
  have HM9 := Lib.hid hm9
  have hmm9 : (m9 != m9) = false := by simp
  clear hm9
  go_wp2_with fail
  refine (heldBools_u r9.length Ag0a cg0a 1 _ RM0.cp_rd HRS0.out (by omega) (by omega)).mono ?_
  rw [← HM9.out]
  rintro e u17 ⟨rfl, hb9⟩
  have hb := bthen hb hb9
  have Rw0a := Rw0a.cp_up hb9
  have RM0 := RM0.cp_up hb9
  clear hb9
  go_wp2_with fail
  refine (toDecls_u x0 Ap0a cp0a _ (Hp0a.up hb) SM0.out).mono ?_
  rintro e u18 ⟨Az0a, cz0a, rfl, hcz0a, sz0a, hbz0⟩
  have hb := bthen hb hbz0
  have Rw0a := Rw0a.cp_up hbz0
  have RM0 := RM0.cp_up hbz0
  clear hbz0
  go_wp2_with fail
  refine (toInts_u x1 Ap1a cp1a _ (Hp1a.up hb) SM1.out).mono ?_
  rintro e u19 ⟨Az1a, cz1a, rfl, hcz1a, sz1a, hbz1⟩
  have hb := bthen hb hbz1
  have Rw0a := Rw0a.cp_up hbz1
  have RM0 := RM0.cp_up hbz1
  have sz0a := sz0a.own_up hbz1
  clear hbz1
  go_wp2_with fail
  refine (implBlastIns_u x0 Az0a cz0a x1 Az1a cz1a _ (sz0a.own_rd) hcz0a (sz1a.own_rd) hcz1a SM0.out SM1.out).mono ?_
  rw [HR9.out]
  rintro e u20 ⟨Ah0a, ch0a, rfl, hch0a, sh0a, hb9⟩
  clear sz0a
  clear sz1a
  have hb := bthen hb hb9
  have Rw0a := Rw0a.cp_up hb9
  have RM0 := RM0.cp_up hb9
  clear hb9
  have Rh0a := sh0a.cp_of
  clear sh0a
  go_wp2_with fail
  refine (eqBools_u r9 Ah0a Aw0a ch0a cw0a _ Rh0a.cp_rd Rw0a.cp_rd HRS0.out).mono ?_
  rintro e u21 ⟨rfl, hb9⟩
  have hb := bthen hb hb9
  have Rw0a := Rw0a.cp_up hb9
  have RM0 := RM0.cp_up hb9
  have Rh0a := Rh0a.cp_up hb9
  clear hb9
  go_wp2_with fail
  refine (heldBools_u r9.length Ag0a cg0a 1 _ RM0.cp_rd HRS0.out (by omega) (by omega)).mono ?_
  rw [← HM9.out]
  rintro e u22 ⟨rfl, hb9⟩
  have hb := bthen hb hb9
  have Rw0a := Rw0a.cp_up hb9
  have RM0 := RM0.cp_up hb9
  have Rh0a := Rh0a.cp_up hb9
  clear hb9
  go_wp2
  go_ret
  exact ⟨rfl, bthen HW0.out hb⟩

set_option maxRecDepth 100000 in
theorem fnExactBlastIns_lifted (os : Os) (started : os.Started) (H : Type) (enc : TypeId × Value → H) :
    ReturnsInHanded {} Tryd.checked os 4 .any (fun w args => (Rows.fnExactBlastInsSpec.pre enc Tryd.prog Tryd.f4 [] false w args ∧ laidMetH Tryd.prog laidU w) ∧ sizedMet enc Tryd.prog Tryd.f4 (OpenSpec.ofChange Rows.fnExactBlastInsSpec) false w args)
      (Rows.fnExactBlastInsSpec.post enc Tryd.prog Tryd.f4 false true false false) := by
  refine returnsInHanded_of_change_and (C := Tryd.checked) (X := fun w _ => laidMetH Tryd.prog laidU w) (fun _ _ _ hh h => h.of_heap hh) dr_own started (by kernel_rfl) Tryd.func4
    (ChangeSpec.witness_shaped (enc := enc) (C := Tryd.checked) (os := os) (X := fun w _ => laidMetH Tryd.prog laidU w) false (World.laidAll Tryd.prog os laidU) #[.slice none 0 0, .slice none 0 0] 16 (World.laidAll_os _ _ _) (World.shaped_of_ZipB (by kernel_rfl) (by kernel_rfl)) (by kernel_rfl) (by kernel_rfl) (by kernel_rfl)
      (by rw [MakeChecks.laidMetH_plain _ _ _ (by kernel_rfl)]; exact laidMet_laidAll _ (by kernel_rfl) (by kernel_rfl))) ?_
  intro W base args ds gs before hval0 hW _ _ hL _
  have hval : ∀ (j : Nat) t v, Tryd.f4.params[j]? = some t → args[j]? = some v → Value.okWide Tryd.prog W .any base t v := hval0
  have hW' := hW
  obtain ⟨p, q, hA0, hV, rfl, hfz, hnd⟩ := hW
  have hA : DataW.TrodAll enc Tryd.prog W 0 (fun _ => true) true Tryd.f4.params.toList args.toList ds p := hA0
  rw [Tryd.params4] at hA hval
  obtain ⟨v0, vs0, d0, ds0, p0, q0, hargs, rfl, rfl, h0, r0⟩ := trodAll_cons hA
  obtain ⟨v1, vs1, d1, ds1, p1, q1, rfl, rfl, rfl, h1, r1⟩ := trodAll_cons r0
  obtain ⟨rfl, rfl, rfl⟩ := trodAll_nil r1
  obtain rfl : args = #[v0, v1] := by cases args; simp_all
  obtain ⟨rfl, rfl⟩ := trodVars_none hV
  have k0 := h0
  have lt0 : ∀ x ∈ p0, x.block < W.heap.size := by obtain ⟨m, hm⟩ := k0; exact DataW.trod_lt m _ _ _ hm
  have k1 := h1
  have lt1 : ∀ x ∈ p1, x.block < W.heap.size := by obtain ⟨m, hm⟩ := k1; exact DataW.trod_lt m _ _ _ hm
  obtain ⟨A0, c0, x0, rfl, hc0, ok0, rd0⟩ := open_arg Tryd.underlying22 opens_decls (hval 0 22 v0 rfl rfl) h0
  obtain ⟨A1, c1, x1, rfl, hc1, ok1, rd1⟩ := open_arg Tryd.underlying25 opens_ints (hval 1 25 v1 rfl rfl) h1
  clear hA0 hval0
  refine (fnExactBlastIns_walk W hc0 ok0 rd0 hc1 ok1 rd1).mono fun e W' ⟨he, bel⟩ => ?_
  subst he
  exact ⟨_, rfl, _, _, _, [], _, [], hW', trodAll_mk1 (shut_bool Tryd.underlying4 _), (trodAll_cons_mk (Below.trod (by kernel_rfl) (by kernel_rfl) (of_decide_eq_true (by kernel_rfl)) k0 bel lt0) (trodAll_cons_mk (Below.trod (by kernel_rfl) (by kernel_rfl) (of_decide_eq_true (by kernel_rfl)) k1 bel lt1) trodAll_mk0)), rfl, bel.frame _, fun h => by cases h⟩

/-- The given row. -/
theorem fnExactBlastIns_row : Rows.FnExactBlastInsSaid :=
  OpenClaim.holds_of_wide 4 Tryd.f4 rfl rfl rfl rfl rfl rfl rfl ⟨rfl, rfl, rfl, rfl, rfl⟩ rfl rfl rfl rfl rfl (by kernel_rfl) Tryd.func4 (by kernel_rfl)
    (of_decide_eq_true (by kernel_rfl)) (by unfold Func.isWrapper; first | (rw [if_pos (by decide +kernel)]; kernel_rfl) | (rw [if_neg (by decide +kernel)]; exact ⟨rfl, rfl⟩))
    (fun os started H enc _ => fnExactBlastIns_lifted os started H enc)
/-- The given statement: the row, what it lists tied to the program's text. -/
theorem fnExactBlastIns_holds : Rows.FnExactBlastInsCardSaid :=
  Claim7.holds_tied_plain_at .later [] [.data, .pinned] true Rows.fnExactBlastInsCard.stood.harness Rows.fnExactBlastInsCard.stood.looks
    fnExactBlastIns_row (fun _ h => by cases h) (by kernel_rfl) (fun _ h => by cases h) fnExactBlastIns_row_tie rfl ⟨rfl, rfl⟩ (by kernel_rfl) rfl
    (fun f fn hf hfn => by
      obtain rfl : f = 4 := Option.some.inj ((show Tryd.prog.funcNamed "loop.example/seedlip/laws.FnExactBlastIns" = some 4 by kernel_rfl).symm.trans hf) |>.symm
      obtain rfl : fn = Tryd.f4 := (Option.some.inj (Tryd.func4.symm.trans hfn)).symm
      exact ⟨by kernel_rfl, fun j t ht => by
        rw [Tryd.params4] at ht
        have hm : t ∈ [22, 25] := by simpa using Array.mem_of_getElem? ht
        have hall : ([22, 25].all fun u => !Tryd.prog.wantsStandIn u) = true := by kernel_rfl
        exact (show Tryd.prog.wantsStandIn t = false by simpa using List.all_eq_true.1 hall t hm)⟩)
    (by kernel_rfl)
#print axioms fnExactBlastIns_holds
end Go.Proofs.YthcmflhhpgmfaaaDoor
