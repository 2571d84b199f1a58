/- strings.Trim at the letters a to z, out of the kit's shelf of library contracts (laid by the kit's lay-plain tool). What a law leaves. The program's declarations: DeclOk, bitsOf, EnvOk. The map of the kinds of terms: impl.kinds. -/
import Derived.Ground.NamesProg
import Derived.Shelf.Strings.SlTrimAscii
import Derived.Test.YtiahmfpfimmbgaaGreatDoorProg
import Derived.Maps.OwnSet
import Derived.Test.YtiahmfpfimmbgaaGreatDoorJExCtxAssert0
import Derived.Test.YtiahmfpfimmbgaaGreatDoorJExCtxAssert1
import Derived.Test.YtiahmfpfimmbgaaGreatDoorJExCtxAssert2
/-! strings.Trim at the letters a to z, out of the kit's shelf of library contracts (laid by the kit's lay-plain tool). -/
namespace Go.Proofs.YtiahmfpfimmbgaaGreatDoor
open Go Go.RowKit Go.Shelf

def lays160_ren : Go.Shelf.Ren := ⟨fun | 160 => 79 | 232 => 103 | 231 => 102 | 227 => 104 | 234 => 106 | 233 => 105 | 236 => 108 | 235 => 107 | 228 => 124 | 271 => 127 | 151 => 126 | 197 => 125 | 120 => 139 | 152 => 138 | 260 => 137 | 137 => 140 | 119 => 141 | 224 => 142 | 225 => 143 | 217 => 144 | 266 => 145 | n => n, fun | 9 => 9 | 4 => 4 | 3 => 3 | 5 => 5 | 117 => 125 | 116 => 124 | 0 => 0 | 124 => 128 | 21 => 21 | 105 => 143 | 46 => 170 | 119 => 169 | 139 => 173 | 138 => 172 | n => n, fun | 3 => 0 | 4 => 1 | n => n⟩
theorem lays160 : Go.Proofs.Lays.n160 Tryz.prog lays160_ren := {
  mixed := by kernel_rfl
  f119 := Tryz.func141.trans (congrArg some (by kernel_rfl))
  f120 := Tryz.func139.trans (congrArg some (by kernel_rfl))
  f137 := Tryz.func140.trans (congrArg some (by kernel_rfl))
  f151 := Tryz.func126.trans (congrArg some (by kernel_rfl))
  f152 := Tryz.func138.trans (congrArg some (by kernel_rfl))
  f160 := Tryz.func79.trans (congrArg some (by kernel_rfl))
  f197 := Tryz.func125.trans (congrArg some (by kernel_rfl))
  f217 := Tryz.func144.trans (congrArg some (by kernel_rfl))
  f224 := Tryz.func142.trans (congrArg some (by kernel_rfl))
  f225 := Tryz.func143.trans (congrArg some (by kernel_rfl))
  f227 := Tryz.func104.trans (congrArg some (by kernel_rfl))
  f228 := Tryz.func124.trans (congrArg some (by kernel_rfl))
  f231 := Tryz.func102.trans (congrArg some (by kernel_rfl))
  f232 := Tryz.func103.trans (congrArg some (by kernel_rfl))
  f233 := Tryz.func105.trans (congrArg some (by kernel_rfl))
  f234 := Tryz.func106.trans (congrArg some (by kernel_rfl))
  f235 := Tryz.func107.trans (congrArg some (by kernel_rfl))
  f236 := Tryz.func108.trans (congrArg some (by kernel_rfl))
  f260 := Tryz.func137.trans (congrArg some (by kernel_rfl))
  f266 := Tryz.func145.trans (congrArg some (by kernel_rfl))
  f271 := Tryz.func127.trans (congrArg some (by kernel_rfl))
  t0 := Tryz.underlying0
  a0 := Tryz.isAgg0
  z0 := Tryz.sizeOf0
  v0 := Tryz.zeroValue0
  t3 := Tryz.underlying3
  a3 := Tryz.isAgg3
  z3 := Tryz.sizeOf3
  v3 := Tryz.zeroValue3
  t4 := Tryz.underlying4
  a4 := Tryz.isAgg4
  z4 := Tryz.sizeOf4
  v4 := Tryz.zeroValue4
  t5 := Tryz.underlying5
  a5 := Tryz.isAgg5
  z5 := Tryz.sizeOf5
  v5 := Tryz.zeroValue5
  t9 := Tryz.underlying9
  a9 := Tryz.isAgg9
  z9 := Tryz.sizeOf9
  v9 := Tryz.zeroValue9
  t21 := Tryz.underlying21
  a21 := Tryz.isAgg21
  z21 := Tryz.sizeOf21
  v21 := Tryz.zeroValue21
  t46 := Tryz.underlying170
  a46 := Tryz.isAgg170
  z46 := Tryz.sizeOf170
  v46 := Tryz.zeroValue170
  t105 := Tryz.underlying143
  a105 := Tryz.isAgg143
  z105 := Tryz.sizeOf143
  v105 := Tryz.zeroValue143
  t116 := Tryz.underlying124
  a116 := Tryz.isAgg124
  z116 := Tryz.sizeOf124
  t117 := Tryz.underlying125
  a117 := Tryz.isAgg125
  z117 := Tryz.sizeOf125
  v117 := Tryz.zeroValue125
  t119 := Tryz.underlying169
  a119 := Tryz.isAgg169
  z119 := Tryz.sizeOf169
  t124 := Tryz.underlying128
  a124 := Tryz.isAgg128
  z124 := Tryz.sizeOf128
  v124 := Tryz.zeroValue128
  t138 := Tryz.underlying172
  a138 := Tryz.isAgg172
  z138 := Tryz.sizeOf172
  v138 := Tryz.zeroValue172
  t139 := Tryz.underlying173
  a139 := Tryz.isAgg173
  z139 := Tryz.sizeOf173
  v139 := Tryz.zeroValue173
  g3 := by kernel_rfl
  g4 := by kernel_rfl }

theorem dropWhile_all {α : Type} {p : α → Bool} : ∀ {l : List α}, (∀ x ∈ l.dropWhile p, p x = true) → l.dropWhile p = []
  | [], _ => rfl
  | x :: xs, h => by
    cases hx : p x
    · rw [List.dropWhile_cons_of_neg (by simp [hx])] at h
      exact absurd (h x (List.mem_cons_self ..)) (by simp [hx])
    · rw [List.dropWhile_cons_of_pos hx] at h ⊢
      exact dropWhile_all h
theorem dropWhile_nil {α : Type} {p : α → Bool} : ∀ {l : List α}, l.dropWhile p = [] → ∀ x ∈ l, p x = true
  | [], _, x, hx => by cases hx
  | y :: ys, h, x, hx => by
    cases hy : p y
    · rw [List.dropWhile_cons_of_neg (by simp [hy])] at h; cases h
    · rw [List.dropWhile_cons_of_pos hy] at h
      rcases List.mem_cons.1 hx with rfl | hx
      · exact hy
      · exact dropWhile_nil h x hx
theorem dropWhile_of {α : Type} {p : α → Bool} : ∀ {l : List α}, (∀ x ∈ l, p x = true) → l.dropWhile p = []
  | [], _ => rfl
  | x :: xs, h => by
    rw [List.dropWhile_cons_of_pos (h x (List.mem_cons_self ..))]
    exact dropWhile_of fun y hy => h y (List.mem_cons_of_mem _ hy)
theorem trimS_nil (l cs : List UInt8) : (Lib.trimS l cs).isEmpty = l.all (cs.contains ·) := by
  rw [Bool.eq_iff_iff, List.isEmpty_iff, List.all_eq_true]
  unfold Lib.trimS Lib.trimLeftS Lib.trimRightS
  constructor
  · intro h x hx
    have h1 : l.reverse.dropWhile (cs.contains ·) = [] := dropWhile_all fun y hy => dropWhile_nil h y (by simpa using hy)
    exact dropWhile_nil h1 x (by simpa using hx)
  · intro h
    rw [dropWhile_of (l := l.reverse) fun x hx => h x (by simpa using hx)]
    rfl
def azL : List UInt8 := [97, 98, 99, 100, 101, 102, 103, 104, 105, 106, 107, 108, 109, 110, 111, 112, 113, 114, 115, 116, 117, 118, 119, 120, 121, 122]
theorem az_letter (c : UInt8) : azL.contains c = letter c := by
  have h : ∀ n : Fin 256, azL.contains (UInt8.ofNat n.val) = letter (UInt8.ofNat n.val) := by decide +kernel
  have := h ⟨c.toNat, c.toNat_lt⟩
  simpa using this
/-- Trim at the letters: what is left is empty just if all are letters. -/
theorem trimAz_any (s : ByteArray) (w : World) (hs : s.size ≤ 9223372036854775807) :
    Calls Tryz.prog 79 #[.string s, .string ⟨#[97, 98, 99, 100, 101, 102, 103, 104, 105, 106, 107, 108, 109, 110, 111, 112, 113, 114, 115, 116, 117, 118, 119, 120, 121, 122]⟩] w
      fun e w' => ∃ r : ByteArray, e = .returned (.string r) ∧ r.toList.isEmpty = allLet s ∧ Below w.heap.size w w' := by
  have hcon := Any.strings_Trim_laid lays160 (by kernel_rfl) s ⟨#[97, 98, 99, 100, 101, 102, 103, 104, 105, 106, 107, 108, 109, 110, 111, 112, 113, 114, 115, 116, 117, 118, 119, 120, 121, 122]⟩ w hs (by decide) (ascii_of_all (by decide))
  refine hcon.mono fun e w' ⟨h1, h2⟩ => ⟨_, h1, ?_, h2⟩
  rw [Lib.toList_data]
  show (Lib.trimS s.data.toList azL).isEmpty = _
  rw [trimS_nil]
  unfold allLet
  exact congrArg (fun f => s.data.toList.all f) (funext az_letter)
end Go.Proofs.YtiahmfpfimmbgaaGreatDoor

/-! What a law leaves. -/
namespace Go.Proofs.YtiahmfpfimmbgaaGreatDoor
open Go Go.RowKit

def LawC (w : World) (e : Ending) (w' : World) : Prop := e = .returned (.bool true) ∧ Below w.heap.size w w'
end Go.Proofs.YtiahmfpfimmbgaaGreatDoor

/-! The program's declarations: DeclOk, bitsOf, EnvOk. -/
namespace Go.Proofs.YtiahmfpfimmbgaaGreatDoor
open Go Go.RowKit

set_option maxHeartbeats 1000000 in
/-- The closure: whether a declaration has the name of the one in block b. -/
theorem declOk1_any (y x : D) (b : Nat) (w : World) (hb : w.heap[b]? = some (.cells #[.string x.name, .int .i64 x.wide] 39 (0, 0))) :
    Calls Tryz.prog 81 #[.agg #[.string y.name, .int .i64 y.wide], .pointer (some ⟨b, 0, none⟩)] w (RetB w (y.name.toList == x.name.toList)) := by
  have hal : Below w.heap.size w (w.alloc (.cells #[.string y.name, .int .i64 y.wide] 39)) := (Below.refl _ _).alloc (Nat.le_refl _) _
  have c0 : w.cell? ⟨b, 0, none⟩ = some (.string x.name) := (cell_of_block hb 0).1
  have hlt := lt_of_block hb
  have HAL := Lib.hid hal
  obtain ⟨q, hq⟩ : ∃ q, q = (y.name.toList == x.name.toList) := ⟨_, rfl⟩
  rw [← hq]
  have g9 := hq.symm
  clear hal hb hq
  go_enter Tryz.func81, Tryz.ntmps81
  go_wp2
  go_ret
  exact ⟨rfl, HAL.out⟩
set_option maxHeartbeats 2000000 in
theorem indexName_any (A : Option Addr) (c : Nat) (xs : List D) (x : D) (b : Nat) (F : Nat → Prop) (w : World) (h : Lay.decl.Sl w F A xs) (hF : ∀ b, F b → b < w.heap.size) (hb : w.heap[b]? = some (.cells #[.string x.name, .int .i64 x.wide] 39 (0, 0))) (hn : xs.length ≤ 9223372036854775807) :
    Calls Tryz.prog 109 #[.slice A xs.length c, .func (.func 81) #[] #[.pointer (some ⟨b, 0, none⟩)]] w fun e w' => e = .returned (.int .i64 (fN 0 xs x.name)) ∧ Below w.heap.size w w' := by
  have HB := Lib.hid hb
  clear hb
  go_enter Tryz.func109, Tryz.ntmps109
  go_wp2
  go_loopw [8] (fun i wr => ∃ k : Nat, k ≤ xs.length ∧ i = .int .i64 k ∧ Below w.heap.size w wr ∧ Hid (fN 0 xs x.name = fN k (xs.drop k) x.name)) (fun i _ => xs.length - (intOf i).toNat)
  case atStart => exact ⟨0, Nat.zero_le _, rfl, Below.refl _ _, Lib.hid rfl⟩
  case round =>
    obtain ⟨k, hk, rfl, hbr, HT⟩ := hrel
    by_cases hlt : k < xs.length
    · obtain ⟨ad, rfl, hf, c1, c2⟩ := (h.below hbr hF).at_decl hlt
      have hk1 : (k : Int) < xs.length := by omega
      have HS := Lib.hid (fN_step xs k x.name hlt)
      have HC := Lib.hid (declOk1_any xs[k] x b wr ((hbr.block _ (lt_of_block HB.out)).trans HB.out))
      obtain ⟨q, hq⟩ : ∃ q, q = (xs[k].name.toList == x.name.toList) := ⟨_, rfl⟩
      have HQ := Lib.hid hq
      rw [← hq] at HC
      clear hq
      go_wp2_with fail
      refine HC.out.mono ?_
      rintro e w2 ⟨rfl, hb2⟩
      have hbq := bthen hbr hb2
      cases q
      · have HE : Hid (fN 0 xs x.name = fN (k + 1) (xs.drop (k + 1)) x.name) := Lib.hid (by rw [HT.out, HS.out, ← HQ.out]; rfl)
        go_wp2
        go_roundw
        case rel => exact ⟨k + 1, by omega, by go_num, hbq, HE⟩
        case measure => simp [intOf]; omega
      · have HE : Hid (fN 0 xs x.name = (k : Int)) := Lib.hid (by rw [HT.out, HS.out, ← HQ.out]; rfl)
        go_wp2
        go_ret
        exact ⟨ret_int (by rw [HE.out]), hbq⟩
    · have HE : Hid (fN 0 xs x.name = -1) := Lib.hid (by rw [HT.out, List.drop_of_length_le (by omega)]; rfl)
      have hke : k = xs.length := by omega
      subst hke
      go_wp2
      go_ret
      exact ⟨ret_int (by rw [HE.out]), hbr⟩
set_option maxHeartbeats 1000000 in
theorem hasName_any (A : Option Addr) (c : Nat) (xs : List D) (x : D) (b : Nat) (F : Nat → Prop) (w : World) (h : Lay.decl.Sl w F A xs) (hF : ∀ b, F b → b < w.heap.size) (hb : w.heap[b]? = some (.cells #[.string x.name, .int .i64 x.wide] 39 (0, 0))) (hn : xs.length ≤ 9223372036854775807) :
    Calls Tryz.prog 80 #[.slice A xs.length c, .func (.func 81) #[] #[.pointer (some ⟨b, 0, none⟩)]] w (RetB w (hasN xs x.name)) := by
  have HC := Lib.hid (indexName_any A c xs x b F w h hF hb hn)
  have HH := Lib.hid (fN_has 0 xs x.name)
  have HG := Lib.hid (fN_ge 0 xs x.name)
  obtain ⟨q, hq⟩ : ∃ q, q = fN 0 xs x.name := ⟨_, rfl⟩
  rw [← hq] at HC HH HG
  clear hq h hb
  by_cases hq0 : 0 ≤ q
  · have HE : Hid (hasN xs x.name = true) := Lib.hid (HH.out.1 hq0)
    go_enter Tryz.func80, Tryz.ntmps80
    go_wp2_with fail
    refine HC.out.mono ?_
    rintro e w2 ⟨rfl, hb2⟩
    go_wp2
    go_ret
    exact ⟨ret_bool (by rw [HE.out]), hb2⟩
  · have HE : Hid (hasN xs x.name = false) := Lib.hid (Bool.eq_false_iff.2 fun h9 => hq0 (HH.out.2 h9))
    go_enter Tryz.func80, Tryz.ntmps80
    go_wp2_with fail
    refine HC.out.mono ?_
    rintro e w2 ⟨rfl, hb2⟩
    go_wp2
    go_ret
    exact ⟨ret_bool (by rw [HE.out]; exact decide_eq_false (by omega)), hb2⟩
theorem nameOk_short {s : ByteArray} (h : ¬ 1 ≤ s.size) : nameOk s = false := by unfold nameOk; rw [decide_eq_false h]; rfl
theorem nameOk_long {s : ByteArray} (h : ¬ s.size ≤ 4) : nameOk s = false := by unfold nameOk; rw [decide_eq_false h]; simp
theorem nameOk_tru {s : ByteArray} (h : tru s = true) : nameOk s = false := by unfold nameOk; rw [h]; simp
theorem nameOk_let {s : ByteArray} (h : allLet s = false) : nameOk s = false := by unfold nameOk; rw [h]; simp
theorem nameOk_yes {s : ByteArray} (h1 : 1 ≤ s.size) (h4 : s.size ≤ 4) (ht : tru s = false) (hl : allLet s = true) : nameOk s = true := by unfold nameOk; rw [decide_eq_true h1, decide_eq_true h4, ht, hl]; rfl
set_option maxRecDepth 100000 in
set_option maxHeartbeats 4000000 in
theorem implDeclOk_any (A : Option Addr) (c : Nat) (xs : List D) (F : Nat → Prop) (w : World) (h : Lay.decl.Sl w F A xs) (hF : ∀ b, F b → b < w.heap.size) (hn : xs.length ≤ 9223372036854775807) (ho : okNames xs) (hc : xs.length ≤ c) :
    Calls Tryz.prog 42 #[.slice A xs.length c] w (RetB w (declOk xs)) := by
  by_cases hl4 : xs.length ≤ 4
  · go_enter Tryz.func42, Tryz.ntmps42
    go_wp2
    go_loopw [3, 11] (fun b i wr => ∃ (k : Nat) (n : Int), k ≤ xs.length ∧ i = .int .i64 k ∧ b = .int .i64 n ∧ 0 ≤ n ∧ n ≤ 4 * k ∧ Below w.heap.size w wr ∧ Hid (dGo [] 0 xs = dGo (xs.take k) n (xs.drop k))) (fun _ i _ => xs.length - (intOf i).toNat)
    case atStart => exact ⟨0, 0, Nat.zero_le _, rfl, rfl, by omega, by omega, Below.refl _ _, Lib.hid rfl⟩
    case round =>
      obtain ⟨k, n, hk, rfl, rfl, n0, n1, hb, HT⟩ := hrel
      by_cases hlt : k < xs.length
      · have hr := h.below hb hF
        obtain ⟨ad, rfl, hf, c1, c2⟩ := hr.at_decl hlt
        have hk1 : (k : Int) < xs.length := by omega
        have hos := ho _ (List.getElem_mem hlt)
        have hal : Below wr.heap.size wr (wr.alloc (.cells #[.string xs[k].name, .int .i64 xs[k].wide] 39)) := (Below.refl _ _).alloc (Nat.le_refl _) _
        have HAL := Lib.hid (bthen hb hal)
        have HBX := Lib.hid (heap_alloc_new wr (.cells #[.string xs[k].name, .int .i64 xs[k].wide] 39))
        have hkc : k ≤ c := by omega
        clear hal hr
        by_cases h1 : 1 ≤ xs[k].name.size
        · by_cases h4 : xs[k].name.size ≤ 4
          · obtain ⟨q, hq⟩ : ∃ q, q = tru xs[k].name := ⟨_, rfl⟩
            have HQ := Lib.hid hq
            have g9 : (xs[k].name.toList == [116, 114, 117, 101]) = q := hq.symm
            clear hq
            cases q
            · have HTR := Lib.hid (fun z => trimAz_any xs[k].name z hos)
              obtain ⟨p, hp⟩ : ∃ p, p = allLet xs[k].name := ⟨_, rfl⟩
              have HP := Lib.hid hp
              rw [← hp] at HTR
              clear hp
              go_wp2_with fail
              generalize wr.alloc (.cells #[.string xs[k].name, .int .i64 xs[k].wide] 39) = w1 at *
              refine (HTR.out _).mono ?_
              rintro e w2 ⟨r, rfl, hre, hb2⟩
              have HB2 := Lib.hid (bthen HAL.out hb2)
              have HBX := Lib.hid ((hb2.block _ (lt_of_block HBX.out)).trans HBX.out)
              clear hb2 g9 c1 c2
              cases p
              · have HB : Hid (declOk xs = false) := Lib.hid (declOk_bad xs k n hlt HT.out (dOne_name (nameOk_let HP.out.symm)))
                go_wp2
                go_ret
                exact ⟨ret_bool (by rw [HB.out]), HB2.out⟩
              · have HNM : Hid (nameOk xs[k].name = true) := Lib.hid (nameOk_yes h1 h4 HQ.out.symm HP.out.symm)
                have e9 : (xs.take k).length = k := by rw [List.length_take]; omega
                have HCN := Lib.hid (hasName_any (some ad) c (xs.take k) xs[k] wr.heap.size F w2 ((h.below HB2.out hF).take k) (fun b hb9 => Nat.lt_of_lt_of_le (hF b hb9) HB2.out.size) HBX.out (by omega))
                rw [e9] at HCN
                clear e9 h1 h4
                go_wp2_with fail
                refine HCN.out.mono ?_
                rintro e w3 ⟨rfl, hb3⟩
                have HB3 := Lib.hid (bthen HB2.out hb3)
                have HBX := Lib.hid ((hb3.block _ (lt_of_block HBX.out)).trans HBX.out)
                obtain ⟨u, hu⟩ : ∃ u, u = hasN (xs.take k) xs[k].name := ⟨_, rfl⟩
                have HU := Lib.hid hu
                rw [← hu]
                clear hu hb3 hre
                have v1 := (cell_of_block HBX.out 1).1
                cases u
                · by_cases hw1 : 1 ≤ xs[k].wide
                  · by_cases hw4 : xs[k].wide ≤ 4
                    · have HX : Hid (dGo [] 0 xs = dGo (xs.take (k + 1)) (n + xs[k].wide) (xs.drop (k + 1))) := Lib.hid (declOk_next xs k n hlt HT.out (dOne_yes HNM.out hw1 hw4 HU.out.symm))
                      go_wp2
                      go_roundw
                      case rel => exact ⟨k + 1, n + xs[k].wide, by omega, by go_num, rfl, by omega, by omega, HB3.out, HX⟩
                      case measure => simp [intOf]; omega
                    · have HB : Hid (declOk xs = false) := Lib.hid (declOk_bad xs k n hlt HT.out (dOne_high hw4))
                      go_wp2
                      go_ret
                      exact ⟨ret_bool (by rw [HB.out]), HB3.out⟩
                  · have HB : Hid (declOk xs = false) := Lib.hid (declOk_bad xs k n hlt HT.out (dOne_low hw1))
                    go_wp2
                    go_ret
                    exact ⟨ret_bool (by rw [HB.out]), HB3.out⟩
                · have HB : Hid (declOk xs = false) := Lib.hid (declOk_bad xs k n hlt HT.out (dOne_seen HU.out.symm))
                  go_wp2
                  go_ret
                  exact ⟨ret_bool (by rw [HB.out]), HB3.out⟩
            · have HB : Hid (declOk xs = false) := Lib.hid (declOk_bad xs k n hlt HT.out (dOne_name (nameOk_tru HQ.out.symm)))
              go_wp2
              go_ret
              exact ⟨ret_bool (by rw [HB.out]), HAL.out⟩
          · have HB : Hid (declOk xs = false) := Lib.hid (declOk_bad xs k n hlt HT.out (dOne_name (nameOk_long h4)))
            go_wp2
            go_ret
            exact ⟨ret_bool (by rw [HB.out]), HAL.out⟩
        · have HB : Hid (declOk xs = false) := Lib.hid (declOk_bad xs k n hlt HT.out (dOne_name (nameOk_short h1)))
          go_wp2
          go_ret
          exact ⟨ret_bool (by rw [HB.out]), HAL.out⟩
      · have hke : k = xs.length := by omega
        subst hke
        have HE := Lib.hid (declOk_end xs n hl4 HT.out)
        go_wp2
        go_ret
        exact ⟨ret_bool (by rw [HE.out]), hb⟩
  · have HE := Lib.hid (declOk_long xs hl4)
    go_enter Tryz.func42, Tryz.ntmps42
    go_wp2
    go_ret
    exact ⟨ret_bool (by rw [HE.out]), Below.refl _ _⟩
end Go.Proofs.YtiahmfpfimmbgaaGreatDoor

/-! The map of the kinds of terms: impl.kinds. -/
namespace Go.Proofs.YtiahmfpfimmbgaaGreatDoor
open Go Go.RowKit Go.Maps

def heldV (v : Value) : Option (DataW Value × List MemPlace) := some (.held v, [])
def i64 (n : Int) : Prop := -9223372036854775808 ≤ n ∧ n ≤ 9223372036854775807
theorem int_kd : Keyed Tryz.prog 3 := int_keyed Tryz.underlying3
theorem keyI {n : Int} (h : i64 n) : keyOf Tryz.prog 3 (.int .i64 n) = some (.int .i64 n) := keyOf_int_mk Tryz.underlying3 (WalkArith.wf_i64 h)
theorem keyI_inj {n m : Int} (e : Lit.int .i64 n = Lit.int .i64 m) : n = m := by injection e
/-- What a map says: at each key its value. -/
structure KK (f : Int → Option Value) (D : DataW Value) : Prop where
  isMap : IsMap D
  has : ∀ n, i64 n → Maps.has D (.int .i64 n) = (f n).isSome
  at_ : ∀ n v, i64 n → f n = some v → ∀ z, D.atKey (.int .i64 n) z = .held v
def updF (f : Int → Option Value) (n : Int) (v : Value) : Int → Option Value := fun m => if m = n then some v else f m
theorem KK.nil : KK (fun _ => none) (.map []) := ⟨isMap_empty, fun n _ => by simp [Maps.has], fun n v _ h => by cases h⟩
theorem KK.put {f : Int → Option Value} {D : DataW Value} (h : KK f D) (n : Int) (hn : i64 n) (v : Value) : KK (updF f n v) (D.put (.int .i64 n) (.held v)) := by
  refine ⟨h.isMap.put _ _, fun m hm => ?_, fun m u hm hu z => ?_⟩
  · by_cases e : m = n
    · subst e
      rw [has_put_same h.isMap (int_kd.key (keyI hn))]; simp [updF]
    · have hne : Lit.int .i64 m ≠ Lit.int .i64 n := fun e' => e (keyI_inj e')
      rw [has_put_other hne, h.has m hm]
      simp [updF, e]
  · by_cases e : m = n
    · subst e
      rw [atKey_put_same h.isMap (int_kd.key (keyI hn))]
      simp [updF] at hu
      rw [hu]
    · have hne : Lit.int .i64 m ≠ Lit.int .i64 n := fun e' => e (keyI_inj e')
      simp [updF, e] at hu
      rw [atKey_put_other hne, h.at_ m u hm hu]
/-- The block b is a map that says f. -/
def KAt (w : World) (b n : Nat) (f : Int → Option Value) : Prop := ∃ D : DataW Value, w.ownsMap Tryz.prog 3 heldV b n D ∧ KK f D
theorem KAt.lt {w : World} {b n : Nat} {f : Int → Option Value} (h : KAt w b n f) : b < w.heap.size := by
  obtain ⟨D, h1, h2⟩ := h
  exact h1.lt
theorem KAt.up {w w' : World} {lo b n : Nat} {f : Int → Option Value} (h : KAt w b n f) (hb : Below lo w w') (hl : b < lo) : KAt w' b n f := by
  obtain ⟨D, ⟨es, clock, h1, h2⟩, h3⟩ := h
  exact ⟨D, ⟨es, clock, (hb.block b hl).trans h1, h2⟩, h3⟩
theorem KAt.made (w : World) : KAt (w.alloc (.map #[] 0)) w.heap.size 0 (fun _ => none) := ⟨_, World.ownsMap_made w _ _ _, KK.nil⟩
theorem KAt.update {w w0 : World} {lo b n : Nat} {f : Int → Option Value} (h : KAt w b n f) (hb : Below lo w0 w) (hlo : lo ≤ b) (hn : n < 1000) (k : Int) (hk : i64 k) (v : Value) :
    ∃ w', (Instr.mapUpdate 132 (.map (some b)) (.int .i64 k) v).run Tryz.prog w = .ok () w' ∧ KAt w' b (n + 1) (updF f k v) ∧ Below lo w0 w' ∧ w.grownBy w' (some b) := by
  obtain ⟨D, h1, h2⟩ := h
  obtain ⟨w', hr, ho, hg⟩ := h1.update int_kd Tryz.underlying132 (by unfold maxLen; omega) (keyI hk) (val := v) (d := .held v) (ps := []) rfl
  exact ⟨w', hr, ⟨_, ho, h2.put k hk v⟩, hb.grown hg (Nat.le_trans hlo (Nat.le_of_lt h1.lt)) (fun k hk => by injection hk with hk; omega), hg⟩
/-- A kind's value, of the operation. -/
inductive IsKind : Int → Value → Prop
  | un (op : Int) (h : op = 1 ∨ op = 2) (s : ByteArray) : IsKind op (.iface 156 (.agg #[.string s, .int .i64 1]))
  | bin (op : Int) (h : 3 ≤ op ∧ op ≤ 13) (s : ByteArray) : IsKind op (.iface 167 (.agg #[.string s, .int .i64 2]))
  | cat (s : ByteArray) : IsKind 14 (.iface 157 (.agg #[.string s, .int .i64 2]))
  | cmp (op : Int) (h : 15 ≤ op ∧ op ≤ 17) (s : ByteArray) : IsKind op (.iface 158 (.agg #[.string s, .int .i64 2]))
  | vec (s : ByteArray) : IsKind 20 (.iface 159 (.agg #[.string s, .int .i64 0]))
  | name (s : ByteArray) : IsKind 21 (.iface 160 (.agg #[.string s, .int .i64 0]))
  | cut (s : ByteArray) : IsKind 22 (.iface 161 (.agg #[.string s, .int .i64 1]))
  | cond (s : ByteArray) : IsKind 23 (.iface 162 (.agg #[.string s, .int .i64 3]))
  | bool (op : Int) (h : 24 ≤ op ∧ op ≤ 27) (s : ByteArray) (fn : Value) : IsKind op (.iface 166 (.agg #[.string s, .int .i64 (arity op), fn]))
/-- What the map says of the operations of the list. -/
def UptoB (l : List Int) (f : Int → Option Value) : Prop := ∀ op, if op ∈ l then ∃ v, f op = some v ∧ IsKind op v else f op = none
theorem UptoB.nil : UptoB [] (fun _ => none) := fun op => by simp
theorem UptoB.put {l : List Int} {f : Int → Option Value} {k : Int} {v : Value} (h : UptoB l f) (hv : IsKind k v) : UptoB (k :: l) (updF f k v) := by
  intro op
  have h9 := h op
  by_cases e : op = k
  · subst e
    rw [if_pos (List.mem_cons_self ..)]
    exact ⟨v, by simp [updF], hv⟩
  · have e2 : updF f k v op = f op := by simp [updF, e]
    rw [e2]
    by_cases hc : op ∈ l
    · rw [if_pos hc] at h9
      rw [if_pos (List.mem_cons_of_mem _ hc)]
      exact h9
    · rw [if_neg hc] at h9
      rw [if_neg (fun h => (List.mem_cons.1 h).elim e hc)]
      exact h9
theorem wpList_insert_kk {w w0 : World} {lo : Nat} {ops : Array Oper} {rest : List Oper} {o : Oper} {a : Act} {Q : Exit → Act → World → Prop} {b n : Nat} {l : List Int} {f : Int → Option Value}
    (hg : o.guard = none) {m x v : Operand} (hop : o.op = Op.insert 132 m x v) (hm : a.eval m = .map (some b)) (h : KAt w b n f) (hb : Below lo w0 w) (hlo : lo ≤ b) (hn : n < 1000) {k : Int} (hx : a.eval x = .int .i64 k) (hk : i64 k) {val : Value} (hv : a.eval v = val)
    (hu : UptoB l f) (hval : IsKind k val)
    (hK : ∀ w' f', KAt w' b (n + 1) f' → UptoB (k :: l) f' → Below lo w0 w' → wpList Tryz.prog ops Q rest (a.put o.dst undef) w') : wpList Tryz.prog ops Q (o :: rest) a w := by
  refine wpList_plain hg fun K' hK' => ?_
  obtain ⟨w', hrun, r1, r2, _⟩ := h.update hb hlo hn k hk val
  unfold Oper.wp
  simp [execOp, hop, hm, hx, hv, hrun, Result.andThen]
  exact hK' _ _ (hK w' _ r1 (hu.put hval) r2)
theorem wpList_mapUpdate_kk {w w0 : World} {lo : Nat} {ops : Array Oper} {rest : List Oper} {o : Oper} {a : Act} {Q : Exit → Act → World → Prop} {b n : Nat} {f : Int → Option Value}
    (hg : o.guard = none) {m x v : Operand} (hop : o.op = Op.mapUpdate 132 m x v) (hm : a.eval m = .map (some b)) (h : KAt w b n f) (hb : Below lo w0 w) (hlo : lo ≤ b) (hn : n < 1000) {k : Int} (hx : a.eval x = .int .i64 k) (hk : i64 k) {val : Value} (hv : a.eval v = val)
    (hK : ∀ w', KAt w' b (n + 1) (updF f k val) → Below lo w0 w' → w.grownBy w' (some b) → wpList Tryz.prog ops Q rest (a.put o.dst undef) w') : wpList Tryz.prog ops Q (o :: rest) a w := by
  refine wpList_plain hg fun K' hK' => ?_
  obtain ⟨w', hrun, r1, r2, r3⟩ := h.update hb hlo hn k hk val
  unfold Oper.wp
  simp [execOp, hop, hm, hx, hv, hrun, Result.andThen]
  exact hK' _ _ (hK w' r1 r2 r3)
def baseOp (op : Int) : Bool := op == 1 || op == 2 || op == 14 || op == 15 || op == 16 || op == 17 || op == 20 || op == 21 || op == 22 || op == 23 || op == 24 || op == 25 || op == 26 || op == 27
/-- What the map says when k of the operations of two have been laid. -/
def Upto (k : Nat) (f : Int → Option Value) : Prop := ∀ op, if baseOp op = true ∨ (3 ≤ op ∧ op < 3 + k) then ∃ v, f op = some v ∧ IsKind op v else f op = none
theorem Upto.step {k : Nat} {f : Int → Option Value} (h : Upto k f) (hk : k < 11) (s : ByteArray) : Upto (k + 1) (updF f (3 + k) (.iface 167 (.agg #[.string s, .int .i64 2]))) := by
  intro op
  have h9 := h op
  by_cases e : op = 3 + k
  · rw [if_pos (.inr (by omega))]
    exact ⟨_, by simp [updF, e], .bin op (by omega) s⟩
  · have e2 : updF f (3 + k) (.iface 167 (.agg #[.string s, .int .i64 2])) op = f op := by simp [updF, e]
    rw [e2]
    by_cases hc : baseOp op = true ∨ (3 ≤ op ∧ op < 3 + k)
    · rw [if_pos hc] at h9
      rw [if_pos (hc.elim .inl fun h => .inr (by omega))]
      exact h9
    · rw [if_neg hc] at h9
      rw [if_neg (fun h => hc (h.elim .inl fun h => .inr (by omega)))]
      exact h9
theorem UptoB.upto {f : Int → Option Value} (h : UptoB [27, 26, 25, 24, 23, 22, 21, 20, 17, 16, 15, 14, 2, 1] f) : Upto 0 f := by
  intro op
  have h9 := h op
  have hb : baseOp op = true ↔ op ∈ [(27 : Int), 26, 25, 24, 23, 22, 21, 20, 17, 16, 15, 14, 2, 1] := by
    simp only [baseOp, Bool.or_eq_true, beq_iff_eq, List.mem_cons, List.not_mem_nil, or_false]
    omega
  by_cases hc : baseOp op = true
  · rw [if_pos (hb.1 hc)] at h9
    rw [if_pos (.inl hc)]
    exact h9
  · rw [if_neg (fun h => hc (hb.2 h))] at h9
    rw [if_neg (fun h => h.elim hc (fun h => by omega))]
    exact h9
def opWords : List ByteArray := [⟨#[97, 110, 100]⟩, ⟨#[111, 114]⟩, ⟨#[120, 111, 114]⟩, ⟨#[97, 100, 100]⟩, ⟨#[115, 117, 98]⟩, ⟨#[109, 117, 108]⟩, ⟨#[100, 105, 118]⟩, ⟨#[114, 101, 109]⟩, ⟨#[115, 104, 108]⟩, ⟨#[115, 104, 114]⟩, ⟨#[115, 97, 114]⟩]
set_option maxRecDepth 100000 in
set_option maxHeartbeats 4000000 in
/-- The map of the kinds. -/
theorem kinds_any (w : World) : Calls Tryz.prog 116 #[] w fun e w' => ∃ f, e = .returned (.map (some w.heap.size)) ∧ KAt w' w.heap.size 25 f ∧ Upto 11 f ∧ Below w.heap.size w w' := by
  have HM := KAt.made w
  have HB : Below w.heap.size w (w.alloc (.map #[] 0)) := (Below.refl _ _).alloc (Nat.le_refl _) _
  have hlo : w.heap.size ≤ w.heap.size := Nat.le_refl _
  go_enter Tryz.func116, Tryz.ntmps116
  have hmm := @run_makeMap Tryz.prog
  have hu9 := UptoB.nil
  have hk8 := HM
  have hb8 := HB
  go_wp2_with (refine wpList_insert_kk (lo := w.heap.size) (w0 := w) rfl rfl rfl (by assumption) (by assumption) hlo (by omega) rfl ⟨by decide, by decide⟩ rfl (by assumption) (by first | exact .un _ (by omega) _ | exact .cat _ | exact .cmp _ (by omega) _ | exact .vec _ | exact .name _ | exact .cut _ | exact .cond _ | exact .bool _ (by omega) _ _) ?_; intro w9 f9 hk9 hu9 hb9)
  clear hmm
  have hu := hu9.upto
  have HS := heap_alloc_new w9 (.cells #[.string ⟨#[97, 110, 100]⟩, .string ⟨#[111, 114]⟩, .string ⟨#[120, 111, 114]⟩, .string ⟨#[97, 100, 100]⟩, .string ⟨#[115, 117, 98]⟩, .string ⟨#[109, 117, 108]⟩, .string ⟨#[100, 105, 118]⟩, .string ⟨#[114, 101, 109]⟩, .string ⟨#[115, 104, 108]⟩, .string ⟨#[115, 104, 114]⟩, .string ⟨#[115, 97, 114]⟩] 9)
  have hlt9 := hk9.lt
  have hkA : KAt (w9.alloc (.cells #[.string ⟨#[97, 110, 100]⟩, .string ⟨#[111, 114]⟩, .string ⟨#[120, 111, 114]⟩, .string ⟨#[97, 100, 100]⟩, .string ⟨#[115, 117, 98]⟩, .string ⟨#[109, 117, 108]⟩, .string ⟨#[100, 105, 118]⟩, .string ⟨#[114, 101, 109]⟩, .string ⟨#[115, 104, 108]⟩, .string ⟨#[115, 104, 114]⟩, .string ⟨#[115, 97, 114]⟩] 9)) w.heap.size 14 f9 := hk9.up ((Below.refl w9.heap.size w9).alloc (Nat.le_refl _) _) hlt9
  have hbA := hb9.alloc (Nat.le_of_lt hlt9) (.cells #[.string ⟨#[97, 110, 100]⟩, .string ⟨#[111, 114]⟩, .string ⟨#[120, 111, 114]⟩, .string ⟨#[97, 100, 100]⟩, .string ⟨#[115, 117, 98]⟩, .string ⟨#[109, 117, 108]⟩, .string ⟨#[100, 105, 118]⟩, .string ⟨#[114, 101, 109]⟩, .string ⟨#[115, 104, 108]⟩, .string ⟨#[115, 104, 114]⟩, .string ⟨#[115, 97, 114]⟩] 9)
  generalize w9.alloc (.cells #[.string ⟨#[97, 110, 100]⟩, .string ⟨#[111, 114]⟩, .string ⟨#[120, 111, 114]⟩, .string ⟨#[97, 100, 100]⟩, .string ⟨#[115, 117, 98]⟩, .string ⟨#[109, 117, 108]⟩, .string ⟨#[100, 105, 118]⟩, .string ⟨#[114, 101, 109]⟩, .string ⟨#[115, 104, 108]⟩, .string ⟨#[115, 104, 114]⟩, .string ⟨#[115, 97, 114]⟩] 9) = W at *
  generalize w9.heap.size = B at *
  go_loopw [48] (fun i wr => ∃ (k : Nat) (f : Int → Option Value), k ≤ 11 ∧ i = .int .i64 k ∧ KAt wr w.heap.size (14 + k) f ∧ Upto k f ∧ Below w.heap.size w wr ∧ wr.heap[B]? = some (.cells #[.string ⟨#[97, 110, 100]⟩, .string ⟨#[111, 114]⟩, .string ⟨#[120, 111, 114]⟩, .string ⟨#[97, 100, 100]⟩, .string ⟨#[115, 117, 98]⟩, .string ⟨#[109, 117, 108]⟩, .string ⟨#[100, 105, 118]⟩, .string ⟨#[114, 101, 109]⟩, .string ⟨#[115, 104, 108]⟩, .string ⟨#[115, 104, 114]⟩, .string ⟨#[115, 97, 114]⟩] 9 (0, 0))) (fun i _ => 11 - (intOf i).toNat)
  case atStart => exact ⟨0, f9, by omega, rfl, hkA, hu, hbA, HS⟩
  case round =>
    obtain ⟨k, f, hk, rfl, hkr, hur, hbr, hS⟩ := hrel
    by_cases hlt : k < 11
    · have c1 : wr.cell? ⟨B, k, none⟩ = some (.string (opWords[k]'(by simpa [opWords] using hlt))) := by
        rw [(cell_of_block hS k).1]
        show (opWords.map Value.string).toArray[k]? = _
        simp
      generalize (opWords[k]'(by simpa [opWords] using hlt)) = s at *
      have hk1 : (k : Int) < 11 := by omega
      have HX := Lib.hid (hur.step hlt s)
      have HS := Lib.hid hS
      clear hS
      go_wp2_with (at_mapUpdate; refine wpList_mapUpdate_kk (lo := w.heap.size) (w0 := w) rfl rfl rfl hkr hbr (Nat.le_refl _) (by omega) (k := 3 + k) (by first | rfl | go_num) ⟨by omega, by omega⟩ rfl ?_; intro w8 hk8 hb8 hg8)
      go_roundw
      case rel => exact ⟨k + 1, _, by omega, by go_num, hk8, HX.out, hb8, (hg8.block _ (lt_of_block HS.out) (by simp; omega)).trans HS.out⟩
      case measure => simp [intOf]; omega
    · have hke : k = 11 := by omega
      subst hke
      go_wp2
      go_ret
      exact ⟨f, rfl, hkr, hur, hbr⟩
end Go.Proofs.YtiahmfpfimmbgaaGreatDoor
