/- FnBlastIns: inputs and environments correspond: for any bytes the law says true. -/
import Derived.Ground.NamesProg
import Derived.Shelf.Strings.SlTrimAscii
import Derived.Test.YthcmflhhpgmfaaaDoorProg
import Derived.Test.YthcmflhhpgmfaaaDoorChecked
import Derived.Test.YthcmflhhpgmfaaaDoorRows
import Derived.Test.YthcmflhhpgmfaaaDoorTie
import Derived.Test.YthcmflhhpgmfaaaDoorCards
import Derived.ProofKit
import Derived.OpenShut
import Derived.LaidMore
import Derived.Lay
import Derived.LaidOnce
import Derived.SevenTiedAt
import Derived.Stop.Joined
import Derived.Test.YthcmflhhpgmfaaaDoorJFnBlastIns0
/-! Declarations as arguments: sizes, copies, comparisons, marks. -/
namespace Go.Proofs.YthcmflhhpgmfaaaDoor
open Go Go.RowKit Go.ChangeShapes Go.WideShapes Go.ChangeAt Go.Deep

/-- n declarations lie there, and may be written. -/
def DeclsAt (w : World) (F : Nat → Prop) (A : Option Addr) (n : Nat) : Prop :=
  0 < n → ∃ ad, A = some ad ∧ F ad.block ∧ ∀ k, k < n → (∃ s, w.cell? (ad.add (k * 2)) = some (.string s)) ∧ (∃ z, w.cell? (ad.add (k * 2 + 1)) = some (.int .i64 z)) ∧ w.frozen? (ad.add (k * 2)) = false ∧ w.frozen? (ad.add (k * 2 + 1)) = false
theorem DeclsAt.of {w : World} {F G : Nat → Prop} {A : Option Addr} {xs : List D} (h : Lay.decl.Sl w F A xs) (hF : ∀ b, F b → G b ∧ ∀ o, w.frozen? ⟨b, o, none⟩ = false) : DeclsAt w G A xs.length := fun hn => by
  obtain ⟨ad, e, hf, hc⟩ := h hn
  have hfz : ∀ j, w.frozen? (ad.add j) = false := fun j => by
    have := (hF _ hf).2 (ad.add j).off
    rw [← this]
    unfold World.frozen?
    rw [block_of_add]
  refine ⟨ad, e, (hF _ hf).1, fun k hk => ?_⟩
  obtain ⟨vs, rfl, hcell⟩ := hc k xs[k] (List.getElem?_eq_getElem hk)
  exact ⟨⟨xs[k].name, by simpa [Lay.decl, Lay.flat] using hcell 0 _ rfl⟩, ⟨xs[k].wide, by simpa [Lay.decl, Lay.flat] using hcell 1 _ rfl⟩, hfz _, hfz _⟩
end Go.Proofs.YthcmflhhpgmfaaaDoor

/-! strings.Trim at the letters a to z, out of the kit's shelf of library contracts (laid by the kit's lay-plain tool). -/
namespace Go.Proofs.YthcmflhhpgmfaaaDoor
open Go Go.RowKit Go.Shelf

def lays160_ren : Go.Shelf.Ren := ⟨fun | 160 => 51 | 232 => 60 | 231 => 59 | 227 => 61 | 234 => 63 | 233 => 62 | 236 => 65 | 235 => 64 | 228 => 67 | 271 => 70 | 151 => 69 | 197 => 68 | 120 => 73 | 152 => 72 | 260 => 71 | 137 => 74 | 119 => 75 | 224 => 76 | 225 => 77 | 217 => 78 | 266 => 79 | n => n, fun | 9 => 9 | 4 => 4 | 3 => 3 | 5 => 5 | 117 => 84 | 116 => 83 | 0 => 0 | 124 => 87 | 21 => 21 | 105 => 90 | 46 => 95 | 119 => 94 | 139 => 98 | 138 => 97 | n => n, fun | 3 => 0 | 4 => 1 | n => n⟩
theorem lays160 : Go.Proofs.Lays.n160 Tryd.prog lays160_ren := {
  mixed := by kernel_rfl
  f119 := Tryd.func75.trans (congrArg some (by kernel_rfl))
  f120 := Tryd.func73.trans (congrArg some (by kernel_rfl))
  f137 := Tryd.func74.trans (congrArg some (by kernel_rfl))
  f151 := Tryd.func69.trans (congrArg some (by kernel_rfl))
  f152 := Tryd.func72.trans (congrArg some (by kernel_rfl))
  f160 := Tryd.func51.trans (congrArg some (by kernel_rfl))
  f197 := Tryd.func68.trans (congrArg some (by kernel_rfl))
  f217 := Tryd.func78.trans (congrArg some (by kernel_rfl))
  f224 := Tryd.func76.trans (congrArg some (by kernel_rfl))
  f225 := Tryd.func77.trans (congrArg some (by kernel_rfl))
  f227 := Tryd.func61.trans (congrArg some (by kernel_rfl))
  f228 := Tryd.func67.trans (congrArg some (by kernel_rfl))
  f231 := Tryd.func59.trans (congrArg some (by kernel_rfl))
  f232 := Tryd.func60.trans (congrArg some (by kernel_rfl))
  f233 := Tryd.func62.trans (congrArg some (by kernel_rfl))
  f234 := Tryd.func63.trans (congrArg some (by kernel_rfl))
  f235 := Tryd.func64.trans (congrArg some (by kernel_rfl))
  f236 := Tryd.func65.trans (congrArg some (by kernel_rfl))
  f260 := Tryd.func71.trans (congrArg some (by kernel_rfl))
  f266 := Tryd.func79.trans (congrArg some (by kernel_rfl))
  f271 := Tryd.func70.trans (congrArg some (by kernel_rfl))
  t0 := Tryd.underlying0
  a0 := Tryd.isAgg0
  z0 := Tryd.sizeOf0
  v0 := Tryd.zeroValue0
  t3 := Tryd.underlying3
  a3 := Tryd.isAgg3
  z3 := Tryd.sizeOf3
  v3 := Tryd.zeroValue3
  t4 := Tryd.underlying4
  a4 := Tryd.isAgg4
  z4 := Tryd.sizeOf4
  v4 := Tryd.zeroValue4
  t5 := Tryd.underlying5
  a5 := Tryd.isAgg5
  z5 := Tryd.sizeOf5
  v5 := Tryd.zeroValue5
  t9 := Tryd.underlying9
  a9 := Tryd.isAgg9
  z9 := Tryd.sizeOf9
  v9 := Tryd.zeroValue9
  t21 := Tryd.underlying21
  a21 := Tryd.isAgg21
  z21 := Tryd.sizeOf21
  v21 := Tryd.zeroValue21
  t46 := Tryd.underlying95
  a46 := Tryd.isAgg95
  z46 := Tryd.sizeOf95
  v46 := Tryd.zeroValue95
  t105 := Tryd.underlying90
  a105 := Tryd.isAgg90
  z105 := Tryd.sizeOf90
  v105 := Tryd.zeroValue90
  t116 := Tryd.underlying83
  a116 := Tryd.isAgg83
  z116 := Tryd.sizeOf83
  t117 := Tryd.underlying84
  a117 := Tryd.isAgg84
  z117 := Tryd.sizeOf84
  v117 := Tryd.zeroValue84
  t119 := Tryd.underlying94
  a119 := Tryd.isAgg94
  z119 := Tryd.sizeOf94
  t124 := Tryd.underlying87
  a124 := Tryd.isAgg87
  z124 := Tryd.sizeOf87
  v124 := Tryd.zeroValue87
  t138 := Tryd.underlying97
  a138 := Tryd.isAgg97
  z138 := Tryd.sizeOf97
  v138 := Tryd.zeroValue97
  t139 := Tryd.underlying98
  a139 := Tryd.isAgg98
  z139 := Tryd.sizeOf98
  v139 := Tryd.zeroValue98
  g3 := by kernel_rfl
  g4 := by kernel_rfl }

theorem dropWhile_all {α : Type} {p : α → Bool} : ∀ {l : List α}, (∀ x ∈ l.dropWhile p, p x = true) → l.dropWhile p = []
  | [], _ => rfl
  | x :: xs, h => by
    cases hx : p x
    · rw [List.dropWhile_cons_of_neg (by simp [hx])] at h
      exact absurd (h x (List.mem_cons_self ..)) (by simp [hx])
    · rw [List.dropWhile_cons_of_pos hx] at h ⊢
      exact dropWhile_all h
theorem dropWhile_nil {α : Type} {p : α → Bool} : ∀ {l : List α}, l.dropWhile p = [] → ∀ x ∈ l, p x = true
  | [], _, x, hx => by cases hx
  | y :: ys, h, x, hx => by
    cases hy : p y
    · rw [List.dropWhile_cons_of_neg (by simp [hy])] at h; cases h
    · rw [List.dropWhile_cons_of_pos hy] at h
      rcases List.mem_cons.1 hx with rfl | hx
      · exact hy
      · exact dropWhile_nil h x hx
theorem dropWhile_of {α : Type} {p : α → Bool} : ∀ {l : List α}, (∀ x ∈ l, p x = true) → l.dropWhile p = []
  | [], _ => rfl
  | x :: xs, h => by
    rw [List.dropWhile_cons_of_pos (h x (List.mem_cons_self ..))]
    exact dropWhile_of fun y hy => h y (List.mem_cons_of_mem _ hy)
theorem trimS_nil (l cs : List UInt8) : (Lib.trimS l cs).isEmpty = l.all (cs.contains ·) := by
  rw [Bool.eq_iff_iff, List.isEmpty_iff, List.all_eq_true]
  unfold Lib.trimS Lib.trimLeftS Lib.trimRightS
  constructor
  · intro h x hx
    have h1 : l.reverse.dropWhile (cs.contains ·) = [] := dropWhile_all fun y hy => dropWhile_nil h y (by simpa using hy)
    exact dropWhile_nil h1 x (by simpa using hx)
  · intro h
    rw [dropWhile_of (l := l.reverse) fun x hx => h x (by simpa using hx)]
    rfl
def azL : List UInt8 := [97, 98, 99, 100, 101, 102, 103, 104, 105, 106, 107, 108, 109, 110, 111, 112, 113, 114, 115, 116, 117, 118, 119, 120, 121, 122]
theorem az_letter (c : UInt8) : azL.contains c = letter c := by
  have h : ∀ n : Fin 256, azL.contains (UInt8.ofNat n.val) = letter (UInt8.ofNat n.val) := by decide +kernel
  have := h ⟨c.toNat, c.toNat_lt⟩
  simpa using this
/-- Trim at the letters: what is left is empty just if all are letters. -/
theorem trimAz_any (s : ByteArray) (w : World) (hs : s.size ≤ 9223372036854775807) :
    Calls Tryd.prog 51 #[.string s, .string ⟨#[97, 98, 99, 100, 101, 102, 103, 104, 105, 106, 107, 108, 109, 110, 111, 112, 113, 114, 115, 116, 117, 118, 119, 120, 121, 122]⟩] w
      fun e w' => ∃ r : ByteArray, e = .returned (.string r) ∧ r.toList.isEmpty = allLet s ∧ Below w.heap.size w w' := by
  have hcon := Any.strings_Trim_laid lays160 (by kernel_rfl) s ⟨#[97, 98, 99, 100, 101, 102, 103, 104, 105, 106, 107, 108, 109, 110, 111, 112, 113, 114, 115, 116, 117, 118, 119, 120, 121, 122]⟩ w hs (by decide) (ascii_of_all (by decide))
  refine hcon.mono fun e w' ⟨h1, h2⟩ => ⟨_, h1, ?_, h2⟩
  rw [Lib.toList_data]
  show (Lib.trimS s.data.toList azL).isEmpty = _
  rw [trimS_nil]
  unfold allLet
  exact congrArg (fun f => s.data.toList.all f) (funext az_letter)
end Go.Proofs.YthcmflhhpgmfaaaDoor

/-! The program's declarations: DeclOk, bitsOf, EnvOk. -/
namespace Go.Proofs.YthcmflhhpgmfaaaDoor
open Go Go.RowKit

set_option maxHeartbeats 1000000 in
/-- The closure: whether a declaration has the name of the one in block b. -/
theorem declOk1_any (y x : D) (b : Nat) (w : World) (hb : w.heap[b]? = some (.cells #[.string x.name, .int .i64 x.wide] 52 (0, 0))) :
    Calls Tryd.prog 53 #[.agg #[.string y.name, .int .i64 y.wide], .pointer (some ⟨b, 0, none⟩)] w (RetB w (y.name.toList == x.name.toList)) := by
  have hal : Below w.heap.size w (w.alloc (.cells #[.string y.name, .int .i64 y.wide] 52)) := (Below.refl _ _).alloc (Nat.le_refl _) _
  have c0 : w.cell? ⟨b, 0, none⟩ = some (.string x.name) := (cell_of_block hb 0).1
  have hlt := lt_of_block hb
  have HAL := Lib.hid hal
  obtain ⟨q, hq⟩ : ∃ q, q = (y.name.toList == x.name.toList) := ⟨_, rfl⟩
  rw [← hq]
  have g9 := hq.symm
  clear hal hb hq
  go_enter Tryd.func53, Tryd.ntmps53
  go_wp2
  go_ret
  exact ⟨rfl, HAL.out⟩
set_option maxHeartbeats 2000000 in
theorem indexName_any (A : Option Addr) (c : Nat) (xs : List D) (x : D) (b : Nat) (F : Nat → Prop) (w : World) (h : Lay.decl.Sl w F A xs) (hF : ∀ b, F b → b < w.heap.size) (hb : w.heap[b]? = some (.cells #[.string x.name, .int .i64 x.wide] 52 (0, 0))) (hn : xs.length ≤ 9223372036854775807) :
    Calls Tryd.prog 66 #[.slice A xs.length c, .func (.func 53) #[] #[.pointer (some ⟨b, 0, none⟩)]] w fun e w' => e = .returned (.int .i64 (fN 0 xs x.name)) ∧ Below w.heap.size w w' := by
  have HB := Lib.hid hb
  clear hb
  go_enter Tryd.func66, Tryd.ntmps66
  go_wp2
  go_loopw [8] (fun i wr => ∃ k : Nat, k ≤ xs.length ∧ i = .int .i64 k ∧ Below w.heap.size w wr ∧ Hid (fN 0 xs x.name = fN k (xs.drop k) x.name)) (fun i _ => xs.length - (intOf i).toNat)
  case atStart => exact ⟨0, Nat.zero_le _, rfl, Below.refl _ _, Lib.hid rfl⟩
  case round =>
    obtain ⟨k, hk, rfl, hbr, HT⟩ := hrel
    by_cases hlt : k < xs.length
    · obtain ⟨ad, rfl, hf, c1, c2⟩ := (h.below hbr hF).at_decl hlt
      have hk1 : (k : Int) < xs.length := by omega
      have HS := Lib.hid (fN_step xs k x.name hlt)
      have HC := Lib.hid (declOk1_any xs[k] x b wr ((hbr.block _ (lt_of_block HB.out)).trans HB.out))
      obtain ⟨q, hq⟩ : ∃ q, q = (xs[k].name.toList == x.name.toList) := ⟨_, rfl⟩
      have HQ := Lib.hid hq
      rw [← hq] at HC
      clear hq
      go_wp2_with fail
      refine HC.out.mono ?_
      rintro e w2 ⟨rfl, hb2⟩
      have hbq := bthen hbr hb2
      cases q
      · have HE : Hid (fN 0 xs x.name = fN (k + 1) (xs.drop (k + 1)) x.name) := Lib.hid (by rw [HT.out, HS.out, ← HQ.out]; rfl)
        go_wp2
        go_roundw
        case rel => exact ⟨k + 1, by omega, by go_num, hbq, HE⟩
        case measure => simp [intOf]; omega
      · have HE : Hid (fN 0 xs x.name = (k : Int)) := Lib.hid (by rw [HT.out, HS.out, ← HQ.out]; rfl)
        go_wp2
        go_ret
        exact ⟨ret_int (by rw [HE.out]), hbq⟩
    · have HE : Hid (fN 0 xs x.name = -1) := Lib.hid (by rw [HT.out, List.drop_of_length_le (by omega)]; rfl)
      have hke : k = xs.length := by omega
      subst hke
      go_wp2
      go_ret
      exact ⟨ret_int (by rw [HE.out]), hbr⟩
set_option maxHeartbeats 1000000 in
theorem hasName_any (A : Option Addr) (c : Nat) (xs : List D) (x : D) (b : Nat) (F : Nat → Prop) (w : World) (h : Lay.decl.Sl w F A xs) (hF : ∀ b, F b → b < w.heap.size) (hb : w.heap[b]? = some (.cells #[.string x.name, .int .i64 x.wide] 52 (0, 0))) (hn : xs.length ≤ 9223372036854775807) :
    Calls Tryd.prog 52 #[.slice A xs.length c, .func (.func 53) #[] #[.pointer (some ⟨b, 0, none⟩)]] w (RetB w (hasN xs x.name)) := by
  have HC := Lib.hid (indexName_any A c xs x b F w h hF hb hn)
  have HH := Lib.hid (fN_has 0 xs x.name)
  have HG := Lib.hid (fN_ge 0 xs x.name)
  obtain ⟨q, hq⟩ : ∃ q, q = fN 0 xs x.name := ⟨_, rfl⟩
  rw [← hq] at HC HH HG
  clear hq h hb
  by_cases hq0 : 0 ≤ q
  · have HE : Hid (hasN xs x.name = true) := Lib.hid (HH.out.1 hq0)
    go_enter Tryd.func52, Tryd.ntmps52
    go_wp2_with fail
    refine HC.out.mono ?_
    rintro e w2 ⟨rfl, hb2⟩
    go_wp2
    go_ret
    exact ⟨ret_bool (by rw [HE.out]), hb2⟩
  · have HE : Hid (hasN xs x.name = false) := Lib.hid (Bool.eq_false_iff.2 fun h9 => hq0 (HH.out.2 h9))
    go_enter Tryd.func52, Tryd.ntmps52
    go_wp2_with fail
    refine HC.out.mono ?_
    rintro e w2 ⟨rfl, hb2⟩
    go_wp2
    go_ret
    exact ⟨ret_bool (by rw [HE.out]; exact decide_eq_false (by omega)), hb2⟩
theorem nameOk_short {s : ByteArray} (h : ¬ 1 ≤ s.size) : nameOk s = false := by unfold nameOk; rw [decide_eq_false h]; rfl
theorem nameOk_long {s : ByteArray} (h : ¬ s.size ≤ 4) : nameOk s = false := by unfold nameOk; rw [decide_eq_false h]; simp
theorem nameOk_tru {s : ByteArray} (h : tru s = true) : nameOk s = false := by unfold nameOk; rw [h]; simp
theorem nameOk_let {s : ByteArray} (h : allLet s = false) : nameOk s = false := by unfold nameOk; rw [h]; simp
theorem nameOk_yes {s : ByteArray} (h1 : 1 ≤ s.size) (h4 : s.size ≤ 4) (ht : tru s = false) (hl : allLet s = true) : nameOk s = true := by unfold nameOk; rw [decide_eq_true h1, decide_eq_true h4, ht, hl]; rfl
set_option maxRecDepth 100000 in
set_option maxHeartbeats 4000000 in
theorem implDeclOk_any (A : Option Addr) (c : Nat) (xs : List D) (F : Nat → Prop) (w : World) (h : Lay.decl.Sl w F A xs) (hF : ∀ b, F b → b < w.heap.size) (hn : xs.length ≤ 9223372036854775807) (ho : okNames xs) (hc : xs.length ≤ c) :
    Calls Tryd.prog 32 #[.slice A xs.length c] w (RetB w (declOk xs)) := by
  by_cases hl4 : xs.length ≤ 4
  · go_enter Tryd.func32, Tryd.ntmps32
    go_wp2
    go_loopw [3, 11] (fun b i wr => ∃ (k : Nat) (n : Int), k ≤ xs.length ∧ i = .int .i64 k ∧ b = .int .i64 n ∧ 0 ≤ n ∧ n ≤ 4 * k ∧ Below w.heap.size w wr ∧ Hid (dGo [] 0 xs = dGo (xs.take k) n (xs.drop k))) (fun _ i _ => xs.length - (intOf i).toNat)
    case atStart => exact ⟨0, 0, Nat.zero_le _, rfl, rfl, by omega, by omega, Below.refl _ _, Lib.hid rfl⟩
    case round =>
      obtain ⟨k, n, hk, rfl, rfl, n0, n1, hb, HT⟩ := hrel
      by_cases hlt : k < xs.length
      · have hr := h.below hb hF
        obtain ⟨ad, rfl, hf, c1, c2⟩ := hr.at_decl hlt
        have hk1 : (k : Int) < xs.length := by omega
        have hos := ho _ (List.getElem_mem hlt)
        have hal : Below wr.heap.size wr (wr.alloc (.cells #[.string xs[k].name, .int .i64 xs[k].wide] 52)) := (Below.refl _ _).alloc (Nat.le_refl _) _
        have HAL := Lib.hid (bthen hb hal)
        have HBX := Lib.hid (heap_alloc_new wr (.cells #[.string xs[k].name, .int .i64 xs[k].wide] 52))
        have hkc : k ≤ c := by omega
        clear hal hr
        by_cases h1 : 1 ≤ xs[k].name.size
        · by_cases h4 : xs[k].name.size ≤ 4
          · obtain ⟨q, hq⟩ : ∃ q, q = tru xs[k].name := ⟨_, rfl⟩
            have HQ := Lib.hid hq
            have g9 : (xs[k].name.toList == [116, 114, 117, 101]) = q := hq.symm
            clear hq
            cases q
            · have HTR := Lib.hid (fun z => trimAz_any xs[k].name z hos)
              obtain ⟨p, hp⟩ : ∃ p, p = allLet xs[k].name := ⟨_, rfl⟩
              have HP := Lib.hid hp
              rw [← hp] at HTR
              clear hp
              go_wp2_with fail
              generalize wr.alloc (.cells #[.string xs[k].name, .int .i64 xs[k].wide] 52) = w1 at *
              refine (HTR.out _).mono ?_
              rintro e w2 ⟨r, rfl, hre, hb2⟩
              have HB2 := Lib.hid (bthen HAL.out hb2)
              have HBX := Lib.hid ((hb2.block _ (lt_of_block HBX.out)).trans HBX.out)
              clear hb2 g9 c1 c2
              cases p
              · have HB : Hid (declOk xs = false) := Lib.hid (declOk_bad xs k n hlt HT.out (dOne_name (nameOk_let HP.out.symm)))
                go_wp2
                go_ret
                exact ⟨ret_bool (by rw [HB.out]), HB2.out⟩
              · have HNM : Hid (nameOk xs[k].name = true) := Lib.hid (nameOk_yes h1 h4 HQ.out.symm HP.out.symm)
                have e9 : (xs.take k).length = k := by rw [List.length_take]; omega
                have HCN := Lib.hid (hasName_any (some ad) c (xs.take k) xs[k] wr.heap.size F w2 ((h.below HB2.out hF).take k) (fun b hb9 => Nat.lt_of_lt_of_le (hF b hb9) HB2.out.size) HBX.out (by omega))
                rw [e9] at HCN
                clear e9 h1 h4
                go_wp2_with fail
                refine HCN.out.mono ?_
                rintro e w3 ⟨rfl, hb3⟩
                have HB3 := Lib.hid (bthen HB2.out hb3)
                have HBX := Lib.hid ((hb3.block _ (lt_of_block HBX.out)).trans HBX.out)
                obtain ⟨u, hu⟩ : ∃ u, u = hasN (xs.take k) xs[k].name := ⟨_, rfl⟩
                have HU := Lib.hid hu
                rw [← hu]
                clear hu hb3 hre
                have v1 := (cell_of_block HBX.out 1).1
                cases u
                · by_cases hw1 : 1 ≤ xs[k].wide
                  · by_cases hw4 : xs[k].wide ≤ 4
                    · have HX : Hid (dGo [] 0 xs = dGo (xs.take (k + 1)) (n + xs[k].wide) (xs.drop (k + 1))) := Lib.hid (declOk_next xs k n hlt HT.out (dOne_yes HNM.out hw1 hw4 HU.out.symm))
                      go_wp2
                      go_roundw
                      case rel => exact ⟨k + 1, n + xs[k].wide, by omega, by go_num, rfl, by omega, by omega, HB3.out, HX⟩
                      case measure => simp [intOf]; omega
                    · have HB : Hid (declOk xs = false) := Lib.hid (declOk_bad xs k n hlt HT.out (dOne_high hw4))
                      go_wp2
                      go_ret
                      exact ⟨ret_bool (by rw [HB.out]), HB3.out⟩
                  · have HB : Hid (declOk xs = false) := Lib.hid (declOk_bad xs k n hlt HT.out (dOne_low hw1))
                    go_wp2
                    go_ret
                    exact ⟨ret_bool (by rw [HB.out]), HB3.out⟩
                · have HB : Hid (declOk xs = false) := Lib.hid (declOk_bad xs k n hlt HT.out (dOne_seen HU.out.symm))
                  go_wp2
                  go_ret
                  exact ⟨ret_bool (by rw [HB.out]), HB3.out⟩
            · have HB : Hid (declOk xs = false) := Lib.hid (declOk_bad xs k n hlt HT.out (dOne_name (nameOk_tru HQ.out.symm)))
              go_wp2
              go_ret
              exact ⟨ret_bool (by rw [HB.out]), HAL.out⟩
          · have HB : Hid (declOk xs = false) := Lib.hid (declOk_bad xs k n hlt HT.out (dOne_name (nameOk_long h4)))
            go_wp2
            go_ret
            exact ⟨ret_bool (by rw [HB.out]), HAL.out⟩
        · have HB : Hid (declOk xs = false) := Lib.hid (declOk_bad xs k n hlt HT.out (dOne_name (nameOk_short h1)))
          go_wp2
          go_ret
          exact ⟨ret_bool (by rw [HB.out]), HAL.out⟩
      · have hke : k = xs.length := by omega
        subst hke
        have HE := Lib.hid (declOk_end xs n hl4 HT.out)
        go_wp2
        go_ret
        exact ⟨ret_bool (by rw [HE.out]), hb⟩
  · have HE := Lib.hid (declOk_long xs hl4)
    go_enter Tryd.func32, Tryd.ntmps32
    go_wp2
    go_ret
    exact ⟨ret_bool (by rw [HE.out]), Below.refl _ _⟩
set_option maxHeartbeats 1000000 in
theorem bitsOf_any (A : Option Addr) (c : Nat) (xs : List D) (F : Nat → Prop) (w : World) (h : Lay.decl.Sl w F A xs) (hF : ∀ b, F b → b < w.heap.size) (h4 : xs.length ≤ 1000) (hw : ∀ x ∈ xs, -1000000 ≤ x.wide ∧ x.wide ≤ 1000000) :
    Calls Tryd.prog 33 #[.slice A xs.length c] w fun e w' => e = .returned (.int .i64 (dsum xs)) ∧ Below w.heap.size w w' := by
  go_enter Tryd.func33, Tryd.ntmps33
  go_wp2
  go_loopw [3, 8] (fun b i wr => ∃ (k : Nat) (n : Int), k ≤ xs.length ∧ i = .int .i64 k ∧ b = .int .i64 n ∧ -1000000 * (k : Int) ≤ n ∧ n ≤ 1000000 * (k : Int) ∧ Below w.heap.size w wr ∧ Hid (n = dsum (xs.take k))) (fun _ i _ => xs.length - (intOf i).toNat)
  case atStart => exact ⟨0, 0, Nat.zero_le _, rfl, rfl, by omega, by omega, Below.refl _ _, Lib.hid rfl⟩
  case round =>
    obtain ⟨k, n, hk, rfl, rfl, n0, n1, hb, HT⟩ := hrel
    by_cases hlt : k < xs.length
    · obtain ⟨ad, rfl, hf, c1, c2⟩ := (h.below hb hF).at_decl hlt
      have hk1 : (k : Int) < xs.length := by omega
      obtain ⟨b0, b1⟩ := hw _ (List.getElem_mem hlt)
      have HS := Lib.hid (dsum_take xs k hlt)
      have HAL := Lib.hid (bthen hb ((Below.refl wr.heap.size wr).alloc (Nat.le_refl _) (.cells #[.string xs[k].name, .int .i64 xs[k].wide] 52)))
      clear hw
      go_wp2
      go_roundw
      case rel => exact ⟨k + 1, n + xs[k].wide, by omega, by go_num, rfl, by push_cast; omega, by push_cast; omega, HAL.out, Lib.hid (by rw [HS.out, ← HT.out])⟩
      case measure => simp [intOf]; omega
    · have hke : k = xs.length := by omega
      subst hke
      have HE : Hid (n = dsum xs) := Lib.hid (by rw [HT.out, List.take_length])
      clear hw
      go_wp2
      go_ret
      exact ⟨ret_int HE.out, hb⟩
set_option maxRecDepth 100000 in
set_option maxHeartbeats 4000000 in
theorem implEnvOk_any (A B : Option Addr) (c d : Nat) (xs : List D) (env : List Int) (F : Nat → Prop) (w : World) (h : Lay.decl.Sl w F A xs) (hF : ∀ b, F b → b < w.heap.size) (h' : Lay.int.Sl w F B env) (hn : xs.length ≤ 9223372036854775807) (hm : env.length ≤ 9223372036854775807) (ho : okNames xs) (hc : xs.length ≤ c) :
    Calls Tryd.prog 26 #[.slice A xs.length c, .slice B env.length d] w (RetB w (envOk xs env)) := by
  cases hd : declOk xs
  · have HD := Lib.hid (implDeclOk_any A c xs F w h hF hn ho hc)
    rw [hd] at HD
    have HE := Lib.hid (envOk_no1 (env := env) hd)
    clear hd
    go_enter Tryd.func26, Tryd.ntmps26
    go_wp2_with fail
    refine HD.out.mono ?_
    rintro e w1 ⟨rfl, hb⟩
    go_wp2
    go_ret
    exact ⟨ret_bool (by rw [HE.out]), hb⟩
  · have HD := Lib.hid (implDeclOk_any A c xs F w h hF hn ho hc)
    rw [hd] at HD
    obtain ⟨hl4, hw4, _⟩ := declOk_facts hd
    by_cases hl : env.length = xs.length
    · have HE := Lib.hid (envOk_go hd hl)
      have HL := Lib.hid hl
      have hbe : ((env.length : Int) != (xs.length : Int)) = false := by simp [hl]
      clear hd hl hw4
      go_enter Tryd.func26, Tryd.ntmps26
      go_wp2_with fail
      refine HD.out.mono ?_
      rintro e w1 ⟨rfl, hb1⟩
      go_wp2
      clear hbe
      go_loopw [19] (fun i wr => ∃ k : Nat, k ≤ xs.length ∧ i = .int .i64 k ∧ Below w.heap.size w wr ∧ Hid (envGo xs env = envGo (xs.drop k) (env.drop k))) (fun i _ => xs.length - (intOf i).toNat)
      case atStart => exact ⟨0, Nat.zero_le _, rfl, hb1, Lib.hid rfl⟩
      case round =>
        obtain ⟨k, hk, rfl, hb, HT⟩ := hrel
        by_cases hlt : k < xs.length
        · have hlt' : k < env.length := by have := HL.out; omega
          obtain ⟨ad, rfl, hf, c1, c2⟩ := (h.below hb hF).at_decl hlt
          obtain ⟨ad', rfl, hf', c3⟩ := (h'.below hb hF).at_int hlt'
          have hk1 : (k : Int) < xs.length := by omega
          have hk2 : (k : Int) < env.length := by omega
          have HS := Lib.hid (envGo_step xs env k hlt hlt')
          have HV := Lib.hid (fun z => implVecOk_any xs[k].wide env[k] z)
          clear h h'
          cases hv : vecB xs[k].wide env[k]
          · have HX : Hid (envOk xs env = false) := Lib.hid (by rw [HE.out, HT.out, HS.out, hv]; rfl)
            rw [hv] at HV
            clear hv
            go_wp2_with fail
            refine (HV.out _).mono ?_
            rintro e w9 ⟨rfl, hb9⟩
            go_wp2
            go_ret
            exact ⟨ret_bool (by rw [HX.out]), bthen hb hb9⟩
          · have HX : Hid (envGo xs env = envGo (xs.drop (k + 1)) (env.drop (k + 1))) := Lib.hid (by rw [HT.out, HS.out, hv]; rfl)
            rw [hv] at HV
            clear hv
            go_wp2_with fail
            refine (HV.out _).mono ?_
            rintro e w9 ⟨rfl, hb9⟩
            have hbq := bthen hb hb9
            go_wp2
            go_roundw
            case rel => exact ⟨k + 1, by omega, by go_num, hbq, HX⟩
            case measure => simp [intOf]; omega
        · have HX : Hid (envOk xs env = true) := Lib.hid (by rw [HE.out, HT.out, List.drop_of_length_le (by omega)]; rfl)
          have hke : k = xs.length := by omega
          subst hke
          have hel : ¬ ((xs.length : Int) < (env.length : Int)) := by have := HL.out; omega
          go_wp2
          go_ret
          exact ⟨ret_bool (by rw [HX.out]), hb⟩
    · have HE := Lib.hid (envOk_no2 (ds := xs) hl)
      have hbe : ((env.length : Int) != (xs.length : Int)) = true := by simp; omega
      clear hd hl hw4
      go_enter Tryd.func26, Tryd.ntmps26
      go_wp2_with fail
      refine HD.out.mono ?_
      rintro e w1 ⟨rfl, hb1⟩
      go_wp2
      go_ret
      exact ⟨ret_bool (by rw [HE.out]), hb1⟩
end Go.Proofs.YthcmflhhpgmfaaaDoor

/-! A drawn region whose operations write old memory: each operation once, in whatever world its turn comes; a relation that all keep, and an invariant. No program is named here. -/
namespace Go.Proofs.YthcmflhhpgmfaaaDoor
open Go Go.RowKit

abbrev Say := (Nat → Value) → World → Prop
def says (L : List Say) (vals : Nat → Value) (x : World) : List Nat → Prop
  | [] => True
  | i :: l => L.getD i (fun _ _ => True) vals x ∧ says L vals x l
variable {P : Program} {Q : Exit → Act → World → Prop}
end Go.Proofs.YthcmflhhpgmfaaaDoor

/-! Drawn regions that draw from a reader; literals. -/
namespace Go.Proofs.YthcmflhhpgmfaaaDoor
open Go Go.RowKit

abbrev IsR (r : Nat) : Nat → Prop := fun b => b = r
/-- A row that was just written down. -/
theorem lit_sl {S : Nat → Prop} (w : World) (xs : List Int) (cs : Array Value) (t : TypeId) (hc : cs = (xs.map (Value.int .i64)).toArray) (hS : ¬ S w.heap.size) : Lay.int.Sl (w.alloc (.cells cs t)) (Ab S (w.alloc (.cells cs t))) (some ⟨w.heap.size, 0, none⟩) xs := by
  intro _
  refine ⟨_, rfl, ⟨by simp, hS⟩, fun k x hx => ⟨[.int .i64 x], rfl, fun j u hu => ?_⟩⟩
  rcases j with _ | j
  · injection hu with hu
    subst hu
    have hb := (cell_of_block (heap_alloc_new w (.cells cs t)) k).1
    have ha : (⟨w.heap.size, 0, none⟩ : Addr).add (k * Lay.int.size + 0) = ⟨w.heap.size, k, none⟩ := by
      show (⟨w.heap.size, 0, none⟩ : Addr).add (k * 1 + 0) = _
      rw [Nat.mul_one, Nat.add_zero]; unfold Addr.add; split
      · rename_i h; rw [h]
      · simp
    rw [ha, hb, hc]
    simp [hx]
  · simp at hu
end Go.Proofs.YthcmflhhpgmfaaaDoor

/-! The program's bit vectors: VecOk, VecSigned, VecCmp where the vectors are right. -/
namespace Go.Proofs.YthcmflhhpgmfaaaDoor
open Go Go.RowKit

theorem sixteen {n : Int} (h0 : 0 ≤ n) (h : n < 16) : n = 0 ∨ n = 1 ∨ n = 2 ∨ n = 3 ∨ n = 4 ∨ n = 5 ∨ n = 6 ∨ n = 7 ∨ n = 8 ∨ n = 9 ∨ n = 10 ∨ n = 11 ∨ n = 12 ∨ n = 13 ∨ n = 14 ∨ n = 15 := by omega
/-- A number's bit. -/
def bitV (n : Int) (k : Nat) : Bool := n.toNat.testBit k
set_option maxHeartbeats 4000000 in
theorem bit_any (n : Int) (k : Nat) (w : World) (h0 : 0 ≤ n) (hn : n < 16) (hk : k < 4) :
    Calls Tryd.prog 39 #[.int .u64 n, .int .i64 (k : Int)] w fun e w' => e = .returned (.bool (bitV n k)) ∧ w = w' := by
  have hk4 : k = 0 ∨ k = 1 ∨ k = 2 ∨ k = 3 := by omega
  rcases hk4 with rfl | rfl | rfl | rfl <;> rcases sixteen h0 hn with rfl | rfl | rfl | rfl | rfl | rfl | rfl | rfl | rfl | rfl | rfl | rfl | rfl | rfl | rfl | rfl
  all_goals
    clear h0 hn hk
    simp only [Int.cast_ofNat_Int]
    go_enter Tryd.func39, Tryd.ntmps39
    go_wp2
    go_ret
    exact ⟨rfl, rfl⟩
end Go.Proofs.YthcmflhhpgmfaaaDoor

/-! The program's BlastIns and BlastEnv. -/
namespace Go.Proofs.YthcmflhhpgmfaaaDoor
open Go Go.RowKit

theorem own_nilB (w : World) (lo : Nat) : OwnB w lo (.slice none ([] : List Bool).length 0) [] := ⟨by simp, .inl ⟨rfl, rfl⟩⟩
theorem own_nilI (w : World) (lo : Nat) : OwnI w lo (.slice none ([] : List Int).length 0) [] := ⟨by simp, .inl ⟨rfl, rfl⟩⟩
theorem retO_nilB (w w' : World) (h : Below w.heap.size w w') : RetO Lay.bool w [] (.returned (.slice none 0 0)) w' := ⟨none, 0, rfl, Nat.le_refl _, .nil _ _ _ _, h⟩
theorem retO_nilI (w w' : World) (h : Below w.heap.size w w') : RetO Lay.int w [] (.returned (.slice none 0 0)) w' := ⟨none, 0, rfl, Nat.le_refl _, .nil _ _ _ _, h⟩
set_option maxRecDepth 100000 in
set_option maxHeartbeats 4000000 in
theorem implBlastIns_any (A B : Option Addr) (c d : Nat) (xs : List D) (env : List Int) (w : World) (h : Lay.decl.Rd w A xs) (h' : Lay.int.Rd w B env) (hn : xs.length ≤ 9223372036854775807) (hm : env.length ≤ 9223372036854775807) (ho : okNames xs) (hc : xs.length ≤ c) :
    Calls Tryd.prog 20 #[.slice A xs.length c, .slice B env.length d] w (RetO Lay.bool w (blastIns xs env)) := by
  have HD := Lib.hid (implEnvOk_any A B c d xs env _ _ h (fun _ hb => hb) h' hn hm ho hc)
  go_enter Tryd.func20, Tryd.ntmps20
  go_wp2_with fail
  refine HD.out.mono ?_
  cases hd : envOk xs env
  · have HE : Hid (blastIns xs env = []) := Lib.hid (by unfold blastIns; rw [hd]; rfl)
    clear hd
    rintro e w1 ⟨rfl, hb⟩
    go_wp2
    go_ret
    rw [HE.out]
    exact retO_nilB _ _ hb
  · obtain ⟨hd1, hl, hgo⟩ := envOk_facts hd
    obtain ⟨hl4, hw4, _⟩ := declOk_facts hd1
    have HE : Hid (blastIns xs env = insGo xs env) := Lib.hid (by unfold blastIns; rw [hd]; rfl)
    have HW := Lib.hid hw4
    have HL := Lib.hid hl
    have HGO := Lib.hid hgo
    clear hd hl hgo hd1 hw4
    rintro e w1 ⟨rfl, hb⟩
    go_wp2
    go_loopw [5, 15] (fun s i wr => ∃ (k : Nat) (bs : List Bool) (A8 : Option Addr) (c8 : Nat), k ≤ xs.length ∧ i = .int .i64 k ∧ s = .slice A8 bs.length c8 ∧ bs.length ≤ 4 * k ∧ OwnB wr w.heap.size (.slice A8 bs.length c8) bs ∧ Below w.heap.size w wr ∧ Hid (insGo xs env = bs ++ insGo (xs.drop k) (env.drop k))) (fun _ i _ => xs.length - (intOf i).toNat)
    case atStart => exact ⟨0, [], none, 0, Nat.zero_le _, rfl, rfl, by simp, own_nilB _ _, hb, Lib.hid rfl⟩
    case round =>
      obtain ⟨k, bs, A8, c8, hk, rfl, rfl, hbl, hown, hb, HT⟩ := hrel
      obtain ⟨wo, hwo⟩ : ∃ wo, wo = wr := ⟨_, rfl⟩
      subst hwo
      by_cases hlt : k < xs.length
      · have hlt' : k < env.length := by have := HL.out; omega
        obtain ⟨ad, rfl, hf, c1, c2⟩ := (h.up hb).at_decl hlt
        obtain ⟨ad', hAd, hf', c3⟩ := h'.at_int hlt'
        subst hAd
        have hk1 : (k : Int) < xs.length := by omega
        have hk2 : (k : Int) < env.length := by omega
        obtain ⟨W, hW⟩ : ∃ W : Nat, xs[k].wide = (W : Int) := ⟨xs[k].wide.toNat, by have := (HW.out _ (List.getElem_mem hlt)).2.1; omega⟩
        have hW4 : 1 ≤ W ∧ W ≤ 4 := by have := (HW.out _ (List.getElem_mem hlt)).2; omega
        obtain ⟨hW1, hW4⟩ := hW4
        have hvb := vecB_bounds (envGo_at HGO.out k hlt hlt')
        obtain ⟨_, _, hn0, hn1⟩ := hvb
        have HS := Lib.hid (insGo_step xs env k hlt hlt')
        obtain ⟨n, hn9⟩ : ∃ n, n = env[k] := ⟨_, rfl⟩
        rw [← hn9] at hn0 hn1 c3 HS
        rw [hW] at c2
        rw [hW, Int.toNat_natCast] at HS
        have HT2 : Hid (insGo xs env = bs ++ (downB n W ++ insGo (xs.drop (k + 1)) (env.drop (k + 1)))) := Lib.hid (by rw [HT.out, HS.out])
        have hal : Below wo.heap.size wo (wo.alloc (.cells #[.string xs[k].name, .int .i64 (W : Int)] 52)) := (Below.refl _ _).alloc (Nat.le_refl _) _
        have HO2 := Lib.hid (hown.up hal)
        have HB2 := Lib.hid (bthen hb hal)
        clear hn9 hW HT HS hal hown
        go_wp2
        clear c1 c2
        go_loopw [5, 8] (fun s i wr => ∃ (m : Nat) (ps : List Bool) (A8 : Option Addr) (c8 : Nat), m ≤ W ∧ i = .int .i64 ((m : Int) - 1) ∧ s = .slice A8 ps.length c8 ∧ ps.length + m ≤ 4 * (k + 1) ∧ OwnB wr w.heap.size (.slice A8 ps.length c8) ps ∧ Below w.heap.size w wr ∧ Hid (insGo xs env = ps ++ (downB n m ++ insGo (xs.drop (k + 1)) (env.drop (k + 1))))) (fun _ i _ => (intOf i + 1).toNat)
        case atStart => exact ⟨W, bs, _, _, Nat.le_refl _, rfl, rfl, by omega, HO2.out, HB2.out, HT2⟩
        case round =>
          obtain ⟨m, ps, A9, c9, hm, rfl, rfl, hpl, hown, hb, HT⟩ := hrel
          rcases m with _ | m
          · go_wp2
            go_roundw
            case rel => exact ⟨k + 1, ps, A9, c9, by omega, by go_num, rfl, by omega, hown, hb, Lib.hid (by rw [HT.out]; rfl)⟩
            case measure => simp [intOf]; omega
          · have e1 : (((m + 1 : Nat) : Int) - 1) = (m : Int) := by omega
            rw [e1]
            have c3 := (hb.cell (World.block_lt_of_cell? w _ c3)).trans c3
            obtain ⟨z, hz⟩ : ∃ z, z = n.toNat.testBit m := ⟨_, rfl⟩
            obtain ⟨qs, hqs⟩ : ∃ qs, qs = ps ++ [z] := ⟨_, rfl⟩
            have HQS := Lib.hid hqs
            have HQL : Hid (qs.length = ps.length + 1) := Lib.hid (by rw [hqs]; simp)
            have HT2 : Hid (insGo xs env = qs ++ (downB n m ++ insGo (xs.drop (k + 1)) (env.drop (k + 1)))) := Lib.hid (by rw [HT.out, hqs, hz]; simp [downB])
            have HBIT := Lib.hid (fun q => bit_any n m q hn0 hn1 (by omega))
            unfold bitV at HBIT
            rw [← hz] at HBIT
            have hps20 : ps.length ≤ 100 := by omega
            have hsz := hb.size
            have hnw : IntKind.u64.wrap n = n := by rw [IntKind.wrap_u64]; omega
            clear hqs HT e1 hz
            go_wp2_with fail
            clear hnw
            refine (HBIT.out _).mono ?_
            rintro e w9 ⟨rfl, rfl⟩
            go_wp2_with (at_builtin; refine wpList_append_bool (ys := qs) (by rfl) (.tmp 27) (.tmp 35) (by rfl) (by rfl) (by rfl) hown (by omega) hsz HQS.out ?_; intro A7 c7 w7 hown7 hb7)
            have hbq := hb.trans hb7
            go_roundw
            case rel => exact ⟨m, qs, A7, c7, by omega, by go_num, rfl, by rw [HQL.out]; omega, hown7, hbq, HT2⟩
            case measure => simp [intOf]
      · have hke : k = xs.length := by omega
        subst hke
        have HX : Hid (blastIns xs env = bs) := Lib.hid (by rw [HE.out, HT.out, List.drop_length]; simp [insGo])
        go_wp2
        go_ret
        rw [HX.out]
        exact hown.ret hb
set_option maxHeartbeats 1000000 in
theorem number_any (b : Bool) (w : World) : Calls Tryd.prog 34 #[.bool b] w fun e w' => e = .returned (.int .i64 (if b = true then 1 else 0)) ∧ w = w' := by
  cases b
  all_goals
    go_enter Tryd.func34, Tryd.ntmps34
    go_wp2
    go_ret
    exact ⟨rfl, rfl⟩
theorem row_neI {w : World} {lo : Nat} {A : Option Addr} {c : Nat} {xs : List Int} (h : OwnI w lo (.slice A xs.length c) xs) (r : Nat) (o : Obj) (hr : w.heap[r]? = some o) (ho : ∀ cs fr, o ≠ .cells cs 3 fr) : some r ≠ (Value.slice A xs.length c).ownBlock := by
  intro e
  rcases h.2 with ⟨h1, _⟩ | ⟨g, cap, cur, h1, _, hg, _⟩
  · rw [h1] at e; cases e
  · rw [h1] at e
    injection e with e
    subst e
    rw [hr] at hg
    injection hg with hg
    exact ho _ _ hg
theorem Lay.Sl.drop_bool {w : World} {F : Nat → Prop} {ad : Addr} {xs : List Bool} (h : Lay.bool.Sl w F (some ad) xs) (n : Nat) : Lay.bool.Sl w F (some (ad.add n)) (xs.drop n) := fun hn => by
  obtain ⟨ad', e, hf, hc⟩ := h (by simp at hn; omega)
  injection e with e
  subst e
  refine ⟨_, rfl, by rw [block_of_add]; exact hf, fun k x hx => ?_⟩
  rw [List.getElem?_drop] at hx
  obtain ⟨vs, hr, hcell⟩ := hc (n + k) x hx
  refine ⟨vs, hr, fun j u hu => ?_⟩
  have := hcell j u hu
  rw [add_of_add]
  rw [show Lay.bool.size = 1 from rfl, Nat.mul_one] at this ⊢
  rw [show n + (k + j) = n + k + j by omega]; exact this
set_option maxRecDepth 100000 in
/-- What is left of a slice behind its first j elements. -/
theorem slice_fromB {w : World} {F : Nat → Prop} {a7 : Addr} {xs : List Bool} (L d7 j : Nat) (h : Lay.bool.Sl w F (some a7) xs) (hj : j ≤ L) (hxl : xs.length = L) (hd : L ≤ d7) :
    ∃ B9, (∀ W : World, (Instr.slice 23 (.slice (some a7) L d7) (some (.int .i64 (j : Int))) none none).run Tryd.prog W = .ok (.slice B9 (L - j) (d7 - j)) W) ∧ Lay.bool.Sl w F B9 (xs.drop j) := by
  refine ⟨if d7 = j then some a7 else some (a7.add j), fun W => ?_, ?_⟩
  · rw [run_slice_l (P := Tryd.prog) (w := W) 23 (some a7) L d7 Tryd.underlying23 .i64 (j : Int) (by omega) (by omega)]
    have hs : (sizeOf (Tryd.prog.elem 23)).run Tryd.prog W = .ok 1 W := by kernel_rfl
    rw [hs]
    show Result.ok (sliced (some a7) (Int.toNat (j : Int)) L d7 1) W = _
    unfold sliced
    rw [Int.toNat_natCast, Nat.mul_one]
    rfl
  · by_cases e : d7 = j
    · rw [if_pos e, List.drop_of_length_le (by omega)]
      exact .nil _ _ _ _
    · rw [if_neg e]
      exact h.drop_bool j
set_option maxRecDepth 100000 in
set_option maxHeartbeats 4000000 in
theorem implBlastEnv_any (A B : Option Addr) (c d : Nat) (xs : List D) (bs : List Bool) (w : World) (h : Lay.decl.Rd w A xs) (h' : Lay.bool.Rd w B bs) (hn : xs.length ≤ 9223372036854775807) (hm : bs.length ≤ 9223372036854775807) (ho : okNames xs) (hc : xs.length ≤ c) (hd9 : bs.length ≤ d) :
    Calls Tryd.prog 10 #[.slice A xs.length c, .slice B bs.length d] w (RetO Lay.int w (blastEnv xs bs)) := by
  have HD := Lib.hid (implDeclOk_any A c xs _ _ h (fun _ hb => hb) hn ho hc)
  cases hd : declOk xs
  · have HE : Hid (blastEnv xs bs = []) := Lib.hid (by unfold blastEnv; rw [hd]; simp)
    rw [hd] at HD
    clear hd
    go_enter Tryd.func10, Tryd.ntmps10
    go_wp2_with fail
    refine HD.out.mono ?_
    rintro e w1 ⟨rfl, hb⟩
    go_wp2
    go_ret
    rw [HE.out]
    exact retO_nilI _ _ hb
  · obtain ⟨hl4, hw4, hs8⟩ := declOk_facts hd
    have hsn : 0 ≤ dsum xs := dsum_nn fun x hx => (hw4 x hx).2.1
    have HBT := Lib.hid (fun z (hz : Lay.decl.Rd z A xs) => bitsOf_any A c xs _ z hz (fun _ hb => hb) (by omega) (fun x hx => by have := (hw4 x hx).2; omega))
    obtain ⟨S, hS⟩ : ∃ S, S = dsum xs := ⟨_, rfl⟩
    rw [hd] at HD
    rw [← hS] at HBT hs8 hsn
    by_cases hl : (bs.length : Int) = S
    · have HE : Hid (blastEnv xs bs = envOf xs bs) := Lib.hid (by unfold blastEnv; rw [if_pos ⟨hd, by rw [hl, hS]⟩])
      have hbe : ((bs.length : Int) != S) = false := by simp [hl]
      have HW := Lib.hid hw4
      have HL := Lib.hid hl
      have HSS := Lib.hid hS
      clear hd hl hw4 hS
      go_enter Tryd.func10, Tryd.ntmps10
      go_wp2_with fail
      refine HD.out.mono ?_
      rintro e w1 ⟨rfl, hb⟩
      have HB := Lib.hid hb
      clear hb
      go_wp2_with fail
      refine (HBT.out _ (h.up HB.out)).mono ?_
      rintro e w9 ⟨rfl, hb⟩
      have HB := Lib.hid (bthen HB.out hb)
      clear hb
      go_wp2
      clear hbe
      go_loopw [1, 5, 23] (fun s1 s i wr => ∃ (k : Nat) (ns : List Int) (a L : Nat) (B7 : Option Addr) (d7 : Nat) (A8 : Option Addr) (c8 : Nat), k ≤ xs.length ∧ i = .int .i64 k ∧ s1 = .slice B7 L d7 ∧ a + L = bs.length ∧ L ≤ d7 ∧ Lay.bool.Rd w B7 (bs.drop a) ∧ s = .slice A8 ns.length c8 ∧ a ≤ 4 * k ∧ Hid ((a : Int) = dsum (xs.take k)) ∧ ns.length ≤ k ∧ OwnI wr w.heap.size (.slice A8 ns.length c8) ns ∧ Below w.heap.size w wr ∧ Hid (envOf xs bs = ns ++ envOf (xs.drop k) (bs.drop a))) (fun _ _ i _ => xs.length - (intOf i).toNat)
      case atStart => exact ⟨0, [], 0, bs.length, B, d, none, 0, Nat.zero_le _, rfl, rfl, by omega, hd9, h', rfl, Nat.le_refl _, Lib.hid rfl, by simp, own_nilI _ _, HB.out, Lib.hid rfl⟩
      case round =>
        obtain ⟨k, ns, a, L, B7, d7, A8, c8, hk, rfl, rfl, haL, hL7, hs7, rfl, ha, HA, hnl, hown, hb, HT⟩ := hrel
        obtain ⟨wo, hwo⟩ : ∃ wo, wo = wr := ⟨_, rfl⟩
        subst hwo
        have HAL := Lib.hid haL
        by_cases hlt : k < xs.length
        · obtain ⟨ad, hAd, hf, c1, c2⟩ := (h.up hb).at_decl hlt
          subst hAd
          have hk1 : (k : Int) < xs.length := by omega
          obtain ⟨W, hW⟩ : ∃ W : Nat, xs[k].wide = (W : Int) := ⟨xs[k].wide.toNat, by have := (HW.out _ (List.getElem_mem hlt)).2.1; omega⟩
          have hW4 : 1 ≤ W ∧ W ≤ 4 := by have := (HW.out _ (List.getElem_mem hlt)).2; omega
          obtain ⟨hW1, hW4⟩ := hW4
          have haW : a + W ≤ bs.length := by
            have h1 := dsum_take xs k hlt
            have h2 := dsum_le (ds := xs) (fun x hx => (HW.out x hx).2.1) (k + 1)
            have h3 := HA.out; have h4 := HL.out; have h5 := HSS.out
            omega
          have HA2 : Hid (((a + W : Nat) : Int) = dsum (xs.take (k + 1))) := Lib.hid (by have h1 := dsum_take xs k hlt; have := HA.out; omega)
          have HS := Lib.hid (envOf_step xs (bs.drop a) k hlt)
          rw [hW] at c2
          rw [hW, Int.toNat_natCast, List.drop_drop] at HS
          have HT2 : Hid (envOf xs bs = ns ++ (numB 0 ((bs.drop a).take W) :: envOf (xs.drop (k + 1)) (bs.drop (a + W)))) := Lib.hid (by rw [HT.out, HS.out])
          have hal : Below wo.heap.size wo (wo.alloc (.cells #[.string xs[k].name, .int .i64 (W : Int)] 52)) := (Below.refl _ _).alloc (Nat.le_refl _) _
          have HO2 := Lib.hid (hown.up hal)
          have HB2 := Lib.hid (bthen hb hal)
          have HBX := Lib.hid (heap_alloc_new wo (.cells #[.string xs[k].name, .int .i64 (W : Int)] 52))
          have hWL : W ≤ L := by omega
          have hWd : W ≤ d7 := by omega
          have hWL2 : (W : Int) ≤ L := by omega
          have hWd2 : (W : Int) ≤ d7 := by omega
          have hL63 : L ≤ 9223372036854775807 := by omega
          have hadn : ∃ a7, B7 = some a7 := by
            obtain ⟨a7, e7, _⟩ := hs7 (by rw [List.length_drop]; omega)
            exact ⟨a7, e7⟩
          obtain ⟨a7, rfl⟩ := hadn
          clear hW HT HS hal hown haL
          go_wp2
          generalize wo.alloc (.cells #[.string xs[k].name, .int .i64 (W : Int)] 52) = w2 at *
          clear c1 c2
          go_loopw [8, 32] (fun n9 j9 wr => ∃ (j : Nat) (n : Int), j ≤ W ∧ j9 = .int .i64 (j : Int) ∧ n9 = .int .i64 n ∧ 0 ≤ n ∧ n < 2 ^ j ∧ wr = w2 ∧ Hid (numB 0 ((bs.drop a).take W) = numB n ((bs.drop (a + j)).take (W - j)))) (fun _ j9 _ => W - (intOf j9).toNat)
          case atStart => exact ⟨0, 0, Nat.zero_le _, rfl, rfl, by omega, by simp, rfl, Lib.hid rfl⟩
          case round =>
            obtain ⟨j, n, hj, rfl, rfl, n0, n1, rfl, HN⟩ := hrel
            have hn16 : n < 16 := by
              have h9 : (2 : Int) ^ j ≤ 2 ^ 4 := by exact_mod_cast Nat.pow_le_pow_right (n := 2) (by omega) (by omega : j ≤ 4)
              omega
            by_cases hjl : j < W
            · have hji : (j : Int) < W := by omega
              have haj : a + j < bs.length := by have := HAL.out; omega
              have hajd : j < (bs.drop a).length := by rw [List.length_drop]; omega
              obtain ⟨ad', hB, hf', c3⟩ := (hs7.up HB2.out).at_bool hajd
              injection hB with hB
              subst hB
              rw [List.getElem_drop] at c3
              have HST := Lib.hid (numB_step n bs (a + j) (W - (j + 1)) haj)
              rw [show W - (j + 1) + 1 = W - j by omega] at HST
              obtain ⟨q, hq⟩ : ∃ q : Int, q = if bs[a + j] = true then 1 else 0 := ⟨_, rfl⟩
              have hq01 : 0 ≤ q ∧ q ≤ 1 := by rw [hq]; split <;> omega
              obtain ⟨hq0, hq1⟩ := hq01
              have HB3 := Lib.hid (number_any bs[a + j])
              rw [← hq] at HB3 HST
              have hp : (2 : Int) ^ (j + 1) = 2 * 2 ^ j := by rw [Int.pow_succ]; omega
              have HNN : Hid (2 * n + q < 2 ^ (j + 1)) := Lib.hid (by rw [hp]; omega)
              clear hq hp n1
              go_wp2_with fail
              refine (HB3.out _).mono ?_
              rintro e w9 ⟨rfl, rfl⟩
              go_wp2
              go_roundw
              case rel => exact ⟨j + 1, 2 * n + q, by omega, by go_num, by go_num, by omega, HNN.out, trivial, Lib.hid (by rw [HN.out, HST.out]; rfl)⟩
              case measure => simp [intOf]; omega
            · have hje : j = W := by omega
              subst hje
              obtain ⟨ps, hps⟩ : ∃ ps, ps = ns ++ [n] := ⟨_, rfl⟩
              have HPS := Lib.hid hps
              have HPL : Hid (ps.length = ns.length + 1) := Lib.hid (by rw [hps]; simp)
              have HT3 : Hid (envOf xs bs = ps ++ envOf (xs.drop (k + 1)) (bs.drop (a + j))) := Lib.hid (by rw [HT2.out, HN.out, hps]; simp [numB])
              have hsz := HB2.out.size
              have hown := HO2.out
              clear hps n1 HT2 HN HO2
              have HRD := Lib.hid (hs7.drop_bool j)
              obtain ⟨B9, hs9, hr9⟩ := slice_fromB L d7 j hs7 hWL (by rw [List.length_drop]; have := HAL.out; omega) hL7
              rw [List.drop_drop] at hr9
              have HR9 := Lib.hid hr9
              clear hr9 HRD
              go_wp2_with (at_builtin; refine wpList_append_int8 (ys := ps) (by rfl) (.tmp 42) (.tmp 44) (by rfl) (by rfl) (by rfl) hown (by omega) hsz HPS.out ?_; intro A3 c3 w3 hown3 hg3 hbk3; have HBX3 := Lib.hid ((hg3.block _ (lt_of_block HBX.out) (row_neI hown _ _ HBX.out (fun cs fr e9 => by injection e9 with _ e2 _; revert e2; decide))).trans HBX.out); have v1 := (cell_of_block HBX3.out 1).1; have HB3 := Lib.hid (HB2.out.grown hg3 hsz (fun g e => (hown.lt g e).1)); have HO3 := Lib.hid hown3; clear hg3 hbk3 hown3)
              go_roundw
              case rel => exact ⟨k + 1, ps, a + j, L - j, B9, d7 - j, A3, c3, by omega, by go_num, rfl, by have := HAL.out; omega, by omega, HR9.out, rfl, by omega, HA2, by rw [HPL.out]; omega, HO3.out, HB3.out, HT3⟩
              case measure => simp [intOf]; omega
        · have hke : k = xs.length := by omega
          subst hke
          have HX : Hid (blastEnv xs bs = ns) := Lib.hid (by rw [HE.out, HT.out, List.drop_length]; simp [envOf])
          go_wp2
          go_ret
          rw [HX.out]
          exact hown.ret hb
    · have HE : Hid (blastEnv xs bs = []) := Lib.hid (by unfold blastEnv; rw [if_neg (fun h9 => hl (by rw [h9.2, hS]))])
      have hbe : ((bs.length : Int) != S) = true := bne_iff_ne.2 hl
      clear hd hl hw4 hS
      go_enter Tryd.func10, Tryd.ntmps10
      go_wp2_with fail
      refine HD.out.mono ?_
      rintro e w1 ⟨rfl, hb⟩
      have HB := Lib.hid hb
      clear hb
      go_wp2_with fail
      refine (HBT.out _ (h.up HB.out)).mono ?_
      rintro e w9 ⟨rfl, hb⟩
      have HB := Lib.hid (bthen HB.out hb)
      clear hb
      go_wp2
      go_ret
      rw [HE.out]
      exact retO_nilI _ _ HB.out
end Go.Proofs.YthcmflhhpgmfaaaDoor

/-! BlastEnv and BlastIns, one form for the program's and the reference's. -/
namespace Go.Proofs.YthcmflhhpgmfaaaDoor
open Go Go.RowKit

theorem envOf_len : ∀ (xs : List D) (bs : List Bool), (envOf xs bs).length = xs.length
  | [], _ => rfl
  | x :: xs, bs => by simp [envOf, envOf_len xs]
theorem blastEnv_len (xs : List D) (bs : List Bool) : (blastEnv xs bs).length ≤ 1048576 := by
  unfold blastEnv
  split
  · rename_i h
    have := (declOk_facts h.1).1
    rw [envOf_len]; omega
  · simp
theorem insGo_len : ∀ (xs : List D) (env : List Int), (∀ x ∈ xs, x.wide ≤ 4) → (insGo xs env).length ≤ 4 * xs.length
  | [], _, _ => by simp [insGo]
  | _ :: _, [], _ => by simp [insGo]
  | x :: xs, n :: ns, h => by
    have := insGo_len xs ns fun y hy => h y (List.mem_cons_of_mem _ hy)
    have h4 := h x (List.mem_cons_self ..)
    simp only [insGo, List.length_append, downB_len, List.length_cons]
    omega
theorem blastIns_len (xs : List D) (env : List Int) : (blastIns xs env).length ≤ 1048576 := by
  unfold blastIns
  split
  · rename_i h
    have h1 := declOk_facts (envOk_facts h).1
    have := insGo_len xs env fun x hx => (h1.2.1 x hx).2.2
    omega
  · simp
section
variable (x0 : List D) (A0 : Option Addr) (c0 : Nat)
end
end Go.Proofs.YthcmflhhpgmfaaaDoor

/-! Environments and what comes in: the one tells the other (plain). -/
namespace Go.Proofs.YthcmflhhpgmfaaaDoor
open Go Go.RowKit

theorem numB_eq : ∀ (bs : List Bool) (a : Nat), ∃ r : Nat, r < 2 ^ bs.length ∧ numB (a : Int) bs = ((a * 2 ^ bs.length + r : Nat) : Int)
  | [], a => ⟨0, by simp, by simp [numB]⟩
  | b :: bs, a => by
    obtain ⟨r, hr, he⟩ := numB_eq bs (2 * a + b.toNat)
    refine ⟨b.toNat * 2 ^ bs.length + r, ?_, ?_⟩
    · rw [List.length_cons, Nat.pow_succ]
      cases b <;> simp <;> omega
    · have e1 : (2 * (a : Int) + if b = true then 1 else 0) = ((2 * a + b.toNat : Nat) : Int) := by cases b <;> simp
      show numB (2 * (a : Int) + if b = true then 1 else 0) bs = _
      rw [e1, he, List.length_cons, Nat.pow_succ]
      congr 1
      rw [Nat.add_mul, Nat.mul_comm 2 a, Nat.mul_assoc, Nat.mul_comm 2 (2 ^ bs.length)]
      omega
theorem numB_lt (bs : List Bool) : 0 ≤ numB 0 bs ∧ numB 0 bs < 2 ^ bs.length := by
  obtain ⟨r, hr, he⟩ := numB_eq bs 0
  rw [show numB 0 bs = ((0 * 2 ^ bs.length + r : Nat) : Int) from he]
  constructor
  · omega
  · rw [Nat.zero_mul, Nat.zero_add]; exact_mod_cast hr
theorem down_num : ∀ (bs : List Bool) (a : Nat), downB (numB (a : Int) bs) bs.length = bs
  | [], _ => rfl
  | b :: bs, a => by
    have e1 : (2 * (a : Int) + if b = true then 1 else 0) = ((2 * a + b.toNat : Nat) : Int) := by cases b <;> simp
    show (numB (2 * (a : Int) + if b = true then 1 else 0) bs).toNat.testBit bs.length :: downB (numB (2 * (a : Int) + if b = true then 1 else 0) bs) bs.length = _
    rw [e1, down_num bs (2 * a + b.toNat)]
    congr 1
    obtain ⟨r, hr, he⟩ := numB_eq bs (2 * a + b.toNat)
    rw [he, Int.toNat_natCast, Nat.testBit_eq_decide_div_mod_eq]
    have h1 : ((2 * a + b.toNat) * 2 ^ bs.length + r) / 2 ^ bs.length = 2 * a + b.toNat := by
      rw [Nat.mul_comm, Nat.mul_add_div (Nat.two_pow_pos _), Nat.div_eq_of_lt hr, Nat.add_zero]
    rw [h1]
    cases b <;> simp <;> omega
theorem num_down (m : Nat) : ∀ (W a : Nat), numB (a : Int) (downB (m : Int) W) = ((a * 2 ^ W + m % 2 ^ W : Nat) : Int)
  | 0, a => by simp [downB, numB, Nat.mod_one]
  | W + 1, a => by
    have e1 : (2 * (a : Int) + if (m : Int).toNat.testBit W = true then 1 else 0) = ((2 * a + (m.testBit W).toNat : Nat) : Int) := by
      rw [Int.toNat_natCast]; cases m.testBit W <;> simp
    show numB (2 * (a : Int) + if (m : Int).toNat.testBit W = true then 1 else 0) (downB (m : Int) W) = _
    have hb : m % 2 ^ (W + 1) = m % 2 ^ W + (m.testBit W).toNat * 2 ^ W := by
      rw [Nat.pow_succ, Nat.mod_mul, Nat.testBit_eq_decide_div_mod_eq, Nat.mul_comm (2 ^ W) (m / 2 ^ W % 2)]
      congr 2
      have : m / 2 ^ W % 2 < 2 := Nat.mod_lt _ (by omega)
      by_cases h : m / 2 ^ W % 2 = 1
      · rw [decide_eq_true h, h]; rfl
      · rw [decide_eq_false h]; show _ = 0; omega
    rw [e1, num_down m W, hb, Nat.pow_succ]
    congr 1
    rw [Nat.add_mul, Nat.mul_comm 2 a, Nat.mul_assoc, Nat.mul_comm 2 (2 ^ W)]
    omega
theorem vecB_iff {W : Nat} {n : Int} (h1 : 1 ≤ W) (h4 : W ≤ 4) : vecB (W : Int) n = true ↔ 0 ≤ n ∧ n < 2 ^ W := by
  simp only [vecB, Bool.and_eq_true, decide_eq_true_eq, Int.toNat_natCast]
  constructor
  · rintro ⟨⟨_, h⟩, h'⟩; exact ⟨h, h'⟩
  · rintro ⟨h, h'⟩; exact ⟨⟨⟨by omega, by omega⟩, h⟩, h'⟩
theorem envOf_ins : ∀ (ds : List D) (env : List Int), (∀ x ∈ ds, 1 ≤ x.wide ∧ x.wide ≤ 4) → env.length = ds.length → envGo ds env = true → envOf ds (insGo ds env) = env ∧ ((insGo ds env).length : Int) = dsum ds
  | [], [], _, _, _ => ⟨rfl, rfl⟩
  | [], _ :: _, _, h, _ => by simp at h
  | _ :: _, [], _, h, _ => by simp at h
  | x :: xs, n :: ns, hw, hl, hg => by
    obtain ⟨h1, h4⟩ := hw x (List.mem_cons_self ..)
    simp only [envGo, Bool.and_eq_true] at hg
    obtain ⟨ih1, ih2⟩ := envOf_ins xs ns (fun y hy => hw y (List.mem_cons_of_mem _ hy)) (by simpa using hl) hg.2
    obtain ⟨W, hW⟩ : ∃ W : Nat, x.wide = (W : Int) := ⟨x.wide.toNat, by omega⟩
    obtain ⟨n0, n1⟩ := (vecB_iff (W := W) (by omega) (by omega)).1 (by rw [← hW]; exact hg.1)
    obtain ⟨m, rfl⟩ := Int.eq_ofNat_of_zero_le n0
    have hm : m < 2 ^ W := by exact_mod_cast n1
    have hdl : (downB (m : Int) W).length = W := downB_len _ _
    constructor
    · show numB 0 ((downB (m : Int) x.wide.toNat ++ insGo xs ns).take x.wide.toNat) :: envOf xs ((downB (m : Int) x.wide.toNat ++ insGo xs ns).drop x.wide.toNat) = _
      rw [hW, Int.toNat_natCast, List.take_left' hdl, List.drop_left' hdl, ih1]
      have := num_down m W 0
      rw [Nat.zero_mul, Nat.zero_add, Nat.mod_eq_of_lt hm] at this
      rw [show numB 0 (downB (m : Int) W) = _ from this]
    · show ((downB (m : Int) x.wide.toNat ++ insGo xs ns).length : Int) = x.wide + dsum xs
      rw [List.length_append, hW, Int.toNat_natCast, hdl]
      push_cast
      omega
/-- What comes in of an environment tells it. -/
theorem ins_env {ds : List D} {env : List Int} (h : envOk ds env = true) : blastEnv ds (blastIns ds env) = env := by
  obtain ⟨h1, h2, h3⟩ := envOk_facts h
  obtain ⟨e1, e2⟩ := envOf_ins ds env (fun x hx => ((declOk_facts h1).2.1 x hx).2) h2 h3
  unfold blastIns blastEnv
  rw [if_pos h, if_pos ⟨h1, e2⟩, e1]
theorem ins_envOf : ∀ (ds : List D) (bs : List Bool), (∀ x ∈ ds, 1 ≤ x.wide ∧ x.wide ≤ 4) → (bs.length : Int) = dsum ds → insGo ds (envOf ds bs) = bs ∧ (envOf ds bs).length = ds.length ∧ envGo ds (envOf ds bs) = true
  | [], bs, _, h => ⟨by
    have : bs.length = 0 := by simpa [dsum] using h
    rw [List.eq_nil_of_length_eq_zero this]; rfl, rfl, rfl⟩
  | x :: xs, bs, hw, hl => by
    obtain ⟨h1, h4⟩ := hw x (List.mem_cons_self ..)
    have hnn := dsum_nn (ds := xs) fun y hy => (hw y (List.mem_cons_of_mem _ hy)).1
    obtain ⟨W, hW⟩ : ∃ W : Nat, x.wide = (W : Int) := ⟨x.wide.toNat, by omega⟩
    have hl' : (bs.length : Int) = (W : Int) + dsum xs := by rw [hl, ← hW]; rfl
    have hWl : W ≤ bs.length := by omega
    have htl : (bs.take W).length = W := by rw [List.length_take]; omega
    obtain ⟨ih1, ih2, ih3⟩ := ins_envOf xs (bs.drop W) (fun y hy => hw y (List.mem_cons_of_mem _ hy)) (by rw [List.length_drop]; omega)
    have e0 : envOf (x :: xs) bs = numB 0 (bs.take W) :: envOf xs (bs.drop W) := by
      show numB 0 (bs.take x.wide.toNat) :: envOf xs (bs.drop x.wide.toNat) = _
      rw [hW, Int.toNat_natCast]
    rw [e0]
    refine ⟨?_, by simp [ih2], ?_⟩
    · show downB (numB 0 (bs.take W)) x.wide.toNat ++ insGo xs (envOf xs (bs.drop W)) = _
      rw [hW, Int.toNat_natCast, ih1]
      have := down_num (bs.take W) 0
      rw [htl] at this
      rw [show downB (numB 0 (bs.take W)) W = _ from this, List.take_append_drop]
    · show (vecB x.wide (numB 0 (bs.take W)) && envGo xs (envOf xs (bs.drop W))) = true
      rw [ih3, Bool.and_true, hW]
      have := numB_lt (bs.take W)
      rw [htl] at this
      exact (vecB_iff (by omega) (by omega)).2 this
/-- An environment that is told by what comes in tells it. -/
theorem env_ins {ds : List D} {bs : List Bool} (h : 0 < (blastEnv ds bs).length) : envOk ds (blastEnv ds bs) = true ∧ blastIns ds (blastEnv ds bs) = bs := by
  by_cases hc : declOk ds = true ∧ (bs.length : Int) = dsum ds
  · have e : blastEnv ds bs = envOf ds bs := by unfold blastEnv; rw [if_pos hc]
    obtain ⟨h1, h2, h3⟩ := ins_envOf ds bs (fun x hx => ((declOk_facts hc.1).2.1 x hx).2) hc.2
    have h4 : envOk ds (envOf ds bs) = true := by rw [envOk_go hc.1 h2]; exact h3
    rw [e]
    refine ⟨h4, ?_⟩
    unfold blastIns
    rw [if_pos h4, h1]
  · have e : blastEnv ds bs = [] := by unfold blastEnv; rw [if_neg hc]
    rw [e] at h; simp at h
end Go.Proofs.YthcmflhhpgmfaaaDoor

/-! Rows of declarations of the call's own; readers of strings; the reference's l1Max and l1Min. -/
namespace Go.Proofs.YthcmflhhpgmfaaaDoor
open Go Go.RowKit

def dcells (d : D) : List Value := [.string d.name, .int .i64 d.wide]
theorem dcells_len (xs : List D) : (xs.flatMap dcells).length = xs.length * 2 := by
  induction xs with
  | nil => rfl
  | cons x xs ih => rw [List.flatMap_cons, List.length_append, ih]; simp [dcells]; omega
theorem dcells_get (xs : List D) (k j : Nat) (hk : k < xs.length) (hj : j < 2) : (xs.flatMap dcells)[k * 2 + j]? = (dcells xs[k])[j]? := by
  have hl : ((xs.take k).flatMap dcells).length = k * 2 := by rw [dcells_len]; simp; omega
  have e : xs.flatMap dcells = (xs.take k).flatMap dcells ++ (dcells xs[k] ++ (xs.drop (k + 1)).flatMap dcells) := by
    conv => lhs; rw [← List.take_append_drop k xs, List.drop_eq_getElem_cons hk]
    rw [List.flatMap_append, List.flatMap_cons]
  rw [e, List.getElem?_append_right (by omega), hl, show k * 2 + j - k * 2 = j by omega, List.getElem?_append_left (by simp [dcells]; omega)]
theorem dcells_put (xs : List D) (k j : Nat) (hk : k < xs.length) (v : Value) (d : D) (h : (dcells xs[k]).set j v = dcells d) (hj : j < 2) : (xs.flatMap dcells).set (k * 2 + j) v = (xs.set k d).flatMap dcells := by
  have hl : ((xs.take k).flatMap dcells).length = k * 2 := by rw [dcells_len]; simp; omega
  have e : xs.flatMap dcells = (xs.take k).flatMap dcells ++ (dcells xs[k] ++ (xs.drop (k + 1)).flatMap dcells) := by
    conv => lhs; rw [← List.take_append_drop k xs, List.drop_eq_getElem_cons hk]
    rw [List.flatMap_append, List.flatMap_cons]
  have e2 : (xs.set k d).flatMap dcells = (xs.take k).flatMap dcells ++ (dcells d ++ (xs.drop (k + 1)).flatMap dcells) := by
    rw [List.set_eq_take_append_cons_drop, if_pos hk, List.flatMap_append, List.flatMap_cons]
  rw [e, e2, List.set_append_right _ _ (by omega), hl, show k * 2 + j - k * 2 = j by omega, List.set_append_left _ _ (by simp [dcells]; omega), h]
theorem dcells_one (xs : List D) : ∀ u ∈ xs.flatMap dcells, u.oneCell' = true := by
  intro u hu
  obtain ⟨g, _, hg⟩ := List.mem_flatMap.1 hu
  simp [dcells] at hg
  rcases hg with rfl | rfl <;> rfl
theorem src_decls {w : World} {F : Nat → Prop} {A : Option Addr} {xs : List D} (h : Lay.decl.Sl w F A xs) : Src w 2 A xs.length (xs.flatMap dcells) := by
  refine ⟨dcells_len xs, fun h0 => ?_⟩
  obtain ⟨ad, rfl, _, hc⟩ := h h0
  refine ⟨ad, rfl, fun j u hu => ?_⟩
  have hj : j < (xs.flatMap dcells).length := by
    rcases Nat.lt_or_ge j (xs.flatMap dcells).length with h | h
    · exact h
    · rw [List.getElem?_eq_none h] at hu; cases hu
  rw [dcells_len] at hj
  have hk : j / 2 < xs.length := by omega
  obtain ⟨vs, hr, hcell⟩ := hc (j / 2) xs[j / 2] (List.getElem?_eq_getElem hk)
  have e : j = j / 2 * 2 + j % 2 := by omega
  rw [e, dcells_get xs (j / 2) (j % 2) hk (by omega)] at hu
  have := hcell (j % 2) u (by rw [hr]; exact hu)
  rw [show Lay.decl.size = 2 from rfl, ← e] at this
  exact this
/-- The call's own row of declarations. -/
def OwnDs (w : World) (base : Nat) (v : Value) (xs : List D) : Prop := w.ownsRow base 52 2 v xs.length (xs.flatMap dcells)
theorem OwnDs.up {w w' : World} {base : Nat} {v : Value} {xs : List D} (h : OwnDs w base v xs) (hb : Below w.heap.size w w') : OwnDs w' base v xs := own_below h hb (Nat.le_refl _)
theorem OwnDs.gr {S : Nat → Prop} {w w' : World} {base : Nat} {v : Value} {xs : List D} (h : OwnDs w base v xs) (hg : Gr S w w') (hr : ∀ b, S b → b < base) : OwnDs w' base v xs :=
  own_of_heap h fun g hg' => hg.block g (h.lt g hg').2 (fun e => by have := hr g e; have := (h.lt g hg').1; omega)
theorem OwnDs.sl {w : World} {base c : Nat} {A : Option Addr} {xs : List D} (h : OwnDs w base (.slice A xs.length c) xs) : Lay.decl.Sl w (fun b => base ≤ b ∧ b < w.heap.size) A xs :=
  Lay.Sl.of_own (L := Lay.decl) (e := 52) h rfl (fun g h1 h2 => ⟨h1, h2⟩) fun k x hx => ⟨dcells x, rfl, fun j u hu => by
    have hk : k < xs.length := (List.getElem?_eq_some_iff.1 hx).1
    have hj : j < 2 := by have := (List.getElem?_eq_some_iff.1 hu).1; simpa [dcells] using this
    show (xs.flatMap dcells)[k * 2 + j]? = _
    rw [dcells_get xs k j hk hj, (List.getElem?_eq_some_iff.1 hx).2]; exact hu⟩
theorem OwnDs.rd {w : World} {base c : Nat} {A : Option Addr} {xs : List D} (h : OwnDs w base (.slice A xs.length c) xs) : Lay.decl.Rd w A xs := h.sl.mono fun _ h => h.2
theorem OwnDs.ab {S : Nat → Prop} {w : World} {base c : Nat} {A : Option Addr} {xs : List D} (h : OwnDs w base (.slice A xs.length c) xs) (hr : ∀ b, S b → b < base) : Lay.decl.Sl w (Ab S w) A xs :=
  h.sl.mono fun b hb => ⟨hb.2, fun e => by have := hr b e; have := hb.1; omega⟩
theorem OwnDs.form {w : World} {lo : Nat} {v : Value} {xs : List D} (h : OwnDs w lo v xs) : ∃ A c, v = .slice A xs.length c ∧ xs.length ≤ c := by
  rcases h.2 with ⟨h1, h2⟩ | ⟨g, cap, cur, h1, _, _, h3, _⟩
  · exact ⟨none, 0, by rw [h1, h2], by rw [h2]; exact Nat.le_refl _⟩
  · exact ⟨_, cap, h1, h3⟩
theorem OwnDs.cap {w : World} {lo c n : Nat} {A : Option Addr} {xs : List D} (h : OwnDs w lo (.slice A n c) xs) : n = xs.length ∧ xs.length ≤ c := by
  obtain ⟨A', c', e, hl⟩ := h.form
  injection e with e1 e2 e3
  exact ⟨e2, by omega⟩
theorem OwnDs.first {w : World} {base c : Nat} {A : Option Addr} {xs : List D} (h : OwnDs w base (.slice A xs.length c) xs) (hx : 0 < xs.length) : ∃ g, A = some ⟨g, 0, none⟩ := by
  rcases h.2 with ⟨_, h2⟩ | ⟨g, cap, cur, h1, _⟩
  · rw [h2] at hx; exact absurd hx (by simp)
  · injection h1 with h1; exact ⟨g, h1⟩
/-- A field of an own row's declaration is stored. -/
theorem OwnDs.put {w : World} {base g c k j : Nat} {xs : List D} (h : OwnDs w base (.slice (some ⟨g, 0, none⟩) xs.length c) xs) (hk : k < xs.length) (v : Value) (d : D) (hd : (dcells xs[k]).set j v = dcells d) (hj : j < 2) :
    OwnDs (w.setCell ⟨g, k * 2 + j, none⟩ v) base (.slice (some ⟨g, 0, none⟩) (xs.set k d).length c) (xs.set k d) := by
  have := (World.ownsRow.stored h (k * 2 + j) v).1
  unfold OwnDs
  rw [← dcells_put xs k j hk v d hd hj]
  simpa using this
theorem OwnDs.cell {w : World} {base g c k j : Nat} {xs : List D} (h : OwnDs w base (.slice (some ⟨g, 0, none⟩) xs.length c) xs) (hk : k < xs.length) (hj : j < 2) : w.cell? ⟨g, k * 2 + j, none⟩ = (dcells xs[k])[j]? ∧ w.frozen? ⟨g, k * 2 + j, none⟩ = false := by
  have hl : (xs.flatMap dcells).length = xs.length * 2 := dcells_len xs
  refine ⟨?_, World.ownsRow.frozenAt h _⟩
  rw [World.ownsRow.cellAt h _ (by omega), dcells_get xs k j hk hj]
theorem OwnDs.mono {w : World} {base base' : Nat} {v : Value} {xs : List D} (h : OwnDs w base v xs) (hb : base' ≤ base) : OwnDs w base' v xs := own_mono h hb
theorem own_lit0D (w : World) : OwnDs (w.alloc (.cells #[] 52)) w.heap.size (.slice (some ⟨w.heap.size, 0, none⟩) ([] : List D).length 0) [] := own_lit0 rfl
theorem decl_info : (Tryd.prog.info? 52).map (fun i => (i.zero, i.size, i.bytes)) = some (some ((.agg #[.string ⟨#[]⟩, .int .i64 0])), 2, 24) := by kernel_rfl
/-- append of some declarations, read anywhere, onto an own row. -/
theorem wpList_append_decls {Q : Exit → Act → World → Prop} {ops : Array Oper} {rest : List Oper} {o : Oper} {a : Act} {w : World} {lo : Nat} {A B : Option Addr} {c d : Nat} {xs zs ys : List D} (hgd : o.guard = none) (s x : Operand)
    (ho : o.op = .call { callee := .builtin .append, args := #[s, x], argTypes := #[27, 27] }) (hs : a.eval s = .slice A xs.length c) (hx : a.eval x = .slice B zs.length d)
    (hown : OwnDs w lo (.slice A xs.length c) xs) (hsrc : Src w 2 B zs.length (zs.flatMap dcells)) (hB : B = none → zs.length = 0) (hn : xs.length ≤ 2000000) (hm : zs.length ≤ 2000000) (hlo : lo ≤ w.heap.size) (hy : ys = xs ++ zs)
    (h : ∀ A' c' w', OwnDs w' lo (.slice A' ys.length c') ys → Below lo w w' → w.grownBy w' (Value.slice A xs.length c).ownBlock → wpList Tryd.prog ops Q rest (a.put o.dst (.slice A' ys.length c')) w') : wpList Tryd.prog ops Q (o :: rest) a w := by
  obtain ⟨i0, hi0, hz0, hz1, hz2⟩ := info_parts decl_info
  have hl : xs.length + zs.length = ys.length := by rw [hy]; simp
  have hc : ys.flatMap dcells = xs.flatMap dcells ++ zs.flatMap dcells := by rw [hy]; simp
  refine wpList_append_src (P := Tryd.prog) w hgd s x 27 ho lo 52 i0 _ 2 24 Tryd.underlying27 hi0 hz0 hz1 hz2 (by rfl) (by omega) _ xs.length (xs.flatMap dcells) hs hown B zs.length d (zs.flatMap dcells) hx hsrc (dcells_one zs) ys.length hl (by unfold maxLen; omega) (by omega) hlo hB ?_
  intro A' c' w' h2 hb h3
  exact h A' c' w' (by unfold OwnDs; rw [hc]; exact h2) hb h3
set_option maxHeartbeats 1000000 in
theorem l1Max_any (a b : Int) (w : World) : Calls Tryd.prog 44 #[.int .i64 a, .int .i64 b] w fun e w' => e = .returned (.int .i64 (if b < a then a else b)) ∧ w = w' := by
  by_cases h : b < a
  · rw [if_pos h]
    go_enter Tryd.func44, Tryd.ntmps44
    go_wp2
    go_ret
    exact ⟨rfl, rfl⟩
  · rw [if_neg h]
    go_enter Tryd.func44, Tryd.ntmps44
    go_wp2
    go_ret
    exact ⟨rfl, rfl⟩
set_option maxHeartbeats 1000000 in
theorem l1Min_any (a b : Int) (w : World) : Calls Tryd.prog 45 #[.int .i64 a, .int .i64 b] w fun e w' => e = .returned (.int .i64 (if a < b then a else b)) ∧ w = w' := by
  by_cases h : a < b
  · rw [if_pos h]
    go_enter Tryd.func45, Tryd.ntmps45
    go_wp2
    go_ret
    exact ⟨rfl, rfl⟩
  · rw [if_neg h]
    go_enter Tryd.func45, Tryd.ntmps45
    go_wp2
    go_ret
    exact ⟨rfl, rfl⟩
theorem Lay.Sl.at_str {w : World} {F : Nat → Prop} {A : Option Addr} {xs : List ByteArray} (h : Lay.str.Sl w F A xs) {k : Nat} (hk : k < xs.length) :
    ∃ ad, A = some ad ∧ F ad.block ∧ w.cell? (ad.add k) = some (.string xs[k]) := by
  obtain ⟨ad, e, hf, hc⟩ := h (by omega)
  obtain ⟨vs, rfl, hcell⟩ := hc k xs[k] (List.getElem?_eq_getElem hk)
  exact ⟨ad, e, hf, by simpa [Lay.str, Lay.flat] using hcell 0 _ rfl⟩
/-- A row of strings that was just written down. -/
theorem lit_str {S : Nat → Prop} (w : World) (xs : List ByteArray) (cs : Array Value) (t : TypeId) (hc : cs = (xs.map Value.string).toArray) (hS : ¬ S w.heap.size) : Lay.str.Sl (w.alloc (.cells cs t)) (Ab S (w.alloc (.cells cs t))) (some ⟨w.heap.size, 0, none⟩) xs := by
  intro _
  refine ⟨_, rfl, ⟨by simp, hS⟩, fun k x hx => ⟨[.string x], rfl, fun j u hu => ?_⟩⟩
  rcases j with _ | j
  · injection hu with hu
    subst hu
    have hb := (cell_of_block (heap_alloc_new w (.cells cs t)) k).1
    have ha : (⟨w.heap.size, 0, none⟩ : Addr).add (k * Lay.str.size + 0) = ⟨w.heap.size, k, none⟩ := by
      show (⟨w.heap.size, 0, none⟩ : Addr).add (k * 1 + 0) = _
      rw [Nat.mul_one, Nat.add_zero]; unfold Addr.add; split
      · rename_i h; rw [h]
      · simp
    rw [ha, hb, hc]
    simp [hx]
  · simp at hu
set_option maxHeartbeats 1000000 in
theorem of_any (r : Nat) (p : Int) (B : Option Addr) (d : Nat) (xs : List ByteArray) (w : World) (h : Rdr w r p) (hs : Lay.str.Sl w (Ab (fun b => b = r) w) B xs) (h0 : 0 < xs.length) (hn : xs.length ≤ 1048576) (p0 : 0 ≤ p) (p1 : p ≤ 1000000000) :
    Calls Tryd.prog 58 #[.pointer (some ⟨r, 0, none⟩), .slice B xs.length d] w fun e w' => ∃ x ∈ xs, e = .returned (.string x) ∧ Rdr w' r (p + 1) ∧ Gr (fun b => b = r) w w' := by
  go_enter Tryd.func58, Tryd.ntmps58
  go_wp2_with fail
  refine (pick_any r p xs.length w h p0 p1 (by omega) (by omega)).mono ?_
  rintro e w' ⟨k, rfl, k0, k1, _, hR, hg⟩
  have hk := k1 (by omega)
  have hg := Gr.one (S := fun b => b = r) hg rfl
  obtain ⟨n, rfl⟩ := Int.eq_ofNat_of_zero_le k0
  have hnl : n < xs.length := by omega
  obtain ⟨ad, rfl, _, hc⟩ := (hs.gr hg).at_str hnl
  have hm : xs[n] ∈ xs := List.getElem_mem hnl
  generalize xs[n] = x at *
  have HR := Lib.hid (And.intro hm (And.intro hR hg))
  clear hR hg hm k1 hs h
  go_wp2
  go_ret
  exact ⟨x, HR.out.1, rfl, HR.out.2⟩
end Go.Proofs.YthcmflhhpgmfaaaDoor

/-! Draws of declarations and environments: l2Decls, l2Spoil, l2Env, DrawEnvOk, l4Vals, DrawBlastEnv. -/
namespace Go.Proofs.YthcmflhhpgmfaaaDoor
open Go Go.RowKit

theorem OwnI.gr {S : Nat → Prop} {w w' : World} {base : Nat} {v : Value} {xs : List Int} (h : OwnI w base v xs) (hg : Gr S w w') (hr : ∀ b, S b → b < base) : OwnI w' base v xs :=
  own_of_heap h fun g hg' => hg.block g (h.lt g hg').2 (fun e => by have := hr g e; have := (h.lt g hg').1; omega)
theorem OwnI.ab {S : Nat → Prop} {w : World} {base c : Nat} {A : Option Addr} {xs : List Int} (h : OwnI w base (.slice A xs.length c) xs) (hr : ∀ b, S b → b < base) : Lay.int.Sl w (Ab S w) A xs := by
  obtain ⟨A', c', e, h1, h2⟩ := h.form
  injection e with e1 e2 e3
  subst e1
  exact h2.mono fun b hb => ⟨hb.2, fun e => by have := hr b e; have := hb.1; omega⟩
theorem own_set9 {w : World} {lo g c k : Nat} {xs : List Int} (h : OwnI w lo (.slice (some ⟨g, 0, none⟩) xs.length c) xs) (x : Int) : OwnI (w.setCell ⟨g, k, none⟩ (.int .i64 x)) lo (.slice (some ⟨g, 0, none⟩) xs.length c) (xs.set k x) := by
  have := (h.stored k (.int .i64 x)).1
  unfold OwnI
  rw [List.length_set, List.map_set]
  exact this
theorem l1Two_t (m : Int) (h0 : 0 ≤ m) (h1 : m ≤ 16) : ∃ T : Int, 1 ≤ T ∧ T ≤ 65536 ∧ ∀ w, Calls Tryd.prog 55 #[.int .i64 m] w fun e w' => e = .returned (.int .i64 T) ∧ w = w' := by
  refine ⟨((2 ^ m.toNat : Nat) : Int), ?_, ?_, fun w => ?_⟩
  · have := Nat.two_pow_pos m.toNat; omega
  · have := pow_small16 (n := m.toNat) (by omega); omega
  · have h9 := l1Two_q m.toNat w (by omega)
    rw [Int.toNat_of_nonneg h0] at h9
    exact h9
/-- What a draw of declarations gives. -/
def okDr (m : Nat) (ds : List D) : Prop := ds.length ≤ m ∧ ∀ d ∈ ds, d.name.size ≤ 5 ∧ -1 ≤ d.wide ∧ d.wide ≤ 5
theorem okDr.snoc {ds : List D} {d : D} (h : ∀ d ∈ ds, d.name.size ≤ 5 ∧ -1 ≤ d.wide ∧ d.wide ≤ 5) (hd : d.name.size ≤ 5 ∧ -1 ≤ d.wide ∧ d.wide ≤ 5) : ∀ x ∈ ds ++ [d], x.name.size ≤ 5 ∧ -1 ≤ x.wide ∧ x.wide ≤ 5 := fun x hx => by
  rcases List.mem_append.1 hx with h9 | h9
  · exact h x h9
  · rw [List.mem_singleton.1 h9]; exact hd
/-- Drawn declarations, of the call's own. -/
def RetDD (r : Nat) (p M : Int) (m : Nat) (w : World) (e : Ending) (w' : World) : Prop := ∃ A c ds, e = .returned (.slice A ds.length c) ∧ OwnDs w' w.heap.size (.slice A ds.length c) ds ∧ okDr m ds ∧ Drawn r p M w w'
def nm4 : List ByteArray := [⟨#[120]⟩, ⟨#[121]⟩, ⟨#[122]⟩, ⟨#[119]⟩]
theorem nm4_le : ∀ x ∈ nm4, x.size ≤ 5 := by decide
set_option maxRecDepth 100000 in
set_option maxHeartbeats 4000000 in
theorem l2Decls_any (r : Nat) (p : Int) (w : World) (h : Rdr w r p) (p0 : 0 ≤ p) (p1 : p ≤ 800000000) :
    Calls Tryd.prog 43 #[.pointer (some ⟨r, 0, none⟩)] w (RetDD r p 20 4 w) := by
  have hrl := h.lt
  have hal : Below w.heap.size w (w.alloc (.cells #[.string ⟨#[120]⟩, .string ⟨#[121]⟩, .string ⟨#[122]⟩, .string ⟨#[119]⟩] 9)) := (Below.refl _ _).alloc (Nat.le_refl _) _
  have HB0 := Lib.hid (heap_alloc_new w (.cells #[.string ⟨#[120]⟩, .string ⟨#[121]⟩, .string ⟨#[122]⟩, .string ⟨#[119]⟩] 9))
  have hs0 : (w.alloc (.cells #[.string ⟨#[120]⟩, .string ⟨#[121]⟩, .string ⟨#[122]⟩, .string ⟨#[119]⟩] 9)).heap.size = w.heap.size + 1 := by simp
  have hR0 := h.up hal
  have hg0 : Gr (IsR r) w (w.alloc (.cells #[.string ⟨#[120]⟩, .string ⟨#[121]⟩, .string ⟨#[122]⟩, .string ⟨#[119]⟩] 9)) := .below hal
  clear hal h
  go_enter Tryd.func43, Tryd.ntmps43
  go_wp2
  generalize w.alloc (.cells #[.string ⟨#[120]⟩, .string ⟨#[121]⟩, .string ⟨#[122]⟩, .string ⟨#[119]⟩] 9) = w0 at *
  have hal : Below w0.heap.size w0 (w0.alloc (.cells #[] 52)) := (Below.refl _ _).alloc (Nat.le_refl _) _
  have hol : OwnDs (w0.alloc (.cells #[] 52)) w0.heap.size (.slice (some ⟨w.heap.size + 1, 0, none⟩) ([] : List D).length 0) [] := by rw [← hs0]; exact own_lit0D w0
  have hR1 := hR0.up hal
  have hg1 := hg0.up hal
  have HB0 := Lib.hid ((hal.block _ (lt_of_block HB0.out)).trans HB0.out)
  have hsz1 : w0.heap.size ≤ (w0.alloc (.cells #[] 52)).heap.size := hal.size
  have hrw0 : r < w0.heap.size := by omega
  have hww0 : w.heap.size ≤ w0.heap.size := by omega
  have hww1 : w.heap.size < w0.heap.size := by omega
  clear hal hR0 hg0 hs0
  go_loopw [4, 5, 6] (fun s b i wr => ∃ (j : Nat) (n : Int) (ds : List D) (A : Option Addr) (c : Nat) (q : Int), j ≤ 4 ∧ i = .int .i64 j ∧ b = .int .i64 n ∧ 0 ≤ n ∧ n ≤ 8 ∧ s = .slice A ds.length c ∧ ds.length = j ∧ Hid (∀ d ∈ ds, d.name.size ≤ 5 ∧ -1 ≤ d.wide ∧ d.wide ≤ 5) ∧
    OwnDs wr w0.heap.size (.slice A ds.length c) ds ∧ p ≤ q ∧ q ≤ p + 2 * j ∧ Rdr wr r q ∧ Gr (IsR r) w wr ∧ Hid (wr.heap[w.heap.size]? = some (.cells #[.string ⟨#[120]⟩, .string ⟨#[121]⟩, .string ⟨#[122]⟩, .string ⟨#[119]⟩] 9 (0, 0))) ∧ w0.heap.size ≤ wr.heap.size) (fun _ _ i _ => 4 - (intOf i).toNat)
  case atStart => exact ⟨0, 0, [], _, _, p, by omega, rfl, rfl, by omega, by omega, rfl, rfl, Lib.hid (by simp), hol, by omega, by omega, hR1, hg1, HB0, hsz1⟩
  case round =>
    obtain ⟨j, n, ds, A, c, q, hj, rfl, rfl, n0, n8, rfl, hdl, HDS, hown, q0, q1, hR, hg, HB0, hsr⟩ := hrel
    have HDL := Lib.hid hdl
    have hdl4 : ds.length ≤ 4 := by omega
    clear hdl
    go_wp2_with fail
    refine (pick_any r q 4 wr hR (by omega) (by omega) (by omega) (by omega)).mono ?_
    rintro e w2 ⟨k, rfl, k0, k1, _, hR2, hg2⟩
    have k1 := k1 (by omega)
    have hg2 := Gr.one (S := IsR r) hg2 rfl
    have hown2 := hown.gr hg2 (fun b e => by rw [e]; exact hrw0)
    have hgg2 := hg.trans hg2
    have HB0 := Lib.hid (hg2.heap (by show ¬ _ = r; omega) HB0.out)
    have hsr2 := Nat.le_trans hsr hg2.size
    clear hR hg hown hg2
    by_cases hlt : (j : Int) < 1 + k ∧ j < 4
    · obtain ⟨hl1, hl2⟩ := hlt
      have g1 : decide ((j : Int) < 1 + k) = true := decide_eq_true hl1
      have hl3 : (j : Int) < 4 := by omega
      go_wp2_with fail
      refine (pick_any r (q + 1) 4 w2 hR2 (by omega) (by omega) (by omega) (by omega)).mono ?_
      rintro e w3 ⟨z, rfl, z0, z1, _, hR3, hg3⟩
      have z1 := z1 (by omega)
      have hg3 := Gr.one (S := IsR r) hg3 rfl
      have hown3 := hown2.gr hg3 (fun b e => by rw [e]; exact hrw0)
      have hgg3 := hgg2.trans hg3
      have HB0 := Lib.hid (hg3.heap (by show ¬ _ = r; omega) HB0.out)
      have hsr3 := Nat.le_trans hsr2 hg3.size
      clear hR2 hgg2 hown2 hg3 g1
      go_wp2_with fail
      refine (l1Min_any (1 + z) (8 - n) w3).mono ?_
      obtain ⟨m, hm⟩ : ∃ m : Int, m = if 1 + z < 8 - n then 1 + z else 8 - n := ⟨_, rfl⟩
      have hmb : m ≤ 4 ∧ m ≤ 8 - n ∧ (1 ≤ m ∨ m < 1) := by rw [hm]; split <;> omega
      obtain ⟨m4, m8, mc⟩ := hmb
      have m0 : 0 ≤ m := by rw [hm]; split <;> omega
      rw [← hm]
      clear hm
      rintro e w9 ⟨rfl, rfl⟩
      by_cases hm1 : m < 1
      · go_wp2
        go_ret
        exact ⟨A, c, ds, rfl, hown3.mono hww0, ⟨by omega, HDS.out⟩, q + 1 + 1, by omega, by omega, hR3, hgg3⟩
      · have hjn : j < nm4.length := hl2
        have c9 : w3.cell? ⟨w.heap.size, j, none⟩ = some (.string nm4[j]) := (cell_of_block HB0.out j).1.trans (by
          show ((nm4.map Value.string).toArray)[j]? = _
          simp [List.getElem?_eq_getElem hjn])
        have hj4 : (j : Int) < 4 := hl3
        have hnm := nm4_le _ (List.getElem_mem hjn)
        obtain ⟨s9, hs9⟩ : ∃ s9, s9 = nm4[j] := ⟨_, rfl⟩
        rw [← hs9] at c9 hnm
        obtain ⟨ps, hps⟩ : ∃ ps, ps = ds ++ [⟨s9, m⟩] := ⟨_, rfl⟩
        have HPS := Lib.hid hps
        have HPL := Lib.hid (show ps.length = ds.length + 1 by rw [hps]; simp)
        have HPD : Hid (∀ d ∈ ps, d.name.size ≤ 5 ∧ -1 ≤ d.wide ∧ d.wide ≤ 5) := Lib.hid (by rw [hps]; exact okDr.snoc HDS.out ⟨hnm, by show -1 ≤ m; omega, by show m ≤ 5; omega⟩)
        have hal : Below w3.heap.size w3 (w3.alloc (.cells #[.string s9, .int .i64 m] 52)) := (Below.refl _ _).alloc (Nat.le_refl _) _
        have HSRC : Hid (Src (w3.alloc (.cells #[.string s9, .int .i64 m] 52)) 2 (some ⟨w3.heap.size, 0, none⟩) [(⟨s9, m⟩ : D)].length ([(⟨s9, m⟩ : D)].flatMap dcells)) := Lib.hid (src_new rfl rfl)
        have hown4 := hown3.up hal
        have hR4 := hR3.up hal
        have hgg4 := hgg3.up hal
        have HB0 := Lib.hid ((hal.block _ (lt_of_block HB0.out)).trans HB0.out)
        have hsr4 := Nat.le_trans hsr3 hal.size
        clear hs9 hps hal hown3 hgg3 hR3
        go_wp2_with (at_builtin; refine wpList_append_decls (ys := ps) (zs := [⟨s9, m⟩]) (by rfl) (.tmp 29) (.tmp 36) (by rfl) (by rfl) (by rfl) hown4 HSRC.out (by simp) (by omega) (by simp) hsr4 HPS.out ?_; intro A5 c5 w5 hown5 hb5 hg5)
        have hR5 := hR4.own hg5 (fun g e => by have := (hown4.lt g e).1; omega)
        have hgg5 := hgg4.own hg5 (fun g e => by have := (hown4.lt g e).1; omega)
        have HB0 := Lib.hid ((hg5.block _ (lt_of_block HB0.out) (fun e => by have := (hown4.lt _ e.symm).1; omega)).trans HB0.out)
        have hsr5 := Nat.le_trans hsr4 hg5.size
        clear hg5 hb5 hown4 hR4 hgg4
        go_roundw
        case rel => exact ⟨j + 1, n + m, ps, A5, c5, q + 1 + 1, by omega, by go_num, rfl, by omega, by omega, rfl, by rw [HPL.out, HDL.out], HPD, hown5, by omega, by omega, hR5, hgg5, HB0, hsr5⟩
        case measure => simp [intOf]; omega
    · by_cases hl1 : (j : Int) < 1 + k
      · exact absurd ⟨hl1, by omega⟩ hlt
      · have g1 : decide ((j : Int) < 1 + k) = false := decide_eq_false hl1
        clear hlt
        go_wp2
        go_ret
        exact ⟨A, c, ds, rfl, hown2.mono hww0, ⟨by omega, HDS.out⟩, q + 1, by omega, by omega, hR2, hgg2⟩
/-- Declarations stored anew in a place. -/
theorem okDr.set {m : Nat} {ds : List D} (h : okDr m ds) (k : Nat) {d : D} (hd : d.name.size ≤ 5 ∧ -1 ≤ d.wide ∧ d.wide ≤ 5) : okDr m (ds.set k d) := ⟨by rw [List.length_set]; exact h.1, fun x hx => by
  rcases List.mem_or_eq_of_mem_set hx with hx | rfl
  · exact h.2 x hx
  · exact hd⟩
theorem okDr.mono {m n : Nat} {ds : List D} (h : okDr m ds) (hmn : m ≤ n) : okDr n ds := ⟨Nat.le_trans h.1 hmn, h.2⟩
def nm6 : List ByteArray := [⟨#[]⟩, ⟨#[116, 114, 117, 101]⟩, ⟨#[97, 98, 99, 100, 101]⟩, ⟨#[65]⟩, ⟨#[110, 111, 116]⟩, ⟨#[120]⟩]
theorem nm6_le : ∀ x ∈ nm6, x.size ≤ 5 := by decide
set_option maxRecDepth 100000 in
set_option maxHeartbeats 8000000 in
theorem l2Spoil_any (r m : Nat) (p : Int) (A : Option Addr) (c : Nat) (ds : List D) (w : World) (h : Rdr w r p) (hx : Lay.decl.Rd w A ds) (hA : A = none → ds.length = 0) (hd : okDr m ds) (hm : m ≤ 20) (p0 : 0 ≤ p) (p1 : p ≤ 800000000) :
    Calls Tryd.prog 42 #[.pointer (some ⟨r, 0, none⟩), .slice A ds.length c] w (RetDD r p 10 (m + 2) w) := by
  have hrl := h.lt
  have hal : Below w.heap.size w (w.alloc (.cells #[] 52)) := (Below.refl _ _).alloc (Nat.le_refl _) _
  have hol := own_lit0D w
  have HSRC := Lib.hid (src_decls (hx.up hal))
  have hR0 := h.up hal
  have HG := Lib.hid (Gr.below (S := IsR r) hal)
  have hsz := hal.size
  have HD := Lib.hid hd
  have hdl : ds.length ≤ 20 := by have := hd.1; omega
  clear hal h hx hd
  by_cases hz0 : ds.length = 0
  · have hzb : ((ds.length : Int) == 0) = true := beq_iff_eq.2 (by omega)
    clear hz0
    go_enter Tryd.func42, Tryd.ntmps42
    go_wp2_with (at_builtin; refine wpList_append_decls (xs := []) (zs := ds) (ys := ds) (by rfl) (.tmp 7) (.tmp 8) (by rfl) (by rfl) (by rfl) hol HSRC.out hA (by simp) (by omega) hsz (by simp) ?_; intro A1 c1 w1 hown hb1 hg1; have HG := Lib.hid (HG.out.own hg1 (fun g e => (hol.lt g e).1)); have hR1 := hR0.own hg1 (fun g e => by have := (hol.lt g e).1; omega); have hsz1 := Nat.le_trans hsz hg1.size; clear hb1 hg1 hol hR0 HSRC)
    go_ret
    exact ⟨A1, c1, ds, rfl, hown, HD.out.mono (by omega), p, by omega, by omega, hR1, HG.out⟩
  have hpos : 0 < ds.length := by omega
  have hzb : ((ds.length : Int) == 0) = false := beq_eq_false_iff_ne.2 (by omega)
  clear hz0
  go_enter Tryd.func42, Tryd.ntmps42
  go_wp2_with (at_builtin; refine wpList_append_decls (xs := []) (zs := ds) (ys := ds) (by rfl) (.tmp 7) (.tmp 8) (by rfl) (by rfl) (by rfl) hol HSRC.out hA (by simp) (by omega) hsz (by simp) ?_; intro A1 c1 w1 hown hb1 hg1; have HG := Lib.hid (HG.out.own hg1 (fun g e => (hol.lt g e).1)); have hR1 := hR0.own hg1 (fun g e => by have := (hol.lt g e).1; omega); have hsz1 := Nat.le_trans hsz hg1.size; clear hb1 hg1 hol hR0 HSRC)
  clear hzb
  obtain ⟨g, rfl⟩ := hown.first hpos
  refine (pick_any r p ds.length w1 hR1 (by omega) (by omega) (by omega) (by omega)).mono ?_
  rintro e w2 ⟨k, rfl, k0, k1, _, hR2, hg2⟩
  have k1 := k1 (by omega)
  have hg2 := Gr.one (S := IsR r) hg2 rfl
  have HG := Lib.hid (HG.out.trans hg2)
  have hown2 := hown.gr hg2 (fun b e => by rw [e]; exact hrl)
  obtain ⟨kn, rfl⟩ := Int.eq_ofNat_of_zero_le k0
  have hkn : kn < ds.length := by omega
  have hkn2 : (kn : Int) < ds.length := by omega
  clear hR1 hg2 hown
  go_wp2_with fail
  refine (pick_any r (p + 1) 80 w2 hR2 (by omega) (by omega) (by omega) (by omega)).mono ?_
  rintro e w3 ⟨z, rfl, z0, _, _, hR3, hg3⟩
  have hg3 := Gr.one (S := IsR r) hg3 rfl
  have HG := Lib.hid (HG.out.trans hg3)
  have hown3 := hown2.gr hg3 (fun b e => by rw [e]; exact hrl)
  have hz3 := hg3.size
  clear hR2 hg3 hown2
  have hwlt : w.heap.size ≤ w3.heap.size := HG.out.size
  by_cases q0 : z = 0
  · subst q0
    have hal : Below w3.heap.size w3 (w3.alloc (.cells #[.int .i64 0, .int .i64 5, .int .i64 (-1), .int .i64 4] 3)) := (Below.refl _ _).alloc (Nat.le_refl _) _
    have hsl := lit_sl (S := IsR r) w3 [0, 5, -1, 4] _ 3 rfl (by show ¬ _ = r; have := hR3.lt; omega)
    have HN := Lib.hid (num_any r (p + 1 + 1) _ 4 _ _ (hR3.up hal) hsl (by simp) (by simp) (by omega) (by omega))
    have HG := Lib.hid (HG.out.up hal)
    have hown4 := hown3.up hal
    clear hal hsl hR3 hown3
    go_wp2_with fail
    refine HN.out.mono ?_
    clear HN
    rintro e w5 ⟨y, hy, rfl, hR5, hg5⟩
    have HY := Lib.hid hy
    have HG := Lib.hid (HG.out.trans hg5)
    have hown5 := hown4.gr hg5 (fun b e => by rw [e]; exact hrl)
    have hgl := (hown5.lt g rfl).1
    obtain ⟨c9, f9⟩ := hown5.cell (j := 1) hkn (by omega)
    have c9 : w5.cell? ⟨g, kn * 2 + 1, none⟩ = some (.int .i64 ds[kn].wide) := c9
    have f9 : w5.frozen? ⟨g, kn * 2 + 1, none⟩ = false := f9
    have HO := Lib.hid (hown5.put (j := 1) hkn (.int .i64 y) ⟨ds[kn].name, y⟩ rfl (by omega))
    have HR := Lib.hid (hR5.set (g := g) (o := kn * 2 + 1) (u := .int .i64 y) (by omega))
    have HG := Lib.hid (HG.out.set g (kn * 2 + 1) (.int .i64 y) (.inr hgl))
    clear hy hR5 hg5 hown4 hown5
    go_wp2
    go_ret
    have hl9 : (ds.set kn ⟨ds[kn].name, y⟩).length = ds.length := List.length_set
    have HO := HO.out
    have e9 : Ending.returned (.slice (some ⟨g, 0, none⟩) ds.length c1) = .returned (.slice (some ⟨g, 0, none⟩) (ds.set kn ⟨ds[kn].name, y⟩).length c1) := by rw [hl9]
    exact ⟨some ⟨g, 0, none⟩, c1, _, e9, HO, (HD.out.set kn (d := ⟨ds[kn].name, y⟩) ⟨(HD.out.2 _ (List.getElem_mem hkn)).1, by have h9 := HY.out; simp at h9; show -1 ≤ y; omega, by have h9 := HY.out; simp at h9; show y ≤ 5; omega⟩).mono (by omega), p + 1 + 1 + 1, by omega, by omega, HR.out, HG.out⟩
  have b0 : (z == 0) = false := by simpa using q0
  clear q0
  by_cases q1 : z = 1
  · subst q1
    have hal : Below w3.heap.size w3 (w3.alloc (.cells #[.string ⟨#[]⟩, .string ⟨#[116, 114, 117, 101]⟩, .string ⟨#[97, 98, 99, 100, 101]⟩, .string ⟨#[65]⟩, .string ⟨#[110, 111, 116]⟩, .string ⟨#[120]⟩] 9)) := (Below.refl _ _).alloc (Nat.le_refl _) _
    have hsl := lit_str (S := IsR r) w3 nm6 _ 9 rfl (by show ¬ _ = r; have := hR3.lt; omega)
    have HN := Lib.hid (of_any r (p + 1 + 1) _ 6 _ _ (hR3.up hal) hsl (by decide) (by decide) (by omega) (by omega))
    have HG := Lib.hid (HG.out.up hal)
    have hown4 := hown3.up hal
    clear hal hsl hR3 hown3
    go_wp2_with fail
    refine HN.out.mono ?_
    clear HN
    rintro e w5 ⟨y, hy, rfl, hR5, hg5⟩
    have HY := Lib.hid hy
    have HG := Lib.hid (HG.out.trans hg5)
    have hown5 := hown4.gr hg5 (fun b e => by rw [e]; exact hrl)
    have hgl := (hown5.lt g rfl).1
    obtain ⟨c9, f9⟩ := hown5.cell (j := 0) hkn (by omega)
    have c9 : w5.cell? ⟨g, kn * 2, none⟩ = some (.string ds[kn].name) := c9
    have f9 : w5.frozen? ⟨g, kn * 2, none⟩ = false := f9
    have HO := Lib.hid (hown5.put (j := 0) hkn (.string y) ⟨y, ds[kn].wide⟩ rfl (by omega))
    have HR := Lib.hid (hR5.set (g := g) (o := kn * 2 + 0) (u := .string y) (by omega))
    have HG := Lib.hid (HG.out.set g (kn * 2 + 0) (.string y) (.inr hgl))
    clear hy hR5 hg5 hown4 hown5
    go_wp2
    go_ret
    have hl9 : (ds.set kn ⟨y, ds[kn].wide⟩).length = ds.length := List.length_set
    have HO := HO.out
    have e9 : Ending.returned (.slice (some ⟨g, 0, none⟩) ds.length c1) = .returned (.slice (some ⟨g, 0, none⟩) (ds.set kn ⟨y, ds[kn].wide⟩).length c1) := by rw [hl9]
    exact ⟨some ⟨g, 0, none⟩, c1, _, e9, HO, (HD.out.set kn (d := ⟨y, ds[kn].wide⟩) ⟨nm6_le y HY.out, (HD.out.2 _ (List.getElem_mem hkn)).2⟩).mono (by omega), p + 1 + 1 + 1, by omega, by omega, HR.out, HG.out⟩
  have b1 : (z == 1) = false := by simpa using q1
  clear q1
  by_cases q2 : z = 2
  · subst q2
    obtain ⟨ps, hps⟩ : ∃ ps, ps = ds ++ [⟨⟨#[113]⟩, 4⟩, ⟨⟨#[112]⟩, 1⟩] := ⟨_, rfl⟩
    have HPS := Lib.hid hps
    have HPD : Hid (okDr (m + 2) ps) := Lib.hid ⟨by rw [hps]; have := HD.out.1; simp; omega, fun x hx => by
      rw [hps] at hx
      rcases List.mem_append.1 hx with hx | hx
      · exact HD.out.2 x hx
      · rcases List.mem_cons.1 hx with rfl | hx
        · exact ⟨by decide, by decide, by decide⟩
        · rw [List.mem_singleton.1 hx]; exact ⟨by decide, by decide, by decide⟩⟩
    have hal : Below w3.heap.size w3 (w3.alloc (.cells #[.string ⟨#[113]⟩, .int .i64 4, .string ⟨#[112]⟩, .int .i64 1] 52)) := (Below.refl _ _).alloc (Nat.le_refl _) _
    have HSRC : Hid (Src (w3.alloc (.cells #[.string ⟨#[113]⟩, .int .i64 4, .string ⟨#[112]⟩, .int .i64 1] 52)) 2 (some ⟨w3.heap.size, 0, none⟩) [(⟨⟨#[113]⟩, 4⟩ : D), ⟨⟨#[112]⟩, 1⟩].length ([(⟨⟨#[113]⟩, 4⟩ : D), ⟨⟨#[112]⟩, 1⟩].flatMap dcells)) := Lib.hid (src_new rfl rfl)
    have hown4 := hown3.up hal
    have hR4 := hR3.up hal
    have HG := Lib.hid (HG.out.up hal)
    have hsz4 := Nat.le_trans hwlt hal.size
    clear hps hal hown3 hR3
    go_wp2_with (at_builtin; refine wpList_append_decls (ys := ps) (zs := [⟨⟨#[113]⟩, 4⟩, ⟨⟨#[112]⟩, 1⟩]) (by rfl) (.tmp 40) (.tmp 43) (by rfl) (by rfl) (by rfl) hown4 HSRC.out (by simp) (by omega) (by simp) hsz4 HPS.out ?_; intro A5 c5 w5 hown5 hb5 hg5)
    have hR5 := hR4.own hg5 (fun g e => by have := (hown4.lt g e).1; omega)
    have HG := Lib.hid (HG.out.own hg5 (fun g e => (hown4.lt g e).1))
    go_ret
    exact ⟨A5, c5, ps, rfl, hown5, HPD.out, p + 1 + 1, by omega, by omega, hR5, HG.out⟩
  have b2 : (z == 2) = false := by simpa using q2
  clear q2
  by_cases q3 : z = 3
  · subst q3
    have hal : Below w3.heap.size w3 (w3.alloc (.cells #[] 52)) := (Below.refl _ _).alloc (Nat.le_refl _) _
    have hoe := own_lit0D w3
    have hR4 := hR3.up hal
    have HG := Lib.hid (HG.out.up hal)
    clear hal hR3
    go_wp2
    go_ret
    exact ⟨_, 0, [], rfl, hoe.mono hwlt, ⟨by simp, by simp⟩, p + 1 + 1, by omega, by omega, hR4, HG.out⟩
  have b3 : (z == 3) = false := by simpa using q3
  clear q3
  go_wp2
  go_ret
  exact ⟨some ⟨g, 0, none⟩, c1, ds, rfl, hown3, HD.out.mono (by omega), p + 1 + 1, by omega, by omega, hR3, HG.out⟩
/-- Drawn numbers for names. -/
def okEv (xs : List Int) : Prop := xs.length ≤ 30 ∧ ∀ x ∈ xs, okInt x
def RetDE (r : Nat) (p M : Int) (w : World) (e : Ending) (w' : World) : Prop := ∃ A c xs, e = .returned (.slice A xs.length c) ∧ OwnI w' w.heap.size (.slice A xs.length c) xs ∧ okEv xs ∧ Drawn r p M w w'
set_option maxRecDepth 100000 in
set_option maxHeartbeats 8000000 in
theorem l2Env_any (r m : Nat) (p : Int) (A : Option Addr) (c : Nat) (ds : List D) (w : World) (h : Rdr w r p) (hx : Lay.decl.Sl w (Ab (IsR r) w) A ds) (hd : okDr m ds) (hm : m ≤ 20) (p0 : 0 ≤ p) (p1 : p ≤ 800000000) :
    Calls Tryd.prog 56 #[.pointer (some ⟨r, 0, none⟩), .slice A ds.length c] w (RetDE r p 30 w) := by
  have hrl := h.lt
  have hal : Below w.heap.size w (w.alloc (.cells #[] 3)) := (Below.refl _ _).alloc (Nat.le_refl _) _
  have hol : OwnI (w.alloc (.cells #[] 3)) w.heap.size (.slice (some ⟨w.heap.size, 0, none⟩) ([] : List Int).length 0) [] := own_lit0 rfl
  have hR0 := h.up hal
  have hg0 : Gr (IsR r) w (w.alloc (.cells #[] 3)) := .below hal
  have hsz := hal.size
  have HD := Lib.hid hd
  have hdl : ds.length ≤ 20 := by have := hd.1; omega
  clear hal h hd
  go_enter Tryd.func56, Tryd.ntmps56
  go_wp2
  go_loopw [5, 6] (fun s i wr => ∃ (j : Nat) (ns : List Int) (A1 : Option Addr) (c1 : Nat) (q : Int), j ≤ ds.length ∧ i = .int .i64 j ∧ s = .slice A1 ns.length c1 ∧ ns.length = j ∧ Hid (∀ x ∈ ns, okInt x) ∧
    OwnI wr w.heap.size (.slice A1 ns.length c1) ns ∧ p ≤ q ∧ q ≤ p + j ∧ Rdr wr r q ∧ Gr (IsR r) w wr ∧ w.heap.size ≤ wr.heap.size) (fun _ i _ => ds.length - (intOf i).toNat)
  case atStart => exact ⟨0, [], _, _, p, Nat.zero_le _, rfl, rfl, rfl, Lib.hid (by simp), hol, by omega, by omega, hR0, hg0, hsz⟩
  case round =>
    obtain ⟨j, ns, A1, c1, q, hj, rfl, rfl, hnl, HNS, hown, q0, q1, hR, hg, hsr⟩ := hrel
    have HNL := Lib.hid hnl
    have hnl20 : ns.length ≤ 20 := by omega
    clear hnl
    by_cases hlt : j < ds.length
    · obtain ⟨ad, rfl, hf, _, c2⟩ := (hx.gr hg).at_decl hlt
      have hj1 : (j : Int) < ds.length := by omega
      obtain ⟨hw0, hw5⟩ := (HD.out.2 _ (List.getElem_mem hlt)).2
      obtain ⟨a, ha⟩ : ∃ a, a = ds[j].wide := ⟨_, rfl⟩
      rw [← ha] at c2 hw0 hw5
      clear ha hol
      obtain ⟨b, hb⟩ : ∃ b : Int, b = if a < 4 then a else 4 := ⟨_, rfl⟩
      have HB := Lib.hid (fun z => l1Min_any a 4 z)
      rw [← hb] at HB
      obtain ⟨d, hd⟩ : ∃ d : Int, d = if b < 0 then 0 else b := ⟨_, rfl⟩
      have HDD := Lib.hid (fun z => l1Max_any 0 b z)
      rw [← hd] at HDD
      have hdb : 0 ≤ d ∧ d ≤ 16 := by rw [hd, hb]; repeat (first | split | omega)
      obtain ⟨d0, d1⟩ := hdb
      clear hb hd
      obtain ⟨T, T0, T1, hT⟩ := l1Two_t d d0 d1
      have HT := Lib.hid hT
      clear hT
      go_wp2_with fail
      refine (HB.out _).mono ?_
      rintro e w9 ⟨rfl, rfl⟩
      go_wp2_with fail
      refine (HDD.out _).mono ?_
      rintro e w9 ⟨rfl, rfl⟩
      go_wp2_with fail
      refine (HT.out _).mono ?_
      rintro e w9 ⟨rfl, rfl⟩
      go_wp2_with fail
      refine (pick_any r q T wr hR (by omega) (by omega) (by omega) (by omega)).mono ?_
      rintro e w2 ⟨y, rfl, y0, y1, _, hR2, hg2⟩
      have y1 := y1 (by omega)
      have hg2 := Gr.one (S := IsR r) hg2 rfl
      have hown2 := hown.gr hg2 (fun b e => by rw [e]; exact hrl)
      have hgg2 := hg.trans hg2
      have hsr2 := Nat.le_trans hsr hg2.size
      clear hR hg hown hg2 c2
      obtain ⟨ps, hps⟩ : ∃ ps, ps = ns ++ [y] := ⟨_, rfl⟩
      have HPS := Lib.hid hps
      have HPL := Lib.hid (show ps.length = ns.length + 1 by rw [hps]; simp)
      have HPN : Hid (∀ x ∈ ps, okInt x) := Lib.hid fun x hx => by
        rw [hps] at hx
        rcases List.mem_append.1 hx with hx | hx
        · exact HNS.out x hx
        · rw [List.mem_singleton.1 hx]; unfold okInt; omega
      clear hps
      go_wp2_with (at_builtin; refine wpList_append_int8 (ys := ps) (by rfl) (.tmp 14) (.tmp 25) (by rfl) (by rfl) (by rfl) hown2 (by omega) hsr2 HPS.out ?_; intro A3 c3 w3 hown3 hg3 hbk3)
      have hR3 := hR2.own hg3 (fun g e => by have := (hown2.lt g e).1; omega)
      have hgg3 := hgg2.own hg3 (fun g e => (hown2.lt g e).1)
      have hsr3 := Nat.le_trans hsr2 hg3.size
      clear hbk3 hg3 hown2 hgg2 hR2
      go_roundw
      case rel => exact ⟨j + 1, ps, A3, c3, q + 1, by omega, by go_num, rfl, by rw [HPL.out, HNL.out], HPN, hown3, by omega, by omega, hR3, hgg3, hsr3⟩
      case measure => simp [intOf]; omega
    · have hje : j = ds.length := by omega
      subst hje
      clear hol
      go_wp2_with fail
      refine (pick_any r q 24 wr hR (by omega) (by omega) (by omega) (by omega)).mono ?_
      rintro e w2 ⟨z, rfl, z0, _, _, hR2, hg2⟩
      have hg2 := Gr.one (S := IsR r) hg2 rfl
      have hown2 := hown.gr hg2 (fun b e => by rw [e]; exact hrl)
      have hgg2 := hg.trans hg2
      have hsr2 := Nat.le_trans hsr hg2.size
      clear hR hg hown hg2
      by_cases z0 : z = 0
      · subst z0
        obtain ⟨ps, hps⟩ : ∃ ps, ps = ns ++ [(0 : Int)] := ⟨_, rfl⟩
        have HPS := Lib.hid hps
        have HPL := Lib.hid (show ps.length = ns.length + 1 by rw [hps]; simp)
        have HPN : Hid (∀ x ∈ ps, okInt x) := Lib.hid fun x hx => by
          rw [hps] at hx
          rcases List.mem_append.1 hx with hx | hx
          · exact HNS.out x hx
          · rw [List.mem_singleton.1 hx]; unfold okInt; omega
        clear hps
        go_wp2_with (at_builtin; refine wpList_append_int8 (ys := ps) (by rfl) (.tmp 31) (.tmp 32) (by rfl) (by rfl) (by rfl) hown2 (by omega) hsr2 HPS.out ?_; intro A3 c3 w3 hown3 hg3 hbk3)
        have hR3 := hR2.own hg3 (fun g e => by have := (hown2.lt g e).1; omega)
        have hgg3 := hgg2.own hg3 (fun g e => (hown2.lt g e).1)
        go_ret
        exact ⟨A3, c3, ps, rfl, hown3, ⟨by rw [HPL.out]; omega, HPN.out⟩, q + 1, by omega, by omega, hR3, hgg3⟩
      have b0 : (z == 0) = false := by simpa using z0
      clear z0
      by_cases z1 : z = 1
      · subst z1
        by_cases hpos : 0 < ns.length
        · have hpos2 : (0 : Int) < ns.length := by omega
          have hal : Below w2.heap.size w2 (w2.alloc (.cells #[.int .i64 (-1), .int .i64 16, .int .i64 9223372036854775807] 3)) := (Below.refl _ _).alloc (Nat.le_refl _) _
          have hsl := lit_sl (S := IsR r) w2 [-1, 16, 9223372036854775807] _ 3 rfl (by show ¬ _ = r; have := hR2.lt; omega)
          have HN := Lib.hid (num_any r (q + 1) _ 3 _ _ (hR2.up hal) hsl (by simp) (by simp) (by omega) (by omega))
          have hown4 := hown2.up hal
          have hgg4 := hgg2.up hal
          obtain ⟨g, rfl⟩ : ∃ g, A1 = some ⟨g, 0, none⟩ := by
            rcases hown4.2 with ⟨_, e⟩ | ⟨g, cap, cur, e, _⟩
            · exact absurd e (by omega)
            · injection e with e; exact ⟨g, e⟩
          clear hal hsl hR2 hown2 hgg2
          go_wp2_with fail
          refine HN.out.mono ?_
          clear HN
          rintro e w5 ⟨y, hy, rfl, hR5, hg5⟩
          have HY : Hid (okInt y) := Lib.hid (by simp at hy; unfold okInt; omega)
          have hown5 := hown4.gr hg5 (fun b e => by rw [e]; exact hrl)
          have hgg5 := hgg4.trans hg5
          have hgl := (hown5.lt g rfl).1
          obtain ⟨ad9, e9, _, c9⟩ := hown5.rd.at_int hpos
          injection e9 with e9
          subst e9
          have f9 : w5.frozen? ⟨g, 0, none⟩ = false := hown5.frozenAt 0
          have c9 : w5.cell? ⟨g, 0, none⟩ = some (.int .i64 ns[0]) := c9
          have HO := Lib.hid (own_set9 (k := 0) hown5 y)
          have HR := Lib.hid (hR5.set (g := g) (o := 0) (u := .int .i64 y) (by omega))
          have HGG := Lib.hid (hgg5.set g 0 (.int .i64 y) (.inr hgl))
          clear hy hown4 hgg4 hg5 hown5 hgg5 hR5
          go_wp2
          go_ret
          have hl9 : (ns.set 0 y).length = ns.length := List.length_set
          have e9 : Ending.returned (.slice (some ⟨g, 0, none⟩) ns.length c1) = .returned (.slice (some ⟨g, 0, none⟩) (ns.set 0 y).length c1) := by rw [hl9]
          have HO : OwnI (w5.setCell ⟨g, 0, none⟩ (.int .i64 y)) w.heap.size (.slice (some ⟨g, 0, none⟩) (ns.set 0 y).length c1) (ns.set 0 y) := by rw [hl9]; exact HO.out
          refine ⟨some ⟨g, 0, none⟩, c1, _, e9, HO, ⟨by omega, fun x hx => ?_⟩, q + 1 + 1, by omega, by omega, HR.out, HGG.out⟩
          rcases List.mem_or_eq_of_mem_set hx with hx | hx
          · exact HNS.out x hx
          · rw [hx]; exact HY.out
        · have hpos2 : ¬ (0 : Int) < ns.length := by omega
          go_wp2
          go_ret
          exact ⟨A1, c1, ns, rfl, hown2, ⟨by omega, HNS.out⟩, q + 1, by omega, by omega, hR2, hgg2⟩
      have b1 : (z == 1) = false := by simpa using z1
      clear z1
      go_wp2
      go_ret
      exact ⟨A1, c1, ns, rfl, hown2, ⟨by omega, HNS.out⟩, q + 1, by omega, by omega, hR2, hgg2⟩
theorem OwnDs.none0 {w : World} {lo n c : Nat} {xs : List D} (h : OwnDs w lo (.slice none n c) xs) : xs.length = 0 := by
  rcases h.2 with ⟨_, h2⟩ | ⟨g, cap, cur, h1, _⟩
  · exact h2
  · cases h1
/-- Drawn declarations and numbers. -/
def DrawDE (w : World) (e : Ending) (w' : World) : Prop := ∃ (A : Option Addr) (c : Nat) (ds : List D) (B : Option Addr) (d : Nat) (env : List Int), e = .returned (.tuple #[.slice A ds.length c, .slice B env.length d]) ∧
  Lay.decl.Rd w' A ds ∧ Lay.int.Rd w' B env ∧ okDr 6 ds ∧ okEv env ∧ ds.length ≤ c ∧ env.length ≤ d ∧ Below w.heap.size w w'
set_option maxHeartbeats 2000000 in
theorem drawEnvOk_any (A : Option Addr) (c : Nat) (bs : List UInt8) (w : World) (h : Lay.byte.Rd w A bs) (hc : bs.length ≤ c) (hn : bs.length ≤ 9223372036854775807) :
    Calls Tryd.prog 40 #[.slice A bs.length c] w (DrawDE w) := by
  have HO := Lib.hid (open_any A c bs w h hc hn)
  clear h
  go_enter Tryd.func40, Tryd.ntmps40
  go_wp2_with fail
  refine HO.out.mono ?_
  clear HO
  rintro e w1 ⟨r, rfl, hr, hR1, hb1⟩
  have hrl := hR1.lt
  go_wp2_with fail
  refine (l2Decls_any r 0 w1 hR1 (by omega) (by omega)).mono ?_
  rintro e w2 ⟨A2, c2, ds, rfl, hown2, hok2, q2, q20, q21, hR2, hg2⟩
  have hz2 := hg2.size
  go_wp2_with fail
  refine (l2Spoil_any r 4 q2 A2 c2 ds w2 hR2 hown2.rd (fun e => by rw [e] at hown2; exact hown2.none0) hok2 (by omega) (by omega) (by omega)).mono ?_
  rintro e w3 ⟨A3, c3, es, rfl, hown3, hok3, q3, q30, q31, hR3, hg3⟩
  have hz3 := hg3.size
  have hg13 := hg2.trans hg3
  clear hown2 hok2 hg2 hg3 hR1 hR2
  go_wp2_with fail
  refine (l2Env_any r 6 q3 A3 c3 es w3 hR3 (hown3.ab (fun b e => by rw [show b = r from e]; omega)) hok3 (by omega) (by omega) (by omega)).mono ?_
  rintro e w4 ⟨B4, d4, env, rfl, hown4, hok4, q4, q40, q41, hR4, hg4⟩
  have hown5 := hown3.gr hg4 (fun b e => by rw [show b = r from e]; omega)
  have hb := (Below.refl w.heap.size w).trans (hb1.trans ((hg13.trans hg4).to_below' hb1.size (fun b e => by rw [show b = r from e]; omega)))
  clear hown3 hg4 hg13 hR3 hb1
  go_wp2
  go_ret2
  exact ⟨A3, c3, es, B4, d4, env, rfl, hown5.rd, hown4.rd, hok3, hok4, (OwnDs.cap hown5).2, hown4.cap, hb⟩
set_option maxHeartbeats 1000000 in
theorem drawBlastIns_any (A : Option Addr) (c : Nat) (bs : List UInt8) (w : World) (h : Lay.byte.Rd w A bs) (hc : bs.length ≤ c) (hn : bs.length ≤ 9223372036854775807) :
    Calls Tryd.prog 22 #[.slice A bs.length c] w (DrawDE w) := by
  have HO := Lib.hid (drawEnvOk_any A c bs w h hc hn)
  clear h
  go_enter Tryd.func22, Tryd.ntmps22
  go_wp2_with fail
  refine HO.out.mono ?_
  clear HO
  rintro e w1 ⟨A3, c3, es, B4, d4, env, rfl, h1, h2, h3, h4, h5, h6, h7⟩
  have H := Lib.hid (And.intro h1 (And.intro h2 (And.intro h3 (And.intro h4 (And.intro h5 (And.intro h6 h7))))))
  clear h1 h2 h3 h4 h5 h6 h7
  go_wp2
  go_ret2
  exact ⟨A3, c3, es, B4, d4, env, rfl, H.out⟩
/-- Drawn truth values, of the call's own. -/
def RetVB (n : Nat) (w : World) (e : Ending) (w' : World) : Prop := ∃ A c bs, e = .returned (.slice A bs.length c) ∧ bs.length = n ∧ OwnB w' w.heap.size (.slice A bs.length c) bs ∧ Below w.heap.size w w'
set_option maxHeartbeats 2000000 in
theorem l4Vals_any (n m : Nat) (w : World) (hn : n ≤ 1000) (hm : m ≤ 1000000) :
    Calls Tryd.prog 47 #[.int .i64 (n : Int), .int .i64 (m : Int)] w (RetVB n w) := by
  obtain ⟨i0, hi0, hz0, hz1, hz2⟩ := info_parts bool_info
  go_enter Tryd.func47, Tryd.ntmps47
  go_wp2_with (at_make; refine wpList_make_full w rfl _ _ 23 rfl w.heap.size 4 i0 _ 1 Tryd.underlying23 hi0 hz0 hz1 .i64 .i64 _ _ n rfl rfl rfl rfl (by rw [hz2]; omega) (by unfold maxLen; omega) (Nat.le_refl _) ?_; intro w1 hown hg)
  have H1 := Lib.hid hg
  clear hg hi0 hz0 hz1 hz2
  have hb1 : Below w.heap.size w w1 := (Below.refl _ _).grown H1.out (Nat.le_refl _) (by simp)
  have HO : Hid (OwnB w1 w.heap.size (.slice (some ⟨w.heap.size, 0, none⟩) (List.replicate n false).length n) (List.replicate n false)) := Lib.hid (by
    unfold OwnB
    rw [show (madeCells (Value.bool false).cells (n * 1)).toList = (List.replicate n false).map Value.bool from by
      rw [show (Value.bool false).cells = #[Value.bool false] from rfl, toList_madeCells_one]; simp] at hown
    simpa using hown)
  clear hown
  go_loopw [1, 6] (fun m9 i wr => ∃ (j q : Nat) (bs : List Bool), j ≤ n ∧ i = .int .i64 ((j : Int) - 1) ∧ m9 = .int .i64 (q : Int) ∧ q ≤ 1000000 ∧ Hid (bs.length = n) ∧ Hid (OwnB wr w.heap.size (.slice (some ⟨w.heap.size, 0, none⟩) bs.length n) bs) ∧ Below w.heap.size w wr) (fun _ i _ => (intOf i + 1).toNat)
  case atStart => exact ⟨n, m, _, Nat.le_refl _, rfl, rfl, hm, Lib.hid List.length_replicate, HO, hb1⟩
  case round =>
    obtain ⟨j, q, bs, hj, rfl, rfl, hq, HBL, HO, hb⟩ := hrel
    rcases j with _ | j
    · go_wp2
      go_ret
      have e9 : Ending.returned (.slice (some ⟨w.heap.size, 0, none⟩) n n) = .returned (.slice (some ⟨w.heap.size, 0, none⟩) bs.length n) := by rw [HBL.out]
      exact ⟨_, n, bs, e9, HBL.out, HO.out, hb⟩
    · have e1 : (((j + 1 : Nat) : Int) - 1) = (j : Int) := by omega
      rw [e1]
      have hjn : (j : Int) < n := by omega
      obtain ⟨c9, f9⟩ := HO.out.cell (k := j) (by rw [HBL.out]; omega)
      have HO2 := Lib.hid (HO.out.set (k := j) ((q : Int) % 2 == 1))
      clear e1
      go_wp2
      go_roundw
      case rel => exact ⟨j, q / 2, bs.set j ((q : Int) % 2 == 1), by omega, by go_num, by go_num, by omega, Lib.hid (by rw [List.length_set]; exact HBL.out), Lib.hid (by rw [List.length_set]; exact HO2.out), hb.setCell (Nat.le_refl _) _⟩
      case measure => simp [intOf]
/-- Drawn declarations and truth values. -/
def DrawDB (w : World) (e : Ending) (w' : World) : Prop := ∃ (A : Option Addr) (c : Nat) (ds : List D) (B : Option Addr) (d : Nat) (bs : List Bool), e = .returned (.tuple #[.slice A ds.length c, .slice B bs.length d]) ∧
  Lay.decl.Rd w' A ds ∧ Lay.bool.Rd w' B bs ∧ okDr 6 ds ∧ bs.length ≤ 12 ∧ ds.length ≤ c ∧ bs.length ≤ d ∧ Below w.heap.size w w'
set_option maxHeartbeats 2000000 in
theorem drawBlastEnv_any (A : Option Addr) (c : Nat) (bs : List UInt8) (w : World) (h : Lay.byte.Rd w A bs) (hc : bs.length ≤ c) (hn : bs.length ≤ 9223372036854775807) :
    Calls Tryd.prog 23 #[.slice A bs.length c] w (DrawDB w) := by
  have HO := Lib.hid (open_any A c bs w h hc hn)
  clear h
  go_enter Tryd.func23, Tryd.ntmps23
  go_wp2_with fail
  refine HO.out.mono ?_
  clear HO
  rintro e w1 ⟨r, rfl, hr, hR1, hb1⟩
  have hrl := hR1.lt
  go_wp2_with fail
  refine (l2Decls_any r 0 w1 hR1 (by omega) (by omega)).mono ?_
  rintro e w2 ⟨A2, c2, ds, rfl, hown2, hok2, q2, q20, q21, hR2, hg2⟩
  have hz2 := hg2.size
  go_wp2_with fail
  refine (l2Spoil_any r 4 q2 A2 c2 ds w2 hR2 hown2.rd (fun e => by rw [e] at hown2; exact hown2.none0) hok2 (by omega) (by omega) (by omega)).mono ?_
  rintro e w3 ⟨A3, c3, es, rfl, hown3, hok3, q3, q30, q31, hR3, hg3⟩
  have hz3 := hg3.size
  have hg13 := hg2.trans hg3
  have hrw2 : r < w2.heap.size := by omega
  clear hown2 hok2 hg2 hg3 hR1 hR2
  have HL8 := Lib.hid (l8Bits_any A3 c3 es _ w3 hown3.rd (by have := hok3.1; omega) (fun x hx => by have := (hok3.2 x hx).2; omega))
  obtain ⟨S, hS⟩ : ∃ S, S = dsum es := ⟨_, rfl⟩
  rw [← hS] at HL8
  clear hS
  obtain ⟨b, hb⟩ : ∃ b : Int, b = if 12 < S then 12 else S := ⟨_, rfl⟩
  have HB := Lib.hid (fun z => l1Min_any 12 S z)
  rw [← hb] at HB
  obtain ⟨d, hd⟩ : ∃ d : Int, d = if b < 0 then 0 else b := ⟨_, rfl⟩
  have HDD := Lib.hid (fun z => l1Max_any 0 b z)
  rw [← hd] at HDD
  have hdb : 0 ≤ d ∧ d ≤ 12 := by rw [hd, hb]; repeat (first | split | omega)
  obtain ⟨d0, d1⟩ := hdb
  clear hb hd
  obtain ⟨dn, rfl⟩ := Int.eq_ofNat_of_zero_le d0
  go_wp2_with fail
  refine HL8.out.mono ?_
  rintro e w9 ⟨rfl, rfl⟩
  go_wp2_with fail
  refine (HB.out _).mono ?_
  rintro e w9 ⟨rfl, rfl⟩
  go_wp2_with fail
  refine (HDD.out _).mono ?_
  rintro e w9 ⟨rfl, rfl⟩
  go_wp2_with fail
  refine (pick_any r q3 16 w3 hR3 (by omega) (by omega) (by omega) (by omega)).mono ?_
  rintro e w4 ⟨z, rfl, z0, _, _, hR4, hg4⟩
  have hg4 := Gr.one (S := IsR r) hg4 rfl
  have hown4 := hown3.gr hg4 (fun b e => by rw [show b = r from e]; omega)
  have hg14 := hg13.trans hg4
  have hz4 := hg4.size
  clear hR3 hg4 hown3 hg13
  have fin : ∀ (n : Nat) (q4 : Int) (w5 : World), n ≤ 12 → q3 ≤ q4 → q4 ≤ q3 + 5 → Rdr w5 r q4 → Gr (IsR r) w4 w5 → True := fun _ _ _ _ _ _ _ _ => trivial
  clear fin
  by_cases hz0 : z = 0
  · subst hz0
    go_wp2_with fail
    refine (pick_any r (q3 + 1) 10 w4 hR4 (by omega) (by omega) (by omega) (by omega)).mono ?_
    rintro e w5 ⟨y, rfl, y0, y1, _, hR5, hg5⟩
    have y1 := y1 (by omega)
    have hg5 := Gr.one (S := IsR r) hg5 rfl
    have hown5 := hown4.gr hg5 (fun b e => by rw [show b = r from e]; omega)
    have hg15 := hg14.trans hg5
    have hz5 := hg5.size
    obtain ⟨yn, rfl⟩ := Int.eq_ofNat_of_zero_le y0
    clear hR4 hg5 hown4 hg14
    go_wp2_with fail
    refine (pick_any r (q3 + 1 + 1) 256 w5 hR5 (by omega) (by omega) (by omega) (by omega)).mono ?_
    rintro e w6 ⟨x, rfl, x0, x1, _, hR6, hg6⟩
    have x1 := x1 (by omega)
    have hg6 := Gr.one (S := IsR r) hg6 rfl
    have hown6 := hown5.gr hg6 (fun b e => by rw [show b = r from e]; omega)
    have hg16 := hg15.trans hg6
    obtain ⟨xn, rfl⟩ := Int.eq_ofNat_of_zero_le x0
    clear hR5 hg6 hown5 hg15
    go_wp2_with fail
    refine (l4Vals_any yn xn w6 (by omega) (by omega)).mono ?_
    rintro e w7 ⟨B7, d7, vs, rfl, hvl, hown7, hb7⟩
    have hown8 := hown6.up hb7
    have hbb := hb1.trans (((hg16.to_below' hb1.size (fun b e => by rw [show b = r from e]; omega))).trans (hb7.mono (Nat.le_trans hb1.size hg16.size)))
    have HVL := Lib.hid (show vs.length ≤ 12 by omega)
    clear hvl
    go_wp2
    go_ret2
    exact ⟨A3, c3, es, B7, d7, vs, rfl, hown8.rd, hown7.rd, hok3, HVL.out, (OwnDs.cap hown8).2, (OwnB.cap hown7).2, hbb⟩
  · have hzb : (z == 0) = false := by simpa using hz0
    clear hz0
    go_wp2_with fail
    refine (pick_any r (q3 + 1) 256 w4 hR4 (by omega) (by omega) (by omega) (by omega)).mono ?_
    rintro e w6 ⟨x, rfl, x0, x1, _, hR6, hg6⟩
    have x1 := x1 (by omega)
    have hg6 := Gr.one (S := IsR r) hg6 rfl
    have hown6 := hown4.gr hg6 (fun b e => by rw [show b = r from e]; omega)
    have hg16 := hg14.trans hg6
    obtain ⟨xn, rfl⟩ := Int.eq_ofNat_of_zero_le x0
    clear hR4 hg6 hown4 hg14
    go_wp2_with fail
    refine (l4Vals_any dn xn w6 (by omega) (by omega)).mono ?_
    rintro e w7 ⟨B7, d7, vs, rfl, hvl, hown7, hb7⟩
    have hown8 := hown6.up hb7
    have hbb := hb1.trans (((hg16.to_below' hb1.size (fun b e => by rw [show b = r from e]; omega))).trans (hb7.mono (Nat.le_trans hb1.size hg16.size)))
    have HVL := Lib.hid (show vs.length ≤ 12 by omega)
    clear hvl
    go_wp2
    go_ret2
    exact ⟨A3, c3, es, B7, d7, vs, rfl, hown8.rd, hown7.rd, hok3, HVL.out, (OwnDs.cap hown8).2, (OwnB.cap hown7).2, hbb⟩
end Go.Proofs.YthcmflhhpgmfaaaDoor

/-! The laws' comparisons of rows: wpBools, wpInts. -/
namespace Go.Proofs.YthcmflhhpgmfaaaDoor
open Go Go.RowKit

set_option maxHeartbeats 400000 in
theorem wpBools_any (A B : Option Addr) (c d : Nat) (xs ys : List Bool) (F G : Nat → Prop) (w : World) (h : Lay.bool.Sl w F A xs) (h' : Lay.bool.Sl w G B ys) (hn : xs.length ≤ 1048576) (hn' : ys.length ≤ 1048576) :
    Calls Tryd.prog 24 #[.slice A xs.length c, .slice B ys.length d] w fun e w' => e = .returned (.bool (decide (xs = ys))) ∧ ∃ n, w' = w.drewN n := by
  by_cases hl : xs.length = ys.length
  · have hne : (((xs.length : Int) != (ys.length : Int))) = false := by simp [hl]
    have HL := Lib.hid hl
    clear hl
    go_enter Tryd.func24, Tryd.ntmps24
    go_wp2
    clear hne
    go_loopw [5] (fun i wr => ∃ k m : Nat, k ≤ xs.length ∧ i = .int .i64 k ∧ wr = w.drewN m ∧ xs.take k = ys.take k) (fun i _ => xs.length - (intOf i).toNat)
    case atStart => exact ⟨0, 0, Nat.zero_le _, rfl, rfl, rfl⟩
    case round =>
      obtain ⟨k, m, hk, rfl, rfl, ht⟩ := hrel
      have HT := Lib.hid ht
      clear ht
      by_cases hlt : k < xs.length
      · have hlt' : k < ys.length := by have := HL.out; omega
        obtain ⟨ad, rfl, hf, hc⟩ := h.at_bool hlt
        obtain ⟨ad', rfl, hf', hc'⟩ := h'.at_bool hlt'
        have hk0 : (0 : Int) ≤ k := by omega
        have hk1 : (k : Int) < xs.length := by omega
        have hk2 : (k : Int) < ys.length := by omega
        clear h h' hf hf'
        by_cases hxy : xs[k] = ys[k]
        · have hb : (!(xs[k] == ys[k])) = false := by simp [hxy]
          have HX := Lib.hid hxy
          clear hxy
          go_wp2
          go_quiet (fail)
          go_wp2
          go_roundw
          case rel => exact ⟨k + 1, _, by omega, by go_num, rfl, take_eq_step hlt hlt' HT.out HX.out⟩
          case measure => simp [intOf]; omega
        · have hb : (!(xs[k] == ys[k])) = true := by simp [hxy]
          go_wp2
          go_quiet (fail)
          go_wp2
          go_ret
          exact ⟨ret_bool (by simp; rintro rfl; exact hxy rfl), m + nq, by rw [World.drewN_drewN]⟩
      · have : k = xs.length := by omega
        subst this
        go_wp2
        go_ret
        exact ⟨ret_bool (by have := HL.out; have := HT.out; simp [eq_of_take HL.out HT.out]), _, rfl⟩
  · have hne : (((xs.length : Int) != (ys.length : Int))) = true := by simp; omega
    go_enter Tryd.func24, Tryd.ntmps24
    go_wp2
    go_ret
    exact ⟨ret_bool (by simp; rintro rfl; exact hl rfl), 0, rfl⟩

set_option maxHeartbeats 400000 in
theorem wpInts_any (A B : Option Addr) (c d : Nat) (xs ys : List Int) (F G : Nat → Prop) (w : World) (h : Lay.int.Sl w F A xs) (h' : Lay.int.Sl w G B ys) (hn : xs.length ≤ 1048576) (hn' : ys.length ≤ 1048576) :
    Calls Tryd.prog 25 #[.slice A xs.length c, .slice B ys.length d] w fun e w' => e = .returned (.bool (decide (xs = ys))) ∧ ∃ n, w' = w.drewN n := by
  by_cases hl : xs.length = ys.length
  · have hne : (((xs.length : Int) != (ys.length : Int))) = false := by simp [hl]
    have HL := Lib.hid hl
    clear hl
    go_enter Tryd.func25, Tryd.ntmps25
    go_wp2
    clear hne
    go_loopw [5] (fun i wr => ∃ k m : Nat, k ≤ xs.length ∧ i = .int .i64 k ∧ wr = w.drewN m ∧ xs.take k = ys.take k) (fun i _ => xs.length - (intOf i).toNat)
    case atStart => exact ⟨0, 0, Nat.zero_le _, rfl, rfl, rfl⟩
    case round =>
      obtain ⟨k, m, hk, rfl, rfl, ht⟩ := hrel
      have HT := Lib.hid ht
      clear ht
      by_cases hlt : k < xs.length
      · have hlt' : k < ys.length := by have := HL.out; omega
        obtain ⟨ad, rfl, hf, hc⟩ := h.at_int hlt
        obtain ⟨ad', rfl, hf', hc'⟩ := h'.at_int hlt'
        have hk0 : (0 : Int) ≤ k := by omega
        have hk1 : (k : Int) < xs.length := by omega
        have hk2 : (k : Int) < ys.length := by omega
        clear h h' hf hf'
        by_cases hxy : xs[k] = ys[k]
        · have hb : (xs[k] != ys[k]) = false := by simp [hxy]
          have HX := Lib.hid hxy
          clear hxy
          go_wp2
          go_quiet (fail)
          go_wp2
          go_roundw
          case rel => exact ⟨k + 1, _, by omega, by go_num, rfl, take_eq_step hlt hlt' HT.out HX.out⟩
          case measure => simp [intOf]; omega
        · have hb : (xs[k] != ys[k]) = true := by simp [hxy]
          go_wp2
          go_quiet (fail)
          go_wp2
          go_ret
          exact ⟨ret_bool (by simp; rintro rfl; exact hxy rfl), m + nq, by rw [World.drewN_drewN]⟩
      · have : k = xs.length := by omega
        subst this
        go_wp2
        go_ret
        exact ⟨ret_bool (by have := HL.out; have := HT.out; simp [eq_of_take HL.out HT.out]), _, rfl⟩
  · have hne : (((xs.length : Int) != (ys.length : Int))) = true := by simp; omega
    go_enter Tryd.func25, Tryd.ntmps25
    go_wp2
    go_ret
    exact ⟨ret_bool (by simp; rintro rfl; exact hl rfl), 0, rfl⟩

end Go.Proofs.YthcmflhhpgmfaaaDoor

/-! What the rows list of the library's variables: tables that the proofs do not read. -/
namespace Go.Proofs.YthcmflhhpgmfaaaDoor
open Go

theorem dr_own : ownKnob Tryd.prog.godebug = none := by kernel_rfl
abbrev laidU : List (String × DataW Unit) := [("unicode/utf8.acceptRanges", Rows.laid_unicode_utf8_acceptRanges), ("unicode/utf8.first", Rows.laid_unicode_utf8_first)]
end Go.Proofs.YthcmflhhpgmfaaaDoor

/-! FnBlastIns: inputs and environments correspond: for any bytes the law says true. -/
namespace Go.Proofs.YthcmflhhpgmfaaaDoor
open Go Go.RowKit Go.ChangeShapes Go.WideShapes Go.ChangeAt Go.Deep

theorem opens_bytes : Opens Tryd.prog 40 Lay.byte.slice (fun xs => xs.length ≤ maxLen ∧ ∀ x ∈ xs, True) := Opens.slice Tryd.underlying40 (by kernel_rfl) (by decide) (Opens.byte Tryd.underlying5)
theorem okDr.names {m : Nat} {ds : List D} (h : okDr m ds) : okNames ds := fun d hd => by have := (h.2 d hd).1; omega
/-- The reference's rows, read. -/
def RdB (xs : List Bool) (w : World) (e : Ending) (w' : World) : Prop := ∃ A c, e = .returned (.slice A xs.length c) ∧ Lay.bool.Rd w' A xs ∧ Below w.heap.size w w' ∧ xs.length ≤ c
def RdI (xs : List Int) (w : World) (e : Ending) (w' : World) : Prop := ∃ A c, e = .returned (.slice A xs.length c) ∧ Lay.int.Rd w' A xs ∧ Below w.heap.size w w' ∧ xs.length ≤ c
theorem rdB_of {xs : List Bool} {w : World} {e : Ending} {w' : World} (h : RetO Lay.bool w xs e w') : RdB xs w e w' := by
  obtain ⟨A, c, h1, h2, h3, h4⟩ := h
  exact ⟨A, c, h1, h3.mono fun _ h => h.2.1, h4, h2⟩
theorem rdI_of {xs : List Int} {w : World} {e : Ending} {w' : World} (h : RetO Lay.int w xs e w') : RdI xs w e w' := by
  obtain ⟨A, c, h1, h2, h3, h4⟩ := h
  exact ⟨A, c, h1, h3.mono fun _ h => h.2.1, h4, h2⟩
theorem wpB_yes (A B : Option Addr) (c d n : Nat) (xs : List Bool) (w : World) (h : Lay.bool.Rd w A xs) (h' : Lay.bool.Rd w B xs) (hn : xs.length ≤ 1048576) :
    Calls Tryd.prog 24 #[.slice A xs.length c, .slice B xs.length d] w (RetB w true) :=
  (wpBools_any A B c d xs xs _ _ w h h' hn hn).mono fun _ _ ⟨h, m, hm⟩ => ⟨by rw [h]; simp, by rw [hm]; exact below_drewN (Below.refl _ _) m⟩
theorem wpI_yes (A B : Option Addr) (c d : Nat) (xs : List Int) (w : World) (h : Lay.int.Rd w A xs) (h' : Lay.int.Rd w B xs) (hn : xs.length ≤ 1048576) :
    Calls Tryd.prog 25 #[.slice A xs.length c, .slice B xs.length d] w (RetB w true) :=
  (wpInts_any A B c d xs xs _ _ w h h' hn hn).mono fun _ _ ⟨h, m, hm⟩ => ⟨by rw [h]; simp, by rw [hm]; exact below_drewN (Below.refl _ _) m⟩

set_option maxRecDepth 100000 in
set_option maxHeartbeats 8000000 in
theorem fnBlastIns_walk (W : World) {A0 : Option Addr} {c0 : Nat} {x0 : List UInt8} {A1 : Option Addr} {c1 : Nat} {x1 : List UInt8} (hc0 : x0.length ≤ c0) (hok0 : x0.length ≤ maxLen ∧ ∀ z ∈ x0, True) (h0 : Lay.byte.Rd W A0 x0) (hc1 : x1.length ≤ c1) (hok1 : x1.length ≤ maxLen ∧ ∀ z ∈ x1, True) (h1 : Lay.byte.Rd W A1 x1) :
    Calls Tryd.prog 5 #[.slice A0 x0.length c0, .slice A1 x1.length c1] W (LawC W) := by
  have hm0 : x0.length ≤ 9223372036854775807 := by have := hok0.1; unfold maxLen at this; omega
  clear hok0
  have hm1 : x1.length ≤ 9223372036854775807 := by have := hok1.1; unfold maxLen at this; omega
  clear hok1
  by_cases hbig0 : (1048576 : Int) < x0.length
  · go_enter Tryd.func5, Tryd.ntmps5
    go_wp2
    go_ret
    exact ⟨rfl, Below.refl _ _⟩
  by_cases hbig1 : (1048576 : Int) < x1.length
  · go_enter Tryd.func5, Tryd.ntmps5
    go_wp2
    go_ret
    exact ⟨rfl, Below.refl _ _⟩
  have hb : Below W.heap.size W W := Below.refl _ _
  go_enter Tryd.func5, Tryd.ntmps5
  go_wp2_with fail
  refine (drawBlastIns_any A0 c0 x0 _ h0 hc0 hm0).mono ?_
  rintro e u0 ⟨A2, c2, ds, A3, c3, env, rfl, r2, r3, hds, henv, hc2, hc3, hb9⟩
  have hnd := hds.names
  have hdl : ds.length ≤ 6 := hds.1
  have hel : env.length ≤ 30 := henv.1
  have HEV := Lib.hid henv
  have HND := Lib.hid hnd
  clear hds henv hnd h0
  have h1 := h1.up hb9
  have hb := bthen hb hb9
  clear hb9
  go_wp2_with fail
  have HBL := Lib.hid (blastIns_len ds env)
  obtain ⟨ins, hins⟩ : ∃ ins, ins = blastIns ds env := ⟨_, rfl⟩
  have HINS := Lib.hid hins
  rw [← hins] at HBL
  have hinl := HBL.out
  have HC := Lib.hid (implBlastIns_any A2 A3 c2 c3 ds env _ r2 r3 (by omega) (by omega) HND.out hc2)
  rw [← hins] at HC
  refine HC.out.mono ?_
  clear HC
  intro e u hO
  obtain ⟨A4, c4, rfl, r4, hb9, hc4⟩ := rdB_of hO
  clear hO
  have h1 := h1.up hb9
  have r2 := r2.up hb9
  have r3 := r3.up hb9
  have hb := bthen hb hb9
  clear hb9
  clear hins
  go_wp2_with fail
  refine (drawBlastEnv_any A1 c1 x1 _ h1 hc1 hm1).mono ?_
  rintro e u1 ⟨A5, c5, es, A6, c6, bs, rfl, r5, r6, hes, hbl, hc5, hc6, hb9⟩
  have HNE := Lib.hid hes.names
  have hesl : es.length ≤ 6 := hes.1
  clear hes
  clear h1
  have r2 := r2.up hb9
  have r3 := r3.up hb9
  have r4 := r4.up hb9
  have hb := bthen hb hb9
  clear hb9
  go_wp2_with fail
  have HBK := Lib.hid (blastEnv_len es bs)
  obtain ⟨back, hbk⟩ : ∃ back, back = blastEnv es bs := ⟨_, rfl⟩
  have HBACK := Lib.hid hbk
  rw [← hbk] at HBK
  have hbkl := HBK.out
  have HC := Lib.hid (implBlastEnv_any A5 A6 c5 c6 es bs _ r5 r6 (by omega) (by omega) HNE.out hc5 hc6)
  rw [← hbk] at HC
  refine HC.out.mono ?_
  clear HC
  intro e u hO
  obtain ⟨A7, c7, rfl, r7, hb9, hc7⟩ := rdI_of hO
  clear hO
  have r2 := r2.up hb9
  have r3 := r3.up hb9
  have r4 := r4.up hb9
  have r5 := r5.up hb9
  have r6 := r6.up hb9
  have hb := bthen hb hb9
  clear hb9
  clear hbk
  go_wp2_with fail
  have HC := Lib.hid (specBlastIns_any A2 A3 c2 c3 ds env _ r2 r3 (by omega) (by omega) HND.out hc2)
  rw [← HINS.out] at HC
  refine HC.out.mono ?_
  clear HC
  intro e u hO
  obtain ⟨A8, c8, rfl, r8, hb9, hc8⟩ := rdB_of hO
  clear hO
  have r2 := r2.up hb9
  have r3 := r3.up hb9
  have r4 := r4.up hb9
  have r5 := r5.up hb9
  have r6 := r6.up hb9
  have r7 := r7.up hb9
  have hb := bthen hb hb9
  clear hb9
  go_wp2_with fail
  refine (wpB_yes A4 A8 c4 c8 0 ins _ r4 r8 (by omega)).mono ?_
  rintro e u2 ⟨rfl, hb9⟩
  clear r8
  have r2 := r2.up hb9
  have r3 := r3.up hb9
  have r4 := r4.up hb9
  have r5 := r5.up hb9
  have r6 := r6.up hb9
  have r7 := r7.up hb9
  have hb := bthen hb hb9
  clear hb9
  go_wp2_with fail
  have HC := Lib.hid (specBlastEnv_any A5 A6 c5 c6 es bs _ r5 r6 (by omega) (by omega) HNE.out hc5)
  rw [← HBACK.out] at HC
  refine HC.out.mono ?_
  clear HC
  intro e u hO
  obtain ⟨A9, c9, rfl, r9, hb9, hc9⟩ := rdI_of hO
  clear hO
  have r2 := r2.up hb9
  have r3 := r3.up hb9
  have r4 := r4.up hb9
  have r5 := r5.up hb9
  have r6 := r6.up hb9
  have r7 := r7.up hb9
  have hb := bthen hb hb9
  clear hb9
  go_wp2_with fail
  refine (wpI_yes A7 A9 c7 c9 back _ r7 r9 (by omega)).mono ?_
  rintro e u3 ⟨rfl, hb9⟩
  clear r9
  have r2 := r2.up hb9
  have r3 := r3.up hb9
  have r4 := r4.up hb9
  have r5 := r5.up hb9
  have r6 := r6.up hb9
  have r7 := r7.up hb9
  have hb := bthen hb hb9
  clear hb9
  go_wp2_with fail
  obtain ⟨q, hq⟩ : ∃ q, q = envOk ds env := ⟨_, rfl⟩
  have HQ := Lib.hid hq
  have HC := Lib.hid (implEnvOk_any A2 A3 c2 c3 ds env _ _ r2 (fun _ h => h) r3 (by omega) (by omega) HND.out hc2)
  rw [← hq] at HC
  clear hq
  refine HC.out.mono ?_
  clear HC
  rintro e u4 ⟨rfl, hb9⟩
  have r2 := r2.up hb9
  have r3 := r3.up hb9
  have r4 := r4.up hb9
  have r5 := r5.up hb9
  have r6 := r6.up hb9
  have r7 := r7.up hb9
  have hb := bthen hb hb9
  clear hb9
  cases q
  · skip
    have HZ : Hid (0 < back.length → envOk es back = true ∧ blastIns es back = bs) := Lib.hid fun h9 => by rw [HBACK.out] at h9 ⊢; exact env_ins h9
    by_cases hz : back.length = 0
    · have hzb : ((back.length : Int) == 0) = true := beq_iff_eq.2 (by omega)
      clear hz
      go_wp2
      go_ret
      exact ⟨rfl, hb⟩
    have hzb : ((back.length : Int) == 0) = false := beq_eq_false_iff_ne.2 (by omega)
    have hz1 : 0 < back.length := by omega
    have H1 := Lib.hid (HZ.out hz1).1
    have H2 := Lib.hid (HZ.out hz1).2
    clear hz
    go_wp2_with fail
    have HC := Lib.hid (implEnvOk_any A5 A7 c5 c7 es back _ _ r5 (fun _ h => h) r7 (by omega) (by omega) HNE.out hc5)
    rw [H1.out] at HC
    refine HC.out.mono ?_
    clear HC
    rintro e u5 ⟨rfl, hb9⟩
    have r2 := r2.up hb9
    have r3 := r3.up hb9
    have r4 := r4.up hb9
    have r5 := r5.up hb9
    have r6 := r6.up hb9
    have r7 := r7.up hb9
    have hb := bthen hb hb9
    clear hb9
    go_wp2_with fail
    have HC := Lib.hid (implBlastIns_any A5 A7 c5 c7 es back _ r5 r7 (by omega) (by omega) HNE.out hc5)
    rw [H2.out] at HC
    refine HC.out.mono ?_
    clear HC
    intro e u hO
    obtain ⟨Aa, ca, rfl, ra, hb9, hca⟩ := rdB_of hO
    clear hO
    have r2 := r2.up hb9
    have r3 := r3.up hb9
    have r4 := r4.up hb9
    have r5 := r5.up hb9
    have r6 := r6.up hb9
    have r7 := r7.up hb9
    have hb := bthen hb hb9
    clear hb9
    go_wp2_with fail
    refine (wpB_yes Aa A6 ca c6 0 bs _ ra r6 (by omega)).mono ?_
    rintro e u6 ⟨rfl, hb9⟩
    have r2 := r2.up hb9
    have r3 := r3.up hb9
    have r4 := r4.up hb9
    have r5 := r5.up hb9
    have r6 := r6.up hb9
    have r7 := r7.up hb9
    have hb := bthen hb hb9
    clear hb9
    go_wp2
    go_ret
    exact ⟨rfl, hb⟩
  · have HE := Lib.hid (ins_env HQ.out.symm)
    rw [← HINS.out] at HE
    go_wp2_with fail
    have HC := Lib.hid (implBlastEnv_any A2 A4 c2 c4 ds ins _ r2 r4 (by omega) (by omega) HND.out hc2 hc4)
    rw [HE.out] at HC
    refine HC.out.mono ?_
    clear HC
    intro e u hO
    obtain ⟨Ab, cb, rfl, rb, hb9, hcb⟩ := rdI_of hO
    clear hO
    have r2 := r2.up hb9
    have r3 := r3.up hb9
    have r4 := r4.up hb9
    have r5 := r5.up hb9
    have r6 := r6.up hb9
    have r7 := r7.up hb9
    have hb := bthen hb hb9
    clear hb9
    go_wp2_with fail
    refine (wpI_yes Ab A3 cb c3 env _ rb r3 (by omega)).mono ?_
    rintro e u7 ⟨rfl, hb9⟩
    have r2 := r2.up hb9
    have r3 := r3.up hb9
    have r4 := r4.up hb9
    have r5 := r5.up hb9
    have r6 := r6.up hb9
    have r7 := r7.up hb9
    have hb := bthen hb hb9
    clear hb9
    have HZ : Hid (0 < back.length → envOk es back = true ∧ blastIns es back = bs) := Lib.hid fun h9 => by rw [HBACK.out] at h9 ⊢; exact env_ins h9
    by_cases hz : back.length = 0
    · have hzb : ((back.length : Int) == 0) = true := beq_iff_eq.2 (by omega)
      clear hz
      go_wp2
      go_ret
      exact ⟨rfl, hb⟩
    have hzb : ((back.length : Int) == 0) = false := beq_eq_false_iff_ne.2 (by omega)
    have hz1 : 0 < back.length := by omega
    have H1 := Lib.hid (HZ.out hz1).1
    have H2 := Lib.hid (HZ.out hz1).2
    clear hz
    go_wp2_with fail
    have HC := Lib.hid (implEnvOk_any A5 A7 c5 c7 es back _ _ r5 (fun _ h => h) r7 (by omega) (by omega) HNE.out hc5)
    rw [H1.out] at HC
    refine HC.out.mono ?_
    clear HC
    rintro e u5 ⟨rfl, hb9⟩
    have r2 := r2.up hb9
    have r3 := r3.up hb9
    have r4 := r4.up hb9
    have r5 := r5.up hb9
    have r6 := r6.up hb9
    have r7 := r7.up hb9
    have hb := bthen hb hb9
    clear hb9
    go_wp2_with fail
    have HC := Lib.hid (implBlastIns_any A5 A7 c5 c7 es back _ r5 r7 (by omega) (by omega) HNE.out hc5)
    rw [H2.out] at HC
    refine HC.out.mono ?_
    clear HC
    intro e u hO
    obtain ⟨Aa, ca, rfl, ra, hb9, hca⟩ := rdB_of hO
    clear hO
    have r2 := r2.up hb9
    have r3 := r3.up hb9
    have r4 := r4.up hb9
    have r5 := r5.up hb9
    have r6 := r6.up hb9
    have r7 := r7.up hb9
    have hb := bthen hb hb9
    clear hb9
    go_wp2_with fail
    refine (wpB_yes Aa A6 ca c6 0 bs _ ra r6 (by omega)).mono ?_
    rintro e u6 ⟨rfl, hb9⟩
    have r2 := r2.up hb9
    have r3 := r3.up hb9
    have r4 := r4.up hb9
    have r5 := r5.up hb9
    have r6 := r6.up hb9
    have r7 := r7.up hb9
    have hb := bthen hb hb9
    clear hb9
    go_wp2
    go_ret
    exact ⟨rfl, hb⟩

set_option maxRecDepth 100000 in
theorem fnBlastIns_lifted (os : Os) (started : os.Started) (H : Type) (enc : TypeId × Value → H) :
    ReturnsInHanded {} Tryd.checked os 5 .any (fun w args => (Rows.fnBlastInsSpec.pre enc Tryd.prog Tryd.f5 [] false w args ∧ laidMetH Tryd.prog laidU w) ∧ sizedMet enc Tryd.prog Tryd.f5 (OpenSpec.ofChange Rows.fnBlastInsSpec) false w args)
      (Rows.fnBlastInsSpec.post enc Tryd.prog Tryd.f5 false true false false) := by
  refine returnsInHanded_of_change_and (C := Tryd.checked) (X := fun w _ => laidMetH Tryd.prog laidU w) (fun _ _ _ hh h => h.of_heap hh) dr_own started (by kernel_rfl) Tryd.func5
    (ChangeSpec.witness_shaped (enc := enc) (C := Tryd.checked) (os := os) (X := fun w _ => laidMetH Tryd.prog laidU w) false (World.laidAll Tryd.prog os laidU) #[.slice none 0 0, .slice none 0 0] 16 (World.laidAll_os _ _ _) (World.shaped_of_ZipB (by kernel_rfl) (by kernel_rfl)) (by kernel_rfl) (by kernel_rfl) (by kernel_rfl)
      (by rw [MakeChecks.laidMetH_plain _ _ _ (by kernel_rfl)]; exact laidMet_laidAll _ (by kernel_rfl) (by kernel_rfl))) ?_
  intro W base args ds gs before hval0 hW _ _ hL _
  have hval : ∀ (j : Nat) t v, Tryd.f5.params[j]? = some t → args[j]? = some v → Value.okWide Tryd.prog W .any base t v := hval0
  have hW' := hW
  obtain ⟨p, q, hA0, hV, rfl, hfz, hnd⟩ := hW
  have hA : DataW.TrodAll enc Tryd.prog W 0 (fun _ => true) true Tryd.f5.params.toList args.toList ds p := hA0
  rw [Tryd.params5] at hA hval
  obtain ⟨v0, vs0, d0, ds0, p0, q0, hargs, rfl, rfl, h0, r0⟩ := trodAll_cons hA
  obtain ⟨v1, vs1, d1, ds1, p1, q1, rfl, rfl, rfl, h1, r1⟩ := trodAll_cons r0
  obtain ⟨rfl, rfl, rfl⟩ := trodAll_nil r1
  obtain rfl : args = #[v0, v1] := by cases args; simp_all
  obtain ⟨rfl, rfl⟩ := trodVars_none hV
  have k0 := h0
  have lt0 : ∀ x ∈ p0, x.block < W.heap.size := by obtain ⟨m, hm⟩ := k0; exact DataW.trod_lt m _ _ _ hm
  have k1 := h1
  have lt1 : ∀ x ∈ p1, x.block < W.heap.size := by obtain ⟨m, hm⟩ := k1; exact DataW.trod_lt m _ _ _ hm
  obtain ⟨A0, c0, x0, rfl, hc0, ok0, rd0⟩ := open_arg Tryd.underlying40 opens_bytes (hval 0 40 v0 rfl rfl) h0
  obtain ⟨A1, c1, x1, rfl, hc1, ok1, rd1⟩ := open_arg Tryd.underlying40 opens_bytes (hval 1 40 v1 rfl rfl) h1
  clear hA0 hval0
  refine (fnBlastIns_walk W hc0 ok0 rd0 hc1 ok1 rd1).mono fun e W' ⟨he, bel⟩ => ?_
  subst he
  exact ⟨_, rfl, _, _, _, [], _, [], hW', trodAll_mk1 (shut_bool Tryd.underlying4 _), (trodAll_cons_mk (Below.trod (by kernel_rfl) (by kernel_rfl) (of_decide_eq_true (by kernel_rfl)) k0 bel lt0) (trodAll_cons_mk (Below.trod (by kernel_rfl) (by kernel_rfl) (of_decide_eq_true (by kernel_rfl)) k1 bel lt1) trodAll_mk0)), rfl, bel.frame _, fun h => by cases h⟩

/-- The given row. -/
theorem fnBlastIns_row : Rows.FnBlastInsSaid :=
  OpenClaim.holds_of_wide 5 Tryd.f5 rfl rfl rfl rfl rfl rfl rfl ⟨rfl, rfl, rfl, rfl, rfl⟩ rfl rfl rfl rfl rfl (by kernel_rfl) Tryd.func5 (by kernel_rfl)
    (of_decide_eq_true (by kernel_rfl)) (by unfold Func.isWrapper; first | (rw [if_pos (by decide +kernel)]; kernel_rfl) | (rw [if_neg (by decide +kernel)]; exact ⟨rfl, rfl⟩))
    (fun os started H enc _ => fnBlastIns_lifted os started H enc)
/-- The given statement: the row, what it lists tied to the program's text. -/
theorem fnBlastIns_holds : Rows.FnBlastInsCardSaid :=
  Claim7.holds_tied_plain_at .later [] [.data, .pinned] true Rows.fnBlastInsCard.stood.harness Rows.fnBlastInsCard.stood.looks
    fnBlastIns_row (fun _ h => by cases h) (by kernel_rfl) (fun _ h => by cases h) fnBlastIns_row_tie rfl ⟨rfl, rfl⟩ (by kernel_rfl) rfl
    (fun f fn hf hfn => by
      obtain rfl : f = 5 := Option.some.inj ((show Tryd.prog.funcNamed "loop.example/seedlip/laws.FnBlastIns" = some 5 by kernel_rfl).symm.trans hf) |>.symm
      obtain rfl : fn = Tryd.f5 := (Option.some.inj (Tryd.func5.symm.trans hfn)).symm
      exact ⟨by kernel_rfl, fun j t ht => by
        rw [Tryd.params5] at ht
        have hm : t ∈ [40, 40] := by simpa using Array.mem_of_getElem? ht
        have hall : ([40, 40].all fun u => !Tryd.prog.wantsStandIn u) = true := by kernel_rfl
        exact (show Tryd.prog.wantsStandIn t = false by simpa using List.all_eq_true.1 hall t hm)⟩)
    (by kernel_rfl)
#print axioms fnBlastIns_holds
end Go.Proofs.YthcmflhhpgmfaaaDoor
