/- Contracts of the reference's nets. -/
import Derived.Test.YtemdmlmcidfodaaGreatDoorJFnBitsBin0
import Derived.Test.YtemdmlmcidfodaaGreatDoorJFnBitsBin1
import Derived.Test.YtemdmlmcidfodaaGreatDoorJFnBitsBin2
namespace Go.Proofs.YtemdmlmcidfodaaGreatDoor
open Go Go.RowKit
def z27 (s m : Int) : Bool:=decide (s ≠ 0 /\ -m <= s /\ s <= m)
def z08 (vals : List Bool) (m : Int) : Bool:=z27 m vals.length && (vals.getD (m.natAbs - 1) false == decide (0 < m))
theorem of_any (s m : Int) (w : World) (h0 : -9223372036854775808 <= s) (h1 : s <= 9223372036854775807) (m0 : 0 <= m) (m1 : m <= 9223372036854775807) :
  Calls Tryz.prog 94 #[.int .i64 s,.int .i64 m] w fun e w' => e = .returned (.bool (z27 s m)) /\ w = w':=by
 by_cases hs : s = 0
 ·
  subst hs
  go_enter Tryz.func94,Tryz.ntmps94
  go_wp2
  go_ret
  exact ⟨by simp [z27],rfl⟩
 ·
  by_cases ha : -m <= s
  ·
   go_enter Tryz.func94,Tryz.ntmps94
   go_wp2
   go_ret
   exact ⟨z0m (by simp [z27,hs,ha]),rfl⟩
  ·
   go_enter Tryz.func94,Tryz.ntmps94
   go_wp2
   go_ret
   exact ⟨z0m (by simp [z27,hs]; omega),rfl⟩
theorem node_any (n : Int) (w : World) (h0 : -9223372036854775808 < n) (h1 : n <= 9223372036854775807) :
  Calls Tryz.prog 95 #[.int .i64 n] w fun e w' => e = .returned (.int .i64 n.natAbs) /\ w = w':=by
 by_cases h : n < 0
 all_goals
  go_enter Tryz.func95,Tryz.ntmps95
  go_wp2
  go_ret
  exact ⟨ret_int (by omega),rfl⟩
theorem netLit_yes {vals : List Bool} {m : Int} (h : z27 m vals.length = true) (hk : m.natAbs - 1 < vals.length) : z08 vals m = (vals[m.natAbs - 1] == decide (0 < m)):=by
 simp [z08,h,List.getD_eq_getElem?_getD,List.getElem?_eq_getElem hk]
theorem implNetLit_any (A : Option Addr) (c : Nat) (vals : List Bool) (m : Int) (F : Nat -> Prop) (w : World) (h : Lay.bool.Sl w F A vals) (hn : vals.length <= 9223372036854775807)
  (h0 : -9223372036854775808 <= m) (h1 : m <= 9223372036854775807) :
  Calls Tryz.prog 44 #[.slice A vals.length c,.int .i64 m] w fun e w' => e = .returned (.bool (z08 vals m)) /\ w = w':=by
 by_cases hs : z27 m vals.length = true
 ·
  have hs' : m ≠ 0 /\ -(vals.length : Int) <= m /\ m <= vals.length:=by simpa [z27] using hs
  have hk : m.natAbs - 1 < vals.length:=by omega
  obtain ⟨ad,rfl,hf,hc⟩:=h.at_bool hk; have hN:=zH (netLit_yes hs hk); have hb0 : (0 : Int) <= (m.natAbs : Int) - 1:=by omega
  have hb1 : (m.natAbs : Int) - 1 < vals.length:=by omega
  have he : ((m.natAbs : Int) - 1).toNat = m.natAbs - 1:=by omega
  have hm : 0 <= (m.natAbs : Int):=by omega
  go_enter Tryz.func44,Tryz.ntmps44
  go_wp2_with (first | (go_at_call 94; refine (of_any _ _ _ h0 h1 (by omega) (by omega)).mono ?_; rintro e w' ⟨rfl,rfl⟩) | (go_at_call 95; refine (node_any _ _ (by omega) h1).mono ?_; rintro e w' ⟨rfl,rfl⟩))
  go_ret
  exact ⟨z0m (by rw [hN.out]),rfl⟩
 ·
  have hN : z08 vals m = false:=by simp [z08,hs]
  have hN:=zH hN; have hs : z27 m vals.length = false:=by simpa using hs
  go_enter Tryz.func44,Tryz.ntmps44
  go_wp2_with (first | (go_at_call 94; refine (of_any _ _ _ h0 h1 (by omega) (by omega)).mono ?_; rintro e w' ⟨rfl,rfl⟩))
  go_ret
  exact ⟨z0m (by rw [hN.out]),rfl⟩
theorem netLit_pos {vals : List Bool} {m : Int} (hp : 0 < m) (hk : m.toNat - 1 < vals.length) : z08 vals m = vals[m.toNat - 1]:=by
 have e : m.natAbs - 1 = m.toNat - 1:=by omega
 have hs : z27 m vals.length = true:=by simp [z27]; omega
 simp [z08,hs,List.getD_eq_getElem?_getD,e,List.getElem?_eq_getElem hk,hp]
def bitsOf (f : Int -> Bool) : List Int -> Int
 | [] => 0
 | m :: ms => (if f m then 1 else 0) + 2 * bitsOf f ms
def bitsVal (vals : List Bool) (a : List Int) : Int:=if 4 < a.length then 0 else bitsOf (z08 vals) a
theorem bitsOf_lt (f : Int -> Bool) (a : List Int) : 0 <= bitsOf f a /\ bitsOf f a < 2 ^ a.length:=by
 induction a with
 | nil => simp [bitsOf]
 | cons m ms ih =>
  have e : (2 : Int) ^ (m :: ms).length = 2 * 2 ^ ms.length:=by rw [List.length_cons,Int.pow_succ,Int.mul_comm]
  rw [e]; unfold bitsOf
  split <;> omega
theorem bitsOf_snoc (f : Int -> Bool) (a : List Int) (m : Int) : bitsOf f (a ++ [m]) = bitsOf f a + if f m then 2 ^ a.length else 0:=by
 induction a with
 | nil => simp [bitsOf]
 | cons x xs ih =>
  have e : (2 : Int) ^ (x :: xs).length = 2 * 2 ^ xs.length:=by rw [List.length_cons,Int.pow_succ,Int.mul_comm]
  rw [List.cons_append,e]; unfold bitsOf; rw [ih]
  split <;> split <;> omega
theorem i64_or_nat (a b : Nat) (ha : a < 9223372036854775808) (hb : b < 9223372036854775808) : bits .or .i64 (a : Int) (b : Int) = ((a ||| b : Nat) : Int):=by
 have hx : a ||| b < 2 ^ 63:=Nat.or_lt_two_pow (by omega) (by omega)
 show IntKind.i64.wrap ((BitVec.ofInt 64 (a : Int) ||| BitVec.ofInt 64 (b : Int)).toNat : Int) = _
 rw [BitVec.toNat_or,ofInt_i64 a ha,ofInt_i64 b hb,IntKind.wrap_i64]
 omega
theorem bitsOf_or (f : Int -> Bool) (a : List Int) (hl : a.length <= 4) : bits .or .i64 (bitsOf f a) (2 ^ a.length) = bitsOf f a + 2 ^ a.length:=by
 obtain ⟨h0,h1⟩:=bitsOf_lt f a; generalize bitsOf f a = n at *; obtain ⟨k,rfl⟩:=Int.eq_ofNat_of_zero_le h0; generalize a.length = l at *; have h1' : k < 2 ^ l:=by exact_mod_cast h1
 have hl' : 2 ^ l <= 2 ^ 4:=Nat.pow_le_pow_right (by omega) hl; have e : ((2 : Int) ^ l) = ((2 ^ l : Nat) : Int):=by simp
 rw [e,i64_or_nat _ _ (by omega) (by omega),Nat.or_comm]; have:=Nat.two_pow_add_eq_or_of_lt h1' 1; rw [Nat.mul_one] at this; rw [<- this]; omega
theorem wrap_two (k : Nat) (h : k <= 4) : wrap64 ((2 : Int) ^ k) = 2 ^ k:=by
 have : k = 0 \/ k = 1 \/ k = 2 \/ k = 3 \/ k = 4:=by omega
 rcases this with rfl | rfl | rfl | rfl | rfl <;> simp [wrap64]
theorem take_snoc {α : Type} (a : List α) (k : Nat) (h : k < a.length) : a.take (k + 1) = a.take k ++ [a[k]]:=List.take_succ_eq_append_getElem h
set_option maxHeartbeats 400000 in
theorem implBitsVal_any (A B : Option Addr) (c d : Nat) (vals : List Bool) (a : List Int) (F G : Nat -> Prop) (w : World) (h : Lay.bool.Sl w F A vals) (hn : vals.length <= 9223372036854775807)
  (h' : Lay.int.Sl w G B a) (hr : ∀ x ∈ a,-9223372036854775808 <= x /\ x <= 9223372036854775807) (hn' : a.length <= 9223372036854775807) :
  Calls Tryz.prog 20 #[.slice A vals.length c,.slice B a.length d] w fun e w' => e = .returned (.int .i64 (bitsVal vals a)) /\ w = w':=by
 by_cases hl : 4 < a.length
 ·
  go_enter Tryz.func20,Tryz.ntmps20
  go_wp2
  go_ret
  exact ⟨ret_int (by simp [bitsVal,hl]),rfl⟩
 ·
  go_enter Tryz.func20,Tryz.ntmps20
  go_wp2
  go_loop [5,13] (fun n i => ∃ k : Nat,k <= a.length /\ i = .int .i64 k /\ n = .int .i64 (bitsOf (z08 vals) (a.take k))) (fun _ i => a.length - (intOf i).toNat)
  case atStart => exact ⟨0,Nat.zero_le _,rfl,rfl⟩
  case round =>
   obtain ⟨k,hk,rfl,rfl⟩:=hrel
   by_cases hlt : k < a.length
   ·
    obtain ⟨ad,rfl,hf,hc⟩:=h'.at_int hlt; have hrk:=hr a[k] (List.getElem_mem _); have hlen : (a.take k).length = k:=by simp; omega
    have hsn:=bitsOf_snoc (z08 vals) (a.take k) a[k]; rw [<- take_snoc a k hlt,hlen] at hsn; have hor:=bitsOf_or (z08 vals) (a.take k) (by omega); rw [hlen] at hor; have HS:=zH hsn; have HO:=zH hor; have hbd:=bitsOf_lt (z08 vals) (a.take k); clear hsn hor hlen hbd
    by_cases hv : z08 vals a[k] = true
    ·
     go_wp2_with (go_at_call 44; refine (implNetLit_any _ _ _ _ _ _ h hn hrk.1 hrk.2).mono ?_; rintro e w' ⟨rfl,rfl⟩)
     go_round
     case rel => exact ⟨k + 1,by omega,by go_num,by rw [HS.out,if_pos hv,wrap_two k (by omega),HO.out]⟩
     case measure => simp [intOf]; omega
    ·
     go_wp2_with (go_at_call 44; refine (implNetLit_any _ _ _ _ _ _ h hn hrk.1 hrk.2).mono ?_; rintro e w' ⟨rfl,rfl⟩)
     go_round
     case rel => exact ⟨k + 1,by omega,by go_num,by rw [HS.out,if_neg hv,Int.add_zero]⟩
     case measure => simp [intOf]; omega
   ·
    have hk : k = a.length:=by omega
    subst hk
    go_wp2
    go_ret
    exact ⟨ret_int (by simp [bitsVal,hl]),rfl⟩
theorem grown_then {a w w' : World} {row : Option Nat} (h : Below a.heap.size a w) (h' : w.grownBy w' row) : a.grownBy w' row :=
 ⟨h'.os.trans h.os,h'.tape.trans h.tape,h'.output.trans h.output,Nat.le_trans h.size h'.size,fun i hi hne => (h'.block i (Nat.lt_of_lt_of_le hi h.size) hne).trans (h.block i hi)⟩
theorem z04 (w : World) (r : Nat) (o : Nat) (u : Value) (cs : Array Value) (t : TypeId) (h : w.heap[r]? = some (.cells cs t (0,0))) : (w.setCell ⟨r,o,none⟩ u).heap[r]? = some (.cells (cs.setIfInBounds o u) t (0,0)):=by
 unfold World.setCell; simp only [Array.getElem?_modify,if_true]; rw [h]
 rfl
theorem z00 {w : World} {r : Nat} {cs : Array Value} {t : TypeId} (h : w.heap[r]? = some (.cells cs t (0,0))) (i : Nat) : w.cell? ⟨r,i,none⟩ = cs[i]? /\ w.frozen? ⟨r,i,none⟩ = false:=by
 unfold World.cell? World.frozen?; simp [h]
theorem size_setCell (w : World) (a : Addr) (v : Value) : (w.setCell a v).heap.size = w.heap.size:=by simp [World.setCell]
theorem rows_kept {w w' : World} {base : Nat} {e : TypeId} {size n : Nat} {v : Value} {xs : List Value} {b : Option Nat} (h : w.ownsRow base e size v n xs) (hg : w.grownBy w' b) (hd : ∀ g,v.ownBlock = some g -> b ≠ some g) : w'.ownsRow base e size v n xs :=
 h.kept hg (by
  rcases hv : v.ownBlock with _ | g
  · exact .inl rfl
  · exact .inr (fun e => hd g hv e.symm))
theorem rows_set {w : World} {base : Nat} {e : TypeId} {size n : Nat} {v : Value} {xs : List Value} (h : w.ownsRow base e size v n xs) (r o : Nat) (u : Value) (hd : v.ownBlock ≠ some r) : (w.setCell ⟨r,o,none⟩ u).ownsRow base e size v n xs :=
 rows_kept h (z06 (World.grownBy.refl w (some r)) o u) (fun g e e' => hd (e.trans e'.symm))
structure G where
 x : Bool
 a : Int
 b : Int
 deriving DecidableEq
structure N where
 ins : Int
 gs : List G
 deriving DecidableEq
def Lay.gate : Lay G:=Lay.flat 3 (fun g => [.bool g.x,.int .i64 g.a,.int .i64 g.b]) (fun _ => rfl)
theorem Lay.Sl.at_gate {w : World} {F : Nat -> Prop} {A : Option Addr} {xs : List G} (h : Lay.gate.Sl w F A xs) {k : Nat} (hk : k < xs.length) :
  ∃ ad,A = some ad /\ F ad.block /\ w.cell? (ad.add (k * 3)) = some (.bool xs[k].x) /\ w.cell? ⟨(ad.add (k * 3)).block,(ad.add (k * 3)).off + 1,none⟩ = some (.int .i64 xs[k].a) /\ w.cell? ⟨(ad.add (k * 3)).block,(ad.add (k * 3)).off + 2,none⟩ = some (.int .i64 xs[k].b):=by
 obtain ⟨ad,e,hf,hc⟩:=h (by omega); obtain ⟨vs,rfl,hcell⟩:=hc k xs[k] (List.getElem?_eq_getElem hk); refine ⟨ad,e,hf,hcell 0 _ rfl,?_,?_⟩
 ·
  show w.cell? ((ad.add (k * 3)).add 1) = _
  rw [add_of_add]; exact hcell 1 _ rfl
 ·
  show w.cell? ((ad.add (k * 3)).add 2) = _
  rw [add_of_add]; exact hcell 2 _ rfl
theorem gate_up {w w' : World} {B : Nat} {ad : Addr} {k : Nat} {g : G} (hb : Below B w w') (hB : ad.block < B)
  (h : w.cell? (ad.add (k * 3)) = some (.bool g.x) /\ w.cell? ⟨(ad.add (k * 3)).block,(ad.add (k * 3)).off + 1,none⟩ = some (.int .i64 g.a) /\ w.cell? ⟨(ad.add (k * 3)).block,(ad.add (k * 3)).off + 2,none⟩ = some (.int .i64 g.b)) :
  w'.cell? (ad.add (k * 3)) = some (.bool g.x) /\ w'.cell? ⟨(ad.add (k * 3)).block,(ad.add (k * 3)).off + 1,none⟩ = some (.int .i64 g.a) /\ w'.cell? ⟨(ad.add (k * 3)).block,(ad.add (k * 3)).off + 2,none⟩ = some (.int .i64 g.b) :=
 ⟨(hb.cell (by rw [z12]; exact hB)).trans h.1,(hb.cell (by show (ad.add (k * 3)).block < B; rw [z12]; exact hB)).trans h.2.1,(hb.cell (by show (ad.add (k * 3)).block < B; rw [z12]; exact hB)).trans h.2.2⟩
def z0k (g : G) : List Value:=[.bool g.x,.int .i64 g.a,.int .i64 g.b]
theorem z2c (l : List G) : (l.flatMap z0k).length = l.length * 3:=by
 induction l with
 | nil => rfl
 | cons g l ih => rw [List.flatMap_cons,List.length_append,ih]; simp [z0k]; omega
theorem decide_G (g h : G) : decide (g = h) = (g.x == h.x && g.a == h.a && g.b == h.b):=by
 cases g; cases h
 rw [Bool.eq_iff_iff]; simp [and_assoc]
theorem sl_gates_of_own {w : World} {F : Nat -> Prop} {base : Nat} {e : TypeId} {A : Option Addr} {n c : Nat} {xs : List G} (h : w.ownsRow base e 3 (.slice A n c) n (xs.flatMap z0k))
  (hF : ∀ g,base <= g -> g < w.heap.size -> F g) : Lay.gate.Sl w F A xs /\ n = xs.length /\ n <= c:=by
 have hn : n = xs.length:=by have:=h.1; rw [z2c] at this; omega
 refine ⟨.of_own h hn hF fun k x hx => ⟨_,rfl,fun j u hu => ?_⟩,hn,?_⟩
 ·
  have hk : k < xs.length:=by
   rcases Nat.lt_or_ge k xs.length with h | h
   · exact h
   · rw [List.getElem?_eq_none h] at hx; cases hx
  rw [List.getElem?_eq_getElem hk] at hx
  injection hx with hx
  have hj : j < 3:=by
   rcases Nat.lt_or_ge j 3 with h | h
   · exact h
   · rw [List.getElem?_eq_none (by simpa [Lay.gate,Lay.flat] using h)] at hu; cases hu
  have e : xs = xs.take k ++ (xs[k] :: xs.drop (k + 1)):=by rw [<- List.drop_eq_getElem_cons hk,List.take_append_drop]
  have hl : ((xs.take k).flatMap z0k).length = k * 3:=by rw [z2c]; simp; omega
  rw [e,List.flatMap_append,List.flatMap_cons,show Lay.gate.size = 3 from rfl,List.getElem?_append_right (by omega),hl,show k * 3 + j - k * 3 = j from by omega,
   List.getElem?_append_left (by simpa [z0k] using hj),hx]
  exact hu
 ·
  rcases h.2 with ⟨h1,h2⟩ | ⟨g,cap,cur,h1,_,_,h2,_⟩
  · omega
  · injection h1 with _ _ h3; omega
def z0x (w : World) (base : Nat) (v : Value) (xs : List G) : Prop:=w.ownsRow base 78 3 v xs.length (xs.flatMap z0k)
theorem z0x.form {w : World} {base : Nat} {v : Value} {xs : List G} (h : z0x w base v xs) : ∃ A c,v = .slice A xs.length c /\ xs.length <= c /\ Lay.gate.Sl w (fun b => base <= b /\ b < w.heap.size) A xs:=by
 have hh:=h; unfold z0x at h
 rcases h.2 with ⟨h1,h2⟩ | ⟨g,cap,cur,h1,_,_,h3,_⟩
 ·
  subst h1; have : xs = []:=List.eq_nil_of_length_eq_zero h2; subst this; exact ⟨none,0,rfl,by simp,.nil _ _ _ _⟩
 ·
  subst h1; exact ⟨_,cap,rfl,h3,(sl_gates_of_own hh (fun g h1 h2 => ⟨h1,h2⟩)).1⟩
theorem z0x.sl {w : World} {base c : Nat} {A : Option Addr} {xs : List G} (h : z0x w base (.slice A xs.length c) xs) : xs.length <= c /\ Lay.gate.Sl w (fun b => base <= b /\ b < w.heap.size) A xs:=by
 obtain ⟨A',c',e,h1,h2⟩:=h.form
 injection e with e1 e2 e3
 subst e1; subst e3; exact ⟨h1,h2⟩
theorem z0x.up {w w' : World} {base : Nat} {v : Value} {xs : List G} (h : z0x w base v xs) (hb : Below w.heap.size w w') : z0x w' base v xs:=z0e h hb (Nat.le_refl _)
def RetGs (w : World) (xs : List G) (e : Ending) (w' : World) : Prop:=∃ A c,e = .returned (.slice A xs.length c) /\ z0x w' w.heap.size (.slice A xs.length c) xs /\ Below w.heap.size w w'
theorem gate_info : (Tryz.prog.info? 78).map (fun i => (i.zero,i.size,i.bytes)) = some (some (.agg #[.bool false,.int .i64 0,.int .i64 0]),3,24):=by kernel_rfl
def RetNet (w : World) (n : N) (e : Ending) (w' : World) : Prop :=
 ∃ A c,e = .returned (.agg #[.int .i64 n.ins,.slice A n.gs.length c]) /\ z0x w' w.heap.size (.slice A n.gs.length c) n.gs /\ Below w.heap.size w w'
theorem z1o (n : Int) (w : World) (h0 : -9223372036854775808 < n) (h1 : n <= 9223372036854775807) :
  Calls Tryz.prog 69 #[.int .i64 n] w fun e w' => e = .returned (.int .i64 n.natAbs) /\ w = w':=by
 by_cases h : n < 0
 all_goals
  go_enter Tryz.func69,Tryz.ntmps69
  go_wp2
  go_ret
  exact ⟨ret_int (by omega),rfl⟩
theorem src_gates {w : World} {F : Nat -> Prop} {A : Option Addr} {xs : List G} (h : Lay.gate.Sl w F A xs) : Src w 3 A xs.length (xs.flatMap z0k):=by
 refine ⟨z2c xs,fun h0 => ?_⟩; obtain ⟨ad,rfl,_,hc⟩:=h h0; refine ⟨ad,rfl,fun j u hu => ?_⟩; have hj : j < (xs.flatMap z0k).length:=by
  rcases Nat.lt_or_ge j (xs.flatMap z0k).length with h | h
  · exact h
  · rw [List.getElem?_eq_none h] at hu; cases hu
 rw [z2c] at hj; have hk : j / 3 < xs.length:=by omega
 obtain ⟨vs,rfl,hcell⟩:=hc (j / 3) xs[j / 3] (List.getElem?_eq_getElem hk); have hl : ((xs.take (j / 3)).flatMap z0k).length = j / 3 * 3:=by rw [z2c]; simp; omega
 have e : xs = xs.take (j / 3) ++ (xs[j / 3] :: xs.drop (j / 3 + 1)):=by rw [<- List.drop_eq_getElem_cons hk,List.take_append_drop]
 rw [e,List.flatMap_append,List.flatMap_cons,List.getElem?_append_right (by omega),hl,List.getElem?_append_left (by simp [z0k]; omega)] at hu; have:=hcell (j - j / 3 * 3) u hu; rw [show Lay.gate.size = 3 from rfl,show j / 3 * 3 + (j - j / 3 * 3) = j from by omega] at this; exact this
theorem gcells_one (xs : List G) : ∀ u ∈ xs.flatMap z0k,u.oneCell' = true:=by
 intro u hu; obtain ⟨g,_,hg⟩:=List.mem_flatMap.1 hu; simp [z0k] at hg
 rcases hg with rfl | rfl | rfl <;> rfl
set_option maxRecDepth 100000 in
set_option maxHeartbeats 1000000 in
theorem l6Fresh_any (A : Option Addr) (c : Nat) (n : N) (w : World) (h : Lay.gate.Rd w A n.gs) (hn : n.gs.length <= 1048576) (hA : A = none -> n.gs.length = 0) :
  Calls Tryz.prog 46 #[.agg #[.int .i64 n.ins,.slice A n.gs.length c]] w (RetNet w n):=by
 obtain ⟨i0,hi0,hz0,hz1,hz2⟩:=info_parts gate_info
 go_enter Tryz.func46,Tryz.ntmps46
 go_wp2
 go_region_held3 (fun w' => w'.cell? ⟨w.heap.size,0,none⟩ = some (.int .i64 n.ins) /\ w'.cell? ⟨w.heap.size,1,none⟩ = some (.slice A n.gs.length c))
  (first | go_keep | (go_split_ands; refine ⟨?_,?_⟩ <;> (rw [hb1.cell (by show w.heap.size < _; omega)]; assumption)))
  ((refine step_append_src _ (by rfl) _ _ _ (by rfl) (w.heap.size + 1 + 1) 78 i0 _ 3 24 Tryz.underlying27 hi0 hz0 hz1 hz2 (by rfl) (by omega) (.slice (some ⟨w.heap.size + 1 + 1,0,none⟩) 0 0) 0 [] (by rfl) (by first | exact z18 (by simp) | exact (z18 (by simp)).drew) A n.gs.length c (n.gs.flatMap z0k) (by rfl) (src_gates (Lay.Sl.up h (by go_grown))) (gcells_one _) n.gs.length (by omega) (by unfold maxLen; omega) (by omega) (by simp) hA ?_; intro A1 c1 w1 hown1 hb1 _; obtain ⟨hcc,hff⟩:=bcell hb1; have hz : w.heap.size + 1 < w1.heap.size:=by have:=hb1.size; simp at this; omega))
 have hbw : Below w.heap.size w w1:=by
  refine Below.trans (b:=(((w.alloc (Obj.cells #[.int .i64 n.ins,.slice A n.gs.length c] 29)).alloc (Obj.cells #[.int .i64 0,.slice none 0 0] 29)).alloc (Obj.cells #[] 78)).drew) ?_ (hb1.mono (by omega)); exact ((((Below.refl _ _).alloc (Nat.le_refl _) _).alloc (by simp) _).alloc (by simp; omega) _).drew
 go_wp2
 refine bodyPost_ret (v:=.agg #[.int .i64 n.ins,.slice A1 n.gs.length c1]) (by simp [results,Tryz.results46,go_sem,hcc,hff,hz]) rfl ⟨A1,c1,rfl,?_,?_⟩
 · exact own_mono (own_far (own_far hown1 _ _ (by simp)) _ _ (by simp)) (by omega)
 · exact (hbw.setCell (by simp) _).setCell (by simp) _
theorem eqlG (w : World) (g h : G) : (binOp .eql 78 (.agg #[.bool g.x,.int .i64 g.a,.int .i64 g.b]) (.agg #[.bool h.x,.int .i64 h.a,.int .i64 h.b])).run Tryz.prog w = .ok (.bool (decide (g = h))) w:=by
 have hh : Tryz.prog.stoodInHeld 78 = false:=by kernel_rfl
 rw [decide_G]; simp [go_sem,hh]
 (repeat' split) <;> simp_all
theorem l6Many_any (A : Option Addr) (c n : Nat) (ins : Int) (w : World) (hn : n <= 1048576) (h0 : -1000000 <= ins) (h1 : ins <= 1000000) :
  Calls Tryz.prog 96 #[.agg #[.int .i64 ins,.slice A n c]] w fun e w' => e = .returned (.int .i64 (1 + ins + n)) /\ Below w.heap.size w w':=by
 have hw : Below w.heap.size w (w.alloc (.cells #[.int .i64 ins,.slice A n c] 29)):=(Below.refl _ _).alloc (Nat.le_refl _) _
 go_enter Tryz.func96,Tryz.ntmps96
 go_wp2
 go_ret
 exact ⟨rfl,hw⟩
def z07 (n : N) (m : Int) : Bool:=z27 m (1 + n.ins + n.gs.length)
theorem l6Mark_any (A : Option Addr) (c : Nat) (n : N) (m : Int) (w : World) (hn : n.gs.length <= 1048576) (h0 : 0 <= n.ins) (h1 : n.ins <= 1000000) (m0 : -9223372036854775808 <= m) (m1 : m <= 9223372036854775807) :
  Calls Tryz.prog 87 #[.agg #[.int .i64 n.ins,.slice A n.gs.length c],.int .i64 m] w fun e w' => e = .returned (.bool (z07 n m)) /\ Below w.heap.size w w':=by
 have hw : Below w.heap.size w (w.alloc (.cells #[.int .i64 n.ins,.slice A n.gs.length c] 29)):=(Below.refl _ _).alloc (Nat.le_refl _) _; unfold z07; generalize hK : (1 + n.ins + (n.gs.length : Int)) = K; have HK:=zH hK; have k0 : 0 <= K:=by omega
 have k1 : K <= 3000000:=by omega
 clear hK
 go_enter Tryz.func87,Tryz.ntmps87
 go_wp2_with (go_at_call 96; refine (l6Many_any A c n.gs.length n.ins _ hn (by omega) h1).mono ?_; rw [HK.out]; rintro e w' ⟨rfl,hb⟩)
 all_goals
  go_ret
  refine ⟨z0m ?_,z09 hw hb⟩
  first
   | (simp [z27, *]; done)
   | (simp [z27, *]; omega)
def okG (ins : Int) (k : Nat) (g : G) : Bool :=
 decide (-(1 + ins + k) <= g.a) && decide (g.a <= 1 + ins + k) && decide (-(1 + ins + k) <= g.b) && decide (g.b <= 1 + ins + k) && decide (2 <= (g.a.natAbs : Int)) && decide ((g.a.natAbs : Int) < g.b.natAbs) && !(g.x && (decide (g.a < 0) || decide (g.b < 0)))
def goodG (n : N) (k : Nat) (g : G) : Bool:=okG n.ins k g && !(n.gs.take k).contains g
def okInts (n : N) : Prop:=∀ g ∈ n.gs,(-9223372036854775808 <= g.a /\ g.a <= 9223372036854775807) /\ (-9223372036854775808 <= g.b /\ g.b <= 9223372036854775807)
theorem okG_no {K a b na nb : Int} {gx : Bool} (h : a < -K \/ K < a \/ b < -K \/ K < b \/ na < 2 \/ nb <= na) :
  (decide (-K <= a) && decide (a <= K) && decide (-K <= b) && decide (b <= K) && decide (2 <= na) && decide (na < nb) && !(gx && (decide (a < 0) || decide (b < 0)))) = false:=by
 rw [Bool.eq_false_iff]; intro e; simp only [Bool.and_eq_true,decide_eq_true_eq] at e
 omega
theorem okG_yes {K a b na nb : Int} {gx : Bool} (h1 : -K <= a) (h2 : a <= K) (h3 : -K <= b) (h4 : b <= K) (h5 : 2 <= na) (h6 : na < nb) :
  (decide (-K <= a) && decide (a <= K) && decide (-K <= b) && decide (b <= K) && decide (2 <= na) && decide (na < nb) && !(gx && (decide (a < 0) || decide (b < 0)))) = !(gx && (decide (a < 0) || decide (b < 0))):=by
 simp [h1,h2,h3,h4,h5,h6]
set_option maxRecDepth 100000 in
set_option maxHeartbeats 4000000 in
theorem l6Gate_any (A : Option Addr) (c : Nat) (n : N) (k : Nat) (hk : k < n.gs.length) (w : World) (h : Lay.gate.Rd w A n.gs) (hn : n.gs.length <= 1048576) (hi : okInts n) (h0 : 0 <= n.ins) (h1 : n.ins <= 1000000) :
  Calls Tryz.prog 32 #[.agg #[.int .i64 n.ins,.slice A n.gs.length c],.int .i64 k] w fun e w' => e = .returned (.bool (goodG n k n.gs[k])) /\ Below w.heap.size w w':=by
 obtain ⟨ad,rfl,hf,hc⟩:=h.at_gate hk; have hw : Below w.heap.size w (w.alloc (.cells #[.int .i64 n.ins,.slice (some ad) n.gs.length c] 29)):=(Below.refl _ _).alloc (Nat.le_refl _) _; obtain ⟨c1,c2,c3⟩:=gate_up hw hf hc; obtain ⟨⟨a0,a1⟩,b0,b1⟩:=hi n.gs[k] (List.getElem_mem _); have HG:=zH (show goodG n k n.gs[k] = (okG n.ins k n.gs[k] && !(n.gs.take k).contains n.gs[k]) from rfl); unfold okG at HG; have hk1 : (k : Int) < n.gs.length:=by omega
 have hK0 : (0 : Int) <= 1 + n.ins + k:=by omega
 have hK1 : 1 + n.ins + (k : Int) <= 3000000:=by omega
 generalize hgg : n.gs[k] = g at *; obtain ⟨gx,ga,gb⟩:=g; have HGG:=zH hgg; clear hgg hc hi; dsimp only at c1 c2 c3 a0 a1 b0 b1 HG; have hab : -9223372036854775808 < ga -> ga.natAbs < 9223372036854775808:=by omega
 generalize hna : (ga.natAbs : Int) = na at *; generalize hnb : (gb.natAbs : Int) = nb at *; have qa : ∀ W : World,-9223372036854775808 < ga -> Calls Tryz.prog 69 #[.int .i64 ga] W fun e w' => e = .returned (.int .i64 na) /\ W = w':=fun W h => by rw [<- hna]; exact z1o ga W h a1
 have qb : ∀ W : World,-9223372036854775808 < gb -> Calls Tryz.prog 69 #[.int .i64 gb] W fun e w' => e = .returned (.int .i64 nb) /\ W = w':=fun W h => by rw [<- hnb]; exact z1o gb W h b1
 have Qa:=zH qa; have Qb:=zH qb; generalize hKK : 1 + n.ins + (k : Int) = K at *; have HKK:=zH hKK; clear qa qb hna hnb hab hKK; have hww:=((Below.refl w.heap.size w).alloc (Nat.le_refl _) (.cells #[.int .i64 n.ins,.slice (some ad) n.gs.length c] 29)).alloc (by simp) (.cells #[.bool gx,.int .i64 ga,.int .i64 gb] 78)
 go_enter Tryz.func32,Tryz.ntmps32
 go_wp2
 rw [show Value.int IntKind.i64 (1 + n.ins + (k : Int)) = .int .i64 K from by rw [HKK.out]]
 by_cases q0 : ga < -K
 ·
  have d0 : decide (ga < -K) = true:=decide_eq_true q0
  go_quiet (fail)
  go_wp2
  go_ret
  exact ⟨z0m (by rw [HG.out,okG_no (by omega)]; rfl),z02 hww _⟩
 have d0 : decide (ga < -K) = false:=decide_eq_false q0
 by_cases q1 : K < ga
 ·
  have d1 : decide (K < ga) = true:=decide_eq_true q1
  go_quiet (fail)
  go_wp2
  go_ret
  exact ⟨z0m (by rw [HG.out,okG_no (by omega)]; rfl),z02 hww _⟩
 have d1 : decide (K < ga) = false:=decide_eq_false q1
 by_cases q2 : gb < -K
 ·
  have d2 : decide (gb < -K) = true:=decide_eq_true q2
  go_quiet (fail)
  go_wp2
  go_ret
  exact ⟨z0m (by rw [HG.out,okG_no (by omega)]; rfl),z02 hww _⟩
 have d2 : decide (gb < -K) = false:=decide_eq_false q2
 by_cases q3 : K < gb
 ·
  have d3 : decide (K < gb) = true:=decide_eq_true q3
  go_quiet (fail)
  go_wp2
  go_ret
  exact ⟨z0m (by rw [HG.out,okG_no (by omega)]; rfl),z02 hww _⟩
 have d3 : decide (K < gb) = false:=decide_eq_false q3
 by_cases q4 : na < 2
 ·
  have d4 : decide (na < 2) = true:=decide_eq_true q4
  go_quiet ((first | (go_at_call 69; with_reducible exact z13 (Qa.out _ (by omega))) | (go_at_call 69; with_reducible exact z13 (Qb.out _ (by omega)))))
  go_wp2
  go_ret
  exact ⟨z0m (by rw [HG.out,okG_no (by omega)]; rfl),z02 hww _⟩
 have d4 : decide (na < 2) = false:=decide_eq_false q4
 by_cases q5 : nb <= na
 ·
  have d5 : decide (nb <= na) = true:=decide_eq_true q5
  go_quiet ((first | (go_at_call 69; with_reducible exact z13 (Qa.out _ (by omega))) | (go_at_call 69; with_reducible exact z13 (Qb.out _ (by omega)))))
  go_wp2
  go_ret
  exact ⟨z0m (by rw [HG.out,okG_no (by omega)]; rfl),z02 hww _⟩
 have d5 : decide (nb <= na) = false:=decide_eq_false q5
 go_quiet ((first | (go_at_call 69; with_reducible exact z13 (Qa.out _ (by omega))) | (go_at_call 69; with_reducible exact z13 (Qb.out _ (by omega)))))
 clear d0 d1 d2 d3 d4 d5; have HG2:=zH (show goodG n k ⟨gx,ga,gb⟩ = (!(gx && (decide (ga < 0) || decide (gb < 0))) && !(n.gs.take k).contains ⟨gx,ga,gb⟩) by rw [HG.out,okG_yes (by omega) (by omega) (by omega) (by omega) (by omega) (by omega)]); clear HG
 by_cases hx : (gx && (decide (ga < 0) || decide (gb < 0))) = true
 ·
  have HX:=zH (show goodG n k ⟨gx,ga,gb⟩ = false by rw [HG2.out,hx]; rfl); simp only [Bool.and_eq_true,Bool.or_eq_true,decide_eq_true_eq] at hx; obtain ⟨rfl,hx⟩:=hx; clear HG2
  by_cases hx1 : ga < 0
  all_goals
   go_wp2
   go_ret
   exact ⟨z0m (by rw [HX.out]),z02 hww _⟩
 ·
  have HX:=zH (show goodG n k ⟨gx,ga,gb⟩ = !(n.gs.take k).contains ⟨gx,ga,gb⟩ by rw [HG2.out,Bool.eq_false_iff.2 hx]; rfl); have hx' : gx = true -> 0 <= ga /\ 0 <= gb:=by
   intro e; subst e; simp only [Bool.true_and,Bool.or_eq_true,decide_eq_true_eq] at hx
   omega
  clear HG2 hx; have v1 : ((w.alloc (.cells #[.int .i64 n.ins,.slice (some ad) n.gs.length c] 29)).alloc (.cells #[.bool gx,.int .i64 ga,.int .i64 gb] 78)).cell? ⟨w.heap.size,1,none⟩ = some (.slice (some ad) n.gs.length c):=by simp [go_sem]
  have v2 : ((w.alloc (.cells #[.int .i64 n.ins,.slice (some ad) n.gs.length c] 29)).alloc (.cells #[.bool gx,.int .i64 ga,.int .i64 gb] 78)).cell? ⟨w.heap.size + 1,0,none⟩ = some (.bool gx):=by simp [go_sem]
  have v3 : ((w.alloc (.cells #[.int .i64 n.ins,.slice (some ad) n.gs.length c] 29)).alloc (.cells #[.bool gx,.int .i64 ga,.int .i64 gb] 78)).cell? ⟨w.heap.size + 1,1,none⟩ = some (.int .i64 ga):=by simp [go_sem]
  have v4 : ((w.alloc (.cells #[.int .i64 n.ins,.slice (some ad) n.gs.length c] 29)).alloc (.cells #[.bool gx,.int .i64 ga,.int .i64 gb] 78)).cell? ⟨w.heap.size + 1,2,none⟩ = some (.int .i64 gb):=by simp [go_sem]
  generalize ((w.alloc (.cells #[.int .i64 n.ins,.slice (some ad) n.gs.length c] 29)).alloc (.cells #[.bool gx,.int .i64 ga,.int .i64 gb] 78)) = W at *; have hxx : gx = false \/ (gx = true /\ 0 <= ga /\ 0 <= gb):=by
   cases gx
   · exact .inl rfl
   · exact .inr ⟨rfl,hx' rfl⟩
  clear hx'; have hkk : (n.gs.take k).contains ⟨gx,ga,gb⟩ = true ↔ ∃ i',i' < k /\ n.gs[i']? = some ⟨gx,ga,gb⟩:=by
   rw [List.contains_iff_mem,List.mem_iff_getElem?]
   constructor
   ·
    rintro ⟨i',hi'⟩; rw [List.getElem?_take] at hi'
    split at hi'
    · exact ⟨i',by assumption,hi'⟩
    · cases hi'
   ·
    rintro ⟨i',h1,h2⟩; exact ⟨i',by rw [List.getElem?_take,if_pos h1,h2]⟩
  have HKK:=zH hkk; have hW : Below w.heap.size w W:=hww; have HE:=zH (fun (W : World) (g : G) => eqlG W g ⟨gx,ga,gb⟩); clear hkk
  rcases hxx with hxf | ⟨hxf,hx1,hx2⟩
  all_goals
   go_wp2
   clear hxf
   go_loopw [7] (fun i wr => ∃ j m : Nat,j <= k /\ i = .int .i64 j /\ wr = W.drewN m /\ ∀ i',i' < j -> n.gs[i']? ≠ some ⟨gx,ga,gb⟩) (fun i _ => k - (intOf i).toNat)
   case atStart => exact ⟨0,nq,Nat.zero_le _,rfl,rfl,fun i' h => absurd h (by omega)⟩
   case round =>
    obtain ⟨j,m,hj,rfl,rfl,hnot⟩:=hrel; have HN:=zH hnot; clear hnot
    by_cases hlt : j < k
    ·
     have hjl : j < n.gs.length:=by omega
     obtain ⟨ad',e,hf',hcj⟩:=h.at_gate hjl
     cases e
     obtain ⟨j1,j2,j3⟩:=gate_up hW hf' hcj; have hj0 : (0 : Int) <= j:=by omega
     have hj1 : (j : Int) < n.gs.length:=by omega
     have hgj : n.gs[j]? = some n.gs[j]:=List.getElem?_eq_getElem hjl; have HGJ:=zH hgj; clear hgj hcj; generalize n.gs[j] = gj at *
     by_cases hq : gj = ⟨gx,ga,gb⟩
     ·
      have he : ∀ W' : World,(binOp .eql 78 (.agg #[.bool gj.x,.int .i64 gj.a,.int .i64 gj.b]) (.agg #[.bool gx,.int .i64 ga,.int .i64 gb])).run Tryz.prog W' = .ok (.bool true) W':=fun W' => by rw [HE.out W' gj,decide_eq_true hq]
      have HQ:=zH hq; clear hq
      go_wp2
      go_quiet (fail)
      go_wp2
      go_ret
      exact ⟨z0m (by rw [HX.out,HKK.out.2 ⟨j,hlt,by rw [HGJ.out,HQ.out]⟩]; rfl),z02 (z02 hW _) _⟩
     ·
      have he : ∀ W' : World,(binOp .eql 78 (.agg #[.bool gj.x,.int .i64 gj.a,.int .i64 gj.b]) (.agg #[.bool gx,.int .i64 ga,.int .i64 gb])).run Tryz.prog W' = .ok (.bool false) W':=fun W' => by rw [HE.out W' gj,decide_eq_false hq]
      have HQ:=zH hq; clear hq
      go_wp2
      go_quiet (fail)
      go_wp2
      go_roundw
      case rel => exact ⟨j + 1,_,by omega,by go_num,rfl,fun i' hi' => by
       rcases Nat.lt_or_ge i' j with h' | h'
       · exact HN.out i' h'
       ·
        have : i' = j:=by omega
        subst this; rw [HGJ.out]; intro e; injection e with e; exact HQ.out e⟩
      case measure => simp [intOf]; omega
    ·
     have : j = k:=by omega
     subst this
     go_wp2
     go_ret
     refine ⟨z0m ?_,z02 hW _⟩; rw [HX.out]; have : ¬ (n.gs.take j).contains ⟨gx,ga,gb⟩ = true:=by
      rw [HKK.out]; rintro ⟨i',h1,h2⟩; exact HN.out i' h1 h2
     simpa using this
end Go.Proofs.YtemdmlmcidfodaaGreatDoor
