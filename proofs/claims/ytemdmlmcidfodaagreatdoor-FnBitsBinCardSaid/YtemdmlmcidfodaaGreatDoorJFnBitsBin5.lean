/- The reference's xor. -/
import Derived.Test.YtemdmlmcidfodaaGreatDoorJFnBitsBin0
import Derived.Test.YtemdmlmcidfodaaGreatDoorJFnBitsBin4
namespace Go.Proofs.YtemdmlmcidfodaaGreatDoor
open Go Go.RowKit
def sgn (a : Int) : Int:=if a < 0 then -1 else 1
def xor1 (n : N) (a b : Int) : N × Int :=
 if a = 1 \/ a = -1 then (n,-a * b) else if b = 1 \/ b = -1 then (n,-b * a) else if a = b then (n,-1) else if a = -b then (n,1)
 else
  let r:=put n (if b.natAbs < a.natAbs then ⟨true,b.natAbs,a.natAbs⟩ else ⟨true,a.natAbs,b.natAbs⟩)
  (r.1,sgn a * sgn b * r.2)
theorem z2i (n : N) (g : G) (hn : n.gs.length <= 1048576) (h0 : 0 <= n.ins) (h1 : n.ins <= 1000000) : 0 <= (put n g).2 /\ (put n g).2 <= 3000000:=by
 unfold put
 split
 ·
  rename_i hm
  have:=List.idxOf_lt_length_of_mem hm
  show 0 <= 2 + n.ins + ((n.gs.idxOf g : Nat) : Int) /\ 2 + n.ins + ((n.gs.idxOf g : Nat) : Int) <= 3000000
  omega
 ·
  split
  · exact ⟨by decide,by decide⟩
  ·
   show 0 <= 2 + n.ins + (n.gs.length : Int) /\ 2 + n.ins + (n.gs.length : Int) <= 3000000
   omega
theorem res_store {w' : World} {S : Nat} {v0 v1 u0 u1 : Value} {o : Obj} (k5 : w'.cell? ⟨S,0,none⟩ = some v0) (k6 : w'.cell? ⟨S,1,none⟩ = some v1) (hlt : S < w'.heap.size) :
  (((w'.setCell ⟨S,0,none⟩ u0).setCell ⟨S,1,none⟩ u1).alloc o).cell? ⟨S,0,none⟩ = some u0 /\ (((w'.setCell ⟨S,0,none⟩ u0).setCell ⟨S,1,none⟩ u1).alloc o).cell? ⟨S,1,none⟩ = some u1:=by
 have hq : Below ((w'.setCell ⟨S,0,none⟩ u0).setCell ⟨S,1,none⟩ u1).heap.size ((w'.setCell ⟨S,0,none⟩ u0).setCell ⟨S,1,none⟩ u1) (((w'.setCell ⟨S,0,none⟩ u0).setCell ⟨S,1,none⟩ u1).alloc o):=(Below.refl _ _).alloc (Nat.le_refl _) _; have hz : S < ((w'.setCell ⟨S,0,none⟩ u0).setCell ⟨S,1,none⟩ u1).heap.size:=by simp [World.setCell]; exact hlt
 obtain ⟨hc,_⟩:=bcell hq; exact ⟨(hc _ _ hz).trans (by simp [go_sem,k5]),(hc _ _ hz).trans (by simp [go_sem,k5,k6])⟩
theorem xor_end {F : Nat -> Prop} {w w' : World} {v0 v1 : Value} {t t' : TypeId} {A : Option Addr} {c : Nat} {r : N} {k : Int} {cs : Array Value}
  (hW : Below w.heap.size w ((w.alloc (.cells #[v0,v1] t)).alloc (.cells #[.int .i64 0,.slice none 0 0] t))) (hF : ∀ b,F b -> b < w.heap.size) (hA : A = none -> r.gs.length = 0)
  (h : Lay.gate.Sl w' (fun b => F b \/ (((w.alloc (.cells #[v0,v1] t)).alloc (.cells #[.int .i64 0,.slice none 0 0] t)).heap.size <= b /\ b < w'.heap.size)) A r.gs)
  (hb : Below ((w.alloc (.cells #[v0,v1] t)).alloc (.cells #[.int .i64 0,.slice none 0 0] t)).heap.size ((w.alloc (.cells #[v0,v1] t)).alloc (.cells #[.int .i64 0,.slice none 0 0] t)) w') (u0 : Value) :
  RetNetInt F w (r,k) (.returned (.tuple #[.agg #[.int .i64 r.ins,.slice A r.gs.length c],.int .i64 k])) (((w'.setCell ⟨w.heap.size + 1,0,none⟩ u0).setCell ⟨w.heap.size + 1,1,none⟩ (.slice A r.gs.length c)).alloc (.cells cs t')):=by
 have h2:=sl_two (u0:=u0) (u1:=.slice A r.gs.length c) hW hF h hb; have hbel : Below w.heap.size w ((w'.setCell ⟨w.heap.size + 1,0,none⟩ u0).setCell ⟨w.heap.size + 1,1,none⟩ (.slice A r.gs.length c)):=by
  refine z0b (z0b (z09 hW hb) ?_ _) ?_ _ <;> (show w.heap.size <= w.heap.size + 1; omega)
 generalize ((w'.setCell ⟨w.heap.size + 1,0,none⟩ u0).setCell ⟨w.heap.size + 1,1,none⟩ (.slice A r.gs.length c)) = X at *; have hq : Below X.heap.size X (X.alloc (.cells cs t')):=(Below.refl _ _).alloc (Nat.le_refl _) _; refine ⟨A,c,rfl,hA,(h2.below hq ?_).mono ?_,z09 hbel hq⟩
 ·
  rintro b (hb' | hb')
  · exact Nat.lt_of_lt_of_le (hF b hb') hbel.size
  · exact hb'.2
 ·
  rintro b (hb' | hb')
  · exact .inl hb'
  · exact .inr ⟨hb'.1,Nat.lt_of_lt_of_le hb'.2 hq.size⟩
set_option maxHeartbeats 2000000 in
theorem l6Xor_any (F : Nat -> Prop) (A : Option Addr) (c : Nat) (n : N) (a b : Int) (w : World) (h : Lay.gate.Sl w F A n.gs) (hF : ∀ b,F b -> b < w.heap.size) (hn : n.gs.length <= 1048576) (hA : A = none -> n.gs.length = 0) (h0 : 0 <= n.ins) (h1 : n.ins <= 1000000)
  (ha : -2000000000 <= a /\ a <= 2000000000) (hb : -2000000000 <= b /\ b <= 2000000000) :
  Calls Tryz.prog 49 #[.agg #[.int .i64 n.ins,.slice A n.gs.length c],.int .i64 a,.int .i64 b] w (RetNetInt F w (xor1 n a b)):=by
 have ea : IntKind.i64.wrap (-a) = -a:=IntWalk.i64_in _ (by omega); have eb : IntKind.i64.wrap (-b) = -b:=IntWalk.i64_in _ (by omega)
 by_cases c1 : a = 1 \/ a = -1
 ·
  have hr : xor1 n a b = (n,-a * b):=by unfold xor1; rw [if_pos c1]
  rw [hr]
  rcases c1 with rfl | rfl
  ·
   have em : IntKind.i64.wrap (-1 * b) = -1 * b:=IntWalk.i64_in _ (by omega); clear hr
   go_enter Tryz.func49,Tryz.ntmps49
   go_wp2_with fail
   refine bodyPost_ret (v:=.tuple #[.agg #[.int .i64 n.ins,.slice A n.gs.length c],.int .i64 (-1 * b)]) (by simp [results,Tryz.results49,go_sem]) rfl (same_end h hF hA (-1 * b) ?_); exact ((Below.refl _ _).alloc (Nat.le_refl _) _).alloc (by simp) _
  ·
   have em : IntKind.i64.wrap (1 * b) = 1 * b:=IntWalk.i64_in _ (by omega); clear hr
   go_enter Tryz.func49,Tryz.ntmps49
   go_wp2_with fail
   refine bodyPost_ret (v:=.tuple #[.agg #[.int .i64 n.ins,.slice A n.gs.length c],.int .i64 (- -1 * b)]) (by simp [results,Tryz.results49,go_sem]) rfl (same_end h hF hA (- -1 * b) ?_); exact ((Below.refl _ _).alloc (Nat.le_refl _) _).alloc (by simp) _
 have t1 : (a == 1) = false:=by simp; omega
 have t2 : (a == -1) = false:=by simp; omega
 by_cases c2 : b = 1 \/ b = -1
 ·
  have hr : xor1 n a b = (n,-b * a):=by unfold xor1; rw [if_neg c1,if_pos c2]
  rw [hr]; clear c1
  rcases c2 with rfl | rfl
  ·
   have em : IntKind.i64.wrap (-1 * a) = -1 * a:=IntWalk.i64_in _ (by omega); clear hr
   go_enter Tryz.func49,Tryz.ntmps49
   go_wp2_with fail
   refine bodyPost_ret (v:=.tuple #[.agg #[.int .i64 n.ins,.slice A n.gs.length c],.int .i64 (-1 * a)]) (by simp [results,Tryz.results49,go_sem]) rfl (same_end h hF hA (-1 * a) ?_); exact ((Below.refl _ _).alloc (Nat.le_refl _) _).alloc (by simp) _
  ·
   have em : IntKind.i64.wrap (1 * a) = 1 * a:=IntWalk.i64_in _ (by omega); clear hr
   go_enter Tryz.func49,Tryz.ntmps49
   go_wp2_with fail
   refine bodyPost_ret (v:=.tuple #[.agg #[.int .i64 n.ins,.slice A n.gs.length c],.int .i64 (- -1 * a)]) (by simp [results,Tryz.results49,go_sem]) rfl (same_end h hF hA (- -1 * a) ?_); exact ((Below.refl _ _).alloc (Nat.le_refl _) _).alloc (by simp) _
 have t3 : (b == 1) = false:=by simp; omega
 have t4 : (b == -1) = false:=by simp; omega
 by_cases c3 : a = b
 ·
  have hr : xor1 n a b = (n,-1):=by unfold xor1; rw [if_neg c1,if_neg c2,if_pos c3]
  rw [hr]; have t5 : (a == b) = true:=by simp [c3]
  clear c1 c2 c3 hr
  ·
   skip
   go_enter Tryz.func49,Tryz.ntmps49
   go_wp2_with fail
   refine bodyPost_ret (v:=.tuple #[.agg #[.int .i64 n.ins,.slice A n.gs.length c],.int .i64 (-1)]) (by simp [results,Tryz.results49,go_sem]) rfl (same_end h hF hA (-1) ?_); exact ((Below.refl _ _).alloc (Nat.le_refl _) _).alloc (by simp) _
 have t5 : (a == b) = false:=by simp [c3]
 by_cases c4 : a = -b
 ·
  have hr : xor1 n a b = (n,1):=by unfold xor1; rw [if_neg c1,if_neg c2,if_neg c3,if_pos c4]
  rw [hr]; have t6 : (a == -b) = true:=by simp [c4]
  clear c1 c2 c3 c4 hr
  ·
   skip
   go_enter Tryz.func49,Tryz.ntmps49
   go_wp2_with fail
   refine bodyPost_ret (v:=.tuple #[.agg #[.int .i64 n.ins,.slice A n.gs.length c],.int .i64 1]) (by simp [results,Tryz.results49,go_sem]) rfl (same_end h hF hA 1 ?_); exact ((Below.refl _ _).alloc (Nat.le_refl _) _).alloc (by simp) _
 have t6 : (a == -b) = false:=by simp [c4]
 have hr : xor1 n a b = ((put n (if b.natAbs < a.natAbs then ⟨true,b.natAbs,a.natAbs⟩ else ⟨true,a.natAbs,b.natAbs⟩)).1,sgn a * sgn b * (put n (if b.natAbs < a.natAbs then ⟨true,b.natAbs,a.natAbs⟩ else ⟨true,a.natAbs,b.natAbs⟩)).2):=by
  unfold xor1; rw [if_neg c1,if_neg c2,if_neg c3,if_neg c4]
 rw [hr]; clear c1 c2 c3 c4 hr; have hW : Below w.heap.size w ((w.alloc (.cells #[.int .i64 n.ins,.slice A n.gs.length c] 29)).alloc (.cells #[.int .i64 0,.slice none 0 0] 29)):=((Below.refl _ _).alloc (Nat.le_refl _) _).alloc (by simp) _
 by_cases sc : b.natAbs < a.natAbs
 ·
  rw [if_pos sc]
  by_cases sa : a < 0 <;> by_cases sb : b < 0
  ·
   have hs : sgn a * sgn b = 1:=by simp [sgn,sa,sb]
   rw [hs]
   go_enter Tryz.func49,Tryz.ntmps49
   go_wp2_with (first | (go_at_call 69; refine (z1o _ _ (by omega) (by omega)).mono ?_; rintro e w' ⟨rfl,rfl⟩) | fail)
   refine (z2b F A c n ⟨true,b.natAbs,a.natAbs⟩ _ (h.below hW hF) (fun b' hb' => Nat.lt_of_lt_of_le (hF b' hb') hW.size) hn hA h0 h1).mono ?_; rintro e w' ⟨A',c',rfl,hA',h',hb'⟩; have hrg:=z2i n ⟨true,b.natAbs,a.natAbs⟩ hn h0 h1; generalize put n ⟨true,b.natAbs,a.natAbs⟩ = r at *; have m1 : IntKind.i64.wrap (1 * r.2) = 1 * r.2:=IntWalk.i64_in _ (by omega); have m2 : IntKind.i64.wrap (-1 * r.2) = -1 * r.2:=IntWalk.i64_in _ (by omega); have m3 : IntKind.i64.wrap r.2 = r.2:=IntWalk.i64_in _ (by omega); have m4 : IntKind.i64.wrap (-r.2) = -r.2:=IntWalk.i64_in _ (by omega); obtain ⟨k5,k6,kf5,kf6⟩:=z29 hb'; have hlt : w.heap.size + 1 < w'.heap.size:=by have:=hb'.size; simp at this; omega
   have hne : w.heap.size + 1 ≠ w'.heap.size:=by omega
   go_wp2_with fail
   obtain ⟨q0,q1⟩:=res_store (u0:=.int .i64 r.1.ins) (u1:=.slice A' r.1.gs.length c') (o:=.cells #[.int .i64 r.1.ins,.slice A' r.1.gs.length c'] 29) k5 k6 hlt; refine bodyPost_ret (v:=.tuple #[.agg #[.int .i64 r.1.ins,.slice A' r.1.gs.length c'],.int .i64 r.2]) (by simp [results,Tryz.results49,go_sem,q0,q1]) rfl ?_; rw [Int.one_mul]; exact xor_end hW hF hA' h' hb' _
  ·
   have hs : sgn a * sgn b = -1:=by simp [sgn,sa,sb]
   rw [hs]
   go_enter Tryz.func49,Tryz.ntmps49
   go_wp2_with (first | (go_at_call 69; refine (z1o _ _ (by omega) (by omega)).mono ?_; rintro e w' ⟨rfl,rfl⟩) | fail)
   refine (z2b F A c n ⟨true,b.natAbs,a.natAbs⟩ _ (h.below hW hF) (fun b' hb' => Nat.lt_of_lt_of_le (hF b' hb') hW.size) hn hA h0 h1).mono ?_; rintro e w' ⟨A',c',rfl,hA',h',hb'⟩; have hrg:=z2i n ⟨true,b.natAbs,a.natAbs⟩ hn h0 h1; generalize put n ⟨true,b.natAbs,a.natAbs⟩ = r at *; have m1 : IntKind.i64.wrap (1 * r.2) = 1 * r.2:=IntWalk.i64_in _ (by omega); have m2 : IntKind.i64.wrap (-1 * r.2) = -1 * r.2:=IntWalk.i64_in _ (by omega); have m3 : IntKind.i64.wrap r.2 = r.2:=IntWalk.i64_in _ (by omega); have m4 : IntKind.i64.wrap (-r.2) = -r.2:=IntWalk.i64_in _ (by omega); obtain ⟨k5,k6,kf5,kf6⟩:=z29 hb'; have hlt : w.heap.size + 1 < w'.heap.size:=by have:=hb'.size; simp at this; omega
   have hne : w.heap.size + 1 ≠ w'.heap.size:=by omega
   go_wp2_with fail
   obtain ⟨q0,q1⟩:=res_store (u0:=.int .i64 r.1.ins) (u1:=.slice A' r.1.gs.length c') (o:=.cells #[.int .i64 r.1.ins,.slice A' r.1.gs.length c'] 29) k5 k6 hlt; refine bodyPost_ret (v:=.tuple #[.agg #[.int .i64 r.1.ins,.slice A' r.1.gs.length c'],.int .i64 (-r.2)]) (by simp [results,Tryz.results49,go_sem,q0,q1]) rfl ?_; rw [show (-1 : Int) * r.2 = -r.2 by omega]; exact xor_end hW hF hA' h' hb' _
  ·
   have hs : sgn a * sgn b = -1:=by simp [sgn,sa,sb]
   rw [hs]
   go_enter Tryz.func49,Tryz.ntmps49
   go_wp2_with (first | (go_at_call 69; refine (z1o _ _ (by omega) (by omega)).mono ?_; rintro e w' ⟨rfl,rfl⟩) | fail)
   refine (z2b F A c n ⟨true,b.natAbs,a.natAbs⟩ _ (h.below hW hF) (fun b' hb' => Nat.lt_of_lt_of_le (hF b' hb') hW.size) hn hA h0 h1).mono ?_; rintro e w' ⟨A',c',rfl,hA',h',hb'⟩; have hrg:=z2i n ⟨true,b.natAbs,a.natAbs⟩ hn h0 h1; generalize put n ⟨true,b.natAbs,a.natAbs⟩ = r at *; have m1 : IntKind.i64.wrap (1 * r.2) = 1 * r.2:=IntWalk.i64_in _ (by omega); have m2 : IntKind.i64.wrap (-1 * r.2) = -1 * r.2:=IntWalk.i64_in _ (by omega); have m3 : IntKind.i64.wrap r.2 = r.2:=IntWalk.i64_in _ (by omega); have m4 : IntKind.i64.wrap (-r.2) = -r.2:=IntWalk.i64_in _ (by omega); obtain ⟨k5,k6,kf5,kf6⟩:=z29 hb'; have hlt : w.heap.size + 1 < w'.heap.size:=by have:=hb'.size; simp at this; omega
   have hne : w.heap.size + 1 ≠ w'.heap.size:=by omega
   go_wp2_with fail
   obtain ⟨q0,q1⟩:=res_store (u0:=.int .i64 r.1.ins) (u1:=.slice A' r.1.gs.length c') (o:=.cells #[.int .i64 r.1.ins,.slice A' r.1.gs.length c'] 29) k5 k6 hlt; refine bodyPost_ret (v:=.tuple #[.agg #[.int .i64 r.1.ins,.slice A' r.1.gs.length c'],.int .i64 (-r.2)]) (by simp [results,Tryz.results49,go_sem,q0,q1]) rfl ?_; rw [show (-1 : Int) * r.2 = -r.2 by omega]; exact xor_end hW hF hA' h' hb' _
  ·
   have hs : sgn a * sgn b = 1:=by simp [sgn,sa,sb]
   rw [hs]
   go_enter Tryz.func49,Tryz.ntmps49
   go_wp2_with (first | (go_at_call 69; refine (z1o _ _ (by omega) (by omega)).mono ?_; rintro e w' ⟨rfl,rfl⟩) | fail)
   refine (z2b F A c n ⟨true,b.natAbs,a.natAbs⟩ _ (h.below hW hF) (fun b' hb' => Nat.lt_of_lt_of_le (hF b' hb') hW.size) hn hA h0 h1).mono ?_; rintro e w' ⟨A',c',rfl,hA',h',hb'⟩; have hrg:=z2i n ⟨true,b.natAbs,a.natAbs⟩ hn h0 h1; generalize put n ⟨true,b.natAbs,a.natAbs⟩ = r at *; have m1 : IntKind.i64.wrap (1 * r.2) = 1 * r.2:=IntWalk.i64_in _ (by omega); have m2 : IntKind.i64.wrap (-1 * r.2) = -1 * r.2:=IntWalk.i64_in _ (by omega); have m3 : IntKind.i64.wrap r.2 = r.2:=IntWalk.i64_in _ (by omega); have m4 : IntKind.i64.wrap (-r.2) = -r.2:=IntWalk.i64_in _ (by omega); obtain ⟨k5,k6,kf5,kf6⟩:=z29 hb'; have hlt : w.heap.size + 1 < w'.heap.size:=by have:=hb'.size; simp at this; omega
   have hne : w.heap.size + 1 ≠ w'.heap.size:=by omega
   go_wp2_with fail
   obtain ⟨q0,q1⟩:=res_store (u0:=.int .i64 r.1.ins) (u1:=.slice A' r.1.gs.length c') (o:=.cells #[.int .i64 r.1.ins,.slice A' r.1.gs.length c'] 29) k5 k6 hlt; refine bodyPost_ret (v:=.tuple #[.agg #[.int .i64 r.1.ins,.slice A' r.1.gs.length c'],.int .i64 r.2]) (by simp [results,Tryz.results49,go_sem,q0,q1]) rfl ?_; rw [Int.one_mul]; exact xor_end hW hF hA' h' hb' _
 ·
  rw [if_neg sc]
  by_cases sa : a < 0 <;> by_cases sb : b < 0
  ·
   have hs : sgn a * sgn b = 1:=by simp [sgn,sa,sb]
   rw [hs]
   go_enter Tryz.func49,Tryz.ntmps49
   go_wp2_with (first | (go_at_call 69; refine (z1o _ _ (by omega) (by omega)).mono ?_; rintro e w' ⟨rfl,rfl⟩) | fail)
   refine (z2b F A c n ⟨true,a.natAbs,b.natAbs⟩ _ (h.below hW hF) (fun b' hb' => Nat.lt_of_lt_of_le (hF b' hb') hW.size) hn hA h0 h1).mono ?_; rintro e w' ⟨A',c',rfl,hA',h',hb'⟩; have hrg:=z2i n ⟨true,a.natAbs,b.natAbs⟩ hn h0 h1; generalize put n ⟨true,a.natAbs,b.natAbs⟩ = r at *; have m1 : IntKind.i64.wrap (1 * r.2) = 1 * r.2:=IntWalk.i64_in _ (by omega); have m2 : IntKind.i64.wrap (-1 * r.2) = -1 * r.2:=IntWalk.i64_in _ (by omega); have m3 : IntKind.i64.wrap r.2 = r.2:=IntWalk.i64_in _ (by omega); have m4 : IntKind.i64.wrap (-r.2) = -r.2:=IntWalk.i64_in _ (by omega); obtain ⟨k5,k6,kf5,kf6⟩:=z29 hb'; have hlt : w.heap.size + 1 < w'.heap.size:=by have:=hb'.size; simp at this; omega
   have hne : w.heap.size + 1 ≠ w'.heap.size:=by omega
   go_wp2_with fail
   obtain ⟨q0,q1⟩:=res_store (u0:=.int .i64 r.1.ins) (u1:=.slice A' r.1.gs.length c') (o:=.cells #[.int .i64 r.1.ins,.slice A' r.1.gs.length c'] 29) k5 k6 hlt; refine bodyPost_ret (v:=.tuple #[.agg #[.int .i64 r.1.ins,.slice A' r.1.gs.length c'],.int .i64 r.2]) (by simp [results,Tryz.results49,go_sem,q0,q1]) rfl ?_; rw [Int.one_mul]; exact xor_end hW hF hA' h' hb' _
  ·
   have hs : sgn a * sgn b = -1:=by simp [sgn,sa,sb]
   rw [hs]
   go_enter Tryz.func49,Tryz.ntmps49
   go_wp2_with (first | (go_at_call 69; refine (z1o _ _ (by omega) (by omega)).mono ?_; rintro e w' ⟨rfl,rfl⟩) | fail)
   refine (z2b F A c n ⟨true,a.natAbs,b.natAbs⟩ _ (h.below hW hF) (fun b' hb' => Nat.lt_of_lt_of_le (hF b' hb') hW.size) hn hA h0 h1).mono ?_; rintro e w' ⟨A',c',rfl,hA',h',hb'⟩; have hrg:=z2i n ⟨true,a.natAbs,b.natAbs⟩ hn h0 h1; generalize put n ⟨true,a.natAbs,b.natAbs⟩ = r at *; have m1 : IntKind.i64.wrap (1 * r.2) = 1 * r.2:=IntWalk.i64_in _ (by omega); have m2 : IntKind.i64.wrap (-1 * r.2) = -1 * r.2:=IntWalk.i64_in _ (by omega); have m3 : IntKind.i64.wrap r.2 = r.2:=IntWalk.i64_in _ (by omega); have m4 : IntKind.i64.wrap (-r.2) = -r.2:=IntWalk.i64_in _ (by omega); obtain ⟨k5,k6,kf5,kf6⟩:=z29 hb'; have hlt : w.heap.size + 1 < w'.heap.size:=by have:=hb'.size; simp at this; omega
   have hne : w.heap.size + 1 ≠ w'.heap.size:=by omega
   go_wp2_with fail
   obtain ⟨q0,q1⟩:=res_store (u0:=.int .i64 r.1.ins) (u1:=.slice A' r.1.gs.length c') (o:=.cells #[.int .i64 r.1.ins,.slice A' r.1.gs.length c'] 29) k5 k6 hlt; refine bodyPost_ret (v:=.tuple #[.agg #[.int .i64 r.1.ins,.slice A' r.1.gs.length c'],.int .i64 (-r.2)]) (by simp [results,Tryz.results49,go_sem,q0,q1]) rfl ?_; rw [show (-1 : Int) * r.2 = -r.2 by omega]; exact xor_end hW hF hA' h' hb' _
  ·
   have hs : sgn a * sgn b = -1:=by simp [sgn,sa,sb]
   rw [hs]
   go_enter Tryz.func49,Tryz.ntmps49
   go_wp2_with (first | (go_at_call 69; refine (z1o _ _ (by omega) (by omega)).mono ?_; rintro e w' ⟨rfl,rfl⟩) | fail)
   refine (z2b F A c n ⟨true,a.natAbs,b.natAbs⟩ _ (h.below hW hF) (fun b' hb' => Nat.lt_of_lt_of_le (hF b' hb') hW.size) hn hA h0 h1).mono ?_; rintro e w' ⟨A',c',rfl,hA',h',hb'⟩; have hrg:=z2i n ⟨true,a.natAbs,b.natAbs⟩ hn h0 h1; generalize put n ⟨true,a.natAbs,b.natAbs⟩ = r at *; have m1 : IntKind.i64.wrap (1 * r.2) = 1 * r.2:=IntWalk.i64_in _ (by omega); have m2 : IntKind.i64.wrap (-1 * r.2) = -1 * r.2:=IntWalk.i64_in _ (by omega); have m3 : IntKind.i64.wrap r.2 = r.2:=IntWalk.i64_in _ (by omega); have m4 : IntKind.i64.wrap (-r.2) = -r.2:=IntWalk.i64_in _ (by omega); obtain ⟨k5,k6,kf5,kf6⟩:=z29 hb'; have hlt : w.heap.size + 1 < w'.heap.size:=by have:=hb'.size; simp at this; omega
   have hne : w.heap.size + 1 ≠ w'.heap.size:=by omega
   go_wp2_with fail
   obtain ⟨q0,q1⟩:=res_store (u0:=.int .i64 r.1.ins) (u1:=.slice A' r.1.gs.length c') (o:=.cells #[.int .i64 r.1.ins,.slice A' r.1.gs.length c'] 29) k5 k6 hlt; refine bodyPost_ret (v:=.tuple #[.agg #[.int .i64 r.1.ins,.slice A' r.1.gs.length c'],.int .i64 (-r.2)]) (by simp [results,Tryz.results49,go_sem,q0,q1]) rfl ?_; rw [show (-1 : Int) * r.2 = -r.2 by omega]; exact xor_end hW hF hA' h' hb' _
  ·
   have hs : sgn a * sgn b = 1:=by simp [sgn,sa,sb]
   rw [hs]
   go_enter Tryz.func49,Tryz.ntmps49
   go_wp2_with (first | (go_at_call 69; refine (z1o _ _ (by omega) (by omega)).mono ?_; rintro e w' ⟨rfl,rfl⟩) | fail)
   refine (z2b F A c n ⟨true,a.natAbs,b.natAbs⟩ _ (h.below hW hF) (fun b' hb' => Nat.lt_of_lt_of_le (hF b' hb') hW.size) hn hA h0 h1).mono ?_; rintro e w' ⟨A',c',rfl,hA',h',hb'⟩; have hrg:=z2i n ⟨true,a.natAbs,b.natAbs⟩ hn h0 h1; generalize put n ⟨true,a.natAbs,b.natAbs⟩ = r at *; have m1 : IntKind.i64.wrap (1 * r.2) = 1 * r.2:=IntWalk.i64_in _ (by omega); have m2 : IntKind.i64.wrap (-1 * r.2) = -1 * r.2:=IntWalk.i64_in _ (by omega); have m3 : IntKind.i64.wrap r.2 = r.2:=IntWalk.i64_in _ (by omega); have m4 : IntKind.i64.wrap (-r.2) = -r.2:=IntWalk.i64_in _ (by omega); obtain ⟨k5,k6,kf5,kf6⟩:=z29 hb'; have hlt : w.heap.size + 1 < w'.heap.size:=by have:=hb'.size; simp at this; omega
   have hne : w.heap.size + 1 ≠ w'.heap.size:=by omega
   go_wp2_with fail
   obtain ⟨q0,q1⟩:=res_store (u0:=.int .i64 r.1.ins) (u1:=.slice A' r.1.gs.length c') (o:=.cells #[.int .i64 r.1.ins,.slice A' r.1.gs.length c'] 29) k5 k6 hlt; refine bodyPost_ret (v:=.tuple #[.agg #[.int .i64 r.1.ins,.slice A' r.1.gs.length c'],.int .i64 r.2]) (by simp [results,Tryz.results49,go_sem,q0,q1]) rfl ?_; rw [Int.one_mul]; exact xor_end hW hF hA' h' hb' _
end Go.Proofs.YtemdmlmcidfodaaGreatDoor
