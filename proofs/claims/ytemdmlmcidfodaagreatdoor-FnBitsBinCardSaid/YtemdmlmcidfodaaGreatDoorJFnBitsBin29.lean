/- BitsBin in the laws' one form. -/
import Derived.Test.YtemdmlmcidfodaaGreatDoorJFnBitsBin0
import Derived.Test.YtemdmlmcidfodaaGreatDoorJFnBitsBin12
import Derived.Test.YtemdmlmcidfodaaGreatDoorJFnBitsBin16
import Derived.Test.YtemdmlmcidfodaaGreatDoorJFnBitsBin25
import Derived.Test.YtemdmlmcidfodaaGreatDoorJFnBitsBin26
import Derived.Test.YtemdmlmcidfodaaGreatDoorJFnBitsBin28
namespace Go.Proofs.YtemdmlmcidfodaaGreatDoor
open Go Go.RowKit
def opBin (op : Int) : Bool:=decide (3 <= op) && decide (op <= 14)
def lenBin (op : Int) (xs ys : List Int) : Bool:=if op = 14 then decide (xs.length + ys.length <= 4) else decide (xs.length = ys.length)
def z0t (n : N) (op : Int) (xs ys : List Int) : N × List Int:=bitsOk n (z1m n xs && z1m n ys && opBin op && lenBin op xs ys) (binP op xs ys)
set_option maxHeartbeats 2000000 in
theorem bin_bd {B : Int -> Prop} (hB : BOk B) {op : Int} {xs ys : List Int} (hx : ∀ x ∈ xs,B x) (hy : ∀ y ∈ ys,B y) (h0 : 0 < xs.length) (hl : op ≠ 14 -> xs.length = ys.length) (ho : opBin op = true) : (binP op xs ys).bd B fun l => (∀ m ∈ l,B m) /\ (op ≠ 14 -> l.length = xs.length) /\ l.length <= xs.length + ys.length:=by
 have hr : ∀ m ∈ List.replicate xs.length (-1 : Int),B m:=fun m hm => by rw [List.eq_of_mem_replicate hm]; exact hB.off
 have hn : ∀ m ∈ ys.map Neg.neg,B m:=fun m hm => by obtain ⟨z,hz,rfl⟩:=List.mem_map.1 hm; exact hB.neg _ (hy z hz)
 have hw : ∀ m ∈ ys ++ [-1],B m:=fun m hm => by
  rcases List.mem_append.1 hm with hm | hm
  · exact hy m hm
  · rw [List.mem_singleton.1 hm]; exact hB.off
 have fin : ∀ l : List Int,(∀ m ∈ l,B m) -> l.length = xs.length -> (∀ m ∈ l,B m) /\ (op ≠ 14 -> l.length = xs.length) /\ l.length <= xs.length + ys.length:=fun l h1 h2 => ⟨h1,fun _ => h2,by omega⟩
 by_cases h14 : op = 14
 ·
  subst h14
  show PG.bd B _ (.ret (ys ++ xs))
  exact ⟨fun m hm => (List.mem_append.1 hm).elim (hy m) (hx m),fun h => absurd rfl h,by rw [List.length_append]; omega⟩
 ·
  have hle:=hl h14; unfold binP
  by_cases o3 : op = 3
  ·
   rw [if_pos o3]; exact each_bd (f:=fun x y => PG.and x y PG.ret) (fun x y Ψ hx hy h => ⟨⟨hx,hy⟩,h⟩) _ _ _ hx hy fun l h1 h2 => fin l h1 (h2 hle)
  rw [if_neg o3]
  by_cases o4 : op = 4
  ·
   rw [if_pos o4]; exact each_bd (f:=orP) (fun x y Ψ hx hy h => or_bd hB hx hy h) _ _ _ hx hy fun l h1 h2 => fin l h1 (h2 hle)
  rw [if_neg o4]
  by_cases o5 : op = 5
  ·
   rw [if_pos o5]; exact each_bd (f:=fun x y => PG.xor x y PG.ret) (fun x y Ψ hx hy h => ⟨⟨hx,hy⟩,h⟩) _ _ _ hx hy fun l h1 h2 => fin l h1 (h2 hle)
  rw [if_neg o5]
  by_cases o6 : op = 6
  ·
   rw [if_pos o6]; exact sum_bd hB _ _ _ _ hB.off hx hy fun l h1 h2 => fin l h1 (h2 hle)
  rw [if_neg o6]
  by_cases o7 : op = 7
  ·
   rw [if_pos o7]; exact sum_bd hB _ _ _ _ hB.one hx hn fun l h1 h2 => fin l h1 (h2 (by rw [List.length_map]; exact hle))
  rw [if_neg o7]
  by_cases o8 : op = 8
  ·
   rw [if_pos o8]; exact mul_bd hB hx _ _ _ _ (by omega) hy hr (by simp) fun l h1 h2 => fin l h1 h2
  rw [if_neg o8]
  by_cases o9 : op = 9
  ·
   rw [if_pos o9]; exact z1t _ _ (div_bd hB hx hw (by rw [List.length_append,hle]; rfl) _ _ _ _ (Nat.le_refl _) hr hr (by simp) (by simp) fun z h1 h2 h3 h4 => fin z.1 h1 h3)
  rw [if_neg o9]
  by_cases o10 : op = 10
  ·
   rw [if_pos o10]; exact z1t _ _ (div_bd hB hx hw (by rw [List.length_append,hle]; rfl) _ _ _ _ (Nat.le_refl _) hr hr (by simp) (by simp) fun z h1 h2 h3 h4 => fin z.2 h2 h4)
  rw [if_neg o10]
  by_cases o11 : op = 11
  ·
   rw [if_pos o11]; exact shift_bd hB hB.off _ _ _ _ _ hy hx rfl fun l h1 h2 => fin l h1 h2
  rw [if_neg o11]
  by_cases o12 : op = 12
  ·
   rw [if_pos o12]; exact shift_bd hB hB.off _ _ _ _ _ hy hx rfl fun l h1 h2 => fin l h1 h2
  rw [if_neg o12]
  by_cases o13 : op = 13
  ·
   rw [if_pos o13]; exact shift_bd hB (getD_inP hx (by omega)) _ _ _ _ _ hy hx rfl fun l h1 h2 => fin l h1 h2
  rw [if_neg o13]
  exfalso
  unfold opBin at ho; simp only [Bool.and_eq_true,decide_eq_true_eq] at ho; omega
set_option maxRecDepth 100000 in
set_option maxHeartbeats 8000000 in
theorem specBitsBin_any (n : N) (op : Int) (xs ys : List Int) (A X Y : Option Addr) (c cx cy : Nat) (w : World) (h : Lay.gate.Rd w A n.gs) (hn : n.gs.length <= 1048576) (hA : A = none -> n.gs.length = 0) (hi : okInts n)
  (hX : Lay.int.Rd w X xs) (hY : Lay.int.Rd w Y ys) (hxi : i64s xs) (hyi : i64s ys) (hop : z15 op) (hlx : xs.length <= 1048576) (hly : ys.length <= 1048576) :
  Calls Tryz.prog 15 #[.agg #[.int .i64 n.ins,.slice A n.gs.length c],.int .i64 op,.slice X xs.length cx,.slice Y ys.length cy] w (RetBits (pickN (z0q n) (z0t n op xs ys)) w):=by
 obtain ⟨hW,hB0,hB1,hWS⟩:=z0p w (.cells #[.int .i64 n.ins,.slice A n.gs.length c] 29) (.cells #[.int .i64 0,.slice none 0 0] 29); have HW:=zH hW; have HV:=zH hB0; have HR:=zH hB1; have HG:=zH (h.up hW); have HX:=zH (hX.up hW); have HY:=zH (hY.up hW); have HI:=zH hi; have HXI:=zH hxi; have HYI:=zH hyi; unfold z15 at hop; obtain ⟨q0,q1⟩:=hop; have HWS:=zH hWS; have z0:=(z00 hB0 0).1; have z1:=(z00 hB0 1).1; obtain ⟨out,hout⟩ : ∃ out,out = pickN (z0q n) (z0t n op xs ys):=⟨_,rfl⟩; rw [<- hout]; have HOUT:=zH hout; clear hout h hi hX hY hxi hyi hB0 hB1 hW hWS; have HCN:=zH (specNetOk_any A c n _ HG.out hn HI.out)
 go_enter Tryz.func15,Tryz.ntmps15
 go_wp2_with fail
 refine HCN.out.mono ?_; generalize hX0 : (w.alloc (.cells #[.int .i64 n.ins,.slice A n.gs.length c] 29)).alloc (.cells #[.int .i64 0,.slice none 0 0] 29) = X0 at *; clear hX0; rintro e u1 ⟨rfl,hb9⟩; clear HCN; clear z0 z1; have HV:=zH ((hb9.block _ (lt_of_block HV.out)).trans HV.out); have HR:=zH ((hb9.block _ (lt_of_block HR.out)).trans HR.out); have HW:=zH (z09 HW.out hb9); have HG:=zH (HG.out.up hb9); have HX:=zH (HX.out.up hb9); have HY:=zH (HY.out.up hb9); clear hb9; have z0:=(z00 HV.out 0).1; have z1:=(z00 HV.out 1).1
 rcases hok : z0q n with _ | _
 ·
  have hal : Below u1.heap.size u1 (u1.alloc (.cells #[] 3)):=(Below.refl _ _).alloc (Nat.le_refl _) _; have hr9:=(hal.block _ (lt_of_block HR.out)).trans HR.out; have r0:=(z00 hr9 0).1; have r1:=(z00 hr9 1).1; have rf0:=(z00 hr9 0).2; have rf1:=(z00 hr9 1).2; have hs1:=z04 _ (w.heap.size + 1) 0 (.int .i64 0) _ _ hr9; have hs2:=z04 _ (w.heap.size + 1) 1 (.slice none 0 0) _ _ hs1; have HS2:=zH hs2; have HAL:=zH hal; clear hs1 hs2 hr9 hal
  go_wp2
  have k5:=(z00 HS2.out 0).1; have k6:=(z00 HS2.out 1).1; have kf5:=(z00 HS2.out 0).2; have kf6:=(z00 HS2.out 1).2; refine bodyPost_ret (v:=.tuple #[.agg #[.int .i64 0,.slice none 0 0],.slice (some ⟨u1.heap.size,0,none⟩) 0 0]) (by simp [results,Tryz.results15,go_sem,k5,k6,kf5,kf6]) rfl ?_; rw [show out = (⟨0,[]⟩,[]) from by rw [HOUT.out,hok]; rfl]; exact ⟨none,some ⟨u1.heap.size,0,none⟩,0,0,rfl,Nat.zero_le _,Nat.zero_le _,.nil _ _ _ _,.nil _ _ _ _,z0b (z0b (z09 HW.out HAL.out) (by show w.heap.size <= w.heap.size + 1; omega) _) (by show w.heap.size <= w.heap.size + 1; omega) _,z20 rfl⟩
 have HOUT : Hid (out = z0t n op xs ys):=zH (by rw [HOUT.out,hok]; rfl); have hnb : NB n:=by have:=(netOk_iff n).1 hok; exact ⟨this.1,this.2.1,this.2.2.1⟩
 obtain ⟨n0,n1,n2⟩:=hnb; clear hok; have HC:=zH (l7Right_any A X c cx n xs u1 HX.out HXI.out hlx hn n0 (by omega))
 go_wp2_with fail
 refine HC.out.mono ?_; rintro e u2 ⟨rfl,hb9⟩; clear HC z0 z1; have HV:=zH ((hb9.block _ (lt_of_block HV.out)).trans HV.out); have HR:=zH ((hb9.block _ (lt_of_block HR.out)).trans HR.out); have HW:=zH (z09 HW.out hb9); have HG:=zH (HG.out.up hb9); have HX:=zH (HX.out.up hb9); have HY:=zH (HY.out.up hb9); clear hb9; have z0:=(z00 HV.out 0).1; have z1:=(z00 HV.out 1).1
 rcases hg : z1m n xs with _ | _
 ·
  have hal : Below u2.heap.size u2 (u2.alloc (.cells #[] 3)):=(Below.refl _ _).alloc (Nat.le_refl _) _; have hr9:=(hal.block _ (lt_of_block HR.out)).trans HR.out; have r0:=(z00 hr9 0).1; have r1:=(z00 hr9 1).1; have rf0:=(z00 hr9 0).2; have rf1:=(z00 hr9 1).2; have hs1:=z04 _ (w.heap.size + 1) 0 (.int .i64 0) _ _ hr9; have hs2:=z04 _ (w.heap.size + 1) 1 (.slice none 0 0) _ _ hs1; have HS2:=zH hs2; have HAL:=zH hal; clear hs1 hs2 hr9 hal
  go_wp2
  have k5:=(z00 HS2.out 0).1; have k6:=(z00 HS2.out 1).1; have kf5:=(z00 HS2.out 0).2; have kf6:=(z00 HS2.out 1).2; refine bodyPost_ret (v:=.tuple #[.agg #[.int .i64 0,.slice none 0 0],.slice (some ⟨u2.heap.size,0,none⟩) 0 0]) (by simp [results,Tryz.results15,go_sem,k5,k6,kf5,kf6]) rfl ?_; rw [show out = (⟨0,[]⟩,[]) from by rw [HOUT.out]; unfold z0t; rw [hg]; rfl]; exact ⟨none,some ⟨u2.heap.size,0,none⟩,0,0,rfl,Nat.zero_le _,Nat.zero_le _,.nil _ _ _ _,.nil _ _ _ _,z0b (z0b (z09 HW.out HAL.out) (by show w.heap.size <= w.heap.size + 1; omega) _) (by show w.heap.size <= w.heap.size + 1; omega) _,z20 rfl⟩
 have HGX:=zH hg; clear hg; have HC:=zH (l7Right_any A Y c cy n ys u2 HY.out HYI.out hly hn n0 (by omega))
 go_wp2_with fail
 refine HC.out.mono ?_; rintro e u3 ⟨rfl,hb9⟩; clear HC z0 z1; have HV:=zH ((hb9.block _ (lt_of_block HV.out)).trans HV.out); have HR:=zH ((hb9.block _ (lt_of_block HR.out)).trans HR.out); have HW:=zH (z09 HW.out hb9); have HG:=zH (HG.out.up hb9); have HX:=zH (HX.out.up hb9); have HY:=zH (HY.out.up hb9); clear hb9; have z0:=(z00 HV.out 0).1; have z1:=(z00 HV.out 1).1
 rcases hg : z1m n ys with _ | _
 ·
  have hal : Below u3.heap.size u3 (u3.alloc (.cells #[] 3)):=(Below.refl _ _).alloc (Nat.le_refl _) _; have hr9:=(hal.block _ (lt_of_block HR.out)).trans HR.out; have r0:=(z00 hr9 0).1; have r1:=(z00 hr9 1).1; have rf0:=(z00 hr9 0).2; have rf1:=(z00 hr9 1).2; have hs1:=z04 _ (w.heap.size + 1) 0 (.int .i64 0) _ _ hr9; have hs2:=z04 _ (w.heap.size + 1) 1 (.slice none 0 0) _ _ hs1; have HS2:=zH hs2; have HAL:=zH hal; clear hs1 hs2 hr9 hal
  go_wp2
  have k5:=(z00 HS2.out 0).1; have k6:=(z00 HS2.out 1).1; have kf5:=(z00 HS2.out 0).2; have kf6:=(z00 HS2.out 1).2; refine bodyPost_ret (v:=.tuple #[.agg #[.int .i64 0,.slice none 0 0],.slice (some ⟨u3.heap.size,0,none⟩) 0 0]) (by simp [results,Tryz.results15,go_sem,k5,k6,kf5,kf6]) rfl ?_; rw [show out = (⟨0,[]⟩,[]) from by rw [HOUT.out]; unfold z0t; rw [hg,HGX.out]; rfl]; exact ⟨none,some ⟨u3.heap.size,0,none⟩,0,0,rfl,Nat.zero_le _,Nat.zero_le _,.nil _ _ _ _,.nil _ _ _ _,z0b (z0b (z09 HW.out HAL.out) (by show w.heap.size <= w.heap.size + 1; omega) _) (by show w.heap.size <= w.heap.size + 1; omega) _,z20 rfl⟩
 have HGY:=zH hg; clear hg
 by_cases hlo9 : op < 3
 ·
  have hal : Below u3.heap.size u3 (u3.alloc (.cells #[] 3)):=(Below.refl _ _).alloc (Nat.le_refl _) _; have hr9:=(hal.block _ (lt_of_block HR.out)).trans HR.out; have r0:=(z00 hr9 0).1; have r1:=(z00 hr9 1).1; have rf0:=(z00 hr9 0).2; have rf1:=(z00 hr9 1).2; have hs1:=z04 _ (w.heap.size + 1) 0 (.int .i64 0) _ _ hr9; have hs2:=z04 _ (w.heap.size + 1) 1 (.slice none 0 0) _ _ hs1; have HS2:=zH hs2; have HAL:=zH hal; clear hs1 hs2 hr9 hal
  go_wp2
  have k5:=(z00 HS2.out 0).1; have k6:=(z00 HS2.out 1).1; have kf5:=(z00 HS2.out 0).2; have kf6:=(z00 HS2.out 1).2; refine bodyPost_ret (v:=.tuple #[.agg #[.int .i64 0,.slice none 0 0],.slice (some ⟨u3.heap.size,0,none⟩) 0 0]) (by simp [results,Tryz.results15,go_sem,k5,k6,kf5,kf6]) rfl ?_; rw [show out = (⟨0,[]⟩,[]) from by rw [HOUT.out]; unfold z0t bitsOk opBin; rw [HGX.out,HGY.out,decide_eq_false (by omega : ¬ 3 <= op)]; rfl]; exact ⟨none,some ⟨u3.heap.size,0,none⟩,0,0,rfl,Nat.zero_le _,Nat.zero_le _,.nil _ _ _ _,.nil _ _ _ _,z0b (z0b (z09 HW.out HAL.out) (by show w.heap.size <= w.heap.size + 1; omega) _) (by show w.heap.size <= w.heap.size + 1; omega) _,z20 rfl⟩
 by_cases hhi9 : 14 < op
 ·
  have hal : Below u3.heap.size u3 (u3.alloc (.cells #[] 3)):=(Below.refl _ _).alloc (Nat.le_refl _) _; have hr9:=(hal.block _ (lt_of_block HR.out)).trans HR.out; have r0:=(z00 hr9 0).1; have r1:=(z00 hr9 1).1; have rf0:=(z00 hr9 0).2; have rf1:=(z00 hr9 1).2; have hs1:=z04 _ (w.heap.size + 1) 0 (.int .i64 0) _ _ hr9; have hs2:=z04 _ (w.heap.size + 1) 1 (.slice none 0 0) _ _ hs1; have HS2:=zH hs2; have HAL:=zH hal; clear hs1 hs2 hr9 hal
  go_wp2
  have k5:=(z00 HS2.out 0).1; have k6:=(z00 HS2.out 1).1; have kf5:=(z00 HS2.out 0).2; have kf6:=(z00 HS2.out 1).2; refine bodyPost_ret (v:=.tuple #[.agg #[.int .i64 0,.slice none 0 0],.slice (some ⟨u3.heap.size,0,none⟩) 0 0]) (by simp [results,Tryz.results15,go_sem,k5,k6,kf5,kf6]) rfl ?_; rw [show out = (⟨0,[]⟩,[]) from by rw [HOUT.out]; unfold z0t bitsOk opBin; rw [HGX.out,HGY.out,decide_eq_false (by omega : ¬ op <= 14)]; simp]; exact ⟨none,some ⟨u3.heap.size,0,none⟩,0,0,rfl,Nat.zero_le _,Nat.zero_le _,.nil _ _ _ _,.nil _ _ _ _,z0b (z0b (z09 HW.out HAL.out) (by show w.heap.size <= w.heap.size + 1; omega) _) (by show w.heap.size <= w.heap.size + 1; omega) _,z20 rfl⟩
 have HOB : Hid (opBin op = true):=zH (by unfold opBin; simp; omega); obtain ⟨l1,l2,m1⟩:=z1h.1 HGX.out; obtain ⟨l3,l4,m2⟩:=z1h.1 HGY.out; have hxr : ∀ x ∈ xs,RB x:=fun x hx => (mark_mb ⟨n0,n1,n2⟩ (m1 x hx)).rb
 have hyr : ∀ y ∈ ys,RB y:=fun y hy => (mark_mb ⟨n0,n1,n2⟩ (m2 y hy)).rb
 have HXR:=zH hxr; have HYR:=zH hyr; clear m1 m2 hxr hyr
 by_cases h14 : op = 14
 ·
  have e14 : (op == 14) = true:=by simpa using h14
  have e14n : (op != 14) = false:=by simpa using h14
  by_cases hle : xs.length + ys.length <= 4
  rotate_left
  ·
   have hgt : decide ((4 : Int) < (xs.length : Int) + (ys.length : Int)) = true:=by simp; omega
   have hal : Below u3.heap.size u3 (u3.alloc (.cells #[] 3)):=(Below.refl _ _).alloc (Nat.le_refl _) _; have hr9:=(hal.block _ (lt_of_block HR.out)).trans HR.out; have r0:=(z00 hr9 0).1; have r1:=(z00 hr9 1).1; have rf0:=(z00 hr9 0).2; have rf1:=(z00 hr9 1).2; have hs1:=z04 _ (w.heap.size + 1) 0 (.int .i64 0) _ _ hr9; have hs2:=z04 _ (w.heap.size + 1) 1 (.slice none 0 0) _ _ hs1; have HS2:=zH hs2; have HAL:=zH hal; clear hs1 hs2 hr9 hal
   go_wp2
   have k5:=(z00 HS2.out 0).1; have k6:=(z00 HS2.out 1).1; have kf5:=(z00 HS2.out 0).2; have kf6:=(z00 HS2.out 1).2; refine bodyPost_ret (v:=.tuple #[.agg #[.int .i64 0,.slice none 0 0],.slice (some ⟨u3.heap.size,0,none⟩) 0 0]) (by simp [results,Tryz.results15,go_sem,k5,k6,kf5,kf6]) rfl ?_; rw [show out = (⟨0,[]⟩,[]) from by rw [HOUT.out]; unfold z0t bitsOk lenBin; rw [HGX.out,HGY.out,HOB.out,if_pos h14,decide_eq_false hle]; rfl]; exact ⟨none,some ⟨u3.heap.size,0,none⟩,0,0,rfl,Nat.zero_le _,Nat.zero_le _,.nil _ _ _ _,.nil _ _ _ _,z0b (z0b (z09 HW.out HAL.out) (by show w.heap.size <= w.heap.size + 1; omega) _) (by show w.heap.size <= w.heap.size + 1; omega) _,z20 rfl⟩
  have hgt : decide ((4 : Int) < (xs.length : Int) + (ys.length : Int)) = false:=by simp; omega
  have HLB : Hid (lenBin op xs ys = true):=zH (by unfold lenBin; rw [if_pos h14]; simpa using hle); have H14:=zH h14; clear h14; have HLN9 : Hid (op ≠ 14 -> xs.length = ys.length):=zH (fun h => absurd H14.out h); have hc9:=l7Bin_any (fun b => b < u3.heap.size) A c (n,true) op X Y cx cy xs ys u3 HG.out (fun _ h => h) hA ⟨n0,n1,n2⟩ ⟨by omega,by omega⟩ HX.out HY.out HXR.out HYR.out HLN9.out (by omega) (by omega) (by omega); dsimp only at hc9; have HC:=zH hc9; have HNN : Hid (NB (run opsR (binP op xs ys) (n,true)).1.1 /\ (run opsR (binP op xs ys) (n,true)).2.length <= 8):=zH (by
   have h9:=bd_runR _ (n,true) (bin_bd z2d HXR.out HYR.out (by omega) HLN9.out HOB.out) ⟨n0,n1,n2⟩; exact ⟨h9.1,by have:=h9.2.2.2; omega⟩)
  have HOUT2 : Hid (out = toldR (run opsR (binP op xs ys) (n,true))):=zH (by rw [HOUT.out]; unfold z0t bitsOk; rw [HGX.out,HGY.out,HOB.out,HLB.out]; exact (told_out _).symm); clear hc9 HOUT; generalize run opsR (binP op xs ys) (n,true) = T at *
  go_wp2_with fail
  refine HC.out.mono ?_; rintro e u5 ⟨A5,c5,B5,d5,rfl,h1,h2,h3,h4,h5,hb9⟩; have H2:=zH (h2.mono fun b hb => hb.elim (fun h9 => Nat.lt_of_lt_of_le h9 hb9.size) (fun h9 => h9.2)); have H4:=zH (h4.mono fun b hb => hb.2); clear h2 h4 h5 HC z0 z1; have HV:=zH ((hb9.block _ (lt_of_block HV.out)).trans HV.out); have HR:=zH ((hb9.block _ (lt_of_block HR.out)).trans HR.out); have HW:=zH (z09 HW.out hb9); clear hb9; have hbn : B5 = none -> T.2.length = 0:=fun e => by
   rcases Nat.eq_zero_or_pos T.2.length with h0 | h0
   · exact h0
   · obtain ⟨ad,e9,_⟩:=H4.out h0; rw [e] at e9; cases e9
  have hln:=HNN.out.2; have hnn:=HNN.out.1.2.2; have HC:=zH (l7Told_any A5 B5 c5 d5 T.1 T.2 u5 H2.out h1 (by omega) H4.out hbn (by omega)); clear hbn hnn hln
  go_wp2_with fail
  refine HC.out.mono ?_; rw [show toldR (T.1,T.2) = out from HOUT2.out.symm]; rintro e u6 ⟨A6,B6,c6,d6,rfl,g1,g2,g3,g4,hb9,hap9⟩; have G3:=zH g3; have G4:=zH g4; have HS:=zH HW.out.size; have HSZ5:=zH (show w.heap.size + 1 < u5.heap.size from lt_of_block HR.out); have HR:=zH ((hb9.block _ (lt_of_block HR.out)).trans HR.out); have HW:=zH (z09 HW.out hb9); clear hb9 g3 g4 HC; have r0:=(z00 HR.out 0).1; have r1:=(z00 HR.out 1).1; have rf0:=(z00 HR.out 0).2; have rf1:=(z00 HR.out 1).2
  go_wp2
  have hs1:=z04 u6 (w.heap.size + 1) 0 (.int .i64 out.1.ins) _ _ HR.out; have hs2:=z04 _ (w.heap.size + 1) 1 (.slice A6 out.1.gs.length c6) _ _ hs1; have hgr : u6.grownBy ((u6.setCell ⟨w.heap.size + 1,0,none⟩ (.int .i64 out.1.ins)).setCell ⟨w.heap.size + 1,1,none⟩ (.slice A6 out.1.gs.length c6)) (some (w.heap.size + 1)):=z06 (z06 (World.grownBy.refl _ _) _ _) _ _; have k5:=(z00 hs2 0).1; have k6:=(z00 hs2 1).1; have kf5:=(z00 hs2 0).2; have kf6:=(z00 hs2 1).2; refine bodyPost_ret (v:=.tuple #[.agg #[.int .i64 out.1.ins,.slice A6 out.1.gs.length c6],.slice B6 out.2.length d6]) (by simp [results,Tryz.results15,go_sem,k5,k6,kf5,kf6]) rfl ?_; exact ⟨A6,B6,c6,d6,rfl,g1,g2,z1y (z1q G3.out hgr HSZ5.out) HS.out,z1y (z1q G4.out hgr HSZ5.out) HS.out,HW.out.grown hgr HW.out.size (fun k hk => by injection hk with hk; omega),hap9⟩
 ·
  have e14 : (op == 14) = false:=by simpa using h14
  have e14n : (op != 14) = true:=by simpa using h14
  by_cases hle : xs.length = ys.length
  rotate_left
  ·
   have hne : ((xs.length : Int) != (ys.length : Int)) = true:=by simpa using (by omega : ¬ (xs.length : Int) = ys.length)
   have hal : Below u3.heap.size u3 (u3.alloc (.cells #[] 3)):=(Below.refl _ _).alloc (Nat.le_refl _) _; have hr9:=(hal.block _ (lt_of_block HR.out)).trans HR.out; have r0:=(z00 hr9 0).1; have r1:=(z00 hr9 1).1; have rf0:=(z00 hr9 0).2; have rf1:=(z00 hr9 1).2; have hs1:=z04 _ (w.heap.size + 1) 0 (.int .i64 0) _ _ hr9; have hs2:=z04 _ (w.heap.size + 1) 1 (.slice none 0 0) _ _ hs1; have HS2:=zH hs2; have HAL:=zH hal; clear hs1 hs2 hr9 hal
   go_wp2
   have k5:=(z00 HS2.out 0).1; have k6:=(z00 HS2.out 1).1; have kf5:=(z00 HS2.out 0).2; have kf6:=(z00 HS2.out 1).2; refine bodyPost_ret (v:=.tuple #[.agg #[.int .i64 0,.slice none 0 0],.slice (some ⟨u3.heap.size,0,none⟩) 0 0]) (by simp [results,Tryz.results15,go_sem,k5,k6,kf5,kf6]) rfl ?_; rw [show out = (⟨0,[]⟩,[]) from by rw [HOUT.out]; unfold z0t bitsOk lenBin; rw [HGX.out,HGY.out,HOB.out,if_neg h14,decide_eq_false hle]; rfl]; exact ⟨none,some ⟨u3.heap.size,0,none⟩,0,0,rfl,Nat.zero_le _,Nat.zero_le _,.nil _ _ _ _,.nil _ _ _ _,z0b (z0b (z09 HW.out HAL.out) (by show w.heap.size <= w.heap.size + 1; omega) _) (by show w.heap.size <= w.heap.size + 1; omega) _,z20 rfl⟩
  have hne : ((xs.length : Int) != (ys.length : Int)) = false:=by rw [hle]; simp
  have HLB : Hid (lenBin op xs ys = true):=zH (by unfold lenBin; rw [if_neg h14]; simpa using hle); have HLE:=zH hle; clear hle h14; have HLN9 : Hid (op ≠ 14 -> xs.length = ys.length):=zH (fun _ => HLE.out); have hc9:=l7Bin_any (fun b => b < u3.heap.size) A c (n,true) op X Y cx cy xs ys u3 HG.out (fun _ h => h) hA ⟨n0,n1,n2⟩ ⟨by omega,by omega⟩ HX.out HY.out HXR.out HYR.out HLN9.out (by omega) (by omega) (by omega); dsimp only at hc9; have HC:=zH hc9; have HNN : Hid (NB (run opsR (binP op xs ys) (n,true)).1.1 /\ (run opsR (binP op xs ys) (n,true)).2.length <= 8):=zH (by
   have h9:=bd_runR _ (n,true) (bin_bd z2d HXR.out HYR.out (by omega) HLN9.out HOB.out) ⟨n0,n1,n2⟩; exact ⟨h9.1,by have:=h9.2.2.2; omega⟩)
  have HOUT2 : Hid (out = toldR (run opsR (binP op xs ys) (n,true))):=zH (by rw [HOUT.out]; unfold z0t bitsOk; rw [HGX.out,HGY.out,HOB.out,HLB.out]; exact (told_out _).symm); clear hc9 HOUT; generalize run opsR (binP op xs ys) (n,true) = T at *
  go_wp2_with fail
  refine HC.out.mono ?_; rintro e u5 ⟨A5,c5,B5,d5,rfl,h1,h2,h3,h4,h5,hb9⟩; have H2:=zH (h2.mono fun b hb => hb.elim (fun h9 => Nat.lt_of_lt_of_le h9 hb9.size) (fun h9 => h9.2)); have H4:=zH (h4.mono fun b hb => hb.2); clear h2 h4 h5 HC z0 z1; have HV:=zH ((hb9.block _ (lt_of_block HV.out)).trans HV.out); have HR:=zH ((hb9.block _ (lt_of_block HR.out)).trans HR.out); have HW:=zH (z09 HW.out hb9); clear hb9; have hbn : B5 = none -> T.2.length = 0:=fun e => by
   rcases Nat.eq_zero_or_pos T.2.length with h0 | h0
   · exact h0
   · obtain ⟨ad,e9,_⟩:=H4.out h0; rw [e] at e9; cases e9
  have hln:=HNN.out.2; have hnn:=HNN.out.1.2.2; have HC:=zH (l7Told_any A5 B5 c5 d5 T.1 T.2 u5 H2.out h1 (by omega) H4.out hbn (by omega)); clear hbn hnn hln
  go_wp2_with fail
  refine HC.out.mono ?_; rw [show toldR (T.1,T.2) = out from HOUT2.out.symm]; rintro e u6 ⟨A6,B6,c6,d6,rfl,g1,g2,g3,g4,hb9,hap9⟩; have G3:=zH g3; have G4:=zH g4; have HS:=zH HW.out.size; have HSZ5:=zH (show w.heap.size + 1 < u5.heap.size from lt_of_block HR.out); have HR:=zH ((hb9.block _ (lt_of_block HR.out)).trans HR.out); have HW:=zH (z09 HW.out hb9); clear hb9 g3 g4 HC; have r0:=(z00 HR.out 0).1; have r1:=(z00 HR.out 1).1; have rf0:=(z00 HR.out 0).2; have rf1:=(z00 HR.out 1).2
  go_wp2
  have hs1:=z04 u6 (w.heap.size + 1) 0 (.int .i64 out.1.ins) _ _ HR.out; have hs2:=z04 _ (w.heap.size + 1) 1 (.slice A6 out.1.gs.length c6) _ _ hs1; have hgr : u6.grownBy ((u6.setCell ⟨w.heap.size + 1,0,none⟩ (.int .i64 out.1.ins)).setCell ⟨w.heap.size + 1,1,none⟩ (.slice A6 out.1.gs.length c6)) (some (w.heap.size + 1)):=z06 (z06 (World.grownBy.refl _ _) _ _) _ _; have k5:=(z00 hs2 0).1; have k6:=(z00 hs2 1).1; have kf5:=(z00 hs2 0).2; have kf6:=(z00 hs2 1).2; refine bodyPost_ret (v:=.tuple #[.agg #[.int .i64 out.1.ins,.slice A6 out.1.gs.length c6],.slice B6 out.2.length d6]) (by simp [results,Tryz.results15,go_sem,k5,k6,kf5,kf6]) rfl ?_; exact ⟨A6,B6,c6,d6,rfl,g1,g2,z1y (z1q G3.out hgr HSZ5.out) HS.out,z1y (z1q G4.out hgr HSZ5.out) HS.out,HW.out.grown hgr HW.out.size (fun k hk => by injection hk with hk; omega),hap9⟩
def binS (n : N) (op : Int) (xs ys : List Int) : BS × List Int :=
 if op = 14 then catS n xs ys else if xs.length = ys.length /\ opBin op = true then run opsP (binP op xs ys) ⟨n,none⟩ else (⟨n,some 0⟩,[])
theorem bin_ans {n : N} {op : Int} {xs ys : List Int} : binZ n xs ys (binS n op xs ys) = z0t n op xs ys:=by
 unfold binZ z0t bitsOk
 cases hg : (z1m n xs && z1m n ys)
 · simp
 ·
  unfold binS
  by_cases h14 : op = 14
  ·
   subst h14; have ho : opBin 14 = true:=by decide
   rw [if_pos rfl,if_pos rfl,ho]; unfold lenBin catS bitsOut; rw [if_pos rfl]
   by_cases hl : xs.length + ys.length <= 4
   ·
    have h1 : decide (4 < xs.length + ys.length) = false:=by simp; omega
    rw [h1,decide_eq_true hl]
    rfl
   ·
    have h1 : decide (4 < xs.length + ys.length) = true:=by simp; omega
    rw [h1,decide_eq_false hl]
    rfl
  ·
   rw [if_neg h14,if_pos rfl]; unfold lenBin; rw [if_neg h14]
   by_cases hl : xs.length = ys.length
   ·
    cases ho : opBin op
    · rw [if_neg (by simp)]; simp [bitsOut]
    · rw [if_pos ⟨hl,rfl⟩,decide_eq_true hl]; simp
   · rw [if_neg (fun h => hl h.1),decide_eq_false hl]; simp [bitsOut]
set_option maxRecDepth 100000 in
set_option maxHeartbeats 16000000 in
theorem bBin_any (n : N) (op : Int) (xs ys : List Int) (hop : z15 op) (hgx : z1m n xs = true) (hgy : z1m n ys = true) : BinC op n xs ys (binS n op xs ys):=by
 intro a0 a1 lo q r X Y cx cy w h hX hY; obtain ⟨l1,l2,m1⟩:=z1h.1 hgx; obtain ⟨l3,l4,m2⟩:=z1h.1 hgy; have hxm : ∀ x ∈ xs,MB x:=fun x hx => mark_mb h.nb (m1 x hx)
 have hym : ∀ y ∈ ys,MB y:=fun y hy => mark_mb h.nb (m2 y hy)
 have HXM:=zH hxm; have HYM:=zH hym; clear m1 m2 hxm hym hgx hgy; unfold z15 at hop; obtain ⟨hop0,hop1⟩:=hop
 by_cases h14 : op = 14
 ·
  subst h14; rw [show binS n 14 xs ys = catS n xs ys from if_pos rfl]; exact bCat_any a0 a1 lo q r n X Y cx cy xs ys w h hX hY (sl_nonnil hX) (sl_nonnil hY) HXM.out HYM.out (by omega) (by omega)
 have e14 : (op == 14) = false:=by simpa using h14
 have H14:=zH h14; have HBD:=zH h; have HX:=zH hX; have HY:=zH hY; have hlo:=h.size; have g0:=h.g.c0; have hv : errV a0 a1 (some 0) = z28 a0:=rfl; clear h14
 by_cases hl : xs.length = ys.length
 rotate_left
 ·
  have hne : ((xs.length : Int) != (ys.length : Int)) = true:=by simpa using (by omega : ¬ (xs.length : Int) = ys.length)
  have HF:=zH (fail_any a0 a1 lo q r none true 0 w h.toBx); rw [hv] at HF; rw [show binS n op xs ys = (⟨n,some 0⟩,[]) by unfold binS; rw [if_neg H14.out,if_neg (fun h => hl h.1)]]; clear h hX hY hv hl
  go_enter Tryz.func36,Tryz.ntmps36
  go_wp2_with fail
  refine HF.out.mono ?_; rintro e w1 ⟨rfl,hb1,hx1,hk1⟩; have y1:=(z00 hx1.box 1).1; rw [show z1g none true 0 = some 0 from rfl] at y1 hx1; have y2 : w1.cell? ⟨q,1,none⟩ = some (z28 a0):=y1; have HB1:=zH hb1; have HD1:=zH (Bx.bd HBD.out hx1 hk1 (fun h => by cases h)); clear hb1 hx1 hk1 HF g0 y1
  go_wp2
  go_ret
  exact ⟨none,0,rfl,Nat.zero_le _,.nil _ _ _ _,(fun m hm => by cases hm),HB1.out,HD1.out⟩
 have hne : ((xs.length : Int) != (ys.length : Int)) = false:=by rw [hl]; simp
 have HL:=zH hl; have HF:=zH (fail_any a0 a1 lo q r none false 0 w h.toBx); rw [hv] at HF; have y1:=(z00 h.box 1).1; clear h hX hY hv hl
 by_cases ho : opBin op = true
 rotate_left
 ·
  have hoo : (op == 3) = false /\ (op == 4) = false /\ (op == 5) = false /\ (op == 6) = false /\ (op == 7) = false /\ (op == 8) = false /\ (op == 9) = false /\ (op == 10) = false /\ (op == 11) = false /\ (op == 12) = false /\ (op == 13) = false:=by
   unfold opBin at ho; simp only [Bool.and_eq_true,decide_eq_true_eq] at ho; refine ⟨?_,?_,?_,?_,?_,?_,?_,?_,?_,?_,?_⟩ <;> (rw [beq_eq_false_iff_ne]; omega)
  obtain ⟨o3,o4,o5,o6,o7,o8,o9,o10,o11,o12,o13⟩:=hoo; rw [show binS n op xs ys = (⟨n,some 0⟩,[]) by unfold binS; rw [if_neg H14.out,if_neg (fun h => ho h.2)]]; clear ho y1
  go_enter Tryz.func36,Tryz.ntmps36
  go_wp2_with fail
  refine HF.out.mono ?_; rintro e w1 ⟨rfl,hb1,hx1,hk1⟩; rw [show z1g none false 0 = none from rfl] at hx1; have y1 : w1.cell? ⟨q,1,none⟩ = some .nilIface:=(z00 hx1.box 1).1; have g1:=hx1.g.c0; have HB1:=zH hb1; have HD1:=zH (Bx.bd HBD.out hx1 hk1 (fun _ => rfl)); have HF:=zH (fail_any a0 a1 lo q r none true 0 w1 hx1); rw [show errV a0 a1 (some 0) = z28 a0 from rfl] at HF; clear hb1 hx1 hk1 g0
  go_wp2_with fail
  refine HF.out.mono ?_; rintro e w2 ⟨rfl,hb2,hx2,hk2⟩; have HB2:=zH (HB1.out.trans hb2); have HD2:=zH (Bx.bd HD1.out hx2 hk2 (fun h => by cases h)); clear hb2 hx2 hk2 HF y1 g1
  go_wp2
  go_ret
  exact ⟨none,0,rfl,Nat.zero_le _,.nil _ _ _ _,(fun m hm => by cases hm),HB2.out,HD2.out⟩
 have HBS : Hid (binS n op xs ys = run opsP (binP op xs ys) ⟨n,none⟩):=zH (by unfold binS; rw [if_neg H14.out,if_pos ⟨HL.out,ho⟩]); rw [HBS.out]; have hops : op = 3 \/ op = 4 \/ op = 5 \/ op = 6 \/ op = 7 \/ op = 8 \/ op = 9 \/ op = 10 \/ op = 11 \/ op = 12 \/ op = 13:=by
  have:=H14.out; unfold opBin at ho; simp only [Bool.and_eq_true,decide_eq_true_eq] at ho; omega
 clear ho hop0 hop1 HBS y1 e14 H14; have hlx : xs.length <= 1000:=by omega
 rcases hops with rfl | rfl | rfl | rfl | rfl | rfl | rfl | rfl | rfl | rfl | rfl
 ·
  rw [show binP 3 xs ys = z0v (fun x y => PG.and x y PG.ret) xs ys from rfl]; generalize hT : run opsP (z0v (fun x y => PG.and x y PG.ret) xs ys) ⟨n,none⟩ = T at *; have HT:=zH hT; clear hT
  go_enter Tryz.func36,Tryz.ntmps36
  go_wp2_with fail
  refine HF.out.mono ?_; rintro e w1 ⟨rfl,hb1,hx1,hk1⟩; rw [show z1g none false 0 = none from rfl] at hx1; have y1 : w1.cell? ⟨q,1,none⟩ = some .nilIface:=(z00 hx1.box 1).1; have HB1:=zH hb1; have HD1:=zH (Bx.bd HBD.out hx1 hk1 (fun _ => rfl)); have HX1:=zH (HX.out.upB hb1); have HY1:=zH (HY.out.upB hb1); clear hb1 hx1 hk1 g0 HF; have HC:=zH (each_and a0 a1 lo q r X Y cx cy xs ys ⟨n,none⟩ w1 (fun _ => True) trivial (fun _ _ => trivial) HD1.out HX1.out HY1.out HXM.out HYM.out HL.out hlx (fun x y s z hz hx hy _ => bAnd_any a0 a1 lo q r s x y z hz hx hy) (fun x y s hs hx hy => (z1e hs hx.rb hy.rb).2)); rw [HT.out] at HC
  go_wp2_with fail
  refine HC.out.mono ?_; rintro e w2 ⟨A2,c2,rfl,h1,h2,h3,h4,h5⟩; have H2:=zH h2; have H3:=zH h3; have H4:=zH (HB1.out.trans h4); have H5:=zH h5; clear h2 h3 h4 h5 HC y1
  go_wp2
  go_ret
  exact ⟨A2,c2,rfl,h1,H2.out,H3.out,H4.out,H5.out⟩
 ·
  rw [show binP 4 xs ys = z0v orP xs ys from rfl]; generalize hT : run opsP (z0v orP xs ys) ⟨n,none⟩ = T at *; have HT:=zH hT; clear hT
  go_enter Tryz.func36,Tryz.ntmps36
  go_wp2_with fail
  refine HF.out.mono ?_; rintro e w1 ⟨rfl,hb1,hx1,hk1⟩; rw [show z1g none false 0 = none from rfl] at hx1; have y1 : w1.cell? ⟨q,1,none⟩ = some .nilIface:=(z00 hx1.box 1).1; have HB1:=zH hb1; have HD1:=zH (Bx.bd HBD.out hx1 hk1 (fun _ => rfl)); have HX1:=zH (HX.out.upB hb1); have HY1:=zH (HY.out.upB hb1); clear hb1 hx1 hk1 g0 HF; have HC:=zH (each_or a0 a1 lo q r X Y cx cy xs ys ⟨n,none⟩ w1 (fun _ => True) trivial (fun _ _ => trivial) HD1.out HX1.out HY1.out HXM.out HYM.out HL.out hlx (fun x y s z hz hx hy _ => bOr_any a0 a1 lo q r s x y z hz hx hy) (fun x y s hs hx hy => (or_mb hs hx.rb hy.rb).2)); rw [HT.out] at HC
  go_wp2_with fail
  refine HC.out.mono ?_; rintro e w2 ⟨A2,c2,rfl,h1,h2,h3,h4,h5⟩; have H2:=zH h2; have H3:=zH h3; have H4:=zH (HB1.out.trans h4); have H5:=zH h5; clear h2 h3 h4 h5 HC y1
  go_wp2
  go_ret
  exact ⟨A2,c2,rfl,h1,H2.out,H3.out,H4.out,H5.out⟩
 ·
  rw [show binP 5 xs ys = z0v (fun x y => PG.xor x y PG.ret) xs ys from rfl]; generalize hT : run opsP (z0v (fun x y => PG.xor x y PG.ret) xs ys) ⟨n,none⟩ = T at *; have HT:=zH hT; clear hT
  go_enter Tryz.func36,Tryz.ntmps36
  go_wp2_with fail
  refine HF.out.mono ?_; rintro e w1 ⟨rfl,hb1,hx1,hk1⟩; rw [show z1g none false 0 = none from rfl] at hx1; have y1 : w1.cell? ⟨q,1,none⟩ = some .nilIface:=(z00 hx1.box 1).1; have HB1:=zH hb1; have HD1:=zH (Bx.bd HBD.out hx1 hk1 (fun _ => rfl)); have HX1:=zH (HX.out.upB hb1); have HY1:=zH (HY.out.upB hb1); clear hb1 hx1 hk1 g0 HF; have HC:=zH (each_xor a0 a1 lo q r X Y cx cy xs ys ⟨n,none⟩ w1 (fun _ => True) trivial (fun _ _ => trivial) HD1.out HX1.out HY1.out HXM.out HYM.out HL.out hlx (fun x y s z hz hx hy _ => bXor_any a0 a1 lo q r s x y z hz hx hy) (fun x y s hs hx hy => (opsP_xor_mb hs hx.rb hy.rb).2)); rw [HT.out] at HC
  go_wp2_with fail
  refine HC.out.mono ?_; rintro e w2 ⟨A2,c2,rfl,h1,h2,h3,h4,h5⟩; have H2:=zH h2; have H3:=zH h3; have H4:=zH (HB1.out.trans h4); have H5:=zH h5; clear h2 h3 h4 h5 HC y1
  go_wp2
  go_ret
  exact ⟨A2,c2,rfl,h1,H2.out,H3.out,H4.out,H5.out⟩
 ·
  rw [show binP 6 xs ys = sumP xs ys (-1) from rfl]; generalize hT : run opsP (sumP xs ys (-1)) ⟨n,none⟩ = T at *; have HT:=zH hT; clear hT
  go_enter Tryz.func36,Tryz.ntmps36
  go_wp2_with fail
  refine HF.out.mono ?_; rintro e w1 ⟨rfl,hb1,hx1,hk1⟩; rw [show z1g none false 0 = none from rfl] at hx1; have y1 : w1.cell? ⟨q,1,none⟩ = some .nilIface:=(z00 hx1.box 1).1; have HB1:=zH hb1; have HD1:=zH (Bx.bd HBD.out hx1 hk1 (fun _ => rfl)); have HX1:=zH (HX.out.upB hb1); have HY1:=zH (HY.out.upB hb1); clear hb1 hx1 hk1 g0 HF; have HC:=zH (bSum_any a0 a1 lo q r (-1) X Y cx cy xs ys ⟨n,none⟩ w1 HD1.out bok_mb.off HX1.out HY1.out HXM.out HYM.out HL.out hlx); rw [HT.out] at HC
  go_wp2_with fail
  refine HC.out.mono ?_; rintro e w2 ⟨A2,c2,rfl,h1,h2,h3,h4,h5⟩; have H2:=zH h2; have H3:=zH h3; have H4:=zH (HB1.out.trans h4); have H5:=zH h5; clear h2 h3 h4 h5 HC y1
  go_wp2
  go_ret
  exact ⟨A2,c2,rfl,h1,H2.out,H3.out,H4.out,H5.out⟩
 ·
  obtain ⟨ns,hns⟩ : ∃ ns,ns = ys.map Neg.neg:=⟨_,rfl⟩; rw [show binP 7 xs ys = sumP xs (ys.map Neg.neg) 1 from rfl,<- hns]; have HNS:=zH hns; have HNM : Hid (∀ m ∈ ns,MB m):=zH fun m hm => by
   rw [hns] at hm; obtain ⟨z,hz,rfl⟩:=List.mem_map.1 hm; exact (HYM.out z hz).neg
  have HNL : Hid (xs.length = ns.length):=zH (by rw [hns,List.length_map]; exact HL.out); generalize hT : run opsP (sumP xs ns 1) ⟨n,none⟩ = T at *; have HT:=zH hT; clear hT hns
  go_enter Tryz.func36,Tryz.ntmps36
  go_wp2_with fail
  refine HF.out.mono ?_; rintro e w1 ⟨rfl,hb1,hx1,hk1⟩; rw [show z1g none false 0 = none from rfl] at hx1; have y1 : w1.cell? ⟨q,1,none⟩ = some .nilIface:=(z00 hx1.box 1).1; have HB1:=zH hb1; have HD1:=zH (Bx.bd HBD.out hx1 hk1 (fun _ => rfl)); have HX1:=zH (HX.out.upB hb1); have HY1:=zH (HY.out.upB hb1); clear hb1 hx1 hk1 g0 HF; have HC:=zH (negated_any a0 a1 lo q r Y cy ys ⟨n,none⟩ w1 HD1.out HY1.out HYM.out (by omega)); rw [<- HNS.out] at HC
  go_wp2_with fail
  refine HC.out.mono ?_; rintro e w5 ⟨A5,c5,rfl,hc5,hp5,hm5,hb5,hd5⟩; dsimp only at hc5 hp5 hm5 hd5; have HC:=zH (bSum_any a0 a1 lo q r 1 X A5 cx c5 xs ns ⟨n,none⟩ w5 hd5 bok_mb.one (HX1.out.upB hb5) hp5 HXM.out HNM.out HNL.out hlx); rw [HT.out] at HC; have HB1:=zH (HB1.out.trans hb5); clear hc5 hp5 hm5 hb5 hd5
  go_wp2_with fail
  refine HC.out.mono ?_; rintro e w2 ⟨A2,c2,rfl,h1,h2,h3,h4,h5⟩; have H2:=zH h2; have H3:=zH h3; have H4:=zH (HB1.out.trans h4); have H5:=zH h5; clear h2 h3 h4 h5 HC y1
  go_wp2
  go_ret
  exact ⟨A2,c2,rfl,h1,H2.out,H3.out,H4.out,H5.out⟩
 ·
  rw [show binP 8 xs ys = mulP xs ys 0 (List.replicate xs.length (-1)) from rfl]; generalize hT : run opsP (mulP xs ys 0 (List.replicate xs.length (-1))) ⟨n,none⟩ = T at *; have HT:=zH hT; clear hT
  go_enter Tryz.func36,Tryz.ntmps36
  go_wp2_with fail
  refine HF.out.mono ?_; rintro e w1 ⟨rfl,hb1,hx1,hk1⟩; rw [show z1g none false 0 = none from rfl] at hx1; have y1 : w1.cell? ⟨q,1,none⟩ = some .nilIface:=(z00 hx1.box 1).1; have HB1:=zH hb1; have HD1:=zH (Bx.bd HBD.out hx1 hk1 (fun _ => rfl)); have HX1:=zH (HX.out.upB hb1); have HY1:=zH (HY.out.upB hb1); clear hb1 hx1 hk1 g0 HF; have HC:=zH (bMul_any a0 a1 lo q r X Y cx cy xs ys ⟨n,none⟩ w1 HD1.out HX1.out HY1.out HXM.out HYM.out HL.out (by omega)); rw [HT.out] at HC
  go_wp2_with fail
  refine HC.out.mono ?_; rintro e w2 ⟨A2,c2,rfl,h1,h2,h3,h4,h5⟩; have H2:=zH h2; have H3:=zH h3; have H4:=zH (HB1.out.trans h4); have H5:=zH h5; clear h2 h3 h4 h5 HC y1
  go_wp2
  go_ret
  exact ⟨A2,c2,rfl,h1,H2.out,H3.out,H4.out,H5.out⟩
 ·
  rw [show run opsP (binP 9 xs ys) ⟨n,none⟩ = ((run opsP (divP xs (ys ++ [-1]) xs.length (List.replicate xs.length (-1)) (List.replicate xs.length (-1))) ⟨n,none⟩).1,(run opsP (divP xs (ys ++ [-1]) xs.length (List.replicate xs.length (-1)) (List.replicate xs.length (-1))) ⟨n,none⟩).2.1) from by rw [show binP 9 xs ys = (divP xs (ys ++ [-1]) xs.length (List.replicate xs.length (-1)) (List.replicate xs.length (-1))).bind fun z => .ret z.1 from rfl,run_bind]; rfl]; generalize hT : run opsP (divP xs (ys ++ [-1]) xs.length (List.replicate xs.length (-1)) (List.replicate xs.length (-1))) ⟨n,none⟩ = T at *; have HT:=zH hT; clear hT
  go_enter Tryz.func36,Tryz.ntmps36
  go_wp2_with fail
  refine HF.out.mono ?_; rintro e w1 ⟨rfl,hb1,hx1,hk1⟩; rw [show z1g none false 0 = none from rfl] at hx1; have y1 : w1.cell? ⟨q,1,none⟩ = some .nilIface:=(z00 hx1.box 1).1; have HB1:=zH hb1; have HD1:=zH (Bx.bd HBD.out hx1 hk1 (fun _ => rfl)); have HX1:=zH (HX.out.upB hb1); have HY1:=zH (HY.out.upB hb1); clear hb1 hx1 hk1 g0 HF; have HC:=zH (bDivide_any a0 a1 lo q r X Y cx cy xs ys ⟨n,none⟩ w1 HD1.out HX1.out HY1.out HXM.out HYM.out HL.out (by omega) (by omega)); rw [HT.out] at HC
  go_wp2_with fail
  refine HC.out.mono ?_; rintro e w2 ⟨A2,c2,A3,c3,rfl,⟨h1,h2,h3⟩,⟨k1,k2,k3⟩,h4,h5⟩; have H2:=zH (And.intro h2 h3); have K2:=zH (And.intro k2 k3); have H4:=zH (HB1.out.trans h4); have H5:=zH h5; clear h2 h3 k2 k3 h4 h5 HC y1
  go_wp2
  go_ret
  exact ⟨A2,c2,rfl,h1,H2.out.1,H2.out.2,H4.out,H5.out⟩
 ·
  rw [show run opsP (binP 10 xs ys) ⟨n,none⟩ = ((run opsP (divP xs (ys ++ [-1]) xs.length (List.replicate xs.length (-1)) (List.replicate xs.length (-1))) ⟨n,none⟩).1,(run opsP (divP xs (ys ++ [-1]) xs.length (List.replicate xs.length (-1)) (List.replicate xs.length (-1))) ⟨n,none⟩).2.2) from by rw [show binP 10 xs ys = (divP xs (ys ++ [-1]) xs.length (List.replicate xs.length (-1)) (List.replicate xs.length (-1))).bind fun z => .ret z.2 from rfl,run_bind]; rfl]; generalize hT : run opsP (divP xs (ys ++ [-1]) xs.length (List.replicate xs.length (-1)) (List.replicate xs.length (-1))) ⟨n,none⟩ = T at *; have HT:=zH hT; clear hT
  go_enter Tryz.func36,Tryz.ntmps36
  go_wp2_with fail
  refine HF.out.mono ?_; rintro e w1 ⟨rfl,hb1,hx1,hk1⟩; rw [show z1g none false 0 = none from rfl] at hx1; have y1 : w1.cell? ⟨q,1,none⟩ = some .nilIface:=(z00 hx1.box 1).1; have HB1:=zH hb1; have HD1:=zH (Bx.bd HBD.out hx1 hk1 (fun _ => rfl)); have HX1:=zH (HX.out.upB hb1); have HY1:=zH (HY.out.upB hb1); clear hb1 hx1 hk1 g0 HF; have HC:=zH (bDivide_any a0 a1 lo q r X Y cx cy xs ys ⟨n,none⟩ w1 HD1.out HX1.out HY1.out HXM.out HYM.out HL.out (by omega) (by omega)); rw [HT.out] at HC
  go_wp2_with fail
  refine HC.out.mono ?_; rintro e w2 ⟨A2,c2,A3,c3,rfl,⟨h1,h2,h3⟩,⟨k1,k2,k3⟩,h4,h5⟩; have H2:=zH (And.intro h2 h3); have K2:=zH (And.intro k2 k3); have H4:=zH (HB1.out.trans h4); have H5:=zH h5; clear h2 h3 k2 k3 h4 h5 HC y1
  go_wp2
  go_ret
  exact ⟨A3,c3,rfl,k1,K2.out.1,K2.out.2,H4.out,H5.out⟩
 ·
  rw [show binP 11 xs ys = z0z true (-1) ys 0 xs from rfl]; generalize hT : run opsP (z0z true (-1) ys 0 xs) ⟨n,none⟩ = T at *; have HT:=zH hT; clear hT
  go_enter Tryz.func36,Tryz.ntmps36
  go_wp2_with fail
  refine HF.out.mono ?_; rintro e w1 ⟨rfl,hb1,hx1,hk1⟩; rw [show z1g none false 0 = none from rfl] at hx1; have y1 : w1.cell? ⟨q,1,none⟩ = some .nilIface:=(z00 hx1.box 1).1; have HB1:=zH hb1; have HD1:=zH (Bx.bd HBD.out hx1 hk1 (fun _ => rfl)); have HX1:=zH (HX.out.upB hb1); have HY1:=zH (HY.out.upB hb1); clear hb1 hx1 hk1 g0 HF; have HC:=zH (bShift_up a0 a1 lo q r (-1) X Y cx cy xs ys ⟨n,none⟩ w1 HD1.out bok_mb.off HX1.out HY1.out HXM.out HYM.out (by omega) (by omega) (by omega)); rw [HT.out] at HC
  go_wp2_with fail
  refine HC.out.mono ?_; rintro e w2 ⟨A2,c2,rfl,h1,h2,h3,h4,h5⟩; have H2:=zH h2; have H3:=zH h3; have H4:=zH (HB1.out.trans h4); have H5:=zH h5; clear h2 h3 h4 h5 HC y1
  go_wp2
  go_ret
  exact ⟨A2,c2,rfl,h1,H2.out,H3.out,H4.out,H5.out⟩
 ·
  rw [show binP 12 xs ys = z0z false (-1) ys 0 xs from rfl]; generalize hT : run opsP (z0z false (-1) ys 0 xs) ⟨n,none⟩ = T at *; have HT:=zH hT; clear hT
  go_enter Tryz.func36,Tryz.ntmps36
  go_wp2_with fail
  refine HF.out.mono ?_; rintro e w1 ⟨rfl,hb1,hx1,hk1⟩; rw [show z1g none false 0 = none from rfl] at hx1; have y1 : w1.cell? ⟨q,1,none⟩ = some .nilIface:=(z00 hx1.box 1).1; have HB1:=zH hb1; have HD1:=zH (Bx.bd HBD.out hx1 hk1 (fun _ => rfl)); have HX1:=zH (HX.out.upB hb1); have HY1:=zH (HY.out.upB hb1); clear hb1 hx1 hk1 g0 HF; have HC:=zH (bShift_down a0 a1 lo q r (-1) X Y cx cy xs ys ⟨n,none⟩ w1 HD1.out bok_mb.off HX1.out HY1.out HXM.out HYM.out (by omega) (by omega) (by omega)); rw [HT.out] at HC
  go_wp2_with fail
  refine HC.out.mono ?_; rintro e w2 ⟨A2,c2,rfl,h1,h2,h3,h4,h5⟩; have H2:=zH h2; have H3:=zH h3; have H4:=zH (HB1.out.trans h4); have H5:=zH h5; clear h2 h3 h4 h5 HC y1
  go_wp2
  go_ret
  exact ⟨A2,c2,rfl,h1,H2.out,H3.out,H4.out,H5.out⟩
 ·
  obtain ⟨j,hj⟩ : ∃ j : Nat,j + 1 = xs.length:=⟨xs.length - 1,by omega⟩; have hjx : j < xs.length:=by omega
  have hjI : (xs.length : Int) - 1 = (j : Int):=by omega
  obtain ⟨fl,hfl⟩ : ∃ fl,fl = xs[j]:=⟨_,rfl⟩; have HFL : Hid (MB fl):=zH (by rw [hfl]; exact HXM.out _ (List.getElem_mem _)); rw [show binP 13 xs ys = z0z false fl ys 0 xs from by rw [show binP 13 xs ys = z0z false (xs.getD (xs.length - 1) 0) ys 0 xs from rfl,show xs.length - 1 = j by omega,getD_at hjx,hfl]]; generalize hT : run opsP (z0z false fl ys 0 xs) ⟨n,none⟩ = T at *; have HT:=zH hT; have HFE:=zH hfl; clear hT hfl hj; have hjx2 : (j : Int) < xs.length:=by omega
  go_enter Tryz.func36,Tryz.ntmps36
  go_wp2_with fail
  refine HF.out.mono ?_; rintro e w1 ⟨rfl,hb1,hx1,hk1⟩; rw [show z1g none false 0 = none from rfl] at hx1; have y1 : w1.cell? ⟨q,1,none⟩ = some .nilIface:=(z00 hx1.box 1).1; have HB1:=zH hb1; have HD1:=zH (Bx.bd HBD.out hx1 hk1 (fun _ => rfl)); have HX1:=zH (HX.out.upB hb1); have HY1:=zH (HY.out.upB hb1); clear hb1 hx1 hk1 g0 HF; obtain ⟨adx,rfl,-,cx9⟩:=HX1.out.at_int hjx; rw [<- HFE.out] at cx9; have HC:=zH (bShift_down a0 a1 lo q r fl (some adx) Y cx cy xs ys ⟨n,none⟩ w1 HD1.out HFL.out HX1.out HY1.out HXM.out HYM.out (by omega) (by omega) (by omega)); rw [HT.out] at HC
  go_wp2_with fail
  clear cx9; refine HC.out.mono ?_; rintro e w2 ⟨A2,c2,rfl,h1,h2,h3,h4,h5⟩; have H2:=zH h2; have H3:=zH h3; have H4:=zH (HB1.out.trans h4); have H5:=zH h5; clear h2 h3 h4 h5 HC y1
  go_wp2
  go_ret
  exact ⟨A2,c2,rfl,h1,H2.out,H3.out,H4.out,H5.out⟩
end Go.Proofs.YtemdmlmcidfodaaGreatDoor
namespace Go.Proofs.YtemdmlmcidfodaaGreatDoor
open Go Go.RowKit Go.ChangeShapes Go.WideShapes Go.ChangeAt Go.Deep
theorem bitsBin_len {n : N} {op : Int} {xs ys : List Int} : (pickN (z0q n) (z0t n op xs ys)).1.gs.length <= 1048576 /\ (pickN (z0q n) (z0t n op xs ys)).2.length <= 1048576:=pickN_len fun hok => by
 unfold z0t bitsOk
 split
 ·
  rename_i hc
  simp only [Bool.and_eq_true] at hc; obtain ⟨⟨⟨hx,hy⟩,ho⟩,hl⟩:=hc; have hn:=(netOk_iff n).1 hok; have hnb : NB n:=⟨hn.1,hn.2.1,hn.2.2.1⟩; obtain ⟨l1,l2,m1⟩:=z1h.1 hx; obtain ⟨l3,l4,m2⟩:=z1h.1 hy; rw [<- told_out]; unfold toldR
  split
  ·
   dsimp only; have h1:=bd_runR _ (n,true) (bin_bd z2d (fun x hx => (mark_mb hnb (m1 x hx)).rb) (fun y hy => (mark_mb hnb (m2 y hy)).rb) (by omega) (fun h14 => by unfold lenBin at hl; rw [if_neg h14] at hl; simpa using hl) ho) hnb; have h2:=h1.1.2.2; have h3:=h1.2.2.2; exact ⟨by omega,by omega⟩
  · exact ⟨Nat.zero_le _,Nat.zero_le _⟩
 · exact ⟨Nat.zero_le _,Nat.zero_le _⟩
theorem binS_len {n : N} {op : Int} {xs ys : List Int} (hnb : NB n) (hx : z1m n xs = true) (hy : z1m n ys = true) : (binS n op xs ys).2.length <= 1000:=by
 obtain ⟨l1,l2,m1⟩:=z1h.1 hx; obtain ⟨l3,l4,m2⟩:=z1h.1 hy; unfold binS
 split
 · unfold catS; simp; omega
 ·
  rename_i h14
  split
  ·
   rename_i h
   have h1:=(bd_runP _ ⟨n,none⟩ (bin_bd bok_mb (fun x hx => mark_mb hnb (m1 x hx)) (fun y hy => mark_mb hnb (m2 y hy)) (by omega) (fun _ => h.1) h.2) hnb).2.2.2
   omega
  · exact Nat.zero_le _
theorem implBitsBin_v (a0 a1 : Addr) (l0 : Nat) (x0 : N) (A : Option Addr) (c : Nat) (x1 : Int) (x2 : List Int) (X : Option Addr) (cx : Nat) (x3 : List Int) (Y : Option Addr) (cy : Nat) (w : World) (h : Lay.gate.Rd w A x0.gs) (hX : Lay.int.Rd w X x2) (hY : Lay.int.Rd w Y x3) (s0 : smNet x0) (s1 : z15 x1) (s2 : smInts x2) (s3 : smInts x3) (hg : Glb a0 a1 l0 w) (hl : l0 <= w.heap.size) :
  Calls Tryz.prog 10 #[.agg #[.int .i64 x0.ins,.slice A x0.gs.length c],.int .i64 x1,.slice X x2.length cx,.slice Y x3.length cy] w (RetBits (pickN (z0q x0) (z0t x0 x1 x2 x3)) w):=by
 rcases hok : z0q x0 with _ | _
 ·
  have:=implBitsBin_any a0 a1 l0 x0 x1 x2 x3 A X Y c cx cy w hg hl h s0.1 (sl_nonnil h) s0.2.1 hX hY s2.2 s3.2 (⟨x0,none⟩,[]) (fun h => by rw [hok] at h; cases h) (Nat.zero_le _) s2.1 s3.1; rw [hok] at this; exact this
 ·
  have hn:=(netOk_iff x0).1 hok; have hnb : NB x0:=⟨hn.1,hn.2.1,hn.2.2.1⟩
  by_cases hgg : (z1m x0 x2 && z1m x0 x3) = true
  ·
   have hg2:=hgg; rw [Bool.and_eq_true] at hg2; have:=implBitsBin_any a0 a1 l0 x0 x1 x2 x3 A X Y c cx cy w hg hl h s0.1 (sl_nonnil h) s0.2.1 hX hY s2.2 s3.2 (binS x0 x1 x2 x3) (fun _ h1 h2 => bBin_any x0 x1 x2 x3 s1 h1 h2) (binS_len hnb hg2.1 hg2.2) s2.1 s3.1; rw [bin_ans,hok] at this; exact this
  ·
   have:=implBitsBin_any a0 a1 l0 x0 x1 x2 x3 A X Y c cx cy w hg hl h s0.1 (sl_nonnil h) s0.2.1 hX hY s2.2 s3.2 (⟨x0,none⟩,[]) (fun _ h1 h2 => absurd (by rw [h1,h2]; rfl) hgg) (Nat.zero_le _) s2.1 s3.1; rw [hok] at this; rw [show z0t x0 x1 x2 x3 = binZ x0 x2 x3 (⟨x0,none⟩,[]) by
    rw [<- bin_ans]; unfold binZ; rw [if_neg hgg,if_neg hgg]]
   exact this
theorem specBitsBin_v (x0 : N) (A : Option Addr) (c : Nat) (x1 : Int) (x2 : List Int) (X : Option Addr) (cx : Nat) (x3 : List Int) (Y : Option Addr) (cy : Nat) (w : World) (h : Lay.gate.Rd w A x0.gs) (hX : Lay.int.Rd w X x2) (hY : Lay.int.Rd w Y x3) (s0 : smNet x0) (s1 : z15 x1) (s2 : smInts x2) (s3 : smInts x3) :
  Calls Tryz.prog 15 #[.agg #[.int .i64 x0.ins,.slice A x0.gs.length c],.int .i64 x1,.slice X x2.length cx,.slice Y x3.length cy] w (RetBits (pickN (z0q x0) (z0t x0 x1 x2 x3)) w) :=
 specBitsBin_any x0 x1 x2 x3 A X Y c cx cy w h s0.1 (sl_nonnil h) s0.2.1 hX hY s2.2 s3.2 s1 s2.1 s3.1
end Go.Proofs.YtemdmlmcidfodaaGreatDoor
