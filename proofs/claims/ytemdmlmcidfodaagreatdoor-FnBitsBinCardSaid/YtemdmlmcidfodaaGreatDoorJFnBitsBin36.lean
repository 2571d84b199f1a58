/- FnBitsBin: circuits of binary operations are right: for any bytes the law says true. -/
import Derived.Test.YtemdmlmcidfodaaGreatDoorRows
import Derived.Test.YtemdmlmcidfodaaGreatDoorTie
import Derived.Test.YtemdmlmcidfodaaGreatDoorCards
import Derived.SevenTiedAt
import Derived.Test.YtemdmlmcidfodaaGreatDoorJFnBitsBin0
import Derived.Test.YtemdmlmcidfodaaGreatDoorJFnBitsBin29
import Derived.Test.YtemdmlmcidfodaaGreatDoorJFnBitsBin31
import Derived.Test.YtemdmlmcidfodaaGreatDoorJFnBitsBin32
import Derived.Test.YtemdmlmcidfodaaGreatDoorJFnBitsBin33
import Derived.Test.YtemdmlmcidfodaaGreatDoorJFnBitsBin35
namespace Go.Proofs.YtemdmlmcidfodaaGreatDoor
open Go Go.RowKit Go.ChangeShapes Go.WideShapes Go.ChangeAt Go.Deep
theorem opens_bytes : z1w Tryz.prog 22 Lay.byte.slice (fun xs => xs.length <= maxLen /\ ∀ x ∈ xs,True):=z1w.slice Tryz.underlying22 (by kernel_rfl) (by decide) (z1w.byte Tryz.underlying5)
def Fact.num9 (W : World) (M : Int) : Fact:=.of (fun v x => ∃ k : Int,v = .int .i64 k /\ 0 <= k /\ k <= M) fun _ _ _ h _ => h
def Fact.ins9 (W : World) (m : Int) : Fact:=.of (fun v x => ∃ (bs : List Bool) (A : Option Addr) (c : Nat),v = .slice A bs.length c /\ bs.length <= 100 /\ (bs.length : Int) = m /\ Lay.bool.Rd x A bs) fun _ _ _ ⟨bs,A,c,h1,h2,h3,h4⟩ hb => ⟨bs,A,c,h1,h2,h3,h4.up hb⟩
def Fact.vals9 (W : World) (m : Int) (y : N) : Fact:=.of (fun v x => ∃ (bs : List Bool) (A : Option Addr) (c : Nat),v = .slice A (z19 y bs).length c /\ (bs.length : Int) = m /\ Lay.bool.Rd x A (z19 y bs) /\ Below W.heap.size W x) fun _ _ _ ⟨bs,A,c,h1,h2,h3,h4⟩ hb => ⟨bs,A,c,h1,h2,h3.up hb,z09 h4 hb⟩
theorem bitsVal_z (A B : Option Addr) (c d : Nat) (vals : List Bool) (a : List Int) (k : Int) (hk : bitsVal vals a = k) (w : World) (h : Lay.bool.Rd w A vals) (hn : vals.length <= 9223372036854775807) (h' : Lay.int.Rd w B a) (hr : ∀ x ∈ a,-9223372036854775808 <= x /\ x <= 9223372036854775807) (hn' : a.length <= 9223372036854775807) :
  Calls Tryz.prog 20 #[.slice A vals.length c,.slice B a.length d] w (RetZ k w):=by
 subst hk; exact (implBitsVal_any A B c d vals a _ _ w h hn h' hr hn').mono fun e w' ⟨h1,h2⟩ => ⟨h1,by rw [<- h2]; exact Below.refl _ _⟩
theorem bitsVal_nat (v : List Bool) {l : List Int} (h : l.length <= 4) : ∃ k : Nat,bitsVal v l = (k : Int) /\ k < 2 ^ l.length:=by
 refine ⟨bitsN (l.map (z08 v)),?_,?_⟩
 · unfold bitsVal; rw [if_neg (by omega),bitsOf_map,bitsN_B]
 · have:=bitsN_lt (l.map (z08 v)); rwa [List.length_map] at this
theorem vecBin_any {op : Int} {a b p q : Nat} (w : World) (ho : 3 <= op /\ op <= 14) (ha : 1 <= a /\ a <= 4) (hb : 1 <= b /\ b <= 4) (hp : p < 2 ^ a) (hq : q < 2 ^ b) (hl : op ≠ 14 -> a = b) (h14 : op = 14 -> a + b <= 4) :
  Calls Tryz.prog 7 #[.int .i64 op,.agg #[.int .i64 (a : Int),.int .i64 (p : Int)],.agg #[.int .i64 (b : Int),.int .i64 (q : Int)]] w fun e w' => e = .returned (.tuple #[.agg #[.int .i64 ((lenV op a b : Nat) : Int),.int .i64 (binV op a b p q)],.bool true]) /\ Below w.heap.size w w':=by
 unfold lenV binV
 by_cases h : op = 14
 ·
  subst h; rw [if_pos rfl,if_pos rfl,show ((b + a : Nat) : Int) = (a : Int) + b by omega,show (p : Int) * 2 ^ b + q = ((p * 2 ^ b + q : Nat) : Int) by simp]; exact vecBin_cat a b p q w ha.1 ha.2 hb.1 hb.2 hp hq (h14 rfl)
 ·
  obtain rfl:=hl h; rw [if_neg h,if_neg h,Int.toNat_natCast,Int.toNat_natCast]; exact vecBin_raw op a p q w ho.1 (by omega) ha.1 ha.2 hp hq
theorem GrBin.val {op : Int} {n : N} {xs ys : List Int} {r : N × List Int} (h : GrBin op n xs ys r) {ins : List Bool} (hi : (ins.length : Int) = n.ins) : bitsVal (z19 r.1 ins) r.2 = binV op xs.length ys.length (bitsVal (z19 r.1 ins) xs) (bitsVal (z19 r.1 ins) ys):=by
 have hs:=h.say ins hi; have hlen:=h.len; have h1:=h.lx; have h2:=h.ly; have h3:=h.lxy; have h4:=h.l14; have hl4 : r.2.length <= 4:=by
  unfold lenV at hlen
  by_cases e : op = 14
  · rw [if_pos e] at hlen; have:=h4 e; omega
  · rw [if_neg e] at hlen; omega
 have bv : ∀ l : List Int,l.length <= 4 -> bitsVal (z19 r.1 ins) l = bitsB (l.map (z08 (z19 r.1 ins))):=fun l hl4 => by unfold bitsVal; rw [if_neg (by omega),bitsOf_map]
 rw [bv _ hl4,bv xs h1.2,bv ys h2.2,hs,bin_val h.hop (by rw [List.length_map]; exact h1) (fun e => by rw [List.length_map,List.length_map]; exact h3 e),List.length_map,List.length_map]
theorem bitsBin_empty {n : N} {op : Int} {xs ys : List Int} {r : N × List Int} (hr : r = pickN (z0q n) (z0t n op xs ys)) (h : r.2 = []) : r.1 = ⟨0,[]⟩:=by
 rw [hr] at h ⊢
 cases hok : z0q n
 · rfl
 ·
  rw [hok] at h; unfold pickN z0t bitsOk at h ⊢
  by_cases hb : (z1m n xs && z1m n ys && opBin op && lenBin op xs ys) = true
  ·
   simp only [hb,if_true] at h ⊢; have hb2:=hb; simp only [Bool.and_eq_true] at hb2; obtain ⟨⟨⟨gx,gy⟩,ho⟩,hlb⟩:=hb2; obtain ⟨l1,l2,m1⟩:=z1h.1 gx; obtain ⟨l3,l4,m2⟩:=z1h.1 gy; unfold bitsOut at h ⊢
   by_cases he : (run opsP (binP op xs ys) ⟨n,none⟩).1.e = none
   ·
    have hl:=(all_run (w:=[]) (binP op xs ys) n (bin_all hok m1 m2 l1 (fun h14 => by unfold lenBin at hlb; rw [if_neg h14] at hlb; simpa using hlb) ho) hok he).1.1; simp only [he,if_true] at h; rw [h] at hl; unfold lenV at hl
    split at hl <;> simp at hl <;> omega
   · simp only [he,if_false]
  ·
   simp only [hb]
   rfl
set_option maxRecDepth 100000 in
set_option maxHeartbeats 8000000 in
theorem fnBitsBin_walk (W : World) (a0 a1 : Addr) {A0 : Option Addr} {c0 : Nat} {x0 : List UInt8} {A1' : Option Addr} {c1 : Nat} {x1 : List UInt8} (hglb : Glb a0 a1 W.heap.size W) (hc0 : x0.length <= c0) (hok0 : x0.length <= maxLen /\ ∀ z ∈ x0,True) (h0 : Lay.byte.Rd W A0 x0) (hc1 : x1.length <= c1) (hok1 : x1.length <= maxLen /\ ∀ z ∈ x1,True) (h1 : Lay.byte.Rd W A1' x1) :
  Calls Tryz.prog 4 #[.slice A0 x0.length c0,.slice A1' x1.length c1] W (LawC W):=by
 have GLB:=zH hglb; clear hglb; have hm0 : x0.length <= 9223372036854775807:=by have:=hok0.1; unfold maxLen at this; omega
 clear hok0; have hm1 : x1.length <= 9223372036854775807:=by have:=hok1.1; unfold maxLen at this; omega
 clear hok1
 by_cases hbig0 : (1048576 : Int) < x0.length
 ·
  go_enter Tryz.func4,Tryz.ntmps4
  go_wp2
  go_ret
  exact ⟨rfl,Below.refl _ _⟩
 by_cases hbig1 : (1048576 : Int) < x1.length
 ·
  go_enter Tryz.func4,Tryz.ntmps4
  go_wp2
  go_ret
  exact ⟨rfl,Below.refl _ _⟩
 have hb : Below W.heap.size W W:=Below.refl _ _
 go_enter Tryz.func4,Tryz.ntmps4
 go_wp2_with fail
 refine (drawBitsBin_any A0 c0 x0 _ h0 hc0 hm0).mono ?_; rintro e u1 ⟨n,A1,d1,op,xs,X1,e1,ys,Y1,k1,rfl,hn,hxs,hys,hbn,ha,hkx,hky,hcx,hcy,hb9⟩; have hb:=z09 hb hb9; clear hb9; clear h0; have h1:=h1.up hb; have hnl : n.gs.length <= 4:=hbn.2.2.1; have hni : n.ins <= 9:=hbn.2.1; have hx5 : xs.length <= 5:=hkx.1; have hy5 : ys.length <= 5:=hky.1; have HKX:=zH hkx; have HKY:=zH hky; have SN : Hid (smNet n):=zH ⟨by omega,hbn.2.2.2,by have:=hbn.1; have:=hbn.2.1; unfold z15; omega⟩; have SX : Hid (smInts xs):=zH ⟨by omega,hkx.2⟩; have SY : Hid (smInts ys):=zH ⟨by omega,hky.2⟩; have SA:=zH ha; clear hbn hkx hky ha hcx hcy; obtain ⟨r,hr⟩ : ∃ r,r = pickN (z0q n) (z0t n op xs ys):=⟨_,rfl⟩; have HR:=zH hr; have HLEN:=zH (show r.1.gs.length <= 1048576 /\ r.2.length <= 1048576 by rw [hr]; exact bitsBin_len); have HLW:=zH (fun h : r.2 ≠ [] => bitsBin_law hr h); have HEM:=zH (fun h : r.2 = [] => bitsBin_empty hr h); have hrl:=HLEN.out.1; have hol:=HLEN.out.2; clear hr; have hal : Below u1.heap.size u1 (u1.alloc (.cells #[.int .i64 n.ins,.slice A1 n.gs.length d1] 29)):=(Below.refl _ _).alloc (Nat.le_refl _) _; have B9 : (u1.alloc (.cells #[.int .i64 n.ins,.slice A1 n.gs.length d1] 29)).heap[u1.heap.size]? = some (.cells #[.int .i64 n.ins,.slice A1 n.gs.length d1] 29 (0,0)):=heap_alloc_new _ _; have hb:=z09 hb hal; have h1:=h1.up hal; have hn:=hn.up hal; have hxs:=hxs.up hal; have hys:=hys.up hal; clear hal; have BN:=zH B9; clear B9
 go_wp2_with fail
 generalize u1.alloc (.cells #[.int .i64 n.ins,.slice A1 n.gs.length d1] 29) = u2 at *; generalize u1.heap.size = iBN at *; refine (implBitsBin_v a0 a1 W.heap.size n A1 d1 op xs X1 e1 ys Y1 k1 _ hn hxs hys SN.out SA.out SX.out SY.out (GLB.out.below hb) hb.size).mono ?_; rw [<- HR.out]; rintro e u3 ⟨A2,B2,d2,e2,rfl,hd2,he2,g2,o2,hb9,_⟩; have hb:=z09 hb hb9; have h1:=h1.up hb9; have hn:=hn.up hb9; have hxs:=hxs.up hb9; have hys:=hys.up hb9; have BN:=zH ((hb9.block _ (lt_of_block BN.out)).trans BN.out); clear hb9; have hx:=g2.own_rd; have ho:=o2.own_rd; clear g2 o2; have kBN_0 : u3.cell? ⟨iBN,0,none⟩ = some (.int .i64 n.ins):=(z00 BN.out 0).1; have kBN_1 : u3.cell? ⟨iBN,1,none⟩ = some (.slice A1 n.gs.length d1):=(z00 BN.out 1).1; have ltBN : iBN < u3.heap.size:=lt_of_block BN.out; have hal : Below u3.heap.size u3 (u3.alloc (.cells #[.int .i64 r.1.ins,.slice A2 r.1.gs.length d2] 29)):=(Below.refl _ _).alloc (Nat.le_refl _) _; have B9 : (u3.alloc (.cells #[.int .i64 r.1.ins,.slice A2 r.1.gs.length d2] 29)).heap[u3.heap.size]? = some (.cells #[.int .i64 r.1.ins,.slice A2 r.1.gs.length d2] 29 (0,0)):=heap_alloc_new _ _; have hb:=z09 hb hal; have h1:=h1.up hal; have hn:=hn.up hal; have hxs:=hxs.up hal; have hys:=hys.up hal; have BN:=zH ((hal.block _ (lt_of_block BN.out)).trans BN.out); have hx:=hx.up hal; have ho:=ho.up hal; clear hal; have BX:=zH B9; clear B9
 go_wp2_with fail
 clear kBN_0 kBN_1 ltBN; generalize u3.alloc (.cells #[.int .i64 r.1.ins,.slice A2 r.1.gs.length d2] 29) = u4 at *; generalize u3.heap.size = iBX at *; refine (specBitsBin_v n A1 d1 op xs X1 e1 ys Y1 k1 _ hn hxs hys SN.out SA.out SX.out SY.out).mono ?_; rw [<- HR.out]; rintro e u5 ⟨A3,B3,d3,e3,rfl,hd3,he3,g3,o3,hb9,_⟩; have hb:=z09 hb hb9; have h1:=h1.up hb9; have hn:=hn.up hb9; have hxs:=hxs.up hb9; have hys:=hys.up hb9; have BN:=zH ((hb9.block _ (lt_of_block BN.out)).trans BN.out); have hx:=hx.up hb9; have ho:=ho.up hb9; have BX:=zH ((hb9.block _ (lt_of_block BX.out)).trans BX.out); clear hb9; have hx3:=g3.own_rd; have ho3:=o3.own_rd; clear g3 o3; have kBX_0 : u5.cell? ⟨iBX,0,none⟩ = some (.int .i64 r.1.ins):=(z00 BX.out 0).1; have kBX_1 : u5.cell? ⟨iBX,1,none⟩ = some (.slice A2 r.1.gs.length d2):=(z00 BX.out 1).1; have ltBX : iBX < u5.heap.size:=lt_of_block BX.out; have hal : Below u5.heap.size u5 (u5.alloc (.cells #[.int .i64 r.1.ins,.slice A3 r.1.gs.length d3] 29)):=(Below.refl _ _).alloc (Nat.le_refl _) _; have B9 : (u5.alloc (.cells #[.int .i64 r.1.ins,.slice A3 r.1.gs.length d3] 29)).heap[u5.heap.size]? = some (.cells #[.int .i64 r.1.ins,.slice A3 r.1.gs.length d3] 29 (0,0)):=heap_alloc_new _ _; have hb:=z09 hb hal; have h1:=h1.up hal; have hn:=hn.up hal; have hxs:=hxs.up hal; have hys:=hys.up hal; have BN:=zH ((hal.block _ (lt_of_block BN.out)).trans BN.out); have hx:=hx.up hal; have ho:=ho.up hal; have BX:=zH ((hal.block _ (lt_of_block BX.out)).trans BX.out); have hx3:=hx3.up hal; have ho3:=ho3.up hal; clear hal; have BY:=zH B9; clear B9
 go_wp2_with fail
 clear kBX_0 kBX_1 ltBX; generalize u5.alloc (.cells #[.int .i64 r.1.ins,.slice A3 r.1.gs.length d3] 29) = u6 at *; generalize u5.heap.size = iBY at *; refine (netSame_any r.1 r.1 A2 A3 d2 d3 _ hx hx3 hrl hrl).mono ?_; rintro e u7 ⟨rfl,hb9⟩; have hb:=z09 hb hb9; have h1:=h1.up hb9; have hn:=hn.up hb9; have hxs:=hxs.up hb9; have hys:=hys.up hb9; have BN:=zH ((hb9.block _ (lt_of_block BN.out)).trans BN.out); have hx:=hx.up hb9; have ho:=ho.up hb9; have BX:=zH ((hb9.block _ (lt_of_block BX.out)).trans BX.out); have hx3:=hx3.up hb9; have ho3:=ho3.up hb9; have BY:=zH ((hb9.block _ (lt_of_block BY.out)).trans BY.out); clear hb9; rw [show decide (r.1 = r.1) = true by simp]
 go_wp2_with fail
 refine (wpInts_u r.2 r.2 B2 B3 e2 e3 _ ho ho3 hol hol).mono ?_; rintro e u8 ⟨rfl,hb9⟩; have hb:=z09 hb hb9; have h1:=h1.up hb9; have hn:=hn.up hb9; have hxs:=hxs.up hb9; have hys:=hys.up hb9; have BN:=zH ((hb9.block _ (lt_of_block BN.out)).trans BN.out); have hx:=hx.up hb9; have ho:=ho.up hb9; have BX:=zH ((hb9.block _ (lt_of_block BX.out)).trans BX.out); have hx3:=hx3.up hb9; have ho3:=ho3.up hb9; have BY:=zH ((hb9.block _ (lt_of_block BY.out)).trans BY.out); clear hb9; rw [show decide (r.2 = r.2) = true by simp]; clear hx3 ho3; clear BY
 by_cases hz : r.2 = []
 ·
  skip
  have HZ:=zH (HEM.out hz); have hz0 : ((r.2.length : Int) == 0) = true:=by rw [hz]; rfl
  clear hz; have kBX_0 : u8.cell? ⟨iBX,0,none⟩ = some (.int .i64 r.1.ins):=(z00 BX.out 0).1; have kBX_1 : u8.cell? ⟨iBX,1,none⟩ = some (.slice A2 r.1.gs.length d2):=(z00 BX.out 1).1
  go_wp2_with fail
  clear kBX_0 kBX_1; refine (netSame_any r.1 ⟨0,[]⟩ A2 none d2 0 _ hx (.nil _ _ _ _) hrl (by simp)).mono ?_; rintro e u9 ⟨rfl,hb9⟩; have hb:=z09 hb hb9; have h1:=h1.up hb9; have hn:=hn.up hb9; have hxs:=hxs.up hb9; have hys:=hys.up hb9; have BN:=zH ((hb9.block _ (lt_of_block BN.out)).trans BN.out); have hx:=hx.up hb9; have ho:=ho.up hb9; have BX:=zH ((hb9.block _ (lt_of_block BX.out)).trans BX.out); clear hb9; rw [show decide (r.1 = (⟨0,[]⟩ : N)) = true from decide_eq_true HZ.out]
  go_wp2
  go_ret
  exact ⟨rfl,hb⟩
 have hz0 : ((r.2.length : Int) == 0) = false:=by simpa using (fun h : r.2.length = 0 => hz (List.eq_nil_of_length_eq_zero h))
 have lg:=HLW.out hz; have LG:=zH lg; have HRI:=zH (okInts_of lg.ext.ok); have N09:=(z1z.1 lg.ok).1; have N19:=(z1z.1 lg.ok).2.1; have HMI : Hid (∀ m ∈ r.2,z15 m):=zH (fun m hm => by have h9:=z0j.1 (lg.mks m hm); have h8:=z1z.1 lg.ext.ok; unfold z15; omega); have HVL : Hid (∀ ins : List Bool,(ins.length : Int) = n.ins -> (z19 r.1 ins).length <= 1048576):=zH (fun ins hi => by have h9:=(obeys_vals lg.ext.ok (by rw [lg.ext.ins]; exact hi)).2.1; have h8:=z1z.1 lg.ext.ok; omega); have HL9 : Hid (lenV op xs.length ys.length = r.2.length):=zH lg.len.symm; have hl4:=lg.lx; have hl5:=lg.ly; clear lg hz HLW HEM; have kBN_0 : u8.cell? ⟨iBN,0,none⟩ = some (.int .i64 n.ins):=(z00 BN.out 0).1; have kBN_1 : u8.cell? ⟨iBN,1,none⟩ = some (.slice A1 n.gs.length d1):=(z00 BN.out 1).1; have kBX_0 : u8.cell? ⟨iBX,0,none⟩ = some (.int .i64 r.1.ins):=(z00 BX.out 0).1; have kBX_1 : u8.cell? ⟨iBX,1,none⟩ = some (.slice A2 r.1.gs.length d2):=(z00 BX.out 1).1
 go_wp2_with fail
 clear kBN_0 kBN_1 kBX_0 kBX_1; refine (wpGrown_any n r.1 A1 A2 d1 d2 _ hn (by omega) hx hrl hd2 HRI.out LG.out.ext.ok LG.out.ext.ins LG.out.ext.ext).mono ?_; rintro e u10 ⟨rfl,hb9⟩; have hb:=z09 hb hb9; have h1:=h1.up hb9; have hn:=hn.up hb9; have hxs:=hxs.up hb9; have hys:=hys.up hb9; have BN:=zH ((hb9.block _ (lt_of_block BN.out)).trans BN.out); have hx:=hx.up hb9; have ho:=ho.up hb9; have BX:=zH ((hb9.block _ (lt_of_block BX.out)).trans BX.out); clear hb9
 go_wp2
 have HB0:=zH hb; clear hb; have H_h1:=zH h1; clear h1; have H_hn:=zH hn; clear hn; have H_hxs:=zH hxs; clear hxs; have H_hys:=zH hys; clear hys; have H_hx:=zH hx; clear hx; have H_ho:=zH ho; clear ho
 go_loopw [13] (fun i wr => ∃ j : Nat,j <= 12 /\ i = .int .i64 j /\ Below u10.heap.size u10 wr) (fun i _ => 12 - (intOf i).toNat)
 case atStart => exact ⟨0,Nat.zero_le _,rfl,Below.refl _ _⟩
 case round =>
  obtain ⟨j,hj,rfl,hbr⟩:=hrel; have h1:=H_h1.out.up hbr; have hn:=H_hn.out.up hbr; have hxs:=H_hxs.out.up hbr; have hys:=H_hys.out.up hbr; have hx:=H_hx.out.up hbr; have ho:=H_ho.out.up hbr; have B_N:=zH ((hbr.block _ (lt_of_block BN.out)).trans BN.out); have B_X:=zH ((hbr.block _ (lt_of_block BX.out)).trans BX.out); have HBR:=zH hbr; clear hbr
  by_cases hlt : j < 12
  ·
   have hj1 : (j : Int) < 12:=by omega
   have dn0:=z0f.cell (z00 B_N.out 0).1; have dn1:=z0f.cell (z00 B_N.out 1).1; have dx0:=z0f.cell (z00 B_X.out 0).1; have dx1:=z0f.cell (z00 B_X.out 1).1; have H1:=zH h1; have HX:=zH hx; clear h1 hx
   go_wp2
   refine z0d [[],[],[],[(2,76)],[],[(4,78)],[(3,77),(5,79)],[(1,75),(6,80)],[(0,74),(7,81)],[(8,82)]]
    [.eq (.agg #[.int .i64 r.1.ins,.slice A2 r.1.gs.length d2]),.eq (.agg #[.int .i64 n.ins,.slice A1 n.gs.length d1]),.eq (.slice A1' x1.length c1),Fact.num9 wr 1048576,.eq (.int .i64 (j : Int)),.eq (.int .i64 (37 * (j : Int))),Fact.num9 wr 2097152,Fact.ins9 wr n.ins,Fact.vals9 wr n.ins r.1,Fact.vals9 wr n.ins r.1]
    [] [] [] [9] [(0,74),(1,75),(2,76),(3,77),(4,78),(5,79),(6,80),(7,81),(8,82),(9,14)] (by kernel_rfl) (by kernel_rfl) (by kernel_rfl) (by kernel_rfl)
    ⟨?_,?_,?_,?_,?_,?_,?_,?_,?_,?_,trivial⟩ ?_
   ·
    intro vals x9 hC hF; have hC:=hC.resolve_left (by simp); have hsz:=hC.size; have e1 : x9.cell? _ = _:=dx0 ⟨x9,hC⟩; have e2 : x9.cell? _ = _:=dx1 ⟨x9,hC⟩; simp only [z01,Act.put,zQ]
    go_wp2
    exact ⟨rfl,rfl,.inr (Below.refl _ _),.inr (.inl (by simp))⟩
   ·
    intro vals x9 hC hF; have hC:=hC.resolve_left (by simp); have hsz:=hC.size; have e1 : x9.cell? _ = _:=dn0 ⟨x9,hC⟩; have e2 : x9.cell? _ = _:=dn1 ⟨x9,hC⟩; simp only [z01,Act.put,zQ]
    go_wp2
    exact ⟨rfl,rfl,.inr (Below.refl _ _),.inr (.inl (by simp))⟩
   ·
    intro vals x9 hC hF; simp only [z01,Act.put,zQ]
    go_wp2
    exact ⟨rfl,rfl,.inr (Below.refl _ _),.inr (.inl (by simp))⟩
   ·
    intro vals x9 hC hF; have hC:=hC.resolve_left (by simp); have hsz:=hC.size; simp only [z0c,zR,Fact.eq,Fact.row,Fact.lit,Fact.lit0,Fact.of,and_true,Fact.num9,Fact.ins9,Fact.vals9] at hF; simp only [z01,Act.put,zQ]; simp only [hF]
    go_wp2_with fail
    refine (wpHash_any A1' c1 x1 x9 (H1.out.up hC) (by omega)).mono ?_; rintro e wx ⟨k9,rfl,k90,k91,hb9⟩
    go_wp2
    exact ⟨rfl,⟨k9,rfl,k90,k91⟩,.inr hb9,.inr (.inl (by simp))⟩
   ·
    intro vals x9 hC hF; simp only [z01,Act.put,zQ]
    go_wp2
    exact ⟨rfl,rfl,.inr (Below.refl _ _),.inr (.inl (by simp))⟩
   ·
    intro vals x9 hC hF; simp only [z0c,zR,Fact.eq,Fact.row,Fact.lit,Fact.lit0,Fact.of,and_true,Fact.num9,Fact.ins9,Fact.vals9] at hF; simp only [z01,Act.put,zQ]; simp only [hF]
    go_wp2
    exact ⟨rfl,rfl,.inr (Below.refl _ _),.inr (.inl (by simp))⟩
   ·
    intro vals x9 hC hF; have hC:=hC.resolve_left (by simp); have hsz:=hC.size; simp only [z0c,zR,Fact.eq,Fact.row,Fact.lit,Fact.lit0,Fact.of,and_true,Fact.num9,Fact.ins9,Fact.vals9] at hF; obtain ⟨⟨k9,e70,k90,k91⟩,e72⟩:=hF; simp only [z01,Act.put,zQ]; simp only [e70,e72]
    go_wp2
    exact ⟨rfl,⟨k9 + 37 * (j : Int),rfl,by omega,by omega⟩,.inr (Below.refl _ _),.inr (.inl (by simp))⟩
   ·
    intro vals x9 hC hF; have hC:=hC.resolve_left (by simp); have hsz:=hC.size; simp only [z0c,zR,Fact.eq,Fact.row,Fact.lit,Fact.lit0,Fact.of,and_true,Fact.num9,Fact.ins9,Fact.vals9] at hF; obtain ⟨e68,k9,e73,k90,k91⟩:=hF; simp only [z01,Act.put,zQ]; simp only [e68,e73]
    go_wp2_with fail
    refine (wpIns_any n A1 d1 k9 x9 k90 (by omega) (by omega)).mono ?_; rintro e wx ⟨bs,B9,c9,rfl,hl1,hl2,hrd,hb9⟩; have HB9:=zH hb9; have HRD:=zH hrd; have HL1:=zH (And.intro hl1 (hl2 N09)); clear hb9 hrd hl1 hl2
    go_wp2
    exact ⟨rfl,⟨bs,B9,c9,rfl,HL1.out.1,HL1.out.2,HRD.out⟩,.inr HB9.out,.inr (.inl (by simp))⟩
   ·
    intro vals x9 hC hF; have hC:=hC.resolve_left (by simp); have hsz:=hC.size; simp only [z0c,zR,Fact.eq,Fact.row,Fact.lit,Fact.lit0,Fact.of,and_true,Fact.num9,Fact.ins9,Fact.vals9] at hF; obtain ⟨e67,bs,B9,c9,e74,hl1,hl2,hrd⟩:=hF; simp only [z01,Act.put,zQ]; simp only [e67,e74]; have HL2:=zH hl2; have HC9:=zH (netVals_any r.1 bs A2 B9 d2 c9 x9 (HX.out.up hC) hrl HRI.out hrd (by omega)); clear hl2 hrd
    go_wp2_with fail
    refine HC9.out.mono ?_; rintro e wx ⟨V9,v9,rfl,_,hrd9,hb9⟩; have HB9:=zH hb9; have HRD:=zH hrd9; clear hb9 hrd9 HC9
    go_wp2
    exact ⟨rfl,⟨bs,V9,v9,rfl,HL2.out,HRD.out,z09 hC HB9.out⟩,.inr HB9.out,.inr (.inl (by simp))⟩
   ·
    intro vals x9 hC hF; have hC:=hC.resolve_left (by simp); have hsz:=hC.size; simp only [z0c,zR,Fact.eq,Fact.row,Fact.lit,Fact.lit0,Fact.of,and_true,Fact.num9,Fact.ins9,Fact.vals9] at hF; obtain ⟨bs,V9,v9,e75,hl2,hrd9,hb9⟩:=hF; simp only [z01,Act.put,zQ]; simp only [e75]
    go_wp2
    exact ⟨rfl,⟨bs,V9,v9,rfl,hl2,hrd9,hb9⟩,.inr (Below.refl _ _),.inr (.inl (by simp))⟩
   ·
    intro vals x9 hF; simp only [facts,zR,Fact.eq,Fact.row,Fact.lit,Fact.lit0,Fact.of,and_true,Fact.num9,Fact.ins9,Fact.vals9] at hF; obtain ⟨bs,V9,v9,e14,hl2,hv,hb9⟩:=hF; simp only [z01,Act.put,zQ]; simp only [e14]; clear e14; have hlaw:=LG.out.val hl2; have hvl:=HVL.out bs hl2; generalize hvv : z19 r.1 bs = vv at *; clear hvv hl2; have hxs:=hxs.up hb9; have hys:=hys.up hb9; have ho:=ho.up hb9; clear hn; have hrng : ∀ l : List Int,(∀ x ∈ l,z15 x) -> ∀ x ∈ l,-9223372036854775808 <= x /\ x <= 9223372036854775807:=fun l h x hx => by have:=h x hx; unfold z15 at this; exact this
    have HRNG:=zH hrng; clear hrng; obtain ⟨pn,hpn,hpl⟩:=bitsVal_nat vv hl4.2; obtain ⟨qn,hqn,hql⟩:=bitsVal_nat vv hl5.2; rw [hpn,hqn] at hlaw; have hvc:=fun z => vecBin_any (op:=op) (p:=pn) (q:=qn) z LG.out.hop LG.out.lx LG.out.ly hpl hql LG.out.lxy LG.out.l14
    rw [HL9.out] at hvc; obtain ⟨bb,hbb⟩ : ∃ bb,bb = binV op xs.length ys.length pn qn:=⟨_,rfl⟩; rw [<- hbb] at hvc hlaw; have HLAW:=zH hlaw; have HVC:=zH hvc; have HPN:=zH hpn; have HQN:=zH hqn; clear hlaw hbb hvc hpn hqn hpl hql; have hb:=hb9; clear hb9
    go_wp2_with fail
    refine (bitsVal_z V9 X1 v9 e1 vv xs (pn : Int) HPN.out _ hv (by omega) hxs (HRNG.out xs HKX.out.2) (by omega)).mono ?_; rintro e u101 ⟨rfl,hb9⟩; have hb:=z09 hb hb9; have hxs:=hxs.up hb9; have hys:=hys.up hb9; have ho:=ho.up hb9; have hv:=hv.up hb9; clear hb9; have hal : Below u101.heap.size u101 (u101.alloc (.cells #[.int .i64 (xs.length : Int),.int .i64 (pn : Int)] 24)):=(Below.refl _ _).alloc (Nat.le_refl _) _; have B9 : (u101.alloc (.cells #[.int .i64 (xs.length : Int),.int .i64 (pn : Int)] 24)).heap[u101.heap.size]? = some (.cells #[.int .i64 (xs.length : Int),.int .i64 (pn : Int)] 24 (0,0)):=heap_alloc_new _ _; have hb:=z09 hb hal; have hxs:=hxs.up hal; have hys:=hys.up hal; have ho:=ho.up hal; have hv:=hv.up hal; clear hal; have BP:=zH B9; clear B9
    go_wp2_with fail
    generalize u101.alloc (.cells #[.int .i64 (xs.length : Int),.int .i64 (pn : Int)] 24) = u102 at *; generalize u101.heap.size = iBP at *; refine (bitsVal_z V9 Y1 v9 k1 vv ys (qn : Int) HQN.out _ hv (by omega) hys (HRNG.out ys HKY.out.2) (by omega)).mono ?_; rintro e u103 ⟨rfl,hb9⟩; have hb:=z09 hb hb9; have hxs:=hxs.up hb9; have hys:=hys.up hb9; have ho:=ho.up hb9; have hv:=hv.up hb9; have BP:=zH ((hb9.block _ (lt_of_block BP.out)).trans BP.out); clear hb9; have kBP_0 : u103.cell? ⟨iBP,0,none⟩ = some (.int .i64 (xs.length : Int)):=(z00 BP.out 0).1; have kBP_1 : u103.cell? ⟨iBP,1,none⟩ = some (.int .i64 (pn : Int)):=(z00 BP.out 1).1; have ltBP : iBP < u103.heap.size:=lt_of_block BP.out; have hal : Below u103.heap.size u103 (u103.alloc (.cells #[.int .i64 (ys.length : Int),.int .i64 (qn : Int)] 24)):=(Below.refl _ _).alloc (Nat.le_refl _) _; have B9 : (u103.alloc (.cells #[.int .i64 (ys.length : Int),.int .i64 (qn : Int)] 24)).heap[u103.heap.size]? = some (.cells #[.int .i64 (ys.length : Int),.int .i64 (qn : Int)] 24 (0,0)):=heap_alloc_new _ _; have hb:=z09 hb hal; have hxs:=hxs.up hal; have hys:=hys.up hal; have ho:=ho.up hal; have hv:=hv.up hal; have BP:=zH ((hal.block _ (lt_of_block BP.out)).trans BP.out); clear hal; have BQ:=zH B9; clear B9
    go_wp2_with fail
    clear kBP_0 kBP_1 ltBP; generalize u103.alloc (.cells #[.int .i64 (ys.length : Int),.int .i64 (qn : Int)] 24) = u104 at *; generalize u103.heap.size = iBQ at *; refine (HVC.out _).mono ?_; rintro e u105 ⟨rfl,hb9⟩; have hb:=z09 hb hb9; have hxs:=hxs.up hb9; have hys:=hys.up hb9; have ho:=ho.up hb9; have hv:=hv.up hb9; have BP:=zH ((hb9.block _ (lt_of_block BP.out)).trans BP.out); have BQ:=zH ((hb9.block _ (lt_of_block BQ.out)).trans BQ.out); clear hb9; have hal : Below u105.heap.size u105 (u105.alloc (.cells #[.int .i64 (r.2.length : Int),.int .i64 bb] 24)):=(Below.refl _ _).alloc (Nat.le_refl _) _; have B9 : (u105.alloc (.cells #[.int .i64 (r.2.length : Int),.int .i64 bb] 24)).heap[u105.heap.size]? = some (.cells #[.int .i64 (r.2.length : Int),.int .i64 bb] 24 (0,0)):=heap_alloc_new _ _; have hb:=z09 hb hal; have hxs:=hxs.up hal; have hys:=hys.up hal; have ho:=ho.up hal; have hv:=hv.up hal; have BP:=zH ((hal.block _ (lt_of_block BP.out)).trans BP.out); have BQ:=zH ((hal.block _ (lt_of_block BQ.out)).trans BQ.out); clear hal; have BW:=zH B9; clear B9
    go_wp2
    generalize u105.alloc (.cells #[.int .i64 (r.2.length : Int),.int .i64 bb] 24) = u106 at *; generalize u105.heap.size = iBW at *; have v0:=(z00 BW.out 0).1; have v1:=(z00 BW.out 1).1; have hlx : ((r.2.length : Int) != (r.2.length : Int)) = false:=by simp
    have hbx : (bb != bb) = false:=by simp
    have HV:=zH hv; have HOS:=zH ho; have HBW:=zH hb; clear hv ho hxs hys hb; have HBV:=zH (fun m => show Calls Tryz.prog 20 _ (u106.drewN m) fun e w' => e = .returned (.int .i64 bb) /\ u106.drewN m = w' from by have h9:=implBitsVal_any V9 B2 v9 e2 vv r.2 _ _ (u106.drewN m) (HV.out.up (z02 (Below.refl _ _) m)) (by omega) (HOS.out.up (z02 (Below.refl _ _) m)) (HRNG.out r.2 HMI.out) (by omega); rw [HLAW.out] at h9; exact h9); clear HLAW
    go_quiet ((go_at_call 20; with_reducible exact z13 (HBV.out _)))
    clear HBV
    go_wp2
    go_roundw
    case rel => exact ⟨j + 1,by omega,by go_num,z09 HBR.out (z02 HBW.out _)⟩
    case measure => simp [intOf]; omega
  ·
   have hj1 : ¬ (j : Int) < 12:=by omega
   have hb:=z09 HB0.out HBR.out; clear hn hx h1 hxs hys ho
   go_wp2
   go_ret
   exact ⟨rfl,hb⟩
set_option maxRecDepth 100000 in
theorem fnBitsBin_lifted (os : Os) (started : os.Started) (H : Type) (enc : TypeId × Value -> H) :
  ReturnsInHanded {} Tryz.checked os 4 .any (fun w args => (Rows.fnBitsBinSpec.pre enc Tryz.prog Tryz.f4 [] false w args /\ laidMetH Tryz.prog laid2 w) /\ sizedMet enc Tryz.prog Tryz.f4 (OpenSpec.ofChange Rows.fnBitsBinSpec) false w args)
   (Rows.fnBitsBinSpec.post enc Tryz.prog Tryz.f4 false true false false):=by
 refine returnsInHanded_of_change_and (C:=Tryz.checked) (X:=fun w _ => laidMetH Tryz.prog laid2 w) (fun _ _ _ hh h => h.of_heap hh) dr_own started (by kernel_rfl) Tryz.func4
  (ChangeSpec.witness_shaped (enc:=enc) (C:=Tryz.checked) (os:=os) (X:=fun w _ => laidMetH Tryz.prog laid2 w) false (World.doorLaid Tryz.prog 400 os) #[.slice none 0 0,.slice none 0 0] 16 rfl (World.shaped_of_RefB (by kernel_rfl) (by kernel_rfl)) (by kernel_rfl) (by kernel_rfl) (by kernel_rfl) (door_met os _)) ?_
 intro W base args ds gs before hval0 hW _ _ hL _; have hval : ∀ (j : Nat) t v, Tryz.f4.params[j]? = some t -> args[j]? = some v -> Value.okWide Tryz.prog W .any base t v := hval0; have hW' := hW; obtain ⟨p, q, hA0, hV0, rfl, hfz, hnd⟩ := hW; have hV : DataW.TrodVars enc Tryz.prog W (fun _ => true) ["loop.example/seedlip/impl.errBits", "loop.example/seedlip/impl.errRoom"] gs q := hV0; obtain ⟨a0, a1, hglb, hv0, hv1⟩ := glb_of_laid hL; have hA : DataW.TrodAll enc Tryz.prog W 0 (fun _ => true) true Tryz.f4.params.toList args.toList ds p := hA0; rw [Tryz.params4] at hA hval; obtain ⟨v0, vs0, d0, ds0, p0, q0, hargs, rfl, rfl, h0, r0⟩ := trodAll_cons hA; obtain ⟨v1, vs1, d1, ds1, p1, q1, rfl, rfl, rfl, h1, r1⟩ := trodAll_cons r0; obtain ⟨rfl, rfl, rfl⟩ := trodAll_nil r1; obtain rfl : args = #[v0, v1] := by cases args; simp_all
 obtain ⟨rfl,rfl⟩:=hV.unique (vars_read enc hv0 hv1 trivial trivial _); have k0:=h0; have lt0 : ∀ x ∈ p0,x.block < W.heap.size:=by obtain ⟨m,hm⟩:=k0; exact DataW.trod_lt m _ _ _ hm
 have k1:=h1; have lt1 : ∀ x ∈ p1,x.block < W.heap.size:=by obtain ⟨m,hm⟩:=k1; exact DataW.trod_lt m _ _ _ hm
 obtain ⟨A0,c0,x0,rfl,hc0,ok0,rd0⟩:=open_arg Tryz.underlying22 opens_bytes (hval 0 22 v0 rfl rfl) h0; obtain ⟨A1,c1,x1,rfl,hc1,ok1,rd1⟩:=open_arg Tryz.underlying22 opens_bytes (hval 1 22 v1 rfl rfl) h1; clear hA0 hval0 hV0; refine (fnBitsBin_walk W a0 a1 hglb hc0 ok0 rd0 hc1 ok1 rd1).mono fun e W' ⟨he,bel⟩ => ?_
 subst he; exact ⟨_,rfl,_,_,_,[],_,[.cell 1 0,.cell 0 0],hW',trodAll_mk1 (shut_bool Tryz.underlying4 _),(trodAll_cons_mk (Below.trod (by kernel_rfl) (by kernel_rfl) (of_decide_eq_true (by kernel_rfl)) k0 bel lt0) (trodAll_cons_mk (Below.trod (by kernel_rfl) (by kernel_rfl) (of_decide_eq_true (by kernel_rfl)) k1 bel lt1) trodAll_mk0)),vars_read enc (var_below dr_g0 hv0 bel) (var_below dr_g1 hv1 bel) trivial trivial _,bel.frame _,fun h => by cases h⟩
theorem fnBitsBin_row : Rows.FnBitsBinSaid :=
 OpenClaim.holds_of_wide 4 Tryz.f4 rfl rfl rfl rfl rfl rfl rfl ⟨rfl,rfl,rfl,rfl,rfl⟩ rfl rfl rfl rfl rfl (by kernel_rfl) Tryz.func4 (by kernel_rfl)
  (of_decide_eq_true (by kernel_rfl)) (by unfold Func.isWrapper; first | (rw [if_pos (by decide +kernel)]; kernel_rfl) | (rw [if_neg (by decide +kernel)]; exact ⟨rfl,rfl⟩))
  (fun os started H enc _ => fnBitsBin_lifted os started H enc)
theorem fnBitsBin_holds : Rows.FnBitsBinCardSaid :=
 Claim7.holds_tied_plain_at .later [] [.sentinel,.sentinel] true Rows.fnBitsBinCard.stood.harness Rows.fnBitsBinCard.stood.looks
  fnBitsBin_row (fun _ h => by cases h) (by kernel_rfl) (fun _ h => by cases h) fnBitsBin_row_tie rfl ⟨rfl,rfl⟩ (by kernel_rfl) rfl
  (fun f fn hf hfn => by
   obtain rfl : f = 4 := Option.some.inj ((show Tryz.prog.funcNamed "loop.example/seedlip/laws.FnBitsBin" = some 4 by kernel_rfl).symm.trans hf) |>.symm; obtain rfl : fn = Tryz.f4 := (Option.some.inj (Tryz.func4.symm.trans hfn)).symm; exact ⟨by kernel_rfl, fun j t ht => by
    rw [Tryz.params4] at ht; have hm : t ∈ [22,22]:=by simpa using Array.mem_of_getElem? ht
    have hall : ([22,22].all fun u => !Tryz.prog.wantsStandIn u) = true:=by kernel_rfl
    exact (show Tryz.prog.wantsStandIn t = false by simpa using List.all_eq_true.1 hall t hm)⟩)
  (by kernel_rfl)
#print axioms fnBitsBin_holds
end Go.Proofs.YtemdmlmcidfodaaGreatDoor
