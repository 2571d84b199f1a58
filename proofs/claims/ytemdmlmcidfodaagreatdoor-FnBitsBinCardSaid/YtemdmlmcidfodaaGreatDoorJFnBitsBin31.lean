/- The program's values of nets. -/
import Derived.Test.YtemdmlmcidfodaaGreatDoorJFnBitsBin0
import Derived.Test.YtemdmlmcidfodaaGreatDoorJFnBitsBin1
import Derived.Test.YtemdmlmcidfodaaGreatDoorJFnBitsBin7
import Derived.Test.YtemdmlmcidfodaaGreatDoorJFnBitsBin8
import Derived.Test.YtemdmlmcidfodaaGreatDoorJFnBitsBin10
import Derived.Test.YtemdmlmcidfodaaGreatDoorJFnBitsBin30
namespace Go.Proofs.YtemdmlmcidfodaaGreatDoor
open Go Go.RowKit
set_option maxHeartbeats 1000000 in
theorem l1Min_any (a b : Int) (w : World) : Calls Tryz.prog 39 #[.int .i64 a,.int .i64 b] w fun e w' => e = .returned (.int .i64 (if a < b then a else b)) /\ w = w':=by
 by_cases h : a < b
 ·
  rw [if_pos h]
  go_enter Tryz.func39,Tryz.ntmps39
  go_wp2
  go_ret
  exact ⟨rfl,rfl⟩
 ·
  rw [if_neg h]
  go_enter Tryz.func39,Tryz.ntmps39
  go_wp2
  go_ret
  exact ⟨rfl,rfl⟩
theorem okMks_take {xs : List Int} (h : okMks xs) (k : Nat) : okMks (xs.take k):=⟨by rw [List.length_take]; have:=h.1; omega,fun x hx => h.2 x (List.mem_of_mem_take hx)⟩
set_option maxRecDepth 100000 in
set_option maxHeartbeats 4000000 in
theorem drawBitsBin_any (A : Option Addr) (c : Nat) (bs : List UInt8) (w : World) (h : Lay.byte.Rd w A bs) (hc : bs.length <= c) (hn : bs.length <= 9223372036854775807) :
  Calls Tryz.prog 14 #[.slice A bs.length c] w (DrawB4 w):=by
 have hal0 : Below w.heap.size w (w.alloc (.cells #[.int .i64 0,.slice none 0 0] 29)):=(Below.refl _ _).alloc (Nat.le_refl _) _; have HB2:=zH (show (w.alloc (.cells #[.int .i64 0,.slice none 0 0] 29)).heap[w.heap.size]? = some (.cells #[.int .i64 0,.slice none 0 0] 29 (0,0)) from heap_alloc_new _ _); have HO:=zH (open_any A c bs _ (h.up hal0) hc hn); have HAL:=zH hal0; have HS0:=zH (show (w.alloc (.cells #[.int .i64 0,.slice none 0 0] 29)).heap.size = w.heap.size + 1 by simp); clear hal0 h
 go_enter Tryz.func14,Tryz.ntmps14
 go_wp2_with fail
 have hs0:=HS0.out; clear HS0; generalize w.alloc (.cells #[.int .i64 0,.slice none 0 0] 29) = w0 at *; refine HO.out.mono ?_; clear HO; rintro e w1 ⟨r,rfl,hr,hR1,hb1⟩; have HB2:=zH ((hb1.block _ (lt_of_block HB2.out)).trans HB2.out); have HBW:=zH (z09 HAL.out hb1); have hr2 : w.heap.size < r:=by omega
 have hrl:=hR1.lt; obtain ⟨T,hT⟩ : ∃ T : Nat -> Prop,∀ b,T b ↔ b = r \/ b = w.heap.size:=⟨fun b => b = r \/ b = w.heap.size,fun _ => Iff.rfl⟩; have HT:=zH hT; have HTL : Hid (∀ b,T b -> b < w1.heap.size):=zH fun b hb => by have:=(hT b).1 hb; omega
 have hT9 : T r:=(hT r).2 (.inl rfl); have HTr:=zH hT9; clear hT hb1 HAL hs0; have hrz : r < w1.heap.size:=hrl; have hwz : w.heap.size < w1.heap.size:=by omega
 clear hT9
 go_wp2_with fail
 refine (z17 r 0 12 w1 hR1 (by omega) (by omega) (by omega) (by omega)).mono ?_; rintro e w2 ⟨k,rfl,k0,kL,_,hR2,hg9⟩; have hg9:=Gr.one (S:=IsR r) hg9 rfl; have HB2:=zH (hg9.heap (by show ¬ _ = r; omega) HB2.out); have HG3:=zH hg9; have hz9:=hg9.size; clear hg9; have kL:=kL (by omega); clear hR1
 go_wp2_with fail
 refine (z17 r (0 + 1) 16 w2 hR2 (by omega) (by omega) (by omega) (by omega)).mono ?_; rintro e w3 ⟨m,rfl,m0,mL,_,hR3,hg9⟩; have hg9:=Gr.one (S:=IsR r) hg9 rfl; have HB2:=zH (hg9.heap (by show ¬ _ = r; omega) HB2.out); have HG3:=zH (HG3.out.trans hg9); have hz9:=hg9.size; clear hg9; clear hR2
 by_cases hm0 : m = 0
 ·
  have hmb : (m == 0) = true:=by simpa using hm0
  clear hm0
  go_wp2_with fail
  refine (z17 r (0 + 1 + 1) 20 w3 hR3 (by omega) (by omega) (by omega) (by omega)).mono ?_; rintro e w4 ⟨o,rfl,o0,oL,_,hR4,hg9⟩; have hg9:=Gr.one (S:=IsR r) hg9 rfl; have HB2:=zH (hg9.heap (by show ¬ _ = r; omega) HB2.out); have HG3:=zH (HG3.out.trans hg9); have hz9:=hg9.size; clear hg9; have oL:=oL (by omega); clear hR3
  go_wp2_with fail
  refine (l7Two_any T r (0 + 1 + 1 + 1) w4 hR4 (fun b hb => by have:=HTL.out b hb; omega) HTr.out (by omega) (by omega)).mono ?_; rintro e w2 ⟨n,A2,c2,xs,X,cx,ys,Y,cy,rfl,hs2,hx2,hy2,hbn,hkx,hky,hcx,hcy,q2,q20,q21,hR2,hg9⟩; have HB2:=zH (hg9.heap (by show ¬ _ = r; omega) HB2.out); have HG3:=zH (HG3.out.trans hg9); have hz9:=hg9.size; clear hg9; have HBN:=zH hbn; obtain ⟨hx5,hy5⟩ : xs.length <= 5 /\ ys.length <= 5:=⟨hkx.1,hky.1⟩; have HK:=zH (And.intro hkx hky); have HCC:=zH (And.intro hcx hcy); have hal : Below w2.heap.size w2 (w2.alloc (.cells #[.int .i64 n.ins,.slice A2 n.gs.length c2] 29)):=(Below.refl _ _).alloc (Nat.le_refl _) _; have HB5:=zH (show (w2.alloc (.cells #[.int .i64 n.ins,.slice A2 n.gs.length c2] 29)).heap[w2.heap.size]? = some (.cells #[.int .i64 n.ins,.slice A2 n.gs.length c2] 29 (0,0)) from heap_alloc_new _ _); have HB2w:=HB2; have HG2:=HG3; have HS2:=zH hs2; have HX2:=zH hx2; have HY2:=zH hy2; have HB2:=zH ((hal.block _ (lt_of_block HB2.out)).trans HB2.out); have hR7:=hR2.up hal; have HG3:=zH (HG3.out.up hal); have HS:=zH (hs2.gr (.below hal)); have HX:=zH (hx2.gr (.below hal)); have HY:=zH (hy2.gr (.below hal)); have i5 : r < w2.heap.size:=by omega
  have i6 : w.heap.size < w2.heap.size:=by omega
  clear hal hR2 hs2 hx2 hy2 hbn hkx hky hcx hcy hR4
  by_cases h14 : o = 14
  ·
   have hb14 : (o == 14) = true:=by simpa using h14
   have H14:=zH h14; clear h14
   by_cases hl1 : (1 : Int) < xs.length
   ·
    skip
    have hcx2 : (xs.length : Int) <= cx:=by have:=HCC.out.1; omega
    have hcy2 : (ys.length : Int) <= cy:=by have:=HCC.out.2; omega
    go_wp2_with fail
    generalize w2.alloc (.cells #[.int .i64 n.ins,.slice A2 n.gs.length c2] 29) = w7 at *; generalize hb5e : w2.heap.size = b5 at *; clear hb5e; refine (z17 r q2 _ w7 hR7 (by omega) (by omega) (by omega) (by omega)).mono ?_; clear HB2w HG2 HS2 HX2 HY2; rintro e w9 ⟨kk,rfl,kk0,kk1,kk2,hR9,hg9⟩; have hg9:=Gr.one (S:=IsR r) hg9 rfl; have HB2:=zH (hg9.heap (by show ¬ _ = r; omega) HB2.out); have HB5:=zH (hg9.heap (by show ¬ _ = r; omega) HB5.out); have HS:=zH (HS.out.gr (hg9.mono fun b hb => by rw [show b = r from hb]; exact HTr.out)); have HX:=zH (HX.out.gr (hg9.mono fun b hb => by rw [show b = r from hb]; exact HTr.out)); have HY:=zH (HY.out.gr (hg9.mono fun b hb => by rw [show b = r from hb]; exact HTr.out)); have HG3:=zH (HG3.out.trans hg9); have hz9:=hg9.size; clear hg9; have kk1:=kk1 (by omega); obtain ⟨kn,rfl⟩ : ∃ kn : Nat,kk = kn:=⟨kk.toNat,by omega⟩; clear hR7 hR9; obtain ⟨adx,rfl,-,-⟩:=HX.out.at_int (k:=0) (by omega); have HXT:=zH (okMks_take HK.out.1 (1 + kn)); have hlx : (xs.take (1 + kn)).length = 1 + kn:=by rw [List.length_take]; omega
    have HXS:=zH (HX.out.take (1 + kn)); have HXC : Hid ((xs.take (1 + kn)).length <= cx):=zH (by rw [hlx]; omega); obtain ⟨tx,htx⟩ : ∃ tx,tx = xs.take (1 + kn):=⟨_,rfl⟩; rw [<- htx] at HXT HXS HXC hlx; clear htx HX
    by_cases hy2 : (ys.length : Int) < 2
    ·
     have HM:=zH (l1Min_any ys.length 2 w9); rw [if_pos hy2] at HM
     go_wp2_with fail
     refine HM.out.mono ?_; clear HM; rintro e wz ⟨rfl,hwz⟩; subst hwz; obtain ⟨wz,hwz⟩ : ∃ wz,wz = w9:=⟨_,rfl⟩; subst hwz; have v0:=(z00 HB5.out 0).1; have v1:=(z00 HB5.out 1).1; have u0:=(z00 HB2.out 0).1; have u1:=(z00 HB2.out 1).1; have g0:=(z00 HB2.out 0).2; have g1:=(z00 HB2.out 1).2
     go_wp2
     have HX:=HXS; have hset : Gr T wz ((wz.setCell ⟨w.heap.size,0,none⟩ (.int .i64 n.ins)).setCell ⟨w.heap.size,1,none⟩ (.slice A2 n.gs.length c2)):=((Gr.refl _ _).set _ _ _ (.inl ((HT.out _).2 (.inr rfl)))).set _ _ _ (.inl ((HT.out _).2 (.inr rfl))); have HL:=zH (And.intro ((HS.out.gr hset).ab_rd) (And.intro ((HX.out.gr hset).ab_rd) ((HY.out.gr hset).ab_rd))); have HGG:=zH (((Gr.below (S:=T) HBW.out).trans (HG3.out.mono fun b hb => (HT.out b).2 (.inl hb))).trans hset); have HQ2:=zH (z04 _ (w.heap.size) 1 (.slice A2 n.gs.length c2) _ _ (z04 _ (w.heap.size) 0 (.int .i64 n.ins) _ _ HB2.out)); clear hset; have k5:=(z00 HQ2.out 0).1; have k6:=(z00 HQ2.out 1).1; have kf5:=(z00 HQ2.out 0).2; have kf6:=(z00 HQ2.out 1).2; refine bodyPost_ret (v:=.tuple #[.agg #[.int .i64 n.ins,.slice A2 n.gs.length c2],.int .i64 o,.slice (some adx) (1 + kn) cx,.slice Y ys.length cy]) (by simp [results,Tryz.results14,go_sem,k5,k6,kf5,kf6]) rfl ⟨n,A2,c2,o,tx,(some adx),cx,ys,Y,cy,(by rw [hlx]),HL.out.1,HL.out.2.1,HL.out.2.2,HBN.out,(by unfold z15; omega),HXT.out,HK.out.2,HXC.out,HCC.out.2,?_⟩; exact HGG.out.to_below fun b hb => by rcases (HT.out b).1 hb with h9 | h9 <;> omega
    ·
     have HM:=zH (l1Min_any ys.length 2 w9); rw [if_neg hy2] at HM; obtain ⟨ady,rfl,-,-⟩:=HY.out.at_int (k:=0) (by omega); have HYT:=zH (okMks_take HK.out.2 2); have hly : (ys.take 2).length = 2:=by rw [List.length_take]; omega
     have HYC : Hid ((ys.take 2).length <= cy):=zH (by rw [hly]; omega); have HYS:=zH (HY.out.take 2); obtain ⟨ty,hty⟩ : ∃ ty,ty = ys.take 2:=⟨_,rfl⟩; rw [<- hty] at HYT HYS HYC hly; clear hty HY
     go_wp2_with fail
     refine HM.out.mono ?_; clear HM; rintro e wz ⟨rfl,hwz⟩; subst hwz; obtain ⟨wz,hwz⟩ : ∃ wz,wz = w9:=⟨_,rfl⟩; subst hwz; have v0:=(z00 HB5.out 0).1; have v1:=(z00 HB5.out 1).1; have u0:=(z00 HB2.out 0).1; have u1:=(z00 HB2.out 1).1; have g0:=(z00 HB2.out 0).2; have g1:=(z00 HB2.out 1).2
     go_wp2
     have HX:=HXS; have HY:=HYS; have hset : Gr T wz ((wz.setCell ⟨w.heap.size,0,none⟩ (.int .i64 n.ins)).setCell ⟨w.heap.size,1,none⟩ (.slice A2 n.gs.length c2)):=((Gr.refl _ _).set _ _ _ (.inl ((HT.out _).2 (.inr rfl)))).set _ _ _ (.inl ((HT.out _).2 (.inr rfl))); have HL:=zH (And.intro ((HS.out.gr hset).ab_rd) (And.intro ((HX.out.gr hset).ab_rd) ((HY.out.gr hset).ab_rd))); have HGG:=zH (((Gr.below (S:=T) HBW.out).trans (HG3.out.mono fun b hb => (HT.out b).2 (.inl hb))).trans hset); have HQ2:=zH (z04 _ (w.heap.size) 1 (.slice A2 n.gs.length c2) _ _ (z04 _ (w.heap.size) 0 (.int .i64 n.ins) _ _ HB2.out)); clear hset; have k5:=(z00 HQ2.out 0).1; have k6:=(z00 HQ2.out 1).1; have kf5:=(z00 HQ2.out 0).2; have kf6:=(z00 HQ2.out 1).2; refine bodyPost_ret (v:=.tuple #[.agg #[.int .i64 n.ins,.slice A2 n.gs.length c2],.int .i64 o,.slice (some adx) (1 + kn) cx,.slice (some ady) 2 cy]) (by simp [results,Tryz.results14,go_sem,k5,k6,kf5,kf6]) rfl ⟨n,A2,c2,o,tx,(some adx),cx,ty,(some ady),cy,(by rw [hlx,hly]),HL.out.1,HL.out.2.1,HL.out.2.2,HBN.out,(by unfold z15; omega),HXT.out,HYT.out,HXC.out,HYC.out,?_⟩; exact HGG.out.to_below fun b hb => by rcases (HT.out b).1 hb with h9 | h9 <;> omega
   ·
    skip
    have u0:=(z00 HB2w.out 0).1; have u1:=(z00 HB2w.out 1).1; have g0:=(z00 HB2w.out 0).2; have g1:=(z00 HB2w.out 1).2; have hal2 : Below ((w2.setCell ⟨w.heap.size,0,none⟩ (.int .i64 n.ins)).setCell ⟨w.heap.size,1,none⟩ (.slice A2 n.gs.length c2)).heap.size ((w2.setCell ⟨w.heap.size,0,none⟩ (.int .i64 n.ins)).setCell ⟨w.heap.size,1,none⟩ (.slice A2 n.gs.length c2)) (((w2.setCell ⟨w.heap.size,0,none⟩ (.int .i64 n.ins)).setCell ⟨w.heap.size,1,none⟩ (.slice A2 n.gs.length c2)).alloc (.cells #[.int .i64 n.ins,.slice A2 n.gs.length c2] 29)):=(Below.refl _ _).alloc (Nat.le_refl _) _; have hset : Gr T w2 (((w2.setCell ⟨w.heap.size,0,none⟩ (.int .i64 n.ins)).setCell ⟨w.heap.size,1,none⟩ (.slice A2 n.gs.length c2)).alloc (.cells #[.int .i64 n.ins,.slice A2 n.gs.length c2] 29)):=(((Gr.refl _ _).set _ _ _ (.inl ((HT.out _).2 (.inr rfl)))).set _ _ _ (.inl ((HT.out _).2 (.inr rfl)))).up hal2; have HL:=zH (And.intro ((HS2.out.gr hset).ab_rd) (And.intro ((HX2.out.gr hset).ab_rd) ((HY2.out.gr hset).ab_rd))); have HGG:=zH (((Gr.below (S:=T) HBW.out).trans (HG2.out.mono fun b hb => (HT.out b).2 (.inl hb))).trans hset); have hq:=z04 _ (w.heap.size) 1 (.slice A2 n.gs.length c2) _ _ (z04 _ (w.heap.size) 0 (.int .i64 n.ins) _ _ HB2w.out); have HQ2:=zH ((hal2.block _ (lt_of_block hq)).trans hq); clear hset hal2 hq
    go_wp2
    clear u0 u1 g0 g1; generalize ((w2.setCell ⟨w.heap.size,0,none⟩ (.int .i64 n.ins)).setCell ⟨w.heap.size,1,none⟩ (.slice A2 n.gs.length c2)).alloc (.cells #[.int .i64 n.ins,.slice A2 n.gs.length c2] 29) = wz at *; have k5:=(z00 HQ2.out 0).1; have k6:=(z00 HQ2.out 1).1; have kf5:=(z00 HQ2.out 0).2; have kf6:=(z00 HQ2.out 1).2; refine bodyPost_ret (v:=.tuple #[.agg #[.int .i64 n.ins,.slice A2 n.gs.length c2],.int .i64 o,.slice X xs.length cx,.slice Y ys.length cy]) (by simp [results,Tryz.results14,go_sem,k5,k6,kf5,kf6]) rfl ⟨n,A2,c2,o,xs,X,cx,ys,Y,cy,rfl,HL.out.1,HL.out.2.1,HL.out.2.2,HBN.out,(by unfold z15; omega),HK.out.1,HK.out.2,HCC.out.1,HCC.out.2,?_⟩; exact HGG.out.to_below fun b hb => by rcases (HT.out b).1 hb with h9 | h9 <;> omega
  ·
   have hb14 : (o == 14) = false:=by simpa using h14
   clear h14; have u0:=(z00 HB2w.out 0).1; have u1:=(z00 HB2w.out 1).1; have g0:=(z00 HB2w.out 0).2; have g1:=(z00 HB2w.out 1).2; have hal2 : Below ((w2.setCell ⟨w.heap.size,0,none⟩ (.int .i64 n.ins)).setCell ⟨w.heap.size,1,none⟩ (.slice A2 n.gs.length c2)).heap.size ((w2.setCell ⟨w.heap.size,0,none⟩ (.int .i64 n.ins)).setCell ⟨w.heap.size,1,none⟩ (.slice A2 n.gs.length c2)) (((w2.setCell ⟨w.heap.size,0,none⟩ (.int .i64 n.ins)).setCell ⟨w.heap.size,1,none⟩ (.slice A2 n.gs.length c2)).alloc (.cells #[.int .i64 n.ins,.slice A2 n.gs.length c2] 29)):=(Below.refl _ _).alloc (Nat.le_refl _) _; have hset : Gr T w2 (((w2.setCell ⟨w.heap.size,0,none⟩ (.int .i64 n.ins)).setCell ⟨w.heap.size,1,none⟩ (.slice A2 n.gs.length c2)).alloc (.cells #[.int .i64 n.ins,.slice A2 n.gs.length c2] 29)):=(((Gr.refl _ _).set _ _ _ (.inl ((HT.out _).2 (.inr rfl)))).set _ _ _ (.inl ((HT.out _).2 (.inr rfl)))).up hal2; have HL:=zH (And.intro ((HS2.out.gr hset).ab_rd) (And.intro ((HX2.out.gr hset).ab_rd) ((HY2.out.gr hset).ab_rd))); have HGG:=zH (((Gr.below (S:=T) HBW.out).trans (HG2.out.mono fun b hb => (HT.out b).2 (.inl hb))).trans hset); have hq:=z04 _ (w.heap.size) 1 (.slice A2 n.gs.length c2) _ _ (z04 _ (w.heap.size) 0 (.int .i64 n.ins) _ _ HB2w.out); have HQ2:=zH ((hal2.block _ (lt_of_block hq)).trans hq); clear hset hal2 hq
   go_wp2
   clear u0 u1 g0 g1; generalize ((w2.setCell ⟨w.heap.size,0,none⟩ (.int .i64 n.ins)).setCell ⟨w.heap.size,1,none⟩ (.slice A2 n.gs.length c2)).alloc (.cells #[.int .i64 n.ins,.slice A2 n.gs.length c2] 29) = wz at *; have k5:=(z00 HQ2.out 0).1; have k6:=(z00 HQ2.out 1).1; have kf5:=(z00 HQ2.out 0).2; have kf6:=(z00 HQ2.out 1).2; refine bodyPost_ret (v:=.tuple #[.agg #[.int .i64 n.ins,.slice A2 n.gs.length c2],.int .i64 o,.slice X xs.length cx,.slice Y ys.length cy]) (by simp [results,Tryz.results14,go_sem,k5,k6,kf5,kf6]) rfl ⟨n,A2,c2,o,xs,X,cx,ys,Y,cy,rfl,HL.out.1,HL.out.2.1,HL.out.2.2,HBN.out,(by unfold z15; omega),HK.out.1,HK.out.2,HCC.out.1,HCC.out.2,?_⟩; exact HGG.out.to_below fun b hb => by rcases (HT.out b).1 hb with h9 | h9 <;> omega
 ·
  have hmb : (m == 0) = false:=by simpa using hm0
  clear hm0
  go_wp2_with fail
  refine (l7Two_any T r (0 + 1 + 1) w3 hR3 (fun b hb => by have:=HTL.out b hb; omega) HTr.out (by omega) (by omega)).mono ?_; rintro e w2 ⟨n,A2,c2,xs,X,cx,ys,Y,cy,rfl,hs2,hx2,hy2,hbn,hkx,hky,hcx,hcy,q2,q20,q21,hR2,hg9⟩; have HB2:=zH (hg9.heap (by show ¬ _ = r; omega) HB2.out); have HG3:=zH (HG3.out.trans hg9); have hz9:=hg9.size; clear hg9; have HBN:=zH hbn; obtain ⟨hx5,hy5⟩ : xs.length <= 5 /\ ys.length <= 5:=⟨hkx.1,hky.1⟩; have HK:=zH (And.intro hkx hky); have HCC:=zH (And.intro hcx hcy); have hal : Below w2.heap.size w2 (w2.alloc (.cells #[.int .i64 n.ins,.slice A2 n.gs.length c2] 29)):=(Below.refl _ _).alloc (Nat.le_refl _) _; have HB5:=zH (show (w2.alloc (.cells #[.int .i64 n.ins,.slice A2 n.gs.length c2] 29)).heap[w2.heap.size]? = some (.cells #[.int .i64 n.ins,.slice A2 n.gs.length c2] 29 (0,0)) from heap_alloc_new _ _); have HB2w:=HB2; have HG2:=HG3; have HS2:=zH hs2; have HX2:=zH hx2; have HY2:=zH hy2; have HB2:=zH ((hal.block _ (lt_of_block HB2.out)).trans HB2.out); have hR7:=hR2.up hal; have HG3:=zH (HG3.out.up hal); have HS:=zH (hs2.gr (.below hal)); have HX:=zH (hx2.gr (.below hal)); have HY:=zH (hy2.gr (.below hal)); have i5 : r < w2.heap.size:=by omega
  have i6 : w.heap.size < w2.heap.size:=by omega
  clear hal hR2 hs2 hx2 hy2 hbn hkx hky hcx hcy hR3
  by_cases h14 : (3 + k) = 14
  ·
   have hb14 : ((3 + k) == 14) = true:=by simpa using h14
   have H14:=zH h14; clear h14
   by_cases hl1 : (1 : Int) < xs.length
   ·
    skip
    have hcx2 : (xs.length : Int) <= cx:=by have:=HCC.out.1; omega
    have hcy2 : (ys.length : Int) <= cy:=by have:=HCC.out.2; omega
    go_wp2_with fail
    generalize w2.alloc (.cells #[.int .i64 n.ins,.slice A2 n.gs.length c2] 29) = w7 at *; generalize hb5e : w2.heap.size = b5 at *; clear hb5e; refine (z17 r q2 _ w7 hR7 (by omega) (by omega) (by omega) (by omega)).mono ?_; clear HB2w HG2 HS2 HX2 HY2; rintro e w9 ⟨kk,rfl,kk0,kk1,kk2,hR9,hg9⟩; have hg9:=Gr.one (S:=IsR r) hg9 rfl; have HB2:=zH (hg9.heap (by show ¬ _ = r; omega) HB2.out); have HB5:=zH (hg9.heap (by show ¬ _ = r; omega) HB5.out); have HS:=zH (HS.out.gr (hg9.mono fun b hb => by rw [show b = r from hb]; exact HTr.out)); have HX:=zH (HX.out.gr (hg9.mono fun b hb => by rw [show b = r from hb]; exact HTr.out)); have HY:=zH (HY.out.gr (hg9.mono fun b hb => by rw [show b = r from hb]; exact HTr.out)); have HG3:=zH (HG3.out.trans hg9); have hz9:=hg9.size; clear hg9; have kk1:=kk1 (by omega); obtain ⟨kn,rfl⟩ : ∃ kn : Nat,kk = kn:=⟨kk.toNat,by omega⟩; clear hR7 hR9; obtain ⟨adx,rfl,-,-⟩:=HX.out.at_int (k:=0) (by omega); have HXT:=zH (okMks_take HK.out.1 (1 + kn)); have hlx : (xs.take (1 + kn)).length = 1 + kn:=by rw [List.length_take]; omega
    have HXS:=zH (HX.out.take (1 + kn)); have HXC : Hid ((xs.take (1 + kn)).length <= cx):=zH (by rw [hlx]; omega); obtain ⟨tx,htx⟩ : ∃ tx,tx = xs.take (1 + kn):=⟨_,rfl⟩; rw [<- htx] at HXT HXS HXC hlx; clear htx HX
    by_cases hy2 : (ys.length : Int) < 2
    ·
     have HM:=zH (l1Min_any ys.length 2 w9); rw [if_pos hy2] at HM
     go_wp2_with fail
     refine HM.out.mono ?_; clear HM; rintro e wz ⟨rfl,hwz⟩; subst hwz; obtain ⟨wz,hwz⟩ : ∃ wz,wz = w9:=⟨_,rfl⟩; subst hwz; have v0:=(z00 HB5.out 0).1; have v1:=(z00 HB5.out 1).1; have u0:=(z00 HB2.out 0).1; have u1:=(z00 HB2.out 1).1; have g0:=(z00 HB2.out 0).2; have g1:=(z00 HB2.out 1).2
     go_wp2
     have HX:=HXS; have hset : Gr T wz ((wz.setCell ⟨w.heap.size,0,none⟩ (.int .i64 n.ins)).setCell ⟨w.heap.size,1,none⟩ (.slice A2 n.gs.length c2)):=((Gr.refl _ _).set _ _ _ (.inl ((HT.out _).2 (.inr rfl)))).set _ _ _ (.inl ((HT.out _).2 (.inr rfl))); have HL:=zH (And.intro ((HS.out.gr hset).ab_rd) (And.intro ((HX.out.gr hset).ab_rd) ((HY.out.gr hset).ab_rd))); have HGG:=zH (((Gr.below (S:=T) HBW.out).trans (HG3.out.mono fun b hb => (HT.out b).2 (.inl hb))).trans hset); have HQ2:=zH (z04 _ (w.heap.size) 1 (.slice A2 n.gs.length c2) _ _ (z04 _ (w.heap.size) 0 (.int .i64 n.ins) _ _ HB2.out)); clear hset; have k5:=(z00 HQ2.out 0).1; have k6:=(z00 HQ2.out 1).1; have kf5:=(z00 HQ2.out 0).2; have kf6:=(z00 HQ2.out 1).2; refine bodyPost_ret (v:=.tuple #[.agg #[.int .i64 n.ins,.slice A2 n.gs.length c2],.int .i64 (3 + k),.slice (some adx) (1 + kn) cx,.slice Y ys.length cy]) (by simp [results,Tryz.results14,go_sem,k5,k6,kf5,kf6]) rfl ⟨n,A2,c2,(3 + k),tx,(some adx),cx,ys,Y,cy,(by rw [hlx]),HL.out.1,HL.out.2.1,HL.out.2.2,HBN.out,(by unfold z15; omega),HXT.out,HK.out.2,HXC.out,HCC.out.2,?_⟩; exact HGG.out.to_below fun b hb => by rcases (HT.out b).1 hb with h9 | h9 <;> omega
    ·
     have HM:=zH (l1Min_any ys.length 2 w9); rw [if_neg hy2] at HM; obtain ⟨ady,rfl,-,-⟩:=HY.out.at_int (k:=0) (by omega); have HYT:=zH (okMks_take HK.out.2 2); have hly : (ys.take 2).length = 2:=by rw [List.length_take]; omega
     have HYC : Hid ((ys.take 2).length <= cy):=zH (by rw [hly]; omega); have HYS:=zH (HY.out.take 2); obtain ⟨ty,hty⟩ : ∃ ty,ty = ys.take 2:=⟨_,rfl⟩; rw [<- hty] at HYT HYS HYC hly; clear hty HY
     go_wp2_with fail
     refine HM.out.mono ?_; clear HM; rintro e wz ⟨rfl,hwz⟩; subst hwz; obtain ⟨wz,hwz⟩ : ∃ wz,wz = w9:=⟨_,rfl⟩; subst hwz; have v0:=(z00 HB5.out 0).1; have v1:=(z00 HB5.out 1).1; have u0:=(z00 HB2.out 0).1; have u1:=(z00 HB2.out 1).1; have g0:=(z00 HB2.out 0).2; have g1:=(z00 HB2.out 1).2
     go_wp2
     have HX:=HXS; have HY:=HYS; have hset : Gr T wz ((wz.setCell ⟨w.heap.size,0,none⟩ (.int .i64 n.ins)).setCell ⟨w.heap.size,1,none⟩ (.slice A2 n.gs.length c2)):=((Gr.refl _ _).set _ _ _ (.inl ((HT.out _).2 (.inr rfl)))).set _ _ _ (.inl ((HT.out _).2 (.inr rfl))); have HL:=zH (And.intro ((HS.out.gr hset).ab_rd) (And.intro ((HX.out.gr hset).ab_rd) ((HY.out.gr hset).ab_rd))); have HGG:=zH (((Gr.below (S:=T) HBW.out).trans (HG3.out.mono fun b hb => (HT.out b).2 (.inl hb))).trans hset); have HQ2:=zH (z04 _ (w.heap.size) 1 (.slice A2 n.gs.length c2) _ _ (z04 _ (w.heap.size) 0 (.int .i64 n.ins) _ _ HB2.out)); clear hset; have k5:=(z00 HQ2.out 0).1; have k6:=(z00 HQ2.out 1).1; have kf5:=(z00 HQ2.out 0).2; have kf6:=(z00 HQ2.out 1).2; refine bodyPost_ret (v:=.tuple #[.agg #[.int .i64 n.ins,.slice A2 n.gs.length c2],.int .i64 (3 + k),.slice (some adx) (1 + kn) cx,.slice (some ady) 2 cy]) (by simp [results,Tryz.results14,go_sem,k5,k6,kf5,kf6]) rfl ⟨n,A2,c2,(3 + k),tx,(some adx),cx,ty,(some ady),cy,(by rw [hlx,hly]),HL.out.1,HL.out.2.1,HL.out.2.2,HBN.out,(by unfold z15; omega),HXT.out,HYT.out,HXC.out,HYC.out,?_⟩; exact HGG.out.to_below fun b hb => by rcases (HT.out b).1 hb with h9 | h9 <;> omega
   ·
    skip
    have u0:=(z00 HB2w.out 0).1; have u1:=(z00 HB2w.out 1).1; have g0:=(z00 HB2w.out 0).2; have g1:=(z00 HB2w.out 1).2; have hal2 : Below ((w2.setCell ⟨w.heap.size,0,none⟩ (.int .i64 n.ins)).setCell ⟨w.heap.size,1,none⟩ (.slice A2 n.gs.length c2)).heap.size ((w2.setCell ⟨w.heap.size,0,none⟩ (.int .i64 n.ins)).setCell ⟨w.heap.size,1,none⟩ (.slice A2 n.gs.length c2)) (((w2.setCell ⟨w.heap.size,0,none⟩ (.int .i64 n.ins)).setCell ⟨w.heap.size,1,none⟩ (.slice A2 n.gs.length c2)).alloc (.cells #[.int .i64 n.ins,.slice A2 n.gs.length c2] 29)):=(Below.refl _ _).alloc (Nat.le_refl _) _; have hset : Gr T w2 (((w2.setCell ⟨w.heap.size,0,none⟩ (.int .i64 n.ins)).setCell ⟨w.heap.size,1,none⟩ (.slice A2 n.gs.length c2)).alloc (.cells #[.int .i64 n.ins,.slice A2 n.gs.length c2] 29)):=(((Gr.refl _ _).set _ _ _ (.inl ((HT.out _).2 (.inr rfl)))).set _ _ _ (.inl ((HT.out _).2 (.inr rfl)))).up hal2; have HL:=zH (And.intro ((HS2.out.gr hset).ab_rd) (And.intro ((HX2.out.gr hset).ab_rd) ((HY2.out.gr hset).ab_rd))); have HGG:=zH (((Gr.below (S:=T) HBW.out).trans (HG2.out.mono fun b hb => (HT.out b).2 (.inl hb))).trans hset); have hq:=z04 _ (w.heap.size) 1 (.slice A2 n.gs.length c2) _ _ (z04 _ (w.heap.size) 0 (.int .i64 n.ins) _ _ HB2w.out); have HQ2:=zH ((hal2.block _ (lt_of_block hq)).trans hq); clear hset hal2 hq
    go_wp2
    clear u0 u1 g0 g1; generalize ((w2.setCell ⟨w.heap.size,0,none⟩ (.int .i64 n.ins)).setCell ⟨w.heap.size,1,none⟩ (.slice A2 n.gs.length c2)).alloc (.cells #[.int .i64 n.ins,.slice A2 n.gs.length c2] 29) = wz at *; have k5:=(z00 HQ2.out 0).1; have k6:=(z00 HQ2.out 1).1; have kf5:=(z00 HQ2.out 0).2; have kf6:=(z00 HQ2.out 1).2; refine bodyPost_ret (v:=.tuple #[.agg #[.int .i64 n.ins,.slice A2 n.gs.length c2],.int .i64 (3 + k),.slice X xs.length cx,.slice Y ys.length cy]) (by simp [results,Tryz.results14,go_sem,k5,k6,kf5,kf6]) rfl ⟨n,A2,c2,(3 + k),xs,X,cx,ys,Y,cy,rfl,HL.out.1,HL.out.2.1,HL.out.2.2,HBN.out,(by unfold z15; omega),HK.out.1,HK.out.2,HCC.out.1,HCC.out.2,?_⟩; exact HGG.out.to_below fun b hb => by rcases (HT.out b).1 hb with h9 | h9 <;> omega
  ·
   have hb14 : ((3 + k) == 14) = false:=by simpa using h14
   clear h14; have u0:=(z00 HB2w.out 0).1; have u1:=(z00 HB2w.out 1).1; have g0:=(z00 HB2w.out 0).2; have g1:=(z00 HB2w.out 1).2; have hal2 : Below ((w2.setCell ⟨w.heap.size,0,none⟩ (.int .i64 n.ins)).setCell ⟨w.heap.size,1,none⟩ (.slice A2 n.gs.length c2)).heap.size ((w2.setCell ⟨w.heap.size,0,none⟩ (.int .i64 n.ins)).setCell ⟨w.heap.size,1,none⟩ (.slice A2 n.gs.length c2)) (((w2.setCell ⟨w.heap.size,0,none⟩ (.int .i64 n.ins)).setCell ⟨w.heap.size,1,none⟩ (.slice A2 n.gs.length c2)).alloc (.cells #[.int .i64 n.ins,.slice A2 n.gs.length c2] 29)):=(Below.refl _ _).alloc (Nat.le_refl _) _; have hset : Gr T w2 (((w2.setCell ⟨w.heap.size,0,none⟩ (.int .i64 n.ins)).setCell ⟨w.heap.size,1,none⟩ (.slice A2 n.gs.length c2)).alloc (.cells #[.int .i64 n.ins,.slice A2 n.gs.length c2] 29)):=(((Gr.refl _ _).set _ _ _ (.inl ((HT.out _).2 (.inr rfl)))).set _ _ _ (.inl ((HT.out _).2 (.inr rfl)))).up hal2; have HL:=zH (And.intro ((HS2.out.gr hset).ab_rd) (And.intro ((HX2.out.gr hset).ab_rd) ((HY2.out.gr hset).ab_rd))); have HGG:=zH (((Gr.below (S:=T) HBW.out).trans (HG2.out.mono fun b hb => (HT.out b).2 (.inl hb))).trans hset); have hq:=z04 _ (w.heap.size) 1 (.slice A2 n.gs.length c2) _ _ (z04 _ (w.heap.size) 0 (.int .i64 n.ins) _ _ HB2w.out); have HQ2:=zH ((hal2.block _ (lt_of_block hq)).trans hq); clear hset hal2 hq
   go_wp2
   clear u0 u1 g0 g1; generalize ((w2.setCell ⟨w.heap.size,0,none⟩ (.int .i64 n.ins)).setCell ⟨w.heap.size,1,none⟩ (.slice A2 n.gs.length c2)).alloc (.cells #[.int .i64 n.ins,.slice A2 n.gs.length c2] 29) = wz at *; have k5:=(z00 HQ2.out 0).1; have k6:=(z00 HQ2.out 1).1; have kf5:=(z00 HQ2.out 0).2; have kf6:=(z00 HQ2.out 1).2; refine bodyPost_ret (v:=.tuple #[.agg #[.int .i64 n.ins,.slice A2 n.gs.length c2],.int .i64 (3 + k),.slice X xs.length cx,.slice Y ys.length cy]) (by simp [results,Tryz.results14,go_sem,k5,k6,kf5,kf6]) rfl ⟨n,A2,c2,(3 + k),xs,X,cx,ys,Y,cy,rfl,HL.out.1,HL.out.2.1,HL.out.2.2,HBN.out,(by unfold z15; omega),HK.out.1,HK.out.2,HCC.out.1,HCC.out.2,?_⟩; exact HGG.out.to_below fun b hb => by rcases (HT.out b).1 hb with h9 | h9 <;> omega
theorem src_bools {w : World} {F : Nat -> Prop} {A : Option Addr} {xs : List Bool} (h : Lay.bool.Sl w F A xs) : Src w 1 A xs.length (xs.map Value.bool):=by
 refine ⟨by simp,fun h0 => ?_⟩; obtain ⟨ad,rfl,_,hc⟩:=h h0; refine ⟨ad,rfl,fun j u hu => ?_⟩; rw [List.getElem?_map] at hu
 cases hx : xs[j]? with
 | none => rw [hx] at hu; cases hu
 | some x =>
  rw [hx] at hu
  injection hu with hu
  subst hu; obtain ⟨vs,rfl,hcell⟩:=hc j x hx; have:=hcell 0 _ rfl; rw [show Lay.bool.size = 1 from rfl,Nat.mul_one,Nat.add_zero] at this; exact this
theorem bools_one (xs : List Bool) : ∀ u ∈ xs.map Value.bool,u.oneCell' = true:=by
 intro u hu; obtain ⟨b,_,rfl⟩:=List.mem_map.1 hu
 rfl
theorem sl_noneB {w : World} {F : Nat -> Prop} {A : Option Addr} {xs : List Bool} (h : Lay.bool.Sl w F A xs) : A = none -> xs.length = 0:=fun e => by
 rcases Nat.eq_zero_or_pos xs.length with h0 | h0
 · exact h0
 · obtain ⟨ad,e',_⟩:=h h0; rw [e] at e'; cases e'
def OwnB (w : World) (lo : Nat) (v : Value) (bs : List Bool) : Prop:=w.ownsRow lo 4 1 v bs.length (bs.map Value.bool)
theorem OwnB.rd {w : World} {lo c : Nat} {A : Option Addr} {bs : List Bool} (h : OwnB w lo (.slice A bs.length c) bs) : Lay.bool.Rd w A bs:=(sl_bools_of_own h (fun g _ hg => hg)).1
theorem OwnB.gr {S : Nat -> Prop} {w w' : World} {lo : Nat} {v : Value} {bs : List Bool} (h : OwnB w lo v bs) (hg : Gr S w w') (hr : ∀ b,S b -> b < lo) : OwnB w' lo v bs :=
 z1d h fun g hg' => hg.block g (h.lt g hg').2 (fun e => by have:=hr g e; have:=(h.lt g hg').1; omega)
theorem OwnB.up {w w' : World} {lo : Nat} {v : Value} {bs : List Bool} (h : OwnB w lo v bs) (hb : Below w.heap.size w w') : OwnB w' lo v bs:=z0e h hb (Nat.le_refl _)
theorem OwnB.set {w : World} {lo g c k : Nat} {bs : List Bool} (h : OwnB w lo (.slice (some ⟨g,0,none⟩) bs.length c) bs) (b : Bool) : OwnB (w.setCell ⟨g,k,none⟩ (.bool b)) lo (.slice (some ⟨g,0,none⟩) bs.length c) (bs.set k b):=by
 have:=(h.stored k (.bool b)).1; unfold OwnB; rw [List.length_set,List.map_set]; exact this
theorem OwnB.cell {w : World} {lo g c k : Nat} {bs : List Bool} (h : OwnB w lo (.slice (some ⟨g,0,none⟩) bs.length c) bs) (hk : k < bs.length) : w.cell? ⟨g,k,none⟩ = some (.bool bs[k]) /\ w.frozen? ⟨g,k,none⟩ = false:=by
 refine ⟨?_,h.frozenAt k⟩; have hc:=h.2
 rcases hc with ⟨e,_⟩ | ⟨g',cap,cur,e,_,_,h3,_⟩
 · cases e
 ·
  have hx:=h.cellAt k (by simp; omega); rw [hx,List.getElem?_map,List.getElem?_eq_getElem hk]; rfl
theorem OwnB.form {w : World} {lo : Nat} {v : Value} {bs : List Bool} (h : OwnB w lo v bs) : ∃ A c,v = .slice A bs.length c /\ bs.length <= c:=by
 rcases h.2 with ⟨h1,h2⟩ | ⟨g,cap,cur,h1,_,_,h3,_⟩
 · exact ⟨none,0,by rw [h1,h2],by rw [h2]; exact Nat.le_refl _⟩
 · exact ⟨_,cap,h1,h3⟩
theorem OwnB.cap {w : World} {lo c n : Nat} {A : Option Addr} {bs : List Bool} (h : OwnB w lo (.slice A n c) bs) : n = bs.length /\ bs.length <= c:=by
 obtain ⟨A',c',e,hl⟩:=h.form
 injection e with e1 e2 e3
 exact ⟨e2,by omega⟩
theorem z2f {Q : Exit -> Act -> World -> Prop} {ops : Array Oper} {rest : List Oper} {o : Oper} {a : Act} {W : World} {lo : Nat} {A : Option Addr} {c : Nat} {xs ys : List Bool} {x : Bool} {e' : TypeId} (hgd : o.guard = none) (s y : Operand)
  (ho : o.op = .call { callee:=.builtin .append,args:=#[s,y],argTypes:=#[43,43] }) (hs : a.eval s = .slice A xs.length c) (hy : a.eval y = .slice (some ⟨W.heap.size,0,none⟩) 1 1)
  (hown : OwnB W lo (.slice A xs.length c) xs) (hn : xs.length <= 3000000) (hlo : lo <= W.heap.size) (hys : ys = xs ++ [x])
  (h : ∀ A' c' w',OwnB w' lo (.slice A' ys.length c') ys -> Below lo W w' -> wpList Tryz.prog ops Q rest (a.put o.dst (.slice A' ys.length c')) w') :
  wpList Tryz.prog ops Q (o :: rest) a (W.alloc (.cells #[.bool x] e')):=by
 obtain ⟨i0,hi0,hz0,hz1,hz2⟩:=info_parts bool_info; have hl : ys.length = xs.length + 1:=by rw [hys]; simp
 have hm : ys.map Value.bool = xs.map Value.bool ++ [.bool x]:=by rw [hys]; simp
 refine wpList_append1 (P:=Tryz.prog) hgd s y 43 ho lo 4 i0 _ 1 Tryz.underlying43 hi0 hz0 hz1 hz2 (by rfl) _ xs.length (xs.map Value.bool) (.bool x) e' hs hown hy (by rfl) (by unfold maxLen; omega) (by omega) hlo ?_; intro v' w' ho' hb; rw [<- hl,<- hm] at ho'; obtain ⟨A',c',rfl,_⟩:=OwnB.form (bs:=ys) ho'; exact h A' c' w' ho' hb
theorem neqG (w : World) (g h : G) : (binOp .neq 78 (.agg #[.bool g.x,.int .i64 g.a,.int .i64 g.b]) (.agg #[.bool h.x,.int .i64 h.a,.int .i64 h.b])).run Tryz.prog w = .ok (.bool (!decide (g = h))) w:=by
 have hh : Tryz.prog.stoodInHeld 78 = false:=by kernel_rfl
 rw [decide_G]; simp [go_sem,hh]
 (repeat' split) <;> simp_all
set_option maxHeartbeats 1000000 in
theorem equalG_any (A B : Option Addr) (c d : Nat) (xs ys : List G) (w : World) (h : Lay.gate.Rd w A xs) (h' : Lay.gate.Rd w B ys) (hn : xs.length <= 1048576) (hn' : ys.length <= 1048576) :
  Calls Tryz.prog 37 #[.slice A xs.length c,.slice B ys.length d] w fun e w' => e = .returned (.bool (decide (xs = ys))) /\ Below w.heap.size w w':=by
 by_cases hl : xs.length = ys.length
 ·
  have hne : (((xs.length : Int) != (ys.length : Int))) = false:=by simp [hl]
  have HL:=zH hl; clear hl
  go_enter Tryz.func37,Tryz.ntmps37
  go_wp2
  clear hne
  go_loopw [13] (fun i wr => ∃ k m : Nat,k <= xs.length /\ i = .int .i64 k /\ wr = w.drewN m /\ xs.take k = ys.take k) (fun i _ => xs.length - (intOf i).toNat)
  case atStart => exact ⟨0,0,Nat.zero_le _,rfl,rfl,rfl⟩
  case round =>
   obtain ⟨k,m,hk,rfl,rfl,ht⟩:=hrel; have HT:=zH ht; clear ht
   by_cases hlt : k < xs.length
   ·
    have hlt' : k < ys.length:=by have:=HL.out; omega
    obtain ⟨ad,rfl,hf,j1,j2,j3⟩:=h.at_gate hlt; obtain ⟨ad',rfl,hf',l1,l2,l3⟩:=h'.at_gate hlt'; have hk0 : (0 : Int) <= k:=by omega
    have hk1 : (k : Int) < xs.length:=by omega
    have hk2 : (k : Int) < ys.length:=by omega
    clear h h' hf hf'
    by_cases hxy : xs[k] = ys[k]
    ·
     have he : ∀ W' : World,(binOp .neq 78 (.agg #[.bool xs[k].x,.int .i64 xs[k].a,.int .i64 xs[k].b]) (.agg #[.bool ys[k].x,.int .i64 ys[k].a,.int .i64 ys[k].b])).run Tryz.prog W' = .ok (.bool false) W':=fun W' => by rw [neqG W' xs[k] ys[k],decide_eq_true hxy]; rfl
     have HS:=zH (take_eq_step hlt hlt' HT.out hxy); clear hxy; generalize xs[k] = gx at *; generalize ys[k] = gy at *
     go_wp2
     go_quiet (fail)
     clear he
     go_wp2
     go_roundw
     case rel => exact ⟨k + 1,_,by omega,by go_num,rfl,HS.out⟩
     case measure => simp [intOf]; omega
    ·
     have he : ∀ W' : World,(binOp .neq 78 (.agg #[.bool xs[k].x,.int .i64 xs[k].a,.int .i64 xs[k].b]) (.agg #[.bool ys[k].x,.int .i64 ys[k].a,.int .i64 ys[k].b])).run Tryz.prog W' = .ok (.bool true) W':=fun W' => by rw [neqG W' xs[k] ys[k],decide_eq_false hxy]; rfl
     have HXY:=zH (fun e : xs = ys => hxy (by simp [e])); clear hxy; generalize xs[k] = gx at *; generalize ys[k] = gy at *
     go_wp2
     go_quiet (fail)
     clear he
     go_wp2
     go_ret
     exact ⟨z0m (decide_eq_false HXY.out).symm,by rw [World.drewN_drewN]; exact z02 (Below.refl _ _) _⟩
   ·
    have : k = xs.length:=by omega
    subst this
    go_wp2
    go_ret
    exact ⟨z0m (by have:=HL.out; have:=HT.out; simp [eq_of_take HL.out HT.out]),z02 (Below.refl _ _) _⟩
 ·
  have hne : (((xs.length : Int) != (ys.length : Int))) = true:=by simp; omega
  go_enter Tryz.func37,Tryz.ntmps37
  go_wp2
  go_ret
  exact ⟨z0m (by simp; rintro rfl; exact hl rfl),Below.refl _ _⟩
theorem decide_N (m n : N) : decide (m = n) = (m.ins == n.ins && decide (m.gs = n.gs)):=by
 cases m; cases n; rw [Bool.eq_iff_iff]; simp
set_option maxHeartbeats 1000000 in
theorem netSame_any (m n : N) (A B : Option Addr) (c d : Nat) (w : World) (h : Lay.gate.Rd w A m.gs) (h' : Lay.gate.Rd w B n.gs) (hn : m.gs.length <= 1048576) (hn' : n.gs.length <= 1048576) :
  Calls Tryz.prog 12 #[.agg #[.int .i64 m.ins,.slice A m.gs.length c],.agg #[.int .i64 n.ins,.slice B n.gs.length d]] w fun e w' => e = .returned (.bool (decide (m = n))) /\ Below w.heap.size w w':=by
 have hw : Below w.heap.size w ((w.alloc (.cells #[.int .i64 m.ins,.slice A m.gs.length c] 29)).alloc (.cells #[.int .i64 n.ins,.slice B n.gs.length d] 29)):=((Below.refl _ _).alloc (Nat.le_refl _) _).alloc (by simp) _; have HC:=zH (equalG_any A B c d m.gs n.gs _ (h.up hw) (h'.up hw) hn hn'); have HW:=zH hw; have HD:=zH (decide_N m n); clear hw
 by_cases hi : m.ins = n.ins
 ·
  have hib : (m.ins == n.ins) = true:=by simpa using hi
  have HI:=zH hib; clear hi
  go_enter Tryz.func12,Tryz.ntmps12
  go_wp2_with fail
  refine HC.out.mono ?_; rintro e w1 ⟨rfl,hb⟩; clear hib
  go_wp2
  go_ret
  exact ⟨z0m (by rw [HD.out,HI.out]; rfl),z09 HW.out hb⟩
 ·
  have hib : (m.ins == n.ins) = false:=by simpa using hi
  have HI:=zH hib; clear hi
  go_enter Tryz.func12,Tryz.ntmps12
  go_wp2
  go_ret
  exact ⟨z0m (by rw [HD.out,HI.out]; rfl),HW.out⟩
set_option maxHeartbeats 1000000 in
theorem netOk_any (n : N) (A : Option Addr) (c : Nat) (w : World) (h : Lay.gate.Rd w A n.gs) (hn : n.gs.length <= 1048576) (hi : okInts n) :
  Calls Tryz.prog 43 #[.agg #[.int .i64 n.ins,.slice A n.gs.length c]] w fun e w' => e = .returned (.bool (z0q n)) /\ Below w.heap.size w w':=by
 have hw : Below w.heap.size w (w.alloc (.cells #[.int .i64 n.ins,.slice A n.gs.length c] 29)):=(Below.refl _ _).alloc (Nat.le_refl _) _; have hA : A = none -> n.gs.length = 0:=fun e => by
  rcases Nat.eq_zero_or_pos n.gs.length with h0 | h0
  · exact h0
  · obtain ⟨ad,e',_⟩:=h h0; rw [e] at e'; cases e'
 have HC:=zH (readNet_any A c n _ (h.up hw) hn hA hi); have HW:=zH hw; clear hw hA
 go_enter Tryz.func43,Tryz.ntmps43
 go_wp2_with fail
 refine HC.out.mono ?_; rintro e w1 ⟨hb,hres⟩
 rcases hres with ⟨hok,r,rfl,_⟩ | ⟨hok,rfl⟩
 iterate 2
  ·
   have HK:=zH hok; clear hok
   go_wp2
   go_ret
   exact ⟨z0m HK.out.symm,z09 HW.out hb⟩
theorem own_lit1 (W : World) (b : Bool) : OwnB (W.alloc (.cells #[.bool b] 4)) W.heap.size (.slice (some ⟨W.heap.size,0,none⟩) 1 1) [b]:=World.ownsRow_lit W #[.bool b] 1 (Nat.le_refl _) (by unfold maxLen; omega) (by simp)
def RetVs (vs : List Bool) (w : World) (e : Ending) (w' : World) : Prop:=∃ A c,e = .returned (.slice A vs.length c) /\ vs.length <= c /\ Lay.bool.Rd w' A vs /\ Below w.heap.size w w'
theorem netVals_no {n : N} {ins : List Bool} (h : z0q n = false \/ (ins.length : Int) ≠ n.ins) : z19 n ins = []:=by
 unfold z19; rw [if_neg]; simp only [Bool.and_eq_true,decide_eq_true_eq,not_and]; intro h1 h2
 rcases h with h | h
 · rw [h] at h1; cases h1
 · exact h h2
theorem netVals_yes {n : N} {ins : List Bool} (h : z0q n = true) (h2 : (ins.length : Int) = n.ins) : z19 n ins = runG n.gs (true :: ins):=by
 unfold z19; rw [if_pos]; rw [h,decide_eq_true h2]; rfl
set_option maxRecDepth 100000 in
set_option maxHeartbeats 2000000 in
theorem netVals_any (n : N) (ins : List Bool) (A B : Option Addr) (c d : Nat) (w : World) (h : Lay.gate.Rd w A n.gs) (hn : n.gs.length <= 1048576) (hi : okInts n) (h' : Lay.bool.Rd w B ins) (hn' : ins.length <= 1048576) :
  Calls Tryz.prog 17 #[.agg #[.int .i64 n.ins,.slice A n.gs.length c],.slice B ins.length d] w (RetVs (z19 n ins) w):=by
 have hw : Below w.heap.size w (w.alloc (.cells #[.int .i64 n.ins,.slice A n.gs.length c] 29)):=(Below.refl _ _).alloc (Nat.le_refl _) _; have HC:=zH (netOk_any n A c _ (h.up hw) hn hi); have HB:=zH (show (w.alloc (.cells #[.int .i64 n.ins,.slice A n.gs.length c] 29)).heap[w.heap.size]? = some (.cells #[.int .i64 n.ins,.slice A n.gs.length c] 29 (0,0)) from heap_alloc_new _ _); have HW:=zH hw; clear hw
 cases hok : z0q n
 ·
  have HN:=zH (netVals_no (ins:=ins) (.inl hok))
  go_enter Tryz.func17,Tryz.ntmps17
  go_wp2_with fail
  refine HC.out.mono ?_; rw [hok]; rintro e w1 ⟨rfl,hb⟩
  go_wp2
  go_ret
  rw [HN.out]; exact ⟨none,0,rfl,Nat.le_refl _,.nil _ _ _ _,z09 HW.out hb⟩
 by_cases hl : (ins.length : Int) = n.ins
 rotate_left
 ·
  have HN:=zH (netVals_no (n:=n) (ins:=ins) (.inr hl)); have hlb : ((ins.length : Int) != n.ins) = true:=by simpa using hl
  go_enter Tryz.func17,Tryz.ntmps17
  go_wp2_with fail
  refine HC.out.mono ?_; rw [hok]; rintro e w1 ⟨rfl,hb⟩; have v0 : w1.cell? ⟨w.heap.size,0,none⟩ = some (.int .i64 n.ins):=(hb.cell (lt_of_block HB.out)).trans (z00 HB.out 0).1
  go_wp2
  go_ret
  rw [HN.out]; exact ⟨none,0,rfl,Nat.le_refl _,.nil _ _ _ _,z09 HW.out hb⟩
 have HN:=zH (netVals_yes hok hl); have hlb : ((ins.length : Int) != n.ins) = false:=by simpa using hl
 have hA2:=sl_noneB h'; obtain ⟨i0,hi0,hz0,hz1,hz2⟩:=info_parts bool_info; clear hl
 go_enter Tryz.func17,Tryz.ntmps17
 go_wp2_with fail
 refine HC.out.mono ?_; rw [hok]; rintro e w1 ⟨rfl,hb⟩; clear hok HC; have HB1:=zH ((hb.block _ (lt_of_block HB.out)).trans HB.out); have hbw:=z09 HW.out hb; have hg1:=h.up hbw; have hal : Below w1.heap.size w1 (w1.alloc (.cells #[.bool true] 4)):=(Below.refl _ _).alloc (Nat.le_refl _) _; have hsrc:=src_bools ((h'.up hbw).up hal); have hol:=own_lit1 w1 true; have v0 : w1.cell? ⟨w.heap.size,0,none⟩ = some (.int .i64 n.ins):=(z00 HB1.out 0).1; have v1 : (w1.alloc (.cells #[.bool true] 4)).cell? ⟨w.heap.size,1,none⟩ = some (.slice A n.gs.length c):=(hal.cell (lt_of_block HB1.out)).trans (z00 HB1.out 1).1; have HAL:=zH hal; clear hb h h' HB HW hal
 go_wp2_with (at_builtin; refine z0w _ (by rfl) (.tmp 20) (.tmp 21) _ (by rfl) w1.heap.size 4 i0 _ 1 1 Tryz.underlying43 hi0 hz0 hz1 hz2 (by rfl) (by omega) (.slice (some ⟨w1.heap.size,0,none⟩) 1 1) 1 [.bool true] (by rfl) hol B ins.length d (ins.map Value.bool) (by rfl) hsrc (bools_one _) (1 + ins.length) (by omega) (by unfold maxLen; omega) (by omega) (by simp) hA2 ?_; intro A1 c1 w2 hown2 hb2 _; have v2 : w2.cell? ⟨w.heap.size,1,none⟩ = some (.slice A n.gs.length c):=(hb2.cell (lt_of_block HB1.out)).trans v1; clear v1)
 have hb12 : Below w1.heap.size w1 w2:=HAL.out.trans hb2; have hown : OwnB w2 w1.heap.size (.slice A1 (true :: ins).length c1) (true :: ins):=by
  unfold OwnB; have hll : (true :: ins).length = 1 + ins.length:=by simp; omega
  rw [hll]
  simpa using hown2
 have hll : 1 + ins.length = (true :: ins).length:=by simp; omega
 rw [hll]; obtain ⟨vs,hvs⟩ : ∃ vs,vs = true :: ins:=⟨_,rfl⟩; rw [<- hvs] at hown ⊢; have HVS:=zH hvs; have hvl : vs.length <= 1048577:=by rw [hvs]; simp; omega
 have hw1 : w1.heap.size <= w2.heap.size:=hb12.size; clear hown2 hb2 hsrc hol v0 v2 HAL hA2 hi0 hz0 hz1 hz2 hlb HB1 hll hvs
 go_loopw [5,26] (fun s i wr => ∃ (k : Nat) (us : List Bool) (A8 : Option Addr) (c8 : Nat),k <= n.gs.length /\ i = .int .i64 k /\ s = .slice A8 us.length c8 /\ Hid (us = runG (n.gs.take k) vs) /\ us.length = vs.length + k /\ OwnB wr w1.heap.size (.slice A8 us.length c8) us /\ Below w1.heap.size w1 wr) (fun _ i _ => n.gs.length - (intOf i).toNat)
 case atStart => exact ⟨0,vs,A1,c1,Nat.zero_le _,rfl,rfl,zH rfl,rfl,hown,hb12⟩
 case round =>
  obtain ⟨k,us,A8,c8,hk,rfl,rfl,HU,hul,hown,hbr⟩:=hrel
  by_cases hlt : k < n.gs.length
  ·
   have hk1 : (k : Int) < n.gs.length:=by omega
   have hk0 : (0 : Int) <= k:=by omega
   obtain ⟨ad,rfl,hf,j1,j2,j3⟩:=(hg1.up hbr).at_gate hlt; have hgi:=hi n.gs[k] (List.getElem_mem hlt); have HST : Hid (runG (n.gs.take (k + 1)) vs = us ++ [gateV us n.gs[k]]):=zH (by rw [List.take_succ_eq_append_getElem hlt,runG_app,<- HU.out]; rfl); generalize n.gs[k] = g at *; obtain ⟨gx,ga,gb⟩:=g; obtain ⟨⟨ga0,ga1⟩,gb0,gb1⟩:=hgi; dsimp only at ga0 ga1 gb0 gb1 j1 j2 j3; have hal : Below wr.heap.size wr (wr.alloc (.cells #[.bool gx,.int .i64 ga,.int .i64 gb] 78)):=(Below.refl _ _).alloc (Nat.le_refl _) _; have hbr2:=z09 hbr hal; have hown2:=hown.up hal; have hrd:=hown2.rd; have hsz : w1.heap.size <= (wr.alloc (.cells #[.bool gx,.int .i64 ga,.int .i64 gb] 78)).heap.size:=by have:=hbr2.size; omega
   have y0 : (wr.alloc (.cells #[.bool gx,.int .i64 ga,.int .i64 gb] 78)).cell? ⟨wr.heap.size,0,none⟩ = some (.bool gx):=by simp [go_sem]
   have y1 : (wr.alloc (.cells #[.bool gx,.int .i64 ga,.int .i64 gb] 78)).cell? ⟨wr.heap.size,1,none⟩ = some (.int .i64 ga):=by simp [go_sem]
   have y2 : (wr.alloc (.cells #[.bool gx,.int .i64 ga,.int .i64 gb] 78)).cell? ⟨wr.heap.size,2,none⟩ = some (.int .i64 gb):=by simp [go_sem]
   have HUL:=zH hul; have husz : us.length <= 2100000:=by omega
   clear hal hown hbr hf hul
   go_wp2_with fail
   generalize wr.alloc (.cells #[.bool gx,.int .i64 ga,.int .i64 gb] 78) = W at *; clear j1 j2 j3; have hou : OwnB W w1.heap.size (.slice A8 us.length c8) us:=hown2; obtain ⟨ps,hps⟩ : ∃ ps,ps = us ++ [gateV us ⟨gx,ga,gb⟩]:=⟨_,rfl⟩; have HPS:=zH hps; have HPL:=zH (show ps.length = us.length + 1 by rw [hps]; simp); clear hps hown2; obtain ⟨pv,hp⟩ : ∃ pv,z08 us ga = pv:=⟨_,rfl⟩; obtain ⟨qv,hq⟩ : ∃ qv,z08 us gb = qv:=⟨_,rfl⟩; have HP:=zH hp; have HQ:=zH hq; have HCA:=zH (fun (Y : World) (h9 : Lay.bool.Sl Y (fun b => b < W.heap.size) A8 us) => by have:=implNetLit_any A8 c8 us ga _ Y h9 (by omega) (by omega) (by omega); rw [hp] at this; exact this); have HCB:=zH (fun (Y : World) (h9 : Lay.bool.Sl Y (fun b => b < W.heap.size) A8 us) => by have:=implNetLit_any A8 c8 us gb _ Y h9 (by omega) (by omega) (by omega); rw [hq] at this; exact this); clear hp hq
   cases gx <;> cases pv <;> cases qv
   all_goals
    go_quiet ((go_at_call 44; first | (with_reducible exact z13 (HCA.out _ (hrd.drewN _))) | (with_reducible exact z13 (HCB.out _ (hrd.drewN _)))))
    have y0q : (W.drewN nq).cell? ⟨wr.heap.size,0,none⟩ = _:=y0; have howq : OwnB (W.drewN nq) w1.heap.size (.slice A8 us.length c8) us:=hou; have hszq : w1.heap.size <= (W.drewN nq).heap.size:=hsz; have hbq : Below w1.heap.size w1 (W.drewN nq):=z02 hbr2 nq; clear y0 y1 y2 hou hsz hbr2 hrd; generalize W.drewN nq = X at *
    go_wp2_with (at_builtin; first | (refine z2f (ys:=ps) (by rfl) (.tmp 40) (.tmp 44) (by rfl) (by rfl) (by rfl) howq (by omega) hszq (by rw [HPS.out]; unfold gateV; simp [HP.out,HQ.out]) ?_; intro A9 c9 w9 hown9 hb9) | (refine z2f (ys:=ps) (by rfl) (.tmp 46) (.tmp 51) (by rfl) (by rfl) (by rfl) howq (by omega) hszq (by rw [HPS.out]; unfold gateV; simp [HP.out,HQ.out]) ?_; intro A9 c9 w9 hown9 hb9))
    have hb9 : Below w1.heap.size w1 w9:=hbq.trans hb9; clear y0q
    go_roundw
    case rel => exact ⟨k + 1,ps,A9,c9,by omega,by go_num,rfl,zH (by rw [HST.out,HPS.out]),by rw [HPL.out,HUL.out]; omega,hown9,hb9⟩
    case measure => simp [intOf]; omega
  ·
   have hke : k = n.gs.length:=by omega
   subst hke; have hcap:=hown.cap.2
   go_wp2
   go_ret
   rw [show z19 n ins = us by rw [HN.out,HU.out,List.take_length,HVS.out]]; exact ⟨A8,c8,rfl,hcap,hown.rd,z09 hbw hbr⟩
end Go.Proofs.YtemdmlmcidfodaaGreatDoor
