/- The reference's l7Un, BitsUn. -/
import Derived.Test.YtemdmlmcidfodaaGreatDoorJFnBitsBin0
import Derived.Test.YtemdmlmcidfodaaGreatDoorJFnBitsBin11
import Derived.Test.YtemdmlmcidfodaaGreatDoorJFnBitsBin12
import Derived.Test.YtemdmlmcidfodaaGreatDoorJFnBitsBin15
import Derived.Test.YtemdmlmcidfodaaGreatDoorJFnBitsBin16
namespace Go.Proofs.YtemdmlmcidfodaaGreatDoor
open Go Go.RowKit
def binZ (n : N) (xs ys : List Int) (Z : BS × List Int) : N × List Int:=if (z1m n xs && z1m n ys) = true then bitsOut Z else (⟨0,[]⟩,[])
def BinC (op : Int) (n : N) (xs ys : List Int) (Z : BS × List Int) : Prop:=∀ (a0 a1 : Addr) (lo q r : Nat) (X Y : Option Addr) (cx cy : Nat) (w : World),Bd a0 a1 lo w q r ⟨n,none⟩ -> Lay.int.Pl w X xs -> Lay.int.Pl w Y ys →
 Calls Tryz.prog 36 #[.pointer (some ⟨q,0,none⟩),.int .i64 op,.slice X xs.length cx,.slice Y ys.length cy] w (RetL a0 a1 lo w q r Z)
theorem bin_out {n : N} {xs ys : List Int} {Z : BS × List Int} {e2 : Option Nat} (h3 : e2 = z1g none (!z1m n xs || !z1m n ys) 0) : binZ n xs ys Z = if e2 = none then bitsOut Z else (⟨0,[]⟩,[]):=by
 rw [h3]; unfold binZ
 cases z1m n xs <;> cases z1m n ys <;> simp [z1g]
set_option maxRecDepth 100000 in
set_option maxHeartbeats 4000000 in
theorem bitsBin1_any (a0 a1 : Addr) (lo q r ba bb bc : Nat) (n : N) (A B : Option Addr) (ca cb : Nat) (xs ys : List Int) (op : Int) (Z : BS × List Int) (w : World) (h : Bd a0 a1 lo w q r ⟨n,none⟩) (hbin : z1m n xs = true -> z1m n ys = true -> BinC op n xs ys Z) (hZ : Z.2.length <= 1000)
  (ha : w.heap[ba]? = some (.cells #[.slice A xs.length ca] 34 (0,0))) (hb : w.heap[bb]? = some (.cells #[.slice B ys.length cb] 34 (0,0))) (hc : w.heap[bc]? = some (.cells #[.int .i64 op] 3 (0,0)))
  (hX : Lay.int.Sl w (fun b => b < lo) A xs) (hY : Lay.int.Sl w (fun b => b < lo) B ys) (hxi : i64s xs) (hyi : i64s ys) (hlxs : xs.length <= 1048576) (hlys : ys.length <= 1048576) :
  Calls Tryz.prog 34 #[.pointer (some ⟨q,0,none⟩),.pointer (some ⟨ba,0,none⟩),.pointer (some ⟨bb,0,none⟩),.pointer (some ⟨bc,0,none⟩)] w (RetBC a0 a1 lo w q r (binZ n xs ys Z)):=by
 have HA:=zH ha; have HB:=zH hb; have HCc:=zH hc; have Hxs:=zH hX; have Hys:=zH hY; have HIxs:=zH hxi; have HIys:=zH hyi; have HBD:=zH h; have HNB:=zH h.nb; have HBIN:=zH hbin; have HZL:=zH hZ; have hlo:=h.size; obtain ⟨e1,he1⟩ : ∃ e1,e1 = listE n none xs:=⟨_,rfl⟩; obtain ⟨e2,he2⟩ : ∃ e2,e2 = listE n e1 ys:=⟨_,rfl⟩; have HE1:=zH he1; have HE2:=zH he2; have h3 : e2 = z1g none (!z1m n xs || !z1m n ys) 0:=by rw [he2,he1]; unfold listE; rw [failE_twice]
 have HOUT:=zH (bin_out (Z:=Z) h3); have HGOOD : Hid (e2 = none -> z1m n xs = true /\ z1m n ys = true):=zH (fun h0 => by
  rw [h3] at h0; have:=(failE_none h0).2
  revert this
  cases z1m n xs <;> cases z1m n ys <;> simp)
 clear he1 he2 h3 h ha hb hc hX hY hxi hyi hbin hZ
 go_enter Tryz.func34,Tryz.ntmps34
 go_wp2
 refine z0a [[],[],[(0,8),(1,9)],[],[],[(3,11),(4,12)],[(2,10)],[(5,13)]]
  (fun x9 y9 => Below x9.heap.size x9 y9)
  [(2,fun x9 y9 => BelB lo x9 y9),(5,fun x9 y9 => BelB lo x9 y9)]
  (fun f9 x9 => TwoI a0 a1 lo w q r n (stE (f9 5) e2 (stE (f9 2) e1 none)) x9)
  [zF 0 (.pointer (some ⟨q,0,none⟩)),
  zF 1 (.slice A xs.length ca),
  fun vs9 y9 => (fun v z => ∃ A9 c9,v = .slice A9 xs.length c9 /\ xs.length <= c9 /\ Lay.int.Pl z A9 xs) (vs9 2) y9,
  zF 3 (.pointer (some ⟨q,0,none⟩)),
  zF 4 (.slice B ys.length cb),
  fun vs9 y9 => (fun v z => ∃ A9 c9,v = .slice A9 ys.length c9 /\ ys.length <= c9 /\ Lay.int.Pl z A9 ys) (vs9 5) y9,
  fun vs9 _ => vs9 6 = vs9 2,
  fun vs9 _ => vs9 7 = vs9 5]
  [(0,8),(1,9),(2,10),(3,11),(4,12),(5,13),(6,6),(7,7)] (by kernel_rfl) (by kernel_rfl) (by kernel_rfl) (by kernel_rfl)
  (fun _ => Below.refl _ _) ⟨fun _ => BelB.refl _ _,fun _ => BelB.refl _ _,trivial⟩
  ⟨⟨.inr zG,⟨.inr (.inr zG),.inr (.inr zG),trivial⟩⟩,
  ⟨.inr zG,⟨.inr (.inr zG),.inr (.inr zG),trivial⟩⟩,
  ⟨.inr (zS (fun v z => ∃ A9 c9,v = .slice A9 xs.length c9 /\ xs.length <= c9 /\ Lay.int.Pl z A9 xs) (fun _ _ _ ⟨A9,c9,h1,h2,h3⟩ hR => ⟨A9,c9,h1,h2,h3.upP hR⟩)),⟨.inr (.inl rfl),.inr (.inr (zS (fun v z => ∃ A9 c9,v = .slice A9 xs.length c9 /\ xs.length <= c9 /\ Lay.int.Pl z A9 xs) (fun _ _ _ ⟨A9,c9,h1,h2,h3⟩ hR => ⟨A9,c9,h1,h2,h3.upB hR⟩))),trivial⟩⟩,
  ⟨.inr zG,⟨.inr (.inr zG),.inr (.inr zG),trivial⟩⟩,
  ⟨.inr zG,⟨.inr (.inr zG),.inr (.inr zG),trivial⟩⟩,
  ⟨.inr (zS (fun v z => ∃ A9 c9,v = .slice A9 ys.length c9 /\ ys.length <= c9 /\ Lay.int.Pl z A9 ys) (fun _ _ _ ⟨A9,c9,h1,h2,h3⟩ hR => ⟨A9,c9,h1,h2,h3.upP hR⟩)),⟨.inl (by kernel_rfl),.inr (.inl rfl),trivial⟩⟩,
  ⟨.inr zK,⟨.inr (.inr zK),.inr (.inr zK),trivial⟩⟩,
  ⟨.inr zK,⟨.inr (.inr zK),.inr (.inr zK),trivial⟩⟩,trivial⟩ ⟨zL,
  zL,
  fun _ _ _ h _ v => (by simpa only [<- h] using v),
  zL,
  zL,
  fun _ _ _ h _ v => (by simpa only [<- h] using v),
  fun vs vs' x h hd hv => (by have h2:=hd 2 (by decide); show vs' 6 = vs' 2; exact h.symm.trans (Eq.trans hv h2)),
  fun vs vs' x h hd hv => (by have h2:=hd 5 (by decide); show vs' 7 = vs' 5; exact h.symm.trans (Eq.trans hv h2)),trivial⟩ (⟨BelB.of (z02 (Below.refl _ _) 1) hlo,HBD.out.toBx.up (z02 (Below.refl _ _) 1),(HBD.out.circ rfl).up (z02 (Below.refl _ _) 1)⟩) ⟨?_,?_,?_,?_,?_,?_,?_,?_,trivial⟩ ?_
 ·
  rintro vals xw f hf1 - - hI hF; dsimp only [z03,bare]; simp only [z01,Act.put,zQ]
  go_wp2
  exact zY hI rfl rfl
 ·
  rintro vals xw f hf1 - - hI hF; dsimp only [z03,bare]; simp only [z01,Act.put,zQ]; have c9:=(z00 (kd_of hI.1 HA.out (by decide) (by decide) (by decide)) 0).1
  go_wp2
  exact zY hI rfl rfl
 ·
  intro vals xw f hf1 hf2 hf3 hI hF; have k5 : f 5 = false:=hf3 5 (by kernel_rfl); clear hf2 hf3; simp only [z05,zF,zR,and_true] at hF; obtain ⟨e8,e9⟩:=hF; dsimp only [z03,bare]; simp only [z01,Act.put,zQ]; simp only [e8,e9]; have hI:=hI; rw [hf1,k5] at hI; have HX9:=zH (Hxs.out.below hI.1.bel (fun _ h => h)); have I1:=zH hI.1; have HC9:=zH (list_any a0 a1 lo q r n none A ca xs xw hI.2.1 hI.2.2 HNB.out HX9.out HIxs.out hlxs); clear hI HX9
  go_wp2_with fail
  refine HC9.out.mono ?_; rintro e wx ⟨A9,c9,rfl,h1,h2,h3,h4,h5⟩; have H2:=zH h2; have H3:=zH h3; have H4:=zH h4; have H5:=zH h5; clear h2 h3 h4 h5 HC9
  go_wp2
  exact ⟨rfl,⟨A9,c9,rfl,h1,H2.out⟩,⟨fun _ => H3.out,fun h9 => absurd rfl h9⟩,show TwoI a0 a1 lo w q r n (stE (did f 2 5) e2 (stE (did f 2 2) e1 none)) wx from (by rw [z0h,did_ne (by decide),k5]; exact ⟨I1.out.trans H3.out,by rw [HE1.out]; exact H4.out,H5.out⟩)⟩
 ·
  rintro vals xw f hf1 - - hI hF; dsimp only [z03,bare]; simp only [z01,Act.put,zQ]
  go_wp2
  exact zY hI rfl rfl
 ·
  rintro vals xw f hf1 - - hI hF; dsimp only [z03,bare]; simp only [z01,Act.put,zQ]; have c9:=(z00 (kd_of hI.1 HB.out (by decide) (by decide) (by decide)) 0).1
  go_wp2
  exact zY hI rfl rfl
 ·
  intro vals xw f hf1 hf2 hf3 hI hF; have k2 : f 2 = true:=hf2 2 (by kernel_rfl); clear hf2 hf3; simp only [z05,zF,zR,and_true] at hF; obtain ⟨e11,e12⟩:=hF; dsimp only [z03,bare]; simp only [z01,Act.put,zQ]; simp only [e11,e12]; have hI:=hI; rw [hf1,k2] at hI; have HX9:=zH (Hys.out.below hI.1.bel (fun _ h => h)); have I1:=zH hI.1; have HC9:=zH (list_any a0 a1 lo q r n e1 B cb ys xw hI.2.1 hI.2.2 HNB.out HX9.out HIys.out hlys); clear hI HX9
  go_wp2_with fail
  refine HC9.out.mono ?_; rintro e wx ⟨A9,c9,rfl,h1,h2,h3,h4,h5⟩; have H2:=zH h2; have H3:=zH h3; have H4:=zH h4; have H5:=zH h5; clear h2 h3 h4 h5 HC9
  go_wp2
  exact ⟨rfl,⟨A9,c9,rfl,h1,H2.out⟩,⟨zN rfl,fun _ => ⟨fun _ => H3.out,fun h9 => absurd rfl h9⟩⟩,show TwoI a0 a1 lo w q r n (stE (did f 5 5) e2 (stE (did f 5 2) e1 none)) wx from (by rw [z0h]; exact ⟨I1.out.trans H3.out,by rw [HE2.out]; exact H4.out,H5.out⟩)⟩
 ·
  rintro vals xw f hf1 - - hI hF; simp only [z05,zF,zR,and_true] at hF; obtain ⟨B8,d8,e10,_⟩:=hF; dsimp only [z03,bare]; simp only [z01,Act.put,zQ]; simp only [e10]
  go_wp2
  exact ⟨rfl,e10.symm,⟨zN rfl,fun _ => ⟨zN rfl,fun _ => Below.refl _ _⟩⟩,hI⟩
 ·
  rintro vals xw f hf1 - - hI hF; simp only [z05,zF,zR,and_true] at hF; obtain ⟨B8,d8,e13,_⟩:=hF; dsimp only [z03,bare]; simp only [z01,Act.put,zQ]; simp only [e13]
  go_wp2
  exact ⟨rfl,e13.symm,⟨zN rfl,fun _ => ⟨zN rfl,fun _ => Below.refl _ _⟩⟩,hI⟩
 ·
  intro vals xw f hall hI hF; rw [show List.range _ = [0,1,2,3,4,5,6,7] from rfl] at hF; simp only [says,zF,zR,and_true] at hF; have i9 : TwoI a0 a1 lo w q r n (stE (f 5) e2 (stE (f 2) e1 none)) xw:=hI; rw [hall 5 (by decide)] at i9; obtain ⟨_,_,⟨A7,c7,e7,hc7,hp7⟩,_,_,⟨B7,d7,e8,hd7,hq7⟩,e5,e6⟩:=hF; rw [e7] at e5; rw [e8] at e6; simp only [z01,Act.put,zQ]; simp only [e5,e6]; have I1:=zH i9.1; have I2:=zH (show Bx a0 a1 lo xw q r e2 from i9.2.1); have I3:=zH i9.2.2; have HP7:=zH hp7; have HQ7:=zH hq7; clear i9 hI e5 e6 e7 e8 hp7 hq7; have y1:=(z00 I2.out.box 1).1
  rcases e2 with _ | e2
  ·
   simp only [errV] at y1; obtain ⟨g1,g2⟩:=HGOOD.out rfl; have y3:=(z00 (kd_of I1.out HCc.out (by decide) (by decide) (by decide)) 0).1; have HCH:=zH (HBIN.out g1 g2 a0 a1 lo q r A7 B7 c7 d7 xw ⟨I2.out,HNB.out,fun _ => I3.out⟩ HP7.out HQ7.out); clear g1 g2
   go_wp2_with fail
   refine HCH.out.mono ?_; rintro e w9 ⟨A8,c8,rfl,k1,k2,k3,k4,k5⟩; have K2:=zH k2; have K4:=zH (I1.out.trans k4); have K5:=zH k5; clear k2 k3 k4 k5 HCH y1 y3
   go_wp2
   go_ret
   exact ⟨Z,A8,c8,rfl,HZL.out,K2.out,K4.out,K5.out,by rw [HOUT.out]; exact (if_pos trivial).symm⟩
  ·
   obtain ⟨a,ha⟩ : ∃ a,errV a0 a1 (some e2) = z28 a:=by rcases e2 with _ | e2 <;> exact ⟨_,rfl⟩
   simp only [ha] at y1; clear ha
   go_wp2
   go_ret
   exact ⟨(⟨n,some e2⟩,[]),none,0,rfl,Nat.zero_le _,.nil _ _ _ _,I1.out,⟨I2.out,HNB.out,fun h => by cases h⟩,by rw [HOUT.out,if_neg (by simp)]; rfl⟩
set_option maxRecDepth 100000 in
set_option maxHeartbeats 4000000 in
theorem built_bin (a0 a1 : Addr) (l0 : Nat) (ba bb bc : Nat) (A : Option Addr) (c : Nat) (n : N) (w : World) (out : N × List Int) (K : World -> Prop) (hg : Glb a0 a1 l0 w) (hl0 : l0 <= w.heap.size) (hK : ∀ x,Below w.heap.size w x -> K x) (h : Lay.gate.Rd w A n.gs) (hn : n.gs.length <= 1048576) (hA : A = none -> n.gs.length = 0) (hi : okInts n)
  (hcall : ∀ (lo q r : Nat) (z : World),Bd a0 a1 lo z q r ⟨n,none⟩ -> z0q n = true -> K z -> w.heap.size <= lo -> Calls Tryz.prog 34 #[.pointer (some ⟨q,0,none⟩),.pointer (some ⟨ba,0,none⟩),.pointer (some ⟨bb,0,none⟩),.pointer (some ⟨bc,0,none⟩)] z (RetBC a0 a1 lo z q r out)) :
  Calls Tryz.prog 33 #[.agg #[.int .i64 n.ins,.slice A n.gs.length c],.func (.func 34) #[] #[.pointer (some ⟨ba,0,none⟩),.pointer (some ⟨bb,0,none⟩),.pointer (some ⟨bc,0,none⟩)]] w (RetBits (pickN (z0q n) out) w):=by
 obtain ⟨hW,hB0,hB1,hWS⟩:=z0p w (.cells #[.int .i64 n.ins,.slice A n.gs.length c] 29) (.cells #[.int .i64 0,.slice none 0 0] 29); have HW:=zH hW; have HB1:=zH hB1; have HG:=zH hg; have HK:=zH hK; have HCALL:=zH hcall; have HRN:=zH (readNet_any A c n _ (h.up hW) hn hA hi); have HWS:=zH hWS; clear hg hK hcall h hi hB0 hB1 hWS hW
 go_enter Tryz.func33,Tryz.ntmps33
 go_wp2_with fail
 refine HRN.out.mono ?_; generalize (w.alloc (.cells #[.int .i64 n.ins,.slice A n.gs.length c] 29)).alloc (.cells #[.int .i64 0,.slice none 0 0] 29) = w2 at *; rintro e w3 ⟨hb3,hcase⟩; have HB1:=zH ((hb3.block _ (lt_of_block HB1.out)).trans HB1.out); have HB3:=zH hb3; clear hb3 HRN
 rcases hcase with ⟨hok,r,rfl,hC⟩ | ⟨hok,rfl⟩
 rotate_left
 ·
  have k5:=(z00 HB1.out 0).1; have k6:=(z00 HB1.out 1).1; have kf5:=(z00 HB1.out 0).2; have kf6:=(z00 HB1.out 1).2; have HOK:=zH hok; clear hok
  go_wp2
  refine bodyPost_ret (v:=.tuple #[.agg #[.int .i64 0,.slice none 0 0],.slice none 0 0]) (by simp [results,Tryz.results33,go_sem,k5,k6,kf5,kf6]) rfl ?_; rw [show pickN (z0q n) out = (⟨0,[]⟩,[]) by rw [HOK.out]; rfl]; refine ⟨none,none,0,0,rfl,Nat.zero_le _,Nat.zero_le _,.nil _ _ _ _,.nil _ _ _ _,?_,z20 rfl⟩
  repeat (refine z0b ?_ (by show w.heap.size <= w.heap.size + 1; omega) _)
  exact z09 HW.out HB3.out
 have HOK:=zH hok; have hnb : NB n:=by have:=(netOk_iff n).1 hok; exact ⟨this.1,this.2.1,this.2.2.1⟩
 have HNB:=zH hnb; have HC:=zH hC; clear hok hnb hC; have hal : Below w3.heap.size w3 (w3.alloc (.cells #[.pointer (some ⟨r,0,none⟩),.nilIface] 73)):=(Below.refl _ _).alloc (Nat.le_refl _) _; have hlo2 : l0 <= w2.heap.size:=Nat.le_trans hl0 HW.out.size; have hbd : Bd a0 a1 w2.heap.size (w3.alloc (.cells #[.pointer (some ⟨r,0,none⟩),.nilIface] 73)) w3.heap.size r ⟨n,none⟩ :=
  ⟨⟨(HG.out.mono hl0).below (z09 HW.out (HB3.out.trans (hal.mono HB3.out.size))) |>.mono HW.out.size,heap_alloc_new _ _,HB3.out.size⟩,HNB.out,fun _ => HC.out.up hal⟩
 have HAL:=zH hal; have HC4:=zH (HCALL.out w2.heap.size w3.heap.size r _ hbd HOK.out (HK.out _ (z09 HW.out (HB3.out.trans (hal.mono HB3.out.size)))) HW.out.size); clear hal hbd HCALL HK
 go_wp2_with fail
 refine HC4.out.mono ?_; rintro e w5 ⟨T,A5,c5,rfl,hl5,hp5,hb5,hd5,hT5⟩; have HB5 : Hid (Below w2.heap.size w2 w5):=zH (HB3.out.trans ((HAL.out.mono HB3.out.size).trans hb5.bel)); have HB1 : Hid (w5.heap[w.heap.size + 1]? = some (.cells #[.int .i64 0,.slice none 0 0] 29 (0,0))):=zH (by
  have h9 : w.heap.size + 1 < w2.heap.size:=by rw [HWS.out]; omega
  exact (hb5.bel.block _ h9).trans ((HAL.out.block _ (Nat.lt_of_lt_of_le h9 HB3.out.size)).trans HB1.out))
 have HP5:=zH hp5; have HD5:=zH hd5; have HT5:=zH hT5; clear hp5 hd5 hT5 HC4 hb5 HAL HC HNB HB3; have k5:=(z00 HB1.out 0).1; have k6:=(z00 HB1.out 1).1; have kf5:=(z00 HB1.out 0).2; have kf6:=(z00 HB1.out 1).2; have c0:=HD5.out.g.c0; have c1:=HD5.out.g.c1; have q0:=(z00 HD5.out.box 0).1; have q1:=(z00 HD5.out.box 1).1; have HGL:=zH HD5.out.g; obtain ⟨⟨n5,e5⟩,l5⟩:=T; dsimp only at q1 hl5; have hfin : ∀ X : World,Below w2.heap.size w2 X -> Below w.heap.size w X:=fun X hX => z09 HW.out hX
 have HFIN:=zH hfin; clear hfin
 rcases e5 with _ | e5
 ·
  simp only [errV] at q1; have hC5:=HD5.out.circ rfl; obtain ⟨A6,c6,r0,r1,ho6⟩:=circ_cells hC5; have HO6:=zH ho6; have HN : Hid (∀ (b : Addr) (m : Nat),Calls Tryz.prog 71 #[.nilIface,z28 b] (w5.drewN m) fun e w' => e = .returned (.bool false) /\ w5.drewN m = w'):=zH fun b m => is_nil b _
  have HS5:=zH hC5.lt; clear hC5 ho6
  go_wp2
  go_quiet ((go_at_call 71; with_reducible exact z13 (HN.out _ _)))
  go_wp2
  clear HN; have HLT : Hid (w.heap.size + 1 < w2.heap.size):=zH (by rw [HWS.out]; omega); have HQ : Hid (∀ x : World,w5.grownBy x (some (w.heap.size + 1)) -> x.cell? ⟨w3.heap.size,0,none⟩ = some (.pointer (some ⟨r,0,none⟩)) /\ x.cell? ⟨r,0,none⟩ = some (.int .i64 n5.ins) /\ x.cell? ⟨r,1,none⟩ = some (.slice A6 n5.gs.length c6)):=zH fun x hx => by
   have hq:=(hx.block _ (lt_of_block HD5.out.box) (fun e => by injection e with e; have:=HD5.out.low; have:=HLT.out; omega)).trans HD5.out.box; have hr:=hx.block r HS5.out.2 (fun e => by injection e with e; have:=HS5.out.1; have:=HLT.out; omega); exact ⟨(z00 hq 0).1,(World.cell?_of_block (w:=w5) (a:=⟨r,0,none⟩) hr).trans r0,(World.cell?_of_block (w:=w5) (a:=⟨r,1,none⟩) hr).trans r1⟩
  have HL5 : Hid (∀ x : World,w5.grownBy x (some (w.heap.size + 1)) -> Lay.int.Rd x A5 l5):=zH fun x hx => by
   refine (HP5.out.keep fun b hb => hx.block b hb.lt fun e => ?_).mono fun b hb => Nat.lt_of_lt_of_le hb.lt hx.size
   injection e with e
   subst e; obtain ⟨cs,fr,h9⟩:=hb; rw [HB1.out] at h9
   injection h9 with h9
   injection h9 with _ h9 _
   exact absurd h9 (by decide)
  refine z0a [[],[(0,39)],[(1,40)],[(2,41)],[(3,42)],[(4,43)],[(5,44)],[],[(7,46)],[(6,45)],[(8,47)]]
   (fun x9 y9 => Below x9.heap.size x9 y9)
   [(9,fun x9 y9 => x9.grownBy y9 (some (w.heap.size + 1)))]
   (fun f9 x9 => BuiltI w5 (w.heap.size + 1) (.agg #[.int .i64 n5.ins,.slice A6 n5.gs.length c6]) #[.int .i64 n5.ins,.slice A6 n5.gs.length c6] (f9 9) x9)
   [zF 0 (.pointer (some ⟨w3.heap.size,0,none⟩)),
  zF 1 (.pointer (some ⟨w3.heap.size,0,none⟩)),
  zF 2 (.pointer (some ⟨w3.heap.size,0,none⟩)),
  zF 3 (.pointer (some ⟨r,0,none⟩)),
  zF 4 (.pointer (some ⟨r,0,none⟩)),
  zF 5 (.pointer (some ⟨r,0,none⟩)),
  zF 6 (.agg #[.int .i64 n5.ins,.slice A6 n5.gs.length c6]),
  zF 7 (.slice A5 l5.length c5),
  fun vs9 y9 => (fun v z => ∃ B d,v = .slice B l5.length d /\ l5.length <= d /\ Lay.int.Sl z (Own w5.heap.size z) B l5) (vs9 8) y9,
  fun _ _ => True,
  fun vs9 _ => vs9 10 = vs9 8]
   [(0,39),(1,40),(2,41),(3,42),(4,43),(5,44),(6,45),(7,46),(8,47),(10,5)] (by kernel_rfl) (by kernel_rfl) (by kernel_rfl) (by kernel_rfl)
   (fun _ => Below.refl _ _) ⟨fun _ => World.grownBy.refl _ _,trivial⟩
   ⟨zU,
  zU,
  zU,
  zU,
  zU,
  zU,
  zU,
  zU,
  ⟨.inr (zS (fun v z => ∃ B d,v = .slice B l5.length d /\ l5.length <= d /\ Lay.int.Sl z (Own w5.heap.size z) B l5) (fun _ _ _ ⟨B,d,h1,h2,h3⟩ hR => ⟨B,d,h1,h2,h3.own_up hR⟩)),⟨.inr (.inr (zS (fun v z => ∃ B d,v = .slice B l5.length d /\ l5.length <= d /\ Lay.int.Sl z (Own w5.heap.size z) B l5) (fun _ _ _ ⟨B,d,h1,h2,h3⟩ hR => ⟨B,d,h1,h2,z1q h3 hR (Nat.lt_of_lt_of_le HLT.out HB5.out.size)⟩))),trivial⟩⟩,
  ⟨.inr zK,⟨.inr (.inl rfl),trivial⟩⟩,
  zT,trivial⟩ ⟨zL,
  zL,
  zL,
  zL,
  zL,
  zL,
  zL,
  zL,
  fun _ _ _ h _ v => (by simpa only [<- h] using v),
  fun _ _ _ _ _ _ => trivial,
  fun vs vs' x h hd hv => (by have h2:=hd 8 (by decide); show vs' 10 = vs' 8; exact h.symm.trans (Eq.trans hv h2)),trivial⟩ (⟨grown_of9 (z02 (z02 (Below.refl _ _) nq) 1) _,fun _ => HB1.out,fun h => by cases h⟩) ⟨?_,?_,?_,?_,?_,?_,?_,?_,?_,?_,?_,trivial⟩ ?_
  ·
   rintro vals xw f hf1 - - hI hF; dsimp only [z03,bare]; simp only [z01,Act.put,zQ]
   go_wp2
   exact zX hI rfl
  ·
   rintro vals xw f hf1 - - hI hF; simp only [z05,zF,zR,and_true] at hF; have e39:=hF; dsimp only [z03,bare]; simp only [z01,Act.put,zQ]; simp only [e39]
   go_wp2
   exact zX hI rfl
  ·
   rintro vals xw f hf1 - - hI hF; simp only [z05,zF,zR,and_true] at hF; have e40:=hF; dsimp only [z03,bare]; simp only [z01,Act.put,zQ]; simp only [e40]
   go_wp2
   exact zX hI rfl
  ·
   rintro vals xw f hf1 - - hI hF; simp only [z05,zF,zR,and_true] at hF; have e41:=hF; have c9:=(HQ.out xw hI.1).1; dsimp only [z03,bare]; simp only [z01,Act.put,zQ]; simp only [e41]
   go_wp2
   exact zX hI rfl
  ·
   rintro vals xw f hf1 - - hI hF; simp only [z05,zF,zR,and_true] at hF; have e42:=hF; dsimp only [z03,bare]; simp only [z01,Act.put,zQ]; simp only [e42]
   go_wp2
   exact zX hI rfl
  ·
   rintro vals xw f hf1 - - hI hF; simp only [z05,zF,zR,and_true] at hF; have e43:=hF; dsimp only [z03,bare]; simp only [z01,Act.put,zQ]; simp only [e43]
   go_wp2
   exact zX hI rfl
  ·
   rintro vals xw f hf1 - - hI hF; simp only [z05,zF,zR,and_true] at hF; have e44:=hF; have c9:=(HQ.out xw hI.1).2.1; have c8:=(HQ.out xw hI.1).2.2; dsimp only [z03,bare]; simp only [z01,Act.put,zQ]; simp only [e44]
   go_wp2
   exact zX hI rfl
  ·
   rintro vals xw f hf1 - - hI hF; dsimp only [z03,bare]; simp only [z01,Act.put,zQ]
   go_wp2
   exact zX hI rfl
  ·
   rintro vals xw f hf1 - - hI hF; simp only [z05,zF,zR,and_true] at hF; have e46:=hF; dsimp only [z03,bare]; simp only [z01,Act.put,zQ]; simp only [e46]; have HI:=zH hI; have hsz9 : w5.heap.size <= xw.heap.size:=hI.1.size; have HRD:=zH (HL5.out xw hI.1); clear hI
   go_wp2_with fail
   refine (numbers_any A5 c5 l5 xw HRD.out (by omega)).mono ?_; rintro e wx ⟨B,d,rfl,h1,h2,h3⟩; have H3:=zH h3; have H2:=zH (z1y h2 hsz9); clear h2 h3
   go_wp2
   exact ⟨rfl,⟨B,d,rfl,h1,H2.out⟩,⟨zN rfl,fun _ => H3.out⟩,HI.out.up H3.out⟩
  ·
   rintro vals xw f hf1 - - hI hF; simp only [z05,zF,zR,and_true] at hF; have e45:=hF; dsimp only [z03,bare]; simp only [z01,Act.put,zQ]; simp only [e45]; have hbx:=hI.2.1 hf1; have j6:=(z00 hbx 0).1; have j7:=(z00 hbx 1).1; have f6:=(z00 hbx 0).2; have f7:=(z00 hbx 1).2; have HG1:=zH hI.1; have HBX:=zH hbx; clear hI hbx
   go_wp2
   have h1:=z04 xw (w.heap.size + 1) 0 (.int .i64 n5.ins) _ _ HBX.out; have h2:=z04 _ (w.heap.size + 1) 1 (.slice A6 n5.gs.length c6) _ _ h1; have h3 : xw.grownBy ((xw.setCell ⟨w.heap.size + 1,0,none⟩ (.int .i64 n5.ins)).setCell ⟨w.heap.size + 1,1,none⟩ (.slice A6 n5.gs.length c6)) (some (w.heap.size + 1)):=z06 (z06 (World.grownBy.refl _ _) _ _) _ _; exact ⟨rfl,trivial,⟨fun _ => h3,fun h9 => absurd rfl h9⟩,grown_trans9 HG1.out h3,fun h => absurd ((z0h f 9).symm.trans h) (by simp),fun _ => h2⟩
  ·
   rintro vals xw f hf1 - - hI hF; simp only [z05,zF,zR,and_true] at hF; obtain ⟨B8,d8,e47,_⟩:=hF; dsimp only [z03,bare]; simp only [z01,Act.put,zQ]; simp only [e47]
   go_wp2
   exact ⟨rfl,e47.symm,⟨zN rfl,fun _ => Below.refl _ _⟩,hI⟩
  ·
   intro vals xw f hall hI hF; rw [show List.range _ = [0,1,2,3,4,5,6,7,8,9,10] from rfl] at hF; simp only [says,zF,zR,and_true] at hF; obtain ⟨_,_,_,_,_,_,_,_,⟨B8,d8,e47,hd8,hs8⟩,e5⟩:=hF; rw [e47] at e5; have hbx:=hI.2.2 (hall 9 (by decide)); have k5:=(z00 hbx 0).1; have k6:=(z00 hbx 1).1; have kf5:=(z00 hbx 0).2; have kf6:=(z00 hbx 1).2; have HG1:=zH hI.1; have HS8:=zH hs8; have HD8:=zH hd8; clear hI hbx hs8 hd8; simp only [z01,Act.put,zQ]; simp only [e5]; clear e5 e47
   go_wp2
   refine bodyPost_ret (v:=.tuple #[.agg #[.int .i64 n5.ins,.slice A6 n5.gs.length c6],.slice B8 l5.length d8]) (by simp [results,Tryz.results33,go_sem,k5,k6,kf5,kf6]) rfl ?_; rw [show pickN (z0q n) out = out by rw [HOK.out]; rfl,<- HT5.out]
   show RetBits (n5,l5) w _ _
   exact ⟨A6,B8,c6,d8,rfl,HO6.out.sl.1,HD8.out,z1y (z1q HO6.out.own HG1.out HLT.out) HW.out.size,z1y HS8.out (Nat.le_trans HW.out.size HB5.out.size),(HFIN.out _ HB5.out).grown HG1.out (z09 HW.out HB5.out).size (fun k hk => by injection hk with hk; omega),apart_of HO6.out.own HS8.out (fun b h1 h2 => by have:=h1.2.1; have:=h2.1; omega)⟩
 ·
  obtain ⟨a,ha⟩ : ∃ a,errV a0 a1 (some e5) = z28 a:=by rcases e5 with _ | e5 <;> exact ⟨_,rfl⟩
  simp only [ha] at q1; have hcase : (a = a0 /\ True) \/ a = a1:=by
   rcases e5 with _ | e5
   · injection ha with _ ha; injection ha with ha; injection ha with ha; exact .inl ⟨ha.symm,trivial⟩
   · injection ha with _ ha; injection ha with ha; injection ha with ha; exact .inr ha.symm
  clear ha; have HT6 : Hid (out = (⟨0,[]⟩,[])):=zH (by rw [<- HT5.out]; exact if_neg (by simp)); have HSM : Hid (∀ (b : Addr) (m : Nat),Calls Tryz.prog 71 #[z28 b,z28 b] (w5.drewN m) fun e w' => e = .returned (.bool true) /\ w5.drewN m = w'):=zH fun b m => is_same b _
  have HOT : Hid (∀ (m : Nat),Calls Tryz.prog 71 #[z28 a0,z28 a1] (w5.drewN m) fun e w' => e = .returned (.bool false) /\ w5.drewN m = w'):=zH fun m => by
   obtain ⟨ca,ta,h0⟩:=HGL.out.b0; obtain ⟨cb,tb,h1⟩:=HGL.out.b1; exact is_other a0 a1 ca cb ta tb _ HGL.out.ne h0 h1
  rcases hcase with ⟨rfl,_⟩ | rfl
  ·
   go_wp2
   go_quiet ((go_at_call 71; first | with_reducible exact z13 (HOT.out _) | with_reducible exact z13 (HSM.out _ _)))
   clear HSM HOT
   go_wp2
   refine bodyPost_ret (v:=.tuple #[.agg #[.int .i64 0,.slice none 0 0],.slice none 0 0]) (by simp [results,Tryz.results33,go_sem,k5,k6,kf5,kf6]) rfl ?_; rw [show pickN (z0q n) out = out by rw [HOK.out]; rfl,HT6.out]; refine ⟨none,none,0,0,rfl,Nat.zero_le _,Nat.zero_le _,.nil _ _ _ _,.nil _ _ _ _,?_,z20 rfl⟩
   repeat (refine z0b ?_ (by show w.heap.size <= w.heap.size + 1; omega) _)
   exact z02 (HFIN.out _ HB5.out) _
  ·
   go_wp2
   go_quiet ((go_at_call 71; first | with_reducible exact z13 (HSM.out _ _) | with_reducible exact z13 (HOT.out _)))
   clear HSM HOT
   go_wp2
   refine bodyPost_ret (v:=.tuple #[.agg #[.int .i64 0,.slice none 0 0],.slice none 0 0]) (by simp [results,Tryz.results33,go_sem,k5,k6,kf5,kf6]) rfl ?_; rw [show pickN (z0q n) out = out by rw [HOK.out]; rfl,HT6.out]; refine ⟨none,none,0,0,rfl,Nat.zero_le _,Nat.zero_le _,.nil _ _ _ _,.nil _ _ _ _,?_,z20 rfl⟩
   repeat (refine z0b ?_ (by show w.heap.size <= w.heap.size + 1; omega) _)
   exact z02 (HFIN.out _ HB5.out) _
set_option maxRecDepth 100000 in
set_option maxHeartbeats 4000000 in
theorem implBitsBin_any (a0 a1 : Addr) (l0 : Nat) (n : N) (c0 : Int) (xs ys : List Int) (A X Y : Option Addr) (c cx cy : Nat) (w : World) (hg : Glb a0 a1 l0 w) (hl0 : l0 <= w.heap.size) (h : Lay.gate.Rd w A n.gs) (hn : n.gs.length <= 1048576) (hA : A = none -> n.gs.length = 0) (hi : okInts n)
  (hX : Lay.int.Rd w X xs) (hY : Lay.int.Rd w Y ys) (hxi : i64s xs) (hyi : i64s ys) (Z : BS × List Int) (hbin : z0q n = true -> z1m n xs = true -> z1m n ys = true -> BinC c0 n xs ys Z) (hZ : Z.2.length <= 1000) (hlx : xs.length <= 1048576) (hly : ys.length <= 1048576) :
  Calls Tryz.prog 10 #[.agg #[.int .i64 n.ins,.slice A n.gs.length c],.int .i64 c0,.slice X xs.length cx,.slice Y ys.length cy] w (RetBits (pickN (z0q n) (binZ n xs ys Z)) w):=by
 obtain ⟨hW,hB0,hB1,hB2,hB3,hB4,hWS⟩:=five_boxes w (.cells #[.int .i64 n.ins,.slice A n.gs.length c] 29) (.cells #[.int .i64 c0] 3) (.cells #[.slice X xs.length cx] 34) (.cells #[.slice Y ys.length cy] 34) (.cells #[.int .i64 0,.slice none 0 0] 29); have HW:=zH hW; have HB0:=zH hB0; have HB1:=zH hB1; have HB2:=zH hB2; have HB3:=zH hB3; have HB4:=zH hB4; have HWS:=zH hWS; have z0:=(z00 hB0 0).1; have z1:=(z00 hB0 1).1; have HCL:=zH (built_bin a0 a1 l0 (w.heap.size + 1 + 1) (w.heap.size + 1 + 1 + 1) (w.heap.size + 1) A c n _ (binZ n xs ys Z)
  (fun z => z.heap[w.heap.size + 1 + 1]? = some (.cells #[.slice X xs.length cx] 34 (0,0)) /\ z.heap[w.heap.size + 1 + 1 + 1]? = some (.cells #[.slice Y ys.length cy] 34 (0,0)) /\ z.heap[w.heap.size + 1]? = some (.cells #[.int .i64 c0] 3 (0,0)) /\ Lay.int.Sl z (fun b => b < w.heap.size) X xs /\ Lay.int.Sl z (fun b => b < w.heap.size) Y ys)
  (hg.below (hW.mono hl0)) (Nat.le_trans hl0 hW.size) (fun x hx => ⟨(hx.block _ (by rw [hWS]; omega)).trans hB2,(hx.block _ (by rw [hWS]; omega)).trans hB3,(hx.block _ (by rw [hWS]; omega)).trans hB1,(hX.below (z09 hW hx) (fun _ h => h)),hY.below (z09 hW hx) (fun _ h => h)⟩)
  (h.up hW) hn hA hi (fun lo q r z hz hok9 hk hlo => bitsBin1_any a0 a1 lo q r _ _ _ n X Y cx cy xs ys c0 Z z hz (hbin hok9) hZ hk.1 hk.2.1 hk.2.2.1 (hk.2.2.2.1.mono fun b hb => by rw [hWS] at hlo; omega) (hk.2.2.2.2.mono fun b hb => by rw [hWS] at hlo; omega) hxi hyi hlx hly))
 clear hg h hA hi hX hY hxi hyi hbin hB0 hB1 hB2 hB3 hB4 hW hWS; generalize hout : pickN (z0q n) (binZ n xs ys Z) = out at *; have HOUT:=zH hout; clear hout
 go_enter Tryz.func10,Tryz.ntmps10
 go_wp2_with fail
 refine HCL.out.mono ?_; generalize ((((w.alloc (.cells #[.int .i64 n.ins,.slice A n.gs.length c] 29)).alloc (.cells #[.int .i64 c0] 3)).alloc (.cells #[.slice X xs.length cx] 34)).alloc (.cells #[.slice Y ys.length cy] 34)).alloc (.cells #[.int .i64 0,.slice none 0 0] 29) = W at *; rintro e w1 ⟨A1,B1,c1,d1,rfl,h1,h2,h3,h4,h5,h6⟩; have hb4:=(h5.block _ (lt_of_block HB4.out)).trans HB4.out; have HX4:=zH hb4; have j6:=(z00 hb4 0).1; have j7:=(z00 hb4 1).1; have f6:=(z00 hb4 0).2; have f7:=(z00 hb4 1).2; have H3:=zH h3; have H4:=zH h4; have H5:=zH h5; clear hb4 h3 h4 h5 HCL
 go_wp2
 have hs1:=z04 w1 (w.heap.size + 1 + 1 + 1 + 1) 0 (.int .i64 out.1.ins) _ _ HX4.out; have hs2:=z04 _ (w.heap.size + 1 + 1 + 1 + 1) 1 (.slice A1 out.1.gs.length c1) _ _ hs1; have hs3 : w1.grownBy ((w1.setCell ⟨w.heap.size + 1 + 1 + 1 + 1,0,none⟩ (.int .i64 out.1.ins)).setCell ⟨w.heap.size + 1 + 1 + 1 + 1,1,none⟩ (.slice A1 out.1.gs.length c1)) (some (w.heap.size + 1 + 1 + 1 + 1)):=z06 (z06 (World.grownBy.refl _ _) _ _) _ _; have k5:=(z00 hs2 0).1; have k6:=(z00 hs2 1).1; have kf5:=(z00 hs2 0).2; have kf6:=(z00 hs2 1).2; refine bodyPost_ret (v:=.tuple #[.agg #[.int .i64 out.1.ins,.slice A1 out.1.gs.length c1],.slice B1 out.2.length d1]) (by simp [results,Tryz.results10,go_sem,k5,k6,kf5,kf6]) rfl ?_; have hlt : w.heap.size + 1 + 1 + 1 + 1 < W.heap.size:=by rw [HWS.out]; omega
 exact ⟨A1,B1,c1,d1,rfl,h1,h2,z1y (z1q H3.out hs3 hlt) HW.out.size,z1y (z1q H4.out hs3 hlt) HW.out.size,(z09 HW.out H5.out).grown hs3 (z09 HW.out H5.out).size (fun k hk => by injection hk with hk; omega),h6⟩
abbrev GU (F : Nat -> Prop) (X0 z : World) (b : Nat) : Prop:=F b \/ (X0.heap.size <= b /\ b < z.heap.size)
theorem Lay.Sl.upU {α : Type} {L : Lay α} {F : Nat -> Prop} {X0 x x' : World} {A : Option Addr} {xs : List α} (h : L.Sl x (GU F X0 x) A xs) (hF : ∀ b,F b -> b < x.heap.size) (hb : Below x.heap.size x x') : L.Sl x' (GU F X0 x') A xs :=
 (h.below hb (fun b hb' => hb'.elim (hF b) (fun h9 => h9.2))).mono fun b hb' => hb'.imp id fun h9 => ⟨h9.1,Nat.lt_of_lt_of_le h9.2 hb.size⟩
theorem Lay.Sl.stU {α : Type} {L : Lay α} {F : Nat -> Prop} {X0 x x' : World} {A : Option Addr} {xs : List α} {g : Nat} (h : L.Sl x (GU F X0 x) A xs) (hF : ∀ b,F b -> b < x.heap.size) (hg : x.grownBy x' (some g)) (h1 : g < X0.heap.size) (h2 : ¬ F g) : L.Sl x' (GU F X0 x') A xs :=
 (h.keep fun b hb => hg.block b (hb.elim (hF b) (fun h9 => h9.2)) (fun e => by injection e with e; subst e; exact hb.elim h2 (fun h9 => by omega))).mono fun b hb' => hb'.imp id fun h9 => ⟨h9.1,Nat.lt_of_lt_of_le h9.2 hg.size⟩
def NoB : Nat -> Prop:=fun _ => False
def URow (X0 : World) (l : List Int) (v : Value) (z : World) : Prop:=∃ B d,v = .slice B l.length d /\ l.length <= d /\ Lay.int.Sl z (GU NoB X0 z) B l
def UTup (F : Nat -> Prop) (X0 : World) (T : (N × Bool) × List Int) (v : Value) (z : World) : Prop:=∃ A2 c2 B d,v = .tuple #[.agg #[.int .i64 T.1.1.ins,.slice A2 T.1.1.gs.length c2,.bool T.1.2],.slice B T.2.length d] /\ (A2 = none -> T.1.1.gs.length = 0) /\ Lay.gate.Sl z (GU F X0 z) A2 T.1.1.gs /\ T.2.length <= d /\ Lay.int.Sl z (GU NoB X0 z) B T.2 /\ X0.heap.size <= z.heap.size
def UNet (F : Nat -> Prop) (X0 : World) (k : N × Bool) (v : Value) (z : World) : Prop:=∃ A2 c2,v = .agg #[.int .i64 k.1.ins,.slice A2 k.1.gs.length c2,.bool k.2] /\ (A2 = none -> k.1.gs.length = 0) /\ Lay.gate.Sl z (GU F X0 z) A2 k.1.gs /\ X0.heap.size <= z.heap.size
theorem URow.up {X0 x y : World} {l : List Int} {v : Value} (h : URow X0 l v x) (hb : Below x.heap.size x y) : URow X0 l v y:=by
 obtain ⟨B,d,h1,h2,h3⟩:=h; exact ⟨B,d,h1,h2,h3.upU (fun _ h => h.elim) hb⟩
theorem URow.st {X0 x y : World} {l : List Int} {v : Value} {g : Nat} (h : URow X0 l v x) (hg : x.grownBy y (some g)) (h1 : g < X0.heap.size) : URow X0 l v y:=by
 obtain ⟨B,d,h2,h3,h4⟩:=h; exact ⟨B,d,h2,h3,h4.stU (fun _ h => h.elim) hg h1 id⟩
theorem UTup.up {F : Nat -> Prop} {X0 x y : World} {T : (N × Bool) × List Int} {v : Value} (hF : ∀ b,F b -> b < X0.heap.size) (h : UTup F X0 T v x) (hb : Below x.heap.size x y) : UTup F X0 T v y:=by
 obtain ⟨A2,c2,B,d,h1,h2,h3,h4,h5,h6⟩:=h; exact ⟨A2,c2,B,d,h1,h2,h3.upU (fun b hb => Nat.lt_of_lt_of_le (hF b hb) h6) hb,h4,h5.upU (fun _ h => h.elim) hb,Nat.le_trans h6 hb.size⟩
theorem UTup.st {F : Nat -> Prop} {X0 x y : World} {T : (N × Bool) × List Int} {v : Value} {g : Nat} (hF : ∀ b,F b -> b < X0.heap.size) (h : UTup F X0 T v x) (hg : x.grownBy y (some g)) (hg1 : g < X0.heap.size) (hg2 : ¬ F g) : UTup F X0 T v y:=by
 obtain ⟨A2,c2,B,d,h1,h2,h3,h4,h5,h6⟩:=h; exact ⟨A2,c2,B,d,h1,h2,h3.stU (fun b hb => Nat.lt_of_lt_of_le (hF b hb) h6) hg hg1 hg2,h4,h5.stU (fun _ h => h.elim) hg hg1 id,Nat.le_trans h6 hg.size⟩
theorem UNet.up {F : Nat -> Prop} {X0 x y : World} {k : N × Bool} {v : Value} (hF : ∀ b,F b -> b < X0.heap.size) (h : UNet F X0 k v x) (hb : Below x.heap.size x y) : UNet F X0 k v y:=by
 obtain ⟨A2,c2,h1,h2,h3,h6⟩:=h; exact ⟨A2,c2,h1,h2,h3.upU (fun b hb => Nat.lt_of_lt_of_le (hF b hb) h6) hb,Nat.le_trans h6 hb.size⟩
theorem UNet.st {F : Nat -> Prop} {X0 x y : World} {k : N × Bool} {v : Value} {g : Nat} (hF : ∀ b,F b -> b < X0.heap.size) (h : UNet F X0 k v x) (hg : x.grownBy y (some g)) (hg1 : g < X0.heap.size) (hg2 : ¬ F g) : UNet F X0 k v y:=by
 obtain ⟨A2,c2,h1,h2,h3,h6⟩:=h; exact ⟨A2,c2,h1,h2,h3.stU (fun b hb => Nat.lt_of_lt_of_le (hF b hb) h6) hg hg1 hg2,Nat.le_trans h6 hg.size⟩
def UnI (F : Nat -> Prop) (w X0 : World) (k : N × Bool) (A : Option Addr) (c : Nat) (k2 : N × Bool) (done : Bool) (x : World) : Prop :=
 Below w.heap.size w x /\ x.heap[w.heap.size]? = some (.cells #[.int .i64 k.1.ins,.slice A k.1.gs.length c,.bool k.2] 85 (0,0)) /\ (done = false -> x.heap[w.heap.size + 1]? = some (.cells #[.int .i64 0,.slice none 0 0,.bool false] 85 (0,0))) /\ (done = true -> ∃ A2 c2,x.heap[w.heap.size + 1]? = some (.cells #[.int .i64 k2.1.ins,.slice A2 k2.1.gs.length c2,.bool k2.2] 85 (0,0)) /\ (A2 = none -> k2.1.gs.length = 0) /\ Lay.gate.Sl x (GU F X0 x) A2 k2.1.gs) /\ Lay.gate.Sl x F A k.1.gs /\ X0.heap.size <= x.heap.size
theorem UnI.up {F : Nat -> Prop} {w X0 x y : World} {k : N × Bool} {A : Option Addr} {c : Nat} {k2 : N × Bool} {done : Bool} (hF : ∀ b,F b -> b < w.heap.size) (h : UnI F w X0 k A c k2 done x) (hb : Below x.heap.size x y) : UnI F w X0 k A c k2 done y:=by
 obtain ⟨h1,h2,h3,h4,h5,h6⟩:=h; have hF2 : ∀ b,F b -> b < x.heap.size:=fun b hb' => by have:=hF b hb'; have:=lt_of_block h2; omega
 refine ⟨z09 h1 hb,(hb.block _ (lt_of_block h2)).trans h2,fun hd => (hb.block _ (lt_of_block (h3 hd))).trans (h3 hd),fun hd => ?_,h5.below hb hF2,Nat.le_trans h6 hb.size⟩; obtain ⟨A2,c2,g1,g2,g3⟩:=h4 hd; exact ⟨A2,c2,(hb.block _ (lt_of_block g1)).trans g1,g2,g3.upU hF2 hb⟩
theorem UnI.st {F : Nat -> Prop} {w X0 x : World} {k : N × Bool} {A : Option Addr} {c : Nat} {k2 : N × Bool} {A2 : Option Addr} {c2 : Nat} (hF : ∀ b,F b -> b < w.heap.size) (hX : w.heap.size + 1 < X0.heap.size) (h : UnI F w X0 k A c k2 false x) (hs : Lay.gate.Sl x (GU F X0 x) A2 k2.1.gs) (hn : A2 = none -> k2.1.gs.length = 0) :
  UnI F w X0 k A c k2 true (st3 x (w.heap.size + 1) (.int .i64 k2.1.ins) (.slice A2 k2.1.gs.length c2) (.bool k2.2)) /\ x.grownBy (st3 x (w.heap.size + 1) (.int .i64 k2.1.ins) (.slice A2 k2.1.gs.length c2) (.bool k2.2)) (some (w.heap.size + 1)):=by
 obtain ⟨h1,h2,h3,h4,h5,h6⟩:=h; have hgr : x.grownBy (st3 x (w.heap.size + 1) (.int .i64 k2.1.ins) (.slice A2 k2.1.gs.length c2) (.bool k2.2)) (some (w.heap.size + 1)):=z06 (z06 (z06 (World.grownBy.refl _ _) _ _) _ _) _ _; have hF2 : ∀ b,F b -> b < x.heap.size:=fun b hb' => by have:=hF b hb'; have:=lt_of_block h2; omega
 have hng : ¬ F (w.heap.size + 1):=fun h9 => by have:=hF _ h9; omega
 exact ⟨⟨z0i h1 (by omega) _ _ _,(st3_other (by omega)).trans h2,fun h => (by cases h),fun _ => ⟨A2,c2,z0s (h3 rfl) _ _ _,hn,hs.stU hF2 hgr hX hng⟩,z1a h5 (fun b hb e => hng (by rw [e] at hb; exact hb)) _ _ _,by rw [z0o]; exact h6⟩,hgr⟩
end Go.Proofs.YtemdmlmcidfodaaGreatDoor
