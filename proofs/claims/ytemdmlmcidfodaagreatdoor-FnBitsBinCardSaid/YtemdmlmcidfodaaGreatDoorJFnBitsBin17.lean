/- The reference's l7Plain. -/
import Derived.Test.YtemdmlmcidfodaaGreatDoorJFnBitsBin0
import Derived.Test.YtemdmlmcidfodaaGreatDoorJFnBitsBin15
import Derived.Test.YtemdmlmcidfodaaGreatDoorJFnBitsBin16
namespace Go.Proofs.YtemdmlmcidfodaaGreatDoor
open Go Go.RowKit
theorem one_and {k : N × Bool} {x y : Int} (h : NB k.1) (hx : RB x) (hy : RB y) : NB (run opsR (.and x y .ret) k).1.1 /\ RB (run opsR (.and x y .ret) k).2:=opsR_and_nb h hx hy
theorem one_xor {k : N × Bool} {x y : Int} (h : NB k.1) (hx : RB x) (hy : RB y) : NB (run opsR (.xor x y .ret) k).1.1 /\ RB (run opsR (.xor x y .ret) k).2:=opsR_xor_nb h hx hy
set_option maxRecDepth 100000 in
set_option maxHeartbeats 8000000 in
theorem l7Plain_3 (F : Nat -> Prop) (A : Option Addr) (c : Nat) (k : N × Bool) (X Y : Option Addr) (cx cy : Nat) (xs ys : List Int) (w : World) (h : Lay.gate.Sl w F A k.1.gs) (hF : ∀ b,F b -> b < w.heap.size) (hA : A = none -> k.1.gs.length = 0) (hnb : NB k.1) (hX : Lay.int.Rd w X xs) (hY : Lay.int.Rd w Y ys) (hxm : ∀ x ∈ xs,RB x) (hym : ∀ y ∈ ys,RB y) (hl : xs.length = ys.length) (hn : xs.length <= 1000) :
  Calls Tryz.prog 93 #[.agg #[.int .i64 k.1.ins,.slice A k.1.gs.length c,.bool k.2],.int .i64 3,.slice X xs.length cx,.slice Y ys.length cy] w (RetKL F w (run opsR (z0v (fun x y => .and x y .ret) xs ys) k)):=by
 obtain ⟨T,hT⟩ : ∃ T,T = run opsR (z0v (fun x y => .and x y .ret) xs ys) k:=⟨_,rfl⟩; rw [<- hT]; have HT:=zH hT; have K0:=KS.two (c:=c) h hF hA; have HRW:=zH (h.below K0.bel hF); have HNIL:=zH hA; have HF:=zH hF; have HNB:=zH hnb; have HX:=zH hX; have HY:=zH hY; have HXM:=zH hxm; have HYM:=zH hym; have HL:=zH hl; have K0:=zH K0; have hX0s : ((w.alloc (.cells #[.int .i64 k.1.ins,.slice A k.1.gs.length c,.bool k.2] 85)).alloc (.cells #[.int .i64 0,.slice none 0 0,.bool false] 85)).heap.size = w.heap.size + 2:=by simp
 clear h hA hnb hX hY hxm hym hT; rw [<- hl]; clear hl
 go_enter Tryz.func93,Tryz.ntmps93
 go_wp2
 generalize hX0 : (w.alloc (.cells #[.int .i64 k.1.ins,.slice A k.1.gs.length c,.bool k.2] 85)).alloc (.cells #[.int .i64 0,.slice none 0 0,.bool false] 85) = X0 at *; clear hX0; have hal : Below X0.heap.size X0 (X0.alloc (.cells #[] 3)):=(Below.refl _ _).alloc (Nat.le_refl _) _; have hown0 : OwnI (X0.alloc (.cells #[] 3)) (w.heap.size + 2) (.slice (some ⟨w.heap.size + 1 + 1,0,none⟩) 0 0) []:=z18 hX0s; have K1:=zH (K0.out.up HF.out hal); have HO0:=zH hown0; have HRW:=zH (HRW.out.below hal (fun b hb => by have:=HF.out b hb; omega)); clear hal hown0 K0
 go_loopw [10,11] (fun out i wr => ∃ (j : Nat) (k1 : N × Bool) (l : List Int) (A1 B : Option Addr) (c1 d : Nat),j <= xs.length /\ i = .int .i64 j /\ out = .slice B l.length d /\ l.length = j /\ (∀ m ∈ l,RB m) /\ AddI F w wr k1 A1 c1 B d l /\ NB k1.1 /\ Hid ((let z:=run opsR (z0v (fun x y => .and x y .ret) (xs.drop j) (ys.drop j)) k1; (z.1,l ++ z.2)) = T)) (fun _ i _ => xs.length - (intOf i).toNat)
 case atStart => exact ⟨0,k,[],A,some ⟨w.heap.size + 1 + 1,0,none⟩,c,0,Nat.zero_le _,rfl,rfl,rfl,(fun _ h => by cases h),⟨⟨K1.out.bel,K1.out.var,K1.out.res,HRW.out.mono fun _ => .inl,HNIL.out⟩,HO0.out⟩,HNB.out,zH (by rw [HT.out]; rfl)⟩
 case round =>
  obtain ⟨j,k1,l,A1,B,c1,d,hj,rfl,rfl,hlj,hlm,hks,hnb1,hst⟩:=hrel; have HLM:=zH hlm; have HKS:=zH hks; have HLJ:=zH hlj; have HNB1:=zH hnb1; clear hlm hks hlj hnb1
  by_cases hlt : j < xs.length
  ·
   have hlt2 : (j : Int) < xs.length:=by omega
   have hlty : j < ys.length:=by rw [<- HL.out]; exact hlt
   obtain ⟨x,hx⟩ : ∃ x,xs[j]? = some x:=⟨_,List.getElem?_eq_getElem hlt⟩; obtain ⟨y,hy⟩ : ∃ y,ys[j]? = some y:=⟨_,List.getElem?_eq_getElem hlty⟩; have hxg : xs[j] = x:=(List.getElem?_eq_some_iff.1 hx).2; have hyg : ys[j] = y:=(List.getElem?_eq_some_iff.1 hy).2; have HXYM:=zH (And.intro (HXM.out x (List.mem_of_getElem? hx)) (HYM.out y (List.mem_of_getElem? hy))); obtain ⟨adx,rfl,-,-⟩:=HX.out.at_int hlt; obtain ⟨ady,rfl,-,-⟩:=HY.out.at_int hlty; have HST:=zH ((z1v (o:=opsR) (f:=(fun x y => .and x y .ret)) xs ys j x y hx hy k1 l).symm.trans hst.out); have HRX : Hid (∀ z,Below w.heap.size w z -> z.cell? (adx.add j) = some (.int .i64 x)):=zH fun z hz => by
    obtain ⟨ad,e,_,hc⟩:=(HX.out.up hz).at_int hlt
    injection e with e; subst e; rw [<- hxg]; exact hc
   have HRY : Hid (∀ z,Below w.heap.size w z -> z.cell? (ady.add j) = some (.int .i64 y)):=zH fun z hz => by
    obtain ⟨ad,e,_,hc⟩:=(HY.out.up hz).at_int hlty
    injection e with e; subst e; rw [<- hyg]; exact hc
   have hll : l.length <= 1000:=by have:=HLJ.out; omega
   clear hx hy hxg hyg hst hlty; obtain ⟨m,h9⟩ : ∃ m,m = run opsR ((fun x y => .and x y .ret) x y) k1:=⟨_,rfl⟩; have HM:=zH h9; have HMB : Hid (NB m.1.1 /\ RB m.2):=zH (by rw [h9]; exact one_and HNB1.out HXYM.out.1 HXYM.out.2); clear h9; have HST : Hid ((let r:=run opsR (z0v (fun x y => .and x y .ret) (xs.drop (j + 1)) (ys.drop (j + 1))) m.1; (r.1,(l ++ [m.2]) ++ r.2)) = T):=zH (by rw [HM.out]; exact HST.out); obtain ⟨l2,hl2⟩ : ∃ l2,l2 = l ++ [m.2]:=⟨_,rfl⟩; have HL2:=zH hl2; clear hl2
   go_wp2
   refine z0a [[],[],[],[(1,38),(2,39)],[(3,40)],[],[],[(5,42),(6,43)],[(7,44)],[(0,37),(4,41),(8,45)],[(9,46)],[(10,36)],[(10,36)],[(11,47)],[(12,48)]]
    (fun x9 y9 => Below x9.heap.size x9 y9)
    [(13,fun x9 y9 => x9.grownBy y9 (some w.heap.size))]
    (fun f9 x9 => (f9 13 = false -> AddI F w x9 k1 A1 c1 B d l) /\ (f9 13 = true -> ∃ A9 c9,AddI F w x9 m.1 A9 c9 B d l) /\ Below w.heap.size w x9)
    [zF 0 (.agg #[.int .i64 k1.1.ins,.slice A1 k1.1.gs.length c1,.bool k1.2]),
  zF 1 (.slice (some adx) xs.length cx),
  zF 2 (.int .i64 (j : Int)),
  zF 3 (.pointer (some (adx.add j))),
  zF 4 (.int .i64 x),
  zF 5 (.slice (some ady) xs.length cy),
  zF 6 (.int .i64 (j : Int)),
  zF 7 (.pointer (some (ady.add j))),
  zF 8 (.int .i64 y),
  fun vs9 y9 => (fun v z => ATup F (fun b => (Value.slice B l.length d).ownBlock = some b) w m v z) (vs9 9) y9,
  fun vs9 y9 => (fun v z => ATup F (fun b => (Value.slice B l.length d).ownBlock = some b) w m v z) (vs9 10) y9,
  fun vs9 y9 => (fun v z => ANet F (fun b => (Value.slice B l.length d).ownBlock = some b) w m v z) (vs9 11) y9,
  zF 12 (.int .i64 m.2),
  fun _ _ => True,
  zF 14 (.int .i64 m.2)]
    [(0,37),(1,38),(2,39),(3,40),(4,41),(5,42),(6,43),(7,44),(8,45),(9,46),(10,36),(11,47),(12,48),(14,12)] (by kernel_rfl) (by kernel_rfl) (by kernel_rfl) (by kernel_rfl)
    (fun _ => Below.refl _ _) ⟨fun _ => World.grownBy.refl _ _,trivial⟩
    ⟨zU,
  zU,
  zU,
  zU,
  zU,
  zU,
  zU,
  zU,
  zU,
  ⟨.inr (zS (fun v z => ATup F (fun b => (Value.slice B l.length d).ownBlock = some b) w m v z) (fun _ _ _ h9 hR => h9.up HF.out hR)),⟨.inr (.inr (zS (fun v z => ATup F (fun b => (Value.slice B l.length d).ownBlock = some b) w m v z) (fun _ _ _ h9 hR => h9.st HF.out hR))),trivial⟩⟩,
  ⟨.inr (zS (fun v z => ATup F (fun b => (Value.slice B l.length d).ownBlock = some b) w m v z) (fun _ _ _ h9 hR => h9.up HF.out hR)),⟨.inr (.inr (zS (fun v z => ATup F (fun b => (Value.slice B l.length d).ownBlock = some b) w m v z) (fun _ _ _ h9 hR => h9.st HF.out hR))),trivial⟩⟩,
  ⟨.inr (zS (fun v z => ANet F (fun b => (Value.slice B l.length d).ownBlock = some b) w m v z) (fun _ _ _ h9 hR => h9.up HF.out hR)),⟨.inr (.inr (zS (fun v z => ANet F (fun b => (Value.slice B l.length d).ownBlock = some b) w m v z) (fun _ _ _ h9 hR => h9.st HF.out hR))),trivial⟩⟩,
  zU,
  ⟨.inr zK,⟨.inr (.inl rfl),trivial⟩⟩,
  zU,trivial⟩ ⟨zL,
  zL,
  zL,
  zL,
  zL,
  zL,
  zL,
  zL,
  zL,
  fun _ _ _ h _ v => (by simpa only [<- h] using v),
  fun _ _ _ h _ v => (by simpa only [<- h] using v),
  fun _ _ _ h _ v => (by simpa only [<- h] using v),
  zL,
  fun _ _ _ _ _ _ => trivial,
  zL,trivial⟩ (⟨fun _ => HKS.out.up HF.out (z02 (Below.refl _ _) 1),(fun h => by cases h),z09 HKS.out.ks.bel (z02 (Below.refl _ _) 1)⟩) ⟨?_,?_,?_,?_,?_,?_,?_,?_,?_,?_,?_,?_,?_,?_,?_,trivial⟩ ?_
   ·
    intro vals xw f hf1 hf2 hf3 hI hF; have k13 : f 13 = false:=hf3 13 (by kernel_rfl); clear hf2 hf3; dsimp only [z03,bare]; simp only [z01,Act.put,zQ]; have hv9:=(hI.1 k13).ks.var; have y0:=(z00 hv9 0).1; have y1:=(z00 hv9 1).1; have y2:=(z00 hv9 2).1
    go_wp2
    exact zX hI rfl
   iterate 2
    ·
     rintro vals xw f hf1 - - hI hF; dsimp only [z03,bare]; simp only [z01,Act.put,zQ]
     go_wp2
     exact zX hI rfl
   ·
    rintro vals xw f hf1 - - hI hF; simp only [z05,zF,zR,and_true] at hF; obtain ⟨e38,e39⟩:=hF; dsimp only [z03,bare]; simp only [z01,Act.put,zQ]; simp only [e38,e39]
    go_wp2
    exact zX hI rfl
   ·
    rintro vals xw f hf1 - - hI hF; simp only [z05,zF,zR,and_true] at hF; have e40:=hF; dsimp only [z03,bare]; simp only [z01,Act.put,zQ]; simp only [e40]; have c9:=HRX.out _ hI.2.2
    go_wp2
    exact zX hI rfl
   iterate 2
    ·
     rintro vals xw f hf1 - - hI hF; dsimp only [z03,bare]; simp only [z01,Act.put,zQ]
     go_wp2
     exact zX hI rfl
   ·
    rintro vals xw f hf1 - - hI hF; simp only [z05,zF,zR,and_true] at hF; obtain ⟨e42,e43⟩:=hF; dsimp only [z03,bare]; simp only [z01,Act.put,zQ]; simp only [e42,e43]
    go_wp2
    exact zX hI rfl
   ·
    rintro vals xw f hf1 - - hI hF; simp only [z05,zF,zR,and_true] at hF; have e44:=hF; dsimp only [z03,bare]; simp only [z01,Act.put,zQ]; simp only [e44]; have c9:=HRY.out _ hI.2.2
    go_wp2
    exact zX hI rfl
   ·
    intro vals xw f hf1 hf2 hf3 hI hF; have k13 : f 13 = false:=hf3 13 (by kernel_rfl); clear hf2 hf3; simp only [z05,zF,zR,and_true] at hF; obtain ⟨e37,e41,e45⟩:=hF; dsimp only [z03,bare]; simp only [z01,Act.put,zQ]; simp only [e37,e41,e45]; have HI:=zH hI; have HK:=zH (hI.1 k13); have hsz9:=hI.2.2.size; clear hI; have HC:=zH (show Calls _ _ _ _ (RetK _ xw (run opsR ((fun x y => .and x y .ret) x y) k1)) from l7And_any (G2 F w xw (fun b => (Value.slice B l.length d).ownBlock = some b)) A1 c1 k1 x y xw HK.out.ks.row (KS2.lt HK.out.ks.bel HF.out) HK.out.ks.nil HNB1.out HXYM.out.1 HXYM.out.2); rw [<- HM.out] at HC
    go_wp2_with fail
    refine HC.out.mono ?_; rintro e wx ⟨A9,c9,rfl,h2,h3,h4⟩; have H3:=zH h3; have H4:=zH h4; clear h3 h4 HC
    go_wp2
    refine ⟨rfl,⟨A9,c9,rfl,h2,H3.out.mono ?_,Nat.le_trans hsz9 H4.out.size⟩,⟨zN rfl,fun _ => H4.out⟩,(fun h => (HI.out.1 h).up HF.out H4.out),(fun h => absurd (k13.symm.trans h) (by simp)),z09 HI.out.2.2 H4.out⟩; intro b hb
    rcases hb with (h9 | h9) | h9
    · exact .inl h9
    · exact .inr ⟨h9.1,Nat.lt_of_lt_of_le h9.2.1 H4.out.size,h9.2.2⟩
    · exact .inr ⟨by have:=lt_of_block HK.out.ks.res; omega,h9.2,fun e => by have:=(HK.out.own.lt b e).2; omega⟩
   ·
    rintro vals xw f hf1 - - hI hF; simp only [z05,zF,zR,and_true] at hF; obtain ⟨A9,c9,e46,h2,h3,h4⟩:=hF; dsimp only [z03,bare]; simp only [z01,Act.put,zQ]; simp only [e46]
    go_wp2
    exact ⟨rfl,⟨A9,c9,rfl,h2,h3,h4⟩,⟨zN rfl,fun _ => Below.refl _ _⟩,hI⟩
   ·
    rintro vals xw f hf1 - - hI hF; simp only [z05,zF,zR,and_true] at hF; obtain ⟨A9,c9,e36,h2,h3,h4⟩:=hF; dsimp only [z03,bare]; simp only [z01,Act.put,zQ]; simp only [e36]
    go_wp2
    exact ⟨rfl,⟨A9,c9,rfl,h2,h3,h4⟩,⟨zN rfl,fun _ => Below.refl _ _⟩,hI⟩
   ·
    rintro vals xw f hf1 - - hI hF; simp only [z05,zF,zR,and_true] at hF; obtain ⟨A9,c9,e36,h2,h3,h4⟩:=hF; dsimp only [z03,bare]; simp only [z01,Act.put,zQ]; simp only [e36]
    go_wp2
    exact zX hI rfl
   ·
    rintro vals xw f hf1 - - hI hF; simp only [z05,zF,zR,and_true] at hF; obtain ⟨A9,c9,e47,h2,h3,h4⟩:=hF; dsimp only [z03,bare]; simp only [z01,Act.put,zQ]; simp only [e47]; have HI:=zH hI; have HK:=zH (hI.1 hf1); have hv9:=HK.out.ks.var; have y0:=(z00 hv9 0).1; have y1:=(z00 hv9 1).1; have y2:=(z00 hv9 2).1; have g0:=(z00 hv9 0).2; have g1:=(z00 hv9 1).2; have g2:=(z00 hv9 2).2; have H3:=zH h3; clear hI hv9 h3 h4
    go_wp2
    have hset:=HK.out.set (c':=c9) HF.out H3.out h2; have hgr : xw.grownBy (st3 xw w.heap.size (.int .i64 m.1.1.ins) (.slice A9 m.1.1.gs.length c9) (.bool m.1.2)) (some w.heap.size):=z06 (z06 (z06 (World.grownBy.refl _ _) _ _) _ _) _ _; exact ⟨rfl,trivial,⟨fun _ => hgr,fun h9 => absurd rfl h9⟩,fun h => absurd ((z0h f 13).symm.trans h) (by simp),fun _ => ⟨A9,c9,hset⟩,z0i HI.out.2.2 (Nat.le_refl _) _ _ _⟩
   ·
    rintro vals xw f hf1 - - hI hF; simp only [z05,zF,zR,and_true] at hF; have e48:=hF; dsimp only [z03,bare]; simp only [z01,Act.put,zQ]; simp only [e48]
    go_wp2
    exact zX hI rfl
   ·
    intro vals xw f hall hI hF; rw [show List.range _ = [0,1,2,3,4,5,6,7,8,9,10,11,12,13,14] from rfl] at hF; simp only [says,zF,zR,and_true] at hF; obtain ⟨A2,c2,hk2⟩:=hI.2.1 (hall 13 (by decide)); have e9 : vals 14 = .int .i64 m.2:=by obtain ⟨_,_,_,_,_,_,_,_,_,_,_,_,_,_,e9⟩:=hF; exact e9
    have K2:=zH hk2; clear hF hk2 hI; simp only [z01,Act.put,zQ]; simp only [e9]; clear e9; have hown9:=K2.out.own; have hsz9 : w.heap.size + 2 <= xw.heap.size:=by have:=lt_of_block K2.out.ks.res; omega
    go_wp2_with (at_builtin; refine z0g (ys:=l2) (by rfl) (.tmp 64) (.tmp 66) (by rfl) (by rfl) (by rfl) hown9 (by omega) hsz9 HL2.out ?_; intro B2 d2 w2 hown2 hg2 hbk2)
    have hk3:=K2.out.ks.grown (v':=.slice B2 l2.length d2) HF.out hg2 (fun g hg => (K2.out.own.lt g hg).1) hbk2
    go_roundw
    case rel => exact ⟨j + 1,m.1,l2,A2,B2,c2,d2,by omega,by go_num,rfl,by rw [HL2.out,List.length_append,HLJ.out]; rfl,fun z hz => (List.mem_append.1 (by rw [HL2.out] at hz; exact hz)).elim (HLM.out z) (fun hz => by rw [List.mem_singleton.1 hz]; exact HMB.out.2),⟨hk3,hown2⟩,HMB.out.1,zH (by rw [HL2.out]; exact HST.out)⟩
    case measure => simp [intOf]; omega
  ·
   have hje : j = xs.length:=by omega
   subst hje; have hlt2 : ¬ ((xs.length : Nat) : Int) < xs.length:=by omega
   have hd1 : xs.drop xs.length = []:=List.drop_length; have hd2 : ys.drop xs.length = []:=by rw [HL.out]; exact List.drop_length
   have hst2:=hst.out; rw [hd1,hd2] at hst2; have hT2 : T = (k1,l):=by rw [<- hst2]; show (k1,l ++ []) = _; rw [List.append_nil]
   have HT2:=zH hT2; clear hst2 hT2 hd1 hd2; have hv9:=HKS.out.ks.var; have y0:=(z00 hv9 0).1; have y1:=(z00 hv9 1).1; have y2:=(z00 hv9 2).1; have hr9:=HKS.out.ks.res; have r0:=(z00 hr9 0).1; have r1:=(z00 hr9 1).1; have r2:=(z00 hr9 2).1; have rf0:=(z00 hr9 0).2; have rf1:=(z00 hr9 1).2; have rf2:=(z00 hr9 2).2; clear hv9 hr9
   go_wp2
   have hs:=z0s HKS.out.ks.res (.int .i64 k1.1.ins) (.slice A1 k1.1.gs.length c1) (.bool k1.2); have k5:=(z00 hs 0).1; have k6:=(z00 hs 1).1; have k7:=(z00 hs 2).1; have kf5:=(z00 hs 0).2; have kf6:=(z00 hs 1).2; have kf7:=(z00 hs 2).2; refine bodyPost_ret (v:=.tuple #[.agg #[.int .i64 k1.1.ins,.slice A1 k1.1.gs.length c1,.bool k1.2],.slice B l.length d]) (by simp [results,Tryz.results93,go_sem,k5,k6,k7,kf5,kf6,kf7]) rfl ?_; rw [HT2.out]; obtain ⟨B',d',e9,hcap,hsl⟩:=HKS.out.own.form
   injection e9 with e1 e2 e3
   subst e1 e3; refine ⟨A1,c1,B,d,rfl,HKS.out.ks.nil,(z1a (h:=w.heap.size + 1) HKS.out.ks.row (fun b hb => ?_) _ _ _).mono (fun b hb => ?_),hcap,(z1a (h:=w.heap.size + 1) hsl (fun b hb => by omega) _ _ _).mono (fun b hb => by rw [z0o]; omega),HLM.out,z0i HKS.out.ks.bel (by omega) _ _ _⟩
   ·
    rcases hb with hb | hb
    · have:=HF.out b hb; omega
    · omega
   ·
    rw [z0o]; exact hb.imp id fun h9 => ⟨by omega,h9.2.1⟩
set_option maxRecDepth 100000 in
set_option maxHeartbeats 8000000 in
theorem l7Plain_4 (F : Nat -> Prop) (A : Option Addr) (c : Nat) (k : N × Bool) (X Y : Option Addr) (cx cy : Nat) (xs ys : List Int) (w : World) (h : Lay.gate.Sl w F A k.1.gs) (hF : ∀ b,F b -> b < w.heap.size) (hA : A = none -> k.1.gs.length = 0) (hnb : NB k.1) (hX : Lay.int.Rd w X xs) (hY : Lay.int.Rd w Y ys) (hxm : ∀ x ∈ xs,RB x) (hym : ∀ y ∈ ys,RB y) (hl : xs.length = ys.length) (hn : xs.length <= 1000) :
  Calls Tryz.prog 93 #[.agg #[.int .i64 k.1.ins,.slice A k.1.gs.length c,.bool k.2],.int .i64 4,.slice X xs.length cx,.slice Y ys.length cy] w (RetKL F w (run opsR (z0v orP xs ys) k)):=by
 obtain ⟨T,hT⟩ : ∃ T,T = run opsR (z0v orP xs ys) k:=⟨_,rfl⟩; rw [<- hT]; have HT:=zH hT; have K0:=KS.two (c:=c) h hF hA; have HRW:=zH (h.below K0.bel hF); have HNIL:=zH hA; have HF:=zH hF; have HNB:=zH hnb; have HX:=zH hX; have HY:=zH hY; have HXM:=zH hxm; have HYM:=zH hym; have HL:=zH hl; have K0:=zH K0; have hX0s : ((w.alloc (.cells #[.int .i64 k.1.ins,.slice A k.1.gs.length c,.bool k.2] 85)).alloc (.cells #[.int .i64 0,.slice none 0 0,.bool false] 85)).heap.size = w.heap.size + 2:=by simp
 clear h hA hnb hX hY hxm hym hT; rw [<- hl]; clear hl
 go_enter Tryz.func93,Tryz.ntmps93
 go_wp2
 generalize hX0 : (w.alloc (.cells #[.int .i64 k.1.ins,.slice A k.1.gs.length c,.bool k.2] 85)).alloc (.cells #[.int .i64 0,.slice none 0 0,.bool false] 85) = X0 at *; clear hX0; have hal : Below X0.heap.size X0 (X0.alloc (.cells #[] 3)):=(Below.refl _ _).alloc (Nat.le_refl _) _; have hown0 : OwnI (X0.alloc (.cells #[] 3)) (w.heap.size + 2) (.slice (some ⟨w.heap.size + 1 + 1,0,none⟩) 0 0) []:=z18 hX0s; have K1:=zH (K0.out.up HF.out hal); have HO0:=zH hown0; have HRW:=zH (HRW.out.below hal (fun b hb => by have:=HF.out b hb; omega)); clear hal hown0 K0
 go_loopw [10,11] (fun out i wr => ∃ (j : Nat) (k1 : N × Bool) (l : List Int) (A1 B : Option Addr) (c1 d : Nat),j <= xs.length /\ i = .int .i64 j /\ out = .slice B l.length d /\ l.length = j /\ (∀ m ∈ l,RB m) /\ AddI F w wr k1 A1 c1 B d l /\ NB k1.1 /\ Hid ((let z:=run opsR (z0v orP (xs.drop j) (ys.drop j)) k1; (z.1,l ++ z.2)) = T)) (fun _ i _ => xs.length - (intOf i).toNat)
 case atStart => exact ⟨0,k,[],A,some ⟨w.heap.size + 1 + 1,0,none⟩,c,0,Nat.zero_le _,rfl,rfl,rfl,(fun _ h => by cases h),⟨⟨K1.out.bel,K1.out.var,K1.out.res,HRW.out.mono fun _ => .inl,HNIL.out⟩,HO0.out⟩,HNB.out,zH (by rw [HT.out]; rfl)⟩
 case round =>
  obtain ⟨j,k1,l,A1,B,c1,d,hj,rfl,rfl,hlj,hlm,hks,hnb1,hst⟩:=hrel; have HLM:=zH hlm; have HKS:=zH hks; have HLJ:=zH hlj; have HNB1:=zH hnb1; clear hlm hks hlj hnb1
  by_cases hlt : j < xs.length
  ·
   have hlt2 : (j : Int) < xs.length:=by omega
   have hlty : j < ys.length:=by rw [<- HL.out]; exact hlt
   obtain ⟨x,hx⟩ : ∃ x,xs[j]? = some x:=⟨_,List.getElem?_eq_getElem hlt⟩; obtain ⟨y,hy⟩ : ∃ y,ys[j]? = some y:=⟨_,List.getElem?_eq_getElem hlty⟩; have hxg : xs[j] = x:=(List.getElem?_eq_some_iff.1 hx).2; have hyg : ys[j] = y:=(List.getElem?_eq_some_iff.1 hy).2; have HXYM:=zH (And.intro (HXM.out x (List.mem_of_getElem? hx)) (HYM.out y (List.mem_of_getElem? hy))); obtain ⟨adx,rfl,-,-⟩:=HX.out.at_int hlt; obtain ⟨ady,rfl,-,-⟩:=HY.out.at_int hlty; have HST:=zH ((z1v (o:=opsR) (f:=orP) xs ys j x y hx hy k1 l).symm.trans hst.out); have HRX : Hid (∀ z,Below w.heap.size w z -> z.cell? (adx.add j) = some (.int .i64 x)):=zH fun z hz => by
    obtain ⟨ad,e,_,hc⟩:=(HX.out.up hz).at_int hlt
    injection e with e; subst e; rw [<- hxg]; exact hc
   have HRY : Hid (∀ z,Below w.heap.size w z -> z.cell? (ady.add j) = some (.int .i64 y)):=zH fun z hz => by
    obtain ⟨ad,e,_,hc⟩:=(HY.out.up hz).at_int hlty
    injection e with e; subst e; rw [<- hyg]; exact hc
   have hll : l.length <= 1000:=by have:=HLJ.out; omega
   clear hx hy hxg hyg hst hlty; obtain ⟨m,h9⟩ : ∃ m,m = run opsR (orP x y) k1:=⟨_,rfl⟩; have HM:=zH h9; have HMB : Hid (NB m.1.1 /\ RB m.2):=zH (by rw [h9]; exact or_rb HNB1.out HXYM.out.1 HXYM.out.2); clear h9; have HST : Hid ((let r:=run opsR (z0v orP (xs.drop (j + 1)) (ys.drop (j + 1))) m.1; (r.1,(l ++ [m.2]) ++ r.2)) = T):=zH (by rw [HM.out]; exact HST.out); obtain ⟨l2,hl2⟩ : ∃ l2,l2 = l ++ [m.2]:=⟨_,rfl⟩; have HL2:=zH hl2; clear hl2
   go_wp2
   refine z0a [[],[],[],[(1,53),(2,54)],[(3,55)],[],[],[(5,57),(6,58)],[(7,59)],[(0,52),(4,56),(8,60)],[(9,61)],[(10,51)],[(10,51)],[(11,62)],[(12,63)]]
    (fun x9 y9 => Below x9.heap.size x9 y9)
    [(13,fun x9 y9 => x9.grownBy y9 (some w.heap.size))]
    (fun f9 x9 => (f9 13 = false -> AddI F w x9 k1 A1 c1 B d l) /\ (f9 13 = true -> ∃ A9 c9,AddI F w x9 m.1 A9 c9 B d l) /\ Below w.heap.size w x9)
    [zF 0 (.agg #[.int .i64 k1.1.ins,.slice A1 k1.1.gs.length c1,.bool k1.2]),
  zF 1 (.slice (some adx) xs.length cx),
  zF 2 (.int .i64 (j : Int)),
  zF 3 (.pointer (some (adx.add j))),
  zF 4 (.int .i64 x),
  zF 5 (.slice (some ady) xs.length cy),
  zF 6 (.int .i64 (j : Int)),
  zF 7 (.pointer (some (ady.add j))),
  zF 8 (.int .i64 y),
  fun vs9 y9 => (fun v z => ATup F (fun b => (Value.slice B l.length d).ownBlock = some b) w m v z) (vs9 9) y9,
  fun vs9 y9 => (fun v z => ATup F (fun b => (Value.slice B l.length d).ownBlock = some b) w m v z) (vs9 10) y9,
  fun vs9 y9 => (fun v z => ANet F (fun b => (Value.slice B l.length d).ownBlock = some b) w m v z) (vs9 11) y9,
  zF 12 (.int .i64 m.2),
  fun _ _ => True,
  zF 14 (.int .i64 m.2)]
    [(0,52),(1,53),(2,54),(3,55),(4,56),(5,57),(6,58),(7,59),(8,60),(9,61),(10,51),(11,62),(12,63),(14,12)] (by kernel_rfl) (by kernel_rfl) (by kernel_rfl) (by kernel_rfl)
    (fun _ => Below.refl _ _) ⟨fun _ => World.grownBy.refl _ _,trivial⟩
    ⟨zU,
  zU,
  zU,
  zU,
  zU,
  zU,
  zU,
  zU,
  zU,
  ⟨.inr (zS (fun v z => ATup F (fun b => (Value.slice B l.length d).ownBlock = some b) w m v z) (fun _ _ _ h9 hR => h9.up HF.out hR)),⟨.inr (.inr (zS (fun v z => ATup F (fun b => (Value.slice B l.length d).ownBlock = some b) w m v z) (fun _ _ _ h9 hR => h9.st HF.out hR))),trivial⟩⟩,
  ⟨.inr (zS (fun v z => ATup F (fun b => (Value.slice B l.length d).ownBlock = some b) w m v z) (fun _ _ _ h9 hR => h9.up HF.out hR)),⟨.inr (.inr (zS (fun v z => ATup F (fun b => (Value.slice B l.length d).ownBlock = some b) w m v z) (fun _ _ _ h9 hR => h9.st HF.out hR))),trivial⟩⟩,
  ⟨.inr (zS (fun v z => ANet F (fun b => (Value.slice B l.length d).ownBlock = some b) w m v z) (fun _ _ _ h9 hR => h9.up HF.out hR)),⟨.inr (.inr (zS (fun v z => ANet F (fun b => (Value.slice B l.length d).ownBlock = some b) w m v z) (fun _ _ _ h9 hR => h9.st HF.out hR))),trivial⟩⟩,
  zU,
  ⟨.inr zK,⟨.inr (.inl rfl),trivial⟩⟩,
  zU,trivial⟩ ⟨zL,
  zL,
  zL,
  zL,
  zL,
  zL,
  zL,
  zL,
  zL,
  fun _ _ _ h _ v => (by simpa only [<- h] using v),
  fun _ _ _ h _ v => (by simpa only [<- h] using v),
  fun _ _ _ h _ v => (by simpa only [<- h] using v),
  zL,
  fun _ _ _ _ _ _ => trivial,
  zL,trivial⟩ (⟨fun _ => HKS.out.up HF.out (z02 (Below.refl _ _) 1),(fun h => by cases h),z09 HKS.out.ks.bel (z02 (Below.refl _ _) 1)⟩) ⟨?_,?_,?_,?_,?_,?_,?_,?_,?_,?_,?_,?_,?_,?_,?_,trivial⟩ ?_
   ·
    intro vals xw f hf1 hf2 hf3 hI hF; have k13 : f 13 = false:=hf3 13 (by kernel_rfl); clear hf2 hf3; dsimp only [z03,bare]; simp only [z01,Act.put,zQ]; have hv9:=(hI.1 k13).ks.var; have y0:=(z00 hv9 0).1; have y1:=(z00 hv9 1).1; have y2:=(z00 hv9 2).1
    go_wp2
    exact zX hI rfl
   iterate 2
    ·
     rintro vals xw f hf1 - - hI hF; dsimp only [z03,bare]; simp only [z01,Act.put,zQ]
     go_wp2
     exact zX hI rfl
   ·
    rintro vals xw f hf1 - - hI hF; simp only [z05,zF,zR,and_true] at hF; obtain ⟨e53,e54⟩:=hF; dsimp only [z03,bare]; simp only [z01,Act.put,zQ]; simp only [e53,e54]
    go_wp2
    exact zX hI rfl
   ·
    rintro vals xw f hf1 - - hI hF; simp only [z05,zF,zR,and_true] at hF; have e55:=hF; dsimp only [z03,bare]; simp only [z01,Act.put,zQ]; simp only [e55]; have c9:=HRX.out _ hI.2.2
    go_wp2
    exact zX hI rfl
   iterate 2
    ·
     rintro vals xw f hf1 - - hI hF; dsimp only [z03,bare]; simp only [z01,Act.put,zQ]
     go_wp2
     exact zX hI rfl
   ·
    rintro vals xw f hf1 - - hI hF; simp only [z05,zF,zR,and_true] at hF; obtain ⟨e57,e58⟩:=hF; dsimp only [z03,bare]; simp only [z01,Act.put,zQ]; simp only [e57,e58]
    go_wp2
    exact zX hI rfl
   ·
    rintro vals xw f hf1 - - hI hF; simp only [z05,zF,zR,and_true] at hF; have e59:=hF; dsimp only [z03,bare]; simp only [z01,Act.put,zQ]; simp only [e59]; have c9:=HRY.out _ hI.2.2
    go_wp2
    exact zX hI rfl
   ·
    intro vals xw f hf1 hf2 hf3 hI hF; have k13 : f 13 = false:=hf3 13 (by kernel_rfl); clear hf2 hf3; simp only [z05,zF,zR,and_true] at hF; obtain ⟨e52,e56,e60⟩:=hF; dsimp only [z03,bare]; simp only [z01,Act.put,zQ]; simp only [e52,e56,e60]; have HI:=zH hI; have HK:=zH (hI.1 k13); have hsz9:=hI.2.2.size; clear hI; have HC:=zH (show Calls _ _ _ _ (RetK _ xw (run opsR (orP x y) k1)) from l7Or_any (G2 F w xw (fun b => (Value.slice B l.length d).ownBlock = some b)) A1 c1 k1 x y xw HK.out.ks.row (KS2.lt HK.out.ks.bel HF.out) HK.out.ks.nil HNB1.out HXYM.out.1 HXYM.out.2); rw [<- HM.out] at HC
    go_wp2_with fail
    refine HC.out.mono ?_; rintro e wx ⟨A9,c9,rfl,h2,h3,h4⟩; have H3:=zH h3; have H4:=zH h4; clear h3 h4 HC
    go_wp2
    refine ⟨rfl,⟨A9,c9,rfl,h2,H3.out.mono ?_,Nat.le_trans hsz9 H4.out.size⟩,⟨zN rfl,fun _ => H4.out⟩,(fun h => (HI.out.1 h).up HF.out H4.out),(fun h => absurd (k13.symm.trans h) (by simp)),z09 HI.out.2.2 H4.out⟩; intro b hb
    rcases hb with (h9 | h9) | h9
    · exact .inl h9
    · exact .inr ⟨h9.1,Nat.lt_of_lt_of_le h9.2.1 H4.out.size,h9.2.2⟩
    · exact .inr ⟨by have:=lt_of_block HK.out.ks.res; omega,h9.2,fun e => by have:=(HK.out.own.lt b e).2; omega⟩
   ·
    rintro vals xw f hf1 - - hI hF; simp only [z05,zF,zR,and_true] at hF; obtain ⟨A9,c9,e61,h2,h3,h4⟩:=hF; dsimp only [z03,bare]; simp only [z01,Act.put,zQ]; simp only [e61]
    go_wp2
    exact ⟨rfl,⟨A9,c9,rfl,h2,h3,h4⟩,⟨zN rfl,fun _ => Below.refl _ _⟩,hI⟩
   ·
    rintro vals xw f hf1 - - hI hF; simp only [z05,zF,zR,and_true] at hF; obtain ⟨A9,c9,e51,h2,h3,h4⟩:=hF; dsimp only [z03,bare]; simp only [z01,Act.put,zQ]; simp only [e51]
    go_wp2
    exact ⟨rfl,⟨A9,c9,rfl,h2,h3,h4⟩,⟨zN rfl,fun _ => Below.refl _ _⟩,hI⟩
   ·
    rintro vals xw f hf1 - - hI hF; simp only [z05,zF,zR,and_true] at hF; obtain ⟨A9,c9,e51,h2,h3,h4⟩:=hF; dsimp only [z03,bare]; simp only [z01,Act.put,zQ]; simp only [e51]
    go_wp2
    exact zX hI rfl
   ·
    rintro vals xw f hf1 - - hI hF; simp only [z05,zF,zR,and_true] at hF; obtain ⟨A9,c9,e62,h2,h3,h4⟩:=hF; dsimp only [z03,bare]; simp only [z01,Act.put,zQ]; simp only [e62]; have HI:=zH hI; have HK:=zH (hI.1 hf1); have hv9:=HK.out.ks.var; have y0:=(z00 hv9 0).1; have y1:=(z00 hv9 1).1; have y2:=(z00 hv9 2).1; have g0:=(z00 hv9 0).2; have g1:=(z00 hv9 1).2; have g2:=(z00 hv9 2).2; have H3:=zH h3; clear hI hv9 h3 h4
    go_wp2
    have hset:=HK.out.set (c':=c9) HF.out H3.out h2; have hgr : xw.grownBy (st3 xw w.heap.size (.int .i64 m.1.1.ins) (.slice A9 m.1.1.gs.length c9) (.bool m.1.2)) (some w.heap.size):=z06 (z06 (z06 (World.grownBy.refl _ _) _ _) _ _) _ _; exact ⟨rfl,trivial,⟨fun _ => hgr,fun h9 => absurd rfl h9⟩,fun h => absurd ((z0h f 13).symm.trans h) (by simp),fun _ => ⟨A9,c9,hset⟩,z0i HI.out.2.2 (Nat.le_refl _) _ _ _⟩
   ·
    rintro vals xw f hf1 - - hI hF; simp only [z05,zF,zR,and_true] at hF; have e63:=hF; dsimp only [z03,bare]; simp only [z01,Act.put,zQ]; simp only [e63]
    go_wp2
    exact zX hI rfl
   ·
    intro vals xw f hall hI hF; rw [show List.range _ = [0,1,2,3,4,5,6,7,8,9,10,11,12,13,14] from rfl] at hF; simp only [says,zF,zR,and_true] at hF; obtain ⟨A2,c2,hk2⟩:=hI.2.1 (hall 13 (by decide)); have e9 : vals 14 = .int .i64 m.2:=by obtain ⟨_,_,_,_,_,_,_,_,_,_,_,_,_,_,e9⟩:=hF; exact e9
    have K2:=zH hk2; clear hF hk2 hI; simp only [z01,Act.put,zQ]; simp only [e9]; clear e9; have hown9:=K2.out.own; have hsz9 : w.heap.size + 2 <= xw.heap.size:=by have:=lt_of_block K2.out.ks.res; omega
    go_wp2_with (at_builtin; refine z0g (ys:=l2) (by rfl) (.tmp 64) (.tmp 66) (by rfl) (by rfl) (by rfl) hown9 (by omega) hsz9 HL2.out ?_; intro B2 d2 w2 hown2 hg2 hbk2)
    have hk3:=K2.out.ks.grown (v':=.slice B2 l2.length d2) HF.out hg2 (fun g hg => (K2.out.own.lt g hg).1) hbk2
    go_roundw
    case rel => exact ⟨j + 1,m.1,l2,A2,B2,c2,d2,by omega,by go_num,rfl,by rw [HL2.out,List.length_append,HLJ.out]; rfl,fun z hz => (List.mem_append.1 (by rw [HL2.out] at hz; exact hz)).elim (HLM.out z) (fun hz => by rw [List.mem_singleton.1 hz]; exact HMB.out.2),⟨hk3,hown2⟩,HMB.out.1,zH (by rw [HL2.out]; exact HST.out)⟩
    case measure => simp [intOf]; omega
  ·
   have hje : j = xs.length:=by omega
   subst hje; have hlt2 : ¬ ((xs.length : Nat) : Int) < xs.length:=by omega
   have hd1 : xs.drop xs.length = []:=List.drop_length; have hd2 : ys.drop xs.length = []:=by rw [HL.out]; exact List.drop_length
   have hst2:=hst.out; rw [hd1,hd2] at hst2; have hT2 : T = (k1,l):=by rw [<- hst2]; show (k1,l ++ []) = _; rw [List.append_nil]
   have HT2:=zH hT2; clear hst2 hT2 hd1 hd2; have hv9:=HKS.out.ks.var; have y0:=(z00 hv9 0).1; have y1:=(z00 hv9 1).1; have y2:=(z00 hv9 2).1; have hr9:=HKS.out.ks.res; have r0:=(z00 hr9 0).1; have r1:=(z00 hr9 1).1; have r2:=(z00 hr9 2).1; have rf0:=(z00 hr9 0).2; have rf1:=(z00 hr9 1).2; have rf2:=(z00 hr9 2).2; clear hv9 hr9
   go_wp2
   have hs:=z0s HKS.out.ks.res (.int .i64 k1.1.ins) (.slice A1 k1.1.gs.length c1) (.bool k1.2); have k5:=(z00 hs 0).1; have k6:=(z00 hs 1).1; have k7:=(z00 hs 2).1; have kf5:=(z00 hs 0).2; have kf6:=(z00 hs 1).2; have kf7:=(z00 hs 2).2; refine bodyPost_ret (v:=.tuple #[.agg #[.int .i64 k1.1.ins,.slice A1 k1.1.gs.length c1,.bool k1.2],.slice B l.length d]) (by simp [results,Tryz.results93,go_sem,k5,k6,k7,kf5,kf6,kf7]) rfl ?_; rw [HT2.out]; obtain ⟨B',d',e9,hcap,hsl⟩:=HKS.out.own.form
   injection e9 with e1 e2 e3
   subst e1 e3; refine ⟨A1,c1,B,d,rfl,HKS.out.ks.nil,(z1a (h:=w.heap.size + 1) HKS.out.ks.row (fun b hb => ?_) _ _ _).mono (fun b hb => ?_),hcap,(z1a (h:=w.heap.size + 1) hsl (fun b hb => by omega) _ _ _).mono (fun b hb => by rw [z0o]; omega),HLM.out,z0i HKS.out.ks.bel (by omega) _ _ _⟩
   ·
    rcases hb with hb | hb
    · have:=HF.out b hb; omega
    · omega
   ·
    rw [z0o]; exact hb.imp id fun h9 => ⟨by omega,h9.2.1⟩
set_option maxRecDepth 100000 in
set_option maxHeartbeats 8000000 in
theorem l7Plain_5 (F : Nat -> Prop) (A : Option Addr) (c : Nat) (k : N × Bool) (X Y : Option Addr) (cx cy : Nat) (xs ys : List Int) (w : World) (h : Lay.gate.Sl w F A k.1.gs) (hF : ∀ b,F b -> b < w.heap.size) (hA : A = none -> k.1.gs.length = 0) (hnb : NB k.1) (hX : Lay.int.Rd w X xs) (hY : Lay.int.Rd w Y ys) (hxm : ∀ x ∈ xs,RB x) (hym : ∀ y ∈ ys,RB y) (hl : xs.length = ys.length) (hn : xs.length <= 1000) :
  Calls Tryz.prog 93 #[.agg #[.int .i64 k.1.ins,.slice A k.1.gs.length c,.bool k.2],.int .i64 5,.slice X xs.length cx,.slice Y ys.length cy] w (RetKL F w (run opsR (z0v (fun x y => .xor x y .ret) xs ys) k)):=by
 obtain ⟨T,hT⟩ : ∃ T,T = run opsR (z0v (fun x y => .xor x y .ret) xs ys) k:=⟨_,rfl⟩; rw [<- hT]; have HT:=zH hT; have K0:=KS.two (c:=c) h hF hA; have HRW:=zH (h.below K0.bel hF); have HNIL:=zH hA; have HF:=zH hF; have HNB:=zH hnb; have HX:=zH hX; have HY:=zH hY; have HXM:=zH hxm; have HYM:=zH hym; have HL:=zH hl; have K0:=zH K0; have hX0s : ((w.alloc (.cells #[.int .i64 k.1.ins,.slice A k.1.gs.length c,.bool k.2] 85)).alloc (.cells #[.int .i64 0,.slice none 0 0,.bool false] 85)).heap.size = w.heap.size + 2:=by simp
 clear h hA hnb hX hY hxm hym hT; rw [<- hl]; clear hl
 go_enter Tryz.func93,Tryz.ntmps93
 go_wp2
 generalize hX0 : (w.alloc (.cells #[.int .i64 k.1.ins,.slice A k.1.gs.length c,.bool k.2] 85)).alloc (.cells #[.int .i64 0,.slice none 0 0,.bool false] 85) = X0 at *; clear hX0; have hal : Below X0.heap.size X0 (X0.alloc (.cells #[] 3)):=(Below.refl _ _).alloc (Nat.le_refl _) _; have hown0 : OwnI (X0.alloc (.cells #[] 3)) (w.heap.size + 2) (.slice (some ⟨w.heap.size + 1 + 1,0,none⟩) 0 0) []:=z18 hX0s; have K1:=zH (K0.out.up HF.out hal); have HO0:=zH hown0; have HRW:=zH (HRW.out.below hal (fun b hb => by have:=HF.out b hb; omega)); clear hal hown0 K0
 go_loopw [10,11] (fun out i wr => ∃ (j : Nat) (k1 : N × Bool) (l : List Int) (A1 B : Option Addr) (c1 d : Nat),j <= xs.length /\ i = .int .i64 j /\ out = .slice B l.length d /\ l.length = j /\ (∀ m ∈ l,RB m) /\ AddI F w wr k1 A1 c1 B d l /\ NB k1.1 /\ Hid ((let z:=run opsR (z0v (fun x y => .xor x y .ret) (xs.drop j) (ys.drop j)) k1; (z.1,l ++ z.2)) = T)) (fun _ i _ => xs.length - (intOf i).toNat)
 case atStart => exact ⟨0,k,[],A,some ⟨w.heap.size + 1 + 1,0,none⟩,c,0,Nat.zero_le _,rfl,rfl,rfl,(fun _ h => by cases h),⟨⟨K1.out.bel,K1.out.var,K1.out.res,HRW.out.mono fun _ => .inl,HNIL.out⟩,HO0.out⟩,HNB.out,zH (by rw [HT.out]; rfl)⟩
 case round =>
  obtain ⟨j,k1,l,A1,B,c1,d,hj,rfl,rfl,hlj,hlm,hks,hnb1,hst⟩:=hrel; have HLM:=zH hlm; have HKS:=zH hks; have HLJ:=zH hlj; have HNB1:=zH hnb1; clear hlm hks hlj hnb1
  by_cases hlt : j < xs.length
  ·
   have hlt2 : (j : Int) < xs.length:=by omega
   have hlty : j < ys.length:=by rw [<- HL.out]; exact hlt
   obtain ⟨x,hx⟩ : ∃ x,xs[j]? = some x:=⟨_,List.getElem?_eq_getElem hlt⟩; obtain ⟨y,hy⟩ : ∃ y,ys[j]? = some y:=⟨_,List.getElem?_eq_getElem hlty⟩; have hxg : xs[j] = x:=(List.getElem?_eq_some_iff.1 hx).2; have hyg : ys[j] = y:=(List.getElem?_eq_some_iff.1 hy).2; have HXYM:=zH (And.intro (HXM.out x (List.mem_of_getElem? hx)) (HYM.out y (List.mem_of_getElem? hy))); obtain ⟨adx,rfl,-,-⟩:=HX.out.at_int hlt; obtain ⟨ady,rfl,-,-⟩:=HY.out.at_int hlty; have HST:=zH ((z1v (o:=opsR) (f:=(fun x y => .xor x y .ret)) xs ys j x y hx hy k1 l).symm.trans hst.out); have HRX : Hid (∀ z,Below w.heap.size w z -> z.cell? (adx.add j) = some (.int .i64 x)):=zH fun z hz => by
    obtain ⟨ad,e,_,hc⟩:=(HX.out.up hz).at_int hlt
    injection e with e; subst e; rw [<- hxg]; exact hc
   have HRY : Hid (∀ z,Below w.heap.size w z -> z.cell? (ady.add j) = some (.int .i64 y)):=zH fun z hz => by
    obtain ⟨ad,e,_,hc⟩:=(HY.out.up hz).at_int hlty
    injection e with e; subst e; rw [<- hyg]; exact hc
   have hll : l.length <= 1000:=by have:=HLJ.out; omega
   clear hx hy hxg hyg hst hlty; obtain ⟨m,h9⟩ : ∃ m,m = run opsR ((fun x y => .xor x y .ret) x y) k1:=⟨_,rfl⟩; have HM:=zH h9; have HMB : Hid (NB m.1.1 /\ RB m.2):=zH (by rw [h9]; exact one_xor HNB1.out HXYM.out.1 HXYM.out.2); clear h9; have HST : Hid ((let r:=run opsR (z0v (fun x y => .xor x y .ret) (xs.drop (j + 1)) (ys.drop (j + 1))) m.1; (r.1,(l ++ [m.2]) ++ r.2)) = T):=zH (by rw [HM.out]; exact HST.out); obtain ⟨l2,hl2⟩ : ∃ l2,l2 = l ++ [m.2]:=⟨_,rfl⟩; have HL2:=zH hl2; clear hl2
   go_wp2
   refine z0a [[],[],[],[(1,23),(2,24)],[(3,25)],[],[],[(5,27),(6,28)],[(7,29)],[(0,22),(4,26),(8,30)],[(9,31)],[(10,21)],[(10,21)],[(11,32)],[(12,33)]]
    (fun x9 y9 => Below x9.heap.size x9 y9)
    [(13,fun x9 y9 => x9.grownBy y9 (some w.heap.size))]
    (fun f9 x9 => (f9 13 = false -> AddI F w x9 k1 A1 c1 B d l) /\ (f9 13 = true -> ∃ A9 c9,AddI F w x9 m.1 A9 c9 B d l) /\ Below w.heap.size w x9)
    [zF 0 (.agg #[.int .i64 k1.1.ins,.slice A1 k1.1.gs.length c1,.bool k1.2]),
  zF 1 (.slice (some adx) xs.length cx),
  zF 2 (.int .i64 (j : Int)),
  zF 3 (.pointer (some (adx.add j))),
  zF 4 (.int .i64 x),
  zF 5 (.slice (some ady) xs.length cy),
  zF 6 (.int .i64 (j : Int)),
  zF 7 (.pointer (some (ady.add j))),
  zF 8 (.int .i64 y),
  fun vs9 y9 => (fun v z => ATup F (fun b => (Value.slice B l.length d).ownBlock = some b) w m v z) (vs9 9) y9,
  fun vs9 y9 => (fun v z => ATup F (fun b => (Value.slice B l.length d).ownBlock = some b) w m v z) (vs9 10) y9,
  fun vs9 y9 => (fun v z => ANet F (fun b => (Value.slice B l.length d).ownBlock = some b) w m v z) (vs9 11) y9,
  zF 12 (.int .i64 m.2),
  fun _ _ => True,
  zF 14 (.int .i64 m.2)]
    [(0,22),(1,23),(2,24),(3,25),(4,26),(5,27),(6,28),(7,29),(8,30),(9,31),(10,21),(11,32),(12,33),(14,12)] (by kernel_rfl) (by kernel_rfl) (by kernel_rfl) (by kernel_rfl)
    (fun _ => Below.refl _ _) ⟨fun _ => World.grownBy.refl _ _,trivial⟩
    ⟨zU,
  zU,
  zU,
  zU,
  zU,
  zU,
  zU,
  zU,
  zU,
  ⟨.inr (zS (fun v z => ATup F (fun b => (Value.slice B l.length d).ownBlock = some b) w m v z) (fun _ _ _ h9 hR => h9.up HF.out hR)),⟨.inr (.inr (zS (fun v z => ATup F (fun b => (Value.slice B l.length d).ownBlock = some b) w m v z) (fun _ _ _ h9 hR => h9.st HF.out hR))),trivial⟩⟩,
  ⟨.inr (zS (fun v z => ATup F (fun b => (Value.slice B l.length d).ownBlock = some b) w m v z) (fun _ _ _ h9 hR => h9.up HF.out hR)),⟨.inr (.inr (zS (fun v z => ATup F (fun b => (Value.slice B l.length d).ownBlock = some b) w m v z) (fun _ _ _ h9 hR => h9.st HF.out hR))),trivial⟩⟩,
  ⟨.inr (zS (fun v z => ANet F (fun b => (Value.slice B l.length d).ownBlock = some b) w m v z) (fun _ _ _ h9 hR => h9.up HF.out hR)),⟨.inr (.inr (zS (fun v z => ANet F (fun b => (Value.slice B l.length d).ownBlock = some b) w m v z) (fun _ _ _ h9 hR => h9.st HF.out hR))),trivial⟩⟩,
  zU,
  ⟨.inr zK,⟨.inr (.inl rfl),trivial⟩⟩,
  zU,trivial⟩ ⟨zL,
  zL,
  zL,
  zL,
  zL,
  zL,
  zL,
  zL,
  zL,
  fun _ _ _ h _ v => (by simpa only [<- h] using v),
  fun _ _ _ h _ v => (by simpa only [<- h] using v),
  fun _ _ _ h _ v => (by simpa only [<- h] using v),
  zL,
  fun _ _ _ _ _ _ => trivial,
  zL,trivial⟩ (⟨fun _ => HKS.out.up HF.out (z02 (Below.refl _ _) 1),(fun h => by cases h),z09 HKS.out.ks.bel (z02 (Below.refl _ _) 1)⟩) ⟨?_,?_,?_,?_,?_,?_,?_,?_,?_,?_,?_,?_,?_,?_,?_,trivial⟩ ?_
   ·
    intro vals xw f hf1 hf2 hf3 hI hF; have k13 : f 13 = false:=hf3 13 (by kernel_rfl); clear hf2 hf3; dsimp only [z03,bare]; simp only [z01,Act.put,zQ]; have hv9:=(hI.1 k13).ks.var; have y0:=(z00 hv9 0).1; have y1:=(z00 hv9 1).1; have y2:=(z00 hv9 2).1
    go_wp2
    exact zX hI rfl
   iterate 2
    ·
     rintro vals xw f hf1 - - hI hF; dsimp only [z03,bare]; simp only [z01,Act.put,zQ]
     go_wp2
     exact zX hI rfl
   ·
    rintro vals xw f hf1 - - hI hF; simp only [z05,zF,zR,and_true] at hF; obtain ⟨e23,e24⟩:=hF; dsimp only [z03,bare]; simp only [z01,Act.put,zQ]; simp only [e23,e24]
    go_wp2
    exact zX hI rfl
   ·
    rintro vals xw f hf1 - - hI hF; simp only [z05,zF,zR,and_true] at hF; have e25:=hF; dsimp only [z03,bare]; simp only [z01,Act.put,zQ]; simp only [e25]; have c9:=HRX.out _ hI.2.2
    go_wp2
    exact zX hI rfl
   iterate 2
    ·
     rintro vals xw f hf1 - - hI hF; dsimp only [z03,bare]; simp only [z01,Act.put,zQ]
     go_wp2
     exact zX hI rfl
   ·
    rintro vals xw f hf1 - - hI hF; simp only [z05,zF,zR,and_true] at hF; obtain ⟨e27,e28⟩:=hF; dsimp only [z03,bare]; simp only [z01,Act.put,zQ]; simp only [e27,e28]
    go_wp2
    exact zX hI rfl
   ·
    rintro vals xw f hf1 - - hI hF; simp only [z05,zF,zR,and_true] at hF; have e29:=hF; dsimp only [z03,bare]; simp only [z01,Act.put,zQ]; simp only [e29]; have c9:=HRY.out _ hI.2.2
    go_wp2
    exact zX hI rfl
   ·
    intro vals xw f hf1 hf2 hf3 hI hF; have k13 : f 13 = false:=hf3 13 (by kernel_rfl); clear hf2 hf3; simp only [z05,zF,zR,and_true] at hF; obtain ⟨e22,e26,e30⟩:=hF; dsimp only [z03,bare]; simp only [z01,Act.put,zQ]; simp only [e22,e26,e30]; have HI:=zH hI; have HK:=zH (hI.1 k13); have hsz9:=hI.2.2.size; clear hI; have HC:=zH (show Calls _ _ _ _ (RetK _ xw (run opsR ((fun x y => .xor x y .ret) x y) k1)) from l7Xor_any (G2 F w xw (fun b => (Value.slice B l.length d).ownBlock = some b)) A1 c1 k1 x y xw HK.out.ks.row (KS2.lt HK.out.ks.bel HF.out) HK.out.ks.nil HNB1.out HXYM.out.1 HXYM.out.2); rw [<- HM.out] at HC
    go_wp2_with fail
    refine HC.out.mono ?_; rintro e wx ⟨A9,c9,rfl,h2,h3,h4⟩; have H3:=zH h3; have H4:=zH h4; clear h3 h4 HC
    go_wp2
    refine ⟨rfl,⟨A9,c9,rfl,h2,H3.out.mono ?_,Nat.le_trans hsz9 H4.out.size⟩,⟨zN rfl,fun _ => H4.out⟩,(fun h => (HI.out.1 h).up HF.out H4.out),(fun h => absurd (k13.symm.trans h) (by simp)),z09 HI.out.2.2 H4.out⟩; intro b hb
    rcases hb with (h9 | h9) | h9
    · exact .inl h9
    · exact .inr ⟨h9.1,Nat.lt_of_lt_of_le h9.2.1 H4.out.size,h9.2.2⟩
    · exact .inr ⟨by have:=lt_of_block HK.out.ks.res; omega,h9.2,fun e => by have:=(HK.out.own.lt b e).2; omega⟩
   ·
    rintro vals xw f hf1 - - hI hF; simp only [z05,zF,zR,and_true] at hF; obtain ⟨A9,c9,e31,h2,h3,h4⟩:=hF; dsimp only [z03,bare]; simp only [z01,Act.put,zQ]; simp only [e31]
    go_wp2
    exact ⟨rfl,⟨A9,c9,rfl,h2,h3,h4⟩,⟨zN rfl,fun _ => Below.refl _ _⟩,hI⟩
   ·
    rintro vals xw f hf1 - - hI hF; simp only [z05,zF,zR,and_true] at hF; obtain ⟨A9,c9,e21,h2,h3,h4⟩:=hF; dsimp only [z03,bare]; simp only [z01,Act.put,zQ]; simp only [e21]
    go_wp2
    exact ⟨rfl,⟨A9,c9,rfl,h2,h3,h4⟩,⟨zN rfl,fun _ => Below.refl _ _⟩,hI⟩
   ·
    rintro vals xw f hf1 - - hI hF; simp only [z05,zF,zR,and_true] at hF; obtain ⟨A9,c9,e21,h2,h3,h4⟩:=hF; dsimp only [z03,bare]; simp only [z01,Act.put,zQ]; simp only [e21]
    go_wp2
    exact zX hI rfl
   ·
    rintro vals xw f hf1 - - hI hF; simp only [z05,zF,zR,and_true] at hF; obtain ⟨A9,c9,e32,h2,h3,h4⟩:=hF; dsimp only [z03,bare]; simp only [z01,Act.put,zQ]; simp only [e32]; have HI:=zH hI; have HK:=zH (hI.1 hf1); have hv9:=HK.out.ks.var; have y0:=(z00 hv9 0).1; have y1:=(z00 hv9 1).1; have y2:=(z00 hv9 2).1; have g0:=(z00 hv9 0).2; have g1:=(z00 hv9 1).2; have g2:=(z00 hv9 2).2; have H3:=zH h3; clear hI hv9 h3 h4
    go_wp2
    have hset:=HK.out.set (c':=c9) HF.out H3.out h2; have hgr : xw.grownBy (st3 xw w.heap.size (.int .i64 m.1.1.ins) (.slice A9 m.1.1.gs.length c9) (.bool m.1.2)) (some w.heap.size):=z06 (z06 (z06 (World.grownBy.refl _ _) _ _) _ _) _ _; exact ⟨rfl,trivial,⟨fun _ => hgr,fun h9 => absurd rfl h9⟩,fun h => absurd ((z0h f 13).symm.trans h) (by simp),fun _ => ⟨A9,c9,hset⟩,z0i HI.out.2.2 (Nat.le_refl _) _ _ _⟩
   ·
    rintro vals xw f hf1 - - hI hF; simp only [z05,zF,zR,and_true] at hF; have e33:=hF; dsimp only [z03,bare]; simp only [z01,Act.put,zQ]; simp only [e33]
    go_wp2
    exact zX hI rfl
   ·
    intro vals xw f hall hI hF; rw [show List.range _ = [0,1,2,3,4,5,6,7,8,9,10,11,12,13,14] from rfl] at hF; simp only [says,zF,zR,and_true] at hF; obtain ⟨A2,c2,hk2⟩:=hI.2.1 (hall 13 (by decide)); have e9 : vals 14 = .int .i64 m.2:=by obtain ⟨_,_,_,_,_,_,_,_,_,_,_,_,_,_,e9⟩:=hF; exact e9
    have K2:=zH hk2; clear hF hk2 hI; simp only [z01,Act.put,zQ]; simp only [e9]; clear e9; have hown9:=K2.out.own; have hsz9 : w.heap.size + 2 <= xw.heap.size:=by have:=lt_of_block K2.out.ks.res; omega
    go_wp2_with (at_builtin; refine z0g (ys:=l2) (by rfl) (.tmp 64) (.tmp 66) (by rfl) (by rfl) (by rfl) hown9 (by omega) hsz9 HL2.out ?_; intro B2 d2 w2 hown2 hg2 hbk2)
    have hk3:=K2.out.ks.grown (v':=.slice B2 l2.length d2) HF.out hg2 (fun g hg => (K2.out.own.lt g hg).1) hbk2
    go_roundw
    case rel => exact ⟨j + 1,m.1,l2,A2,B2,c2,d2,by omega,by go_num,rfl,by rw [HL2.out,List.length_append,HLJ.out]; rfl,fun z hz => (List.mem_append.1 (by rw [HL2.out] at hz; exact hz)).elim (HLM.out z) (fun hz => by rw [List.mem_singleton.1 hz]; exact HMB.out.2),⟨hk3,hown2⟩,HMB.out.1,zH (by rw [HL2.out]; exact HST.out)⟩
    case measure => simp [intOf]; omega
  ·
   have hje : j = xs.length:=by omega
   subst hje; have hlt2 : ¬ ((xs.length : Nat) : Int) < xs.length:=by omega
   have hd1 : xs.drop xs.length = []:=List.drop_length; have hd2 : ys.drop xs.length = []:=by rw [HL.out]; exact List.drop_length
   have hst2:=hst.out; rw [hd1,hd2] at hst2; have hT2 : T = (k1,l):=by rw [<- hst2]; show (k1,l ++ []) = _; rw [List.append_nil]
   have HT2:=zH hT2; clear hst2 hT2 hd1 hd2; have hv9:=HKS.out.ks.var; have y0:=(z00 hv9 0).1; have y1:=(z00 hv9 1).1; have y2:=(z00 hv9 2).1; have hr9:=HKS.out.ks.res; have r0:=(z00 hr9 0).1; have r1:=(z00 hr9 1).1; have r2:=(z00 hr9 2).1; have rf0:=(z00 hr9 0).2; have rf1:=(z00 hr9 1).2; have rf2:=(z00 hr9 2).2; clear hv9 hr9
   go_wp2
   have hs:=z0s HKS.out.ks.res (.int .i64 k1.1.ins) (.slice A1 k1.1.gs.length c1) (.bool k1.2); have k5:=(z00 hs 0).1; have k6:=(z00 hs 1).1; have k7:=(z00 hs 2).1; have kf5:=(z00 hs 0).2; have kf6:=(z00 hs 1).2; have kf7:=(z00 hs 2).2; refine bodyPost_ret (v:=.tuple #[.agg #[.int .i64 k1.1.ins,.slice A1 k1.1.gs.length c1,.bool k1.2],.slice B l.length d]) (by simp [results,Tryz.results93,go_sem,k5,k6,k7,kf5,kf6,kf7]) rfl ?_; rw [HT2.out]; obtain ⟨B',d',e9,hcap,hsl⟩:=HKS.out.own.form
   injection e9 with e1 e2 e3
   subst e1 e3; refine ⟨A1,c1,B,d,rfl,HKS.out.ks.nil,(z1a (h:=w.heap.size + 1) HKS.out.ks.row (fun b hb => ?_) _ _ _).mono (fun b hb => ?_),hcap,(z1a (h:=w.heap.size + 1) hsl (fun b hb => by omega) _ _ _).mono (fun b hb => by rw [z0o]; omega),HLM.out,z0i HKS.out.ks.bel (by omega) _ _ _⟩
   ·
    rcases hb with hb | hb
    · have:=HF.out b hb; omega
    · omega
   ·
    rw [z0o]; exact hb.imp id fun h9 => ⟨by omega,h9.2.1⟩
end Go.Proofs.YtemdmlmcidfodaaGreatDoor
