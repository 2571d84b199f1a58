/- The reference's l7Fill and l7Turn. -/
import Derived.Test.YtemdmlmcidfodaaGreatDoorJFnBitsBin0
import Derived.Test.YtemdmlmcidfodaaGreatDoorJFnBitsBin1
import Derived.Test.YtemdmlmcidfodaaGreatDoorJFnBitsBin2
import Derived.Test.YtemdmlmcidfodaaGreatDoorJFnBitsBin3
import Derived.Test.YtemdmlmcidfodaaGreatDoorJFnBitsBin8
import Derived.Test.YtemdmlmcidfodaaGreatDoorJFnBitsBin10
import Derived.Test.YtemdmlmcidfodaaGreatDoorJFnBitsBin11
import Derived.Test.YtemdmlmcidfodaaGreatDoorJFnBitsBin12
namespace Go.Proofs.YtemdmlmcidfodaaGreatDoor
open Go Go.RowKit
theorem KS.two2 {F : Nat -> Prop} {w x : World} {k : N × Bool} {A : Option Addr} {c : Nat} (h : KS F w x k A c) : KS2 F w x k A c (fun _ => False):=⟨h.bel,h.var,h.res,h.row.mono fun b hb => hb.imp id fun h9 => ⟨h9.1,h9.2,fun e => e⟩,h.nil⟩
theorem KS2.one2 {F : Nat -> Prop} {w x : World} {k : N × Bool} {A : Option Addr} {c : Nat} {S : Nat -> Prop} (h : KS2 F w x k A c S) : KS F w x k A c:=⟨h.bel,h.var,h.res,h.row.mono fun b hb => hb.imp id fun h9 => ⟨h9.1,h9.2.1⟩,h.nil⟩
theorem opsR_xor_nb {k : N × Bool} {x y : Int} (h : NB k.1) (hx : RB x) (hy : RB y) : NB (opsR.xor k x y).1.1 /\ RB (opsR.xor k x y).2:=z2g h (xor1_nb h hx hy)
theorem opsR_and_nb {k : N × Bool} {x y : Int} (h : NB k.1) (hx : RB x) (hy : RB y) : NB (opsR.and k x y).1.1 /\ RB (opsR.and k x y).2:=z2g h (and1_nb h hx hy)
def KTup (F : Nat -> Prop) (w : World) (m : (N × Bool) × Int) (v : Value) (z : World) : Prop:=∃ A2 c2,v = .tuple #[.agg #[.int .i64 m.1.1.ins,.slice A2 m.1.1.gs.length c2,.bool m.1.2],.int .i64 m.2] /\ (A2 = none -> m.1.1.gs.length = 0) /\ Lay.gate.Sl z (G2 F w z (fun _ => False)) A2 m.1.1.gs /\ w.heap.size <= z.heap.size
def KNet (F : Nat -> Prop) (w : World) (m : (N × Bool) × Int) (v : Value) (z : World) : Prop:=∃ A2 c2,v = .agg #[.int .i64 m.1.1.ins,.slice A2 m.1.1.gs.length c2,.bool m.1.2] /\ (A2 = none -> m.1.1.gs.length = 0) /\ Lay.gate.Sl z (G2 F w z (fun _ => False)) A2 m.1.1.gs /\ w.heap.size <= z.heap.size
theorem g2_st {F : Nat -> Prop} {w x y : World} {A : Option Addr} {gs : List G} (hF : ∀ b,F b -> b < w.heap.size) (h3 : Lay.gate.Sl x (G2 F w x (fun _ => False)) A gs) (h4 : w.heap.size <= x.heap.size) (hR : x.grownBy y (some w.heap.size)) : Lay.gate.Sl y (G2 F w y (fun _ => False)) A gs :=
 (h3.keep fun b hb => hR.block b (hb.elim (fun h9 => Nat.lt_of_lt_of_le (hF b h9) h4) (fun h9 => h9.2.1)) (fun e => by injection e with e; exact hb.elim (fun h9 => by have:=hF b h9; omega) (fun h9 => by omega))).mono fun b hb => hb.imp id fun h9 => ⟨h9.1,Nat.lt_of_lt_of_le h9.2.1 hR.size,h9.2.2⟩
theorem KTup.up {F : Nat -> Prop} {w x y : World} {m : (N × Bool) × Int} {v : Value} (hF : ∀ b,F b -> b < w.heap.size) (h : KTup F w m v x) (hb : Below x.heap.size x y) : KTup F w m v y:=by
 obtain ⟨A2,c2,h1,h2,h3,h4⟩:=h; exact ⟨A2,c2,h1,h2,G2.up2 h3 (fun b hb => Nat.lt_of_lt_of_le (hF b hb) h4) hb,Nat.le_trans h4 hb.size⟩
theorem KTup.st {F : Nat -> Prop} {w x y : World} {m : (N × Bool) × Int} {v : Value} (hF : ∀ b,F b -> b < w.heap.size) (h : KTup F w m v x) (hR : x.grownBy y (some w.heap.size)) : KTup F w m v y:=by
 obtain ⟨A2,c2,h1,h2,h3,h4⟩:=h; exact ⟨A2,c2,h1,h2,g2_st hF h3 h4 hR,Nat.le_trans h4 hR.size⟩
theorem KNet.up {F : Nat -> Prop} {w x y : World} {m : (N × Bool) × Int} {v : Value} (hF : ∀ b,F b -> b < w.heap.size) (h : KNet F w m v x) (hb : Below x.heap.size x y) : KNet F w m v y:=by
 obtain ⟨A2,c2,h1,h2,h3,h4⟩:=h; exact ⟨A2,c2,h1,h2,G2.up2 h3 (fun b hb => Nat.lt_of_lt_of_le (hF b hb) h4) hb,Nat.le_trans h4 hb.size⟩
theorem KNet.st {F : Nat -> Prop} {w x y : World} {m : (N × Bool) × Int} {v : Value} (hF : ∀ b,F b -> b < w.heap.size) (h : KNet F w m v x) (hR : x.grownBy y (some w.heap.size)) : KNet F w m v y:=by
 obtain ⟨A2,c2,h1,h2,h3,h4⟩:=h; exact ⟨A2,c2,h1,h2,g2_st hF h3 h4 hR,Nat.le_trans h4 hR.size⟩
set_option maxRecDepth 100000 in
set_option maxHeartbeats 4000000 in
theorem l7Less_any (F : Nat -> Prop) (A : Option Addr) (c : Nat) (k : N × Bool) (X Y : Option Addr) (cx cy : Nat) (xs ys : List Int) (w : World) (h : Lay.gate.Sl w F A k.1.gs) (hF : ∀ b,F b -> b < w.heap.size) (hA : A = none -> k.1.gs.length = 0) (hnb : NB k.1) (hX : Lay.int.Rd w X xs) (hY : Lay.int.Rd w Y ys) (hxm : ∀ x ∈ xs,RB x) (hym : ∀ y ∈ ys,RB y) (hl : xs.length = ys.length) (hn : xs.length <= 1000) :
  Calls Tryz.prog 118 #[.agg #[.int .i64 k.1.ins,.slice A k.1.gs.length c,.bool k.2],.slice X xs.length cx,.slice Y ys.length cy] w (RetK F w (run opsR (lessP xs ys (-1)) k)):=by
 obtain ⟨T,hT⟩ : ∃ T,T = run opsR (lessP xs ys (-1)) k:=⟨_,rfl⟩; rw [<- hT]; have HT:=zH hT; have K0:=zH (KS.two (c:=c) h hF hA); have HF:=zH hF; have HNB:=zH hnb; have HX:=zH hX; have HY:=zH hY; have HXM:=zH hxm; have HYM:=zH hym; have HL:=zH hl; clear h hA hnb hX hY hxm hym hT; rw [<- hl]; clear hl
 go_enter Tryz.func118,Tryz.ntmps118
 go_wp2
 generalize hX0 : (w.alloc (.cells #[.int .i64 k.1.ins,.slice A k.1.gs.length c,.bool k.2] 85)).alloc (.cells #[.int .i64 0,.slice none 0 0,.bool false] 85) = X0 at *; clear hX0
 go_loopw [8,9] (fun rv i wr => ∃ (j : Nat) (k1 : N × Bool) (rr : Int) (A1 : Option Addr) (c1 : Nat),j <= xs.length /\ i = .int .i64 j /\ rv = .int .i64 rr /\ RB rr /\ KS2 F w wr k1 A1 c1 (fun _ => False) /\ NB k1.1 /\ Hid (run opsR (lessP (xs.drop j) (ys.drop j) rr) k1 = T)) (fun _ i _ => xs.length - (intOf i).toNat)
 case atStart => exact ⟨0,k,(-1),A,c,Nat.zero_le _,rfl,rfl,by unfold RB; omega,K0.out.two2,HNB.out,zH (by rw [HT.out]; rfl)⟩
 case round =>
  obtain ⟨j,k1,rr,A1,c1,hj,rfl,rfl,hrr,hks,hnb1,hst⟩:=hrel; have HRR:=zH hrr; have HKS:=zH hks; have HNB1:=zH hnb1; clear hrr hks hnb1
  by_cases hlt : j < xs.length
  ·
   have hlt2 : (j : Int) < xs.length:=by omega
   have hlty : j < ys.length:=by rw [<- HL.out]; exact hlt
   obtain ⟨x,hx⟩ : ∃ x,xs[j]? = some x:=⟨_,List.getElem?_eq_getElem hlt⟩; obtain ⟨y,hy⟩ : ∃ y,ys[j]? = some y:=⟨_,List.getElem?_eq_getElem hlty⟩; have hxg : xs[j] = x:=(List.getElem?_eq_some_iff.1 hx).2; have hyg : ys[j] = y:=(List.getElem?_eq_some_iff.1 hy).2; have HXYM:=zH (And.intro (HXM.out x (List.mem_of_getElem? hx)) (HYM.out y (List.mem_of_getElem? hy))); obtain ⟨adx,rfl,-,-⟩:=HX.out.at_int hlt; obtain ⟨ady,rfl,-,-⟩:=HY.out.at_int hlty; obtain ⟨m,hm⟩ : ∃ m,m = opsR.xor k1 x y:=⟨_,rfl⟩; have HST:=zH ((run_less (o:=opsR) xs ys j x y hx hy k1 rr).symm.trans hst.out); have HM:=zH hm; have HMB : Hid (NB m.1.1 /\ RB m.2):=zH (by rw [hm]; exact opsR_xor_nb HNB1.out HXYM.out.1 HXYM.out.2); have HRX : Hid (∀ z,Below w.heap.size w z -> z.cell? (adx.add j) = some (.int .i64 x)):=zH fun z hz => by
    obtain ⟨ad,e,_,hc⟩:=(HX.out.up hz).at_int hlt
    injection e with e; subst e; rw [<- hxg]; exact hc
   have HRY : Hid (∀ z,Below w.heap.size w z -> z.cell? (ady.add j) = some (.int .i64 y)):=zH fun z hz => by
    obtain ⟨ad,e,_,hc⟩:=(HY.out.up hz).at_int hlty
    injection e with e; subst e; rw [<- hyg]; exact hc
   clear hm hx hy hxg hyg hst hlty
   go_wp2
   refine z0a [[],[],[],[(1,19),(2,20)],[(3,21)],[],[],[(5,23),(6,24)],[(7,25)],[(0,18),(4,22),(8,26)],[(9,27)],[(10,17)],[(10,17)],[(11,28)],[(12,29)]]
    (fun x9 y9 => Below x9.heap.size x9 y9)
    [(13,fun x9 y9 => x9.grownBy y9 (some w.heap.size))]
    (fun f9 x9 => (f9 13 = false -> KS2 F w x9 k1 A1 c1 (fun _ => False)) /\ (f9 13 = true -> ∃ A2 c2,KS2 F w x9 m.1 A2 c2 (fun _ => False)) /\ Below w.heap.size w x9)
    [zF 0 (.agg #[.int .i64 k1.1.ins,.slice A1 k1.1.gs.length c1,.bool k1.2]),
  zF 1 (.slice (some adx) xs.length cx),
  zF 2 (.int .i64 (j : Int)),
  zF 3 (.pointer (some (adx.add j))),
  zF 4 (.int .i64 x),
  zF 5 (.slice (some ady) xs.length cy),
  zF 6 (.int .i64 (j : Int)),
  zF 7 (.pointer (some (ady.add j))),
  zF 8 (.int .i64 y),
  fun vs9 y9 => (fun v z => KTup F w m v z) (vs9 9) y9,
  fun vs9 y9 => (fun v z => KTup F w m v z) (vs9 10) y9,
  fun vs9 y9 => (fun v z => KNet F w m v z) (vs9 11) y9,
  zF 12 (.int .i64 m.2),
  fun _ _ => True,
  zF 14 (.int .i64 m.2)]
    [(0,18),(1,19),(2,20),(3,21),(4,22),(5,23),(6,24),(7,25),(8,26),(9,27),(10,17),(11,28),(12,29),(14,10)] (by kernel_rfl) (by kernel_rfl) (by kernel_rfl) (by kernel_rfl)
    (fun _ => Below.refl _ _) ⟨fun _ => World.grownBy.refl _ _,trivial⟩
    ⟨zU,
  zU,
  zU,
  zU,
  zU,
  zU,
  zU,
  zU,
  zU,
  ⟨.inr (zS (fun v z => KTup F w m v z) (fun _ _ _ h9 hR => h9.up HF.out hR)),⟨.inr (.inr (zS (fun v z => KTup F w m v z) (fun _ _ _ h9 hR => h9.st HF.out hR))),trivial⟩⟩,
  ⟨.inr (zS (fun v z => KTup F w m v z) (fun _ _ _ h9 hR => h9.up HF.out hR)),⟨.inr (.inr (zS (fun v z => KTup F w m v z) (fun _ _ _ h9 hR => h9.st HF.out hR))),trivial⟩⟩,
  ⟨.inr (zS (fun v z => KNet F w m v z) (fun _ _ _ h9 hR => h9.up HF.out hR)),⟨.inr (.inr (zS (fun v z => KNet F w m v z) (fun _ _ _ h9 hR => h9.st HF.out hR))),trivial⟩⟩,
  zU,
  ⟨.inr zK,⟨.inr (.inl rfl),trivial⟩⟩,
  zU,trivial⟩ ⟨zL,
  zL,
  zL,
  zL,
  zL,
  zL,
  zL,
  zL,
  zL,
  fun _ _ _ h _ v => (by simpa only [<- h] using v),
  fun _ _ _ h _ v => (by simpa only [<- h] using v),
  fun _ _ _ h _ v => (by simpa only [<- h] using v),
  zL,
  fun _ _ _ _ _ _ => trivial,
  zL,trivial⟩ (⟨fun _ => HKS.out.up HF.out (z02 (Below.refl _ _) 1),(fun h => by cases h),z09 HKS.out.bel (z02 (Below.refl _ _) 1)⟩) ⟨?_,?_,?_,?_,?_,?_,?_,?_,?_,?_,?_,?_,?_,?_,?_,trivial⟩ ?_
   ·
    intro vals xw f hf1 hf2 hf3 hI hF; have k13 : f 13 = false:=hf3 13 (by kernel_rfl); clear hf2 hf3; dsimp only [z03,bare]; simp only [z01,Act.put,zQ]; have hv9:=(hI.1 k13).var; have y0:=(z00 hv9 0).1; have y1:=(z00 hv9 1).1; have y2:=(z00 hv9 2).1
    go_wp2
    exact zX hI rfl
   iterate 2
    ·
     rintro vals xw f hf1 - - hI hF; dsimp only [z03,bare]; simp only [z01,Act.put,zQ]
     go_wp2
     exact zX hI rfl
   ·
    rintro vals xw f hf1 - - hI hF; simp only [z05,zF,zR,and_true] at hF; obtain ⟨e19,e20⟩:=hF; dsimp only [z03,bare]; simp only [z01,Act.put,zQ]; simp only [e19,e20]
    go_wp2
    exact zX hI rfl
   ·
    rintro vals xw f hf1 - - hI hF; simp only [z05,zF,zR,and_true] at hF; have e21:=hF; dsimp only [z03,bare]; simp only [z01,Act.put,zQ]; simp only [e21]; have c9:=HRX.out _ hI.2.2
    go_wp2
    exact zX hI rfl
   iterate 2
    ·
     rintro vals xw f hf1 - - hI hF; dsimp only [z03,bare]; simp only [z01,Act.put,zQ]
     go_wp2
     exact zX hI rfl
   ·
    rintro vals xw f hf1 - - hI hF; simp only [z05,zF,zR,and_true] at hF; obtain ⟨e23,e24⟩:=hF; dsimp only [z03,bare]; simp only [z01,Act.put,zQ]; simp only [e23,e24]
    go_wp2
    exact zX hI rfl
   ·
    rintro vals xw f hf1 - - hI hF; simp only [z05,zF,zR,and_true] at hF; have e25:=hF; dsimp only [z03,bare]; simp only [z01,Act.put,zQ]; simp only [e25]; have c9:=HRY.out _ hI.2.2
    go_wp2
    exact zX hI rfl
   ·
    intro vals xw f hf1 hf2 hf3 hI hF; have k13 : f 13 = false:=hf3 13 (by kernel_rfl); clear hf2 hf3; simp only [z05,zF,zR,and_true] at hF; obtain ⟨e18,e22,e26⟩:=hF; dsimp only [z03,bare]; simp only [z01,Act.put,zQ]; simp only [e18,e22,e26]; have HI:=zH hI; have HK:=zH (hI.1 k13); have hsz9:=hI.2.2.size; clear hI; have HC:=zH (l7Xor_any (G2 F w xw (fun _ => False)) A1 c1 k1 x y xw HK.out.row (KS2.lt HK.out.bel HF.out) HK.out.nil HNB1.out HXYM.out.1 HXYM.out.2); rw [<- HM.out] at HC
    go_wp2_with fail
    refine HC.out.mono ?_; rintro e wx ⟨A2,c2,rfl,h2,h3,h4⟩; have H3:=zH h3; have H4:=zH h4; clear h3 h4 HC
    go_wp2
    refine ⟨rfl,⟨A2,c2,rfl,h2,H3.out.mono ?_,Nat.le_trans hsz9 H4.out.size⟩,⟨zN rfl,fun _ => H4.out⟩,(fun h => (HI.out.1 h).up HF.out H4.out),(fun h => absurd (k13.symm.trans h) (by simp)),z09 HI.out.2.2 H4.out⟩; intro b hb
    rcases hb with (h9 | h9) | h9
    · exact .inl h9
    · exact .inr ⟨h9.1,Nat.lt_of_lt_of_le h9.2.1 H4.out.size,h9.2.2⟩
    · exact .inr ⟨by have:=HK.out.bel.size; have:=lt_of_block HK.out.res; omega,h9.2,fun e => e⟩
   ·
    rintro vals xw f hf1 - - hI hF; simp only [z05,zF,zR,and_true] at hF; obtain ⟨A2,c2,e27,h2,h3,h4⟩:=hF; dsimp only [z03,bare]; simp only [z01,Act.put,zQ]; simp only [e27]
    go_wp2
    exact ⟨rfl,⟨A2,c2,rfl,h2,h3,h4⟩,⟨zN rfl,fun _ => Below.refl _ _⟩,hI⟩
   ·
    rintro vals xw f hf1 - - hI hF; simp only [z05,zF,zR,and_true] at hF; obtain ⟨A2,c2,e17,h2,h3,h4⟩:=hF; dsimp only [z03,bare]; simp only [z01,Act.put,zQ]; simp only [e17]
    go_wp2
    exact ⟨rfl,⟨A2,c2,rfl,h2,h3,h4⟩,⟨zN rfl,fun _ => Below.refl _ _⟩,hI⟩
   ·
    rintro vals xw f hf1 - - hI hF; simp only [z05,zF,zR,and_true] at hF; obtain ⟨A2,c2,e17,h2,h3,h4⟩:=hF; dsimp only [z03,bare]; simp only [z01,Act.put,zQ]; simp only [e17]
    go_wp2
    exact zX hI rfl
   ·
    rintro vals xw f hf1 - - hI hF; simp only [z05,zF,zR,and_true] at hF; obtain ⟨A2,c2,e28,h2,h3,h4⟩:=hF; dsimp only [z03,bare]; simp only [z01,Act.put,zQ]; simp only [e28]; have HI:=zH hI; have HK:=zH (hI.1 hf1); have hv9:=HK.out.var; have y0:=(z00 hv9 0).1; have y1:=(z00 hv9 1).1; have y2:=(z00 hv9 2).1; have g0:=(z00 hv9 0).2; have g1:=(z00 hv9 1).2; have g2:=(z00 hv9 2).2; have H3:=zH h3; clear hI hv9 h3 h4
    go_wp2
    have hset:=HK.out.set (c':=c2) HF.out H3.out h2; have hgr : xw.grownBy (st3 xw w.heap.size (.int .i64 m.1.1.ins) (.slice A2 m.1.1.gs.length c2) (.bool m.1.2)) (some w.heap.size):=z06 (z06 (z06 (World.grownBy.refl _ _) _ _) _ _) _ _; exact ⟨rfl,trivial,⟨fun _ => hgr,fun h9 => absurd rfl h9⟩,fun h => absurd ((z0h f 13).symm.trans h) (by simp),fun _ => ⟨A2,c2,hset⟩,z0i HI.out.2.2 (Nat.le_refl _) _ _ _⟩
   ·
    rintro vals xw f hf1 - - hI hF; simp only [z05,zF,zR,and_true] at hF; have e29:=hF; dsimp only [z03,bare]; simp only [z01,Act.put,zQ]; simp only [e29]
    go_wp2
    exact zX hI rfl
   ·
    intro vals xw f hall hI hF; rw [show List.range _ = [0,1,2,3,4,5,6,7,8,9,10,11,12,13,14] from rfl] at hF; simp only [says,zF,zR,and_true] at hF; obtain ⟨A2,c2,hk2⟩:=hI.2.1 (hall 13 (by decide)); have e9 : vals 14 = .int .i64 m.2:=by obtain ⟨_,_,_,_,_,_,_,_,_,_,_,_,_,_,e9⟩:=hF; exact e9
    have HK2:=zH hk2; clear hF hk2 hI; simp only [z01,Act.put,zQ]; simp only [e9]; clear e9; have hmb:=HMB.out.2; obtain ⟨hm0,hm1⟩:=hmb; obtain ⟨p,hp⟩ : ∃ p,p = run opsR (muxP m.2 y rr) m.1:=⟨_,rfl⟩; have HP:=zH hp; have HPB : Hid (NB p.1.1 /\ RB p.2):=zH (by rw [hp]; exact mux_rb HMB.out.1 HMB.out.2 HXYM.out.2 HRR.out); clear hp
    go_wp2
    refine z0a [[],[],[],[],[(2,33),(3,34)],[(4,35)],[],[(0,31),(1,32),(5,36),(6,37)],[(7,38)],[(8,30)],[(8,30)],[(9,39)],[(10,40)]]
     (fun x9 y9 => Below x9.heap.size x9 y9)
     [(11,fun x9 y9 => x9.grownBy y9 (some w.heap.size))]
     (fun f9 x9 => (f9 11 = false -> KS2 F w x9 m.1 A2 c2 (fun _ => False)) /\ (f9 11 = true -> ∃ A3 c3,KS2 F w x9 p.1 A3 c3 (fun _ => False)) /\ Below w.heap.size w x9)
     [zF 0 (.agg #[.int .i64 m.1.1.ins,.slice A2 m.1.1.gs.length c2,.bool m.1.2]),
  zF 1 (.int .i64 m.2),
  zF 2 (.slice (some ady) xs.length cy),
  zF 3 (.int .i64 (j : Int)),
  zF 4 (.pointer (some (ady.add j))),
  zF 5 (.int .i64 y),
  zF 6 (.int .i64 rr),
  fun vs9 y9 => (fun v z => KTup F w p v z) (vs9 7) y9,
  fun vs9 y9 => (fun v z => KTup F w p v z) (vs9 8) y9,
  fun vs9 y9 => (fun v z => KNet F w p v z) (vs9 9) y9,
  zF 10 (.int .i64 p.2),
  fun _ _ => True,
  zF 12 (.int .i64 p.2)]
     [(0,31),(1,32),(2,33),(3,34),(4,35),(5,36),(6,37),(7,38),(8,30),(9,39),(10,40),(12,8)] (by kernel_rfl) (by kernel_rfl) (by kernel_rfl) (by kernel_rfl)
     (fun _ => Below.refl _ _) ⟨fun _ => World.grownBy.refl _ _,trivial⟩
     ⟨zU,
  zU,
  zU,
  zU,
  zU,
  zU,
  zU,
  ⟨.inr (zS (fun v z => KTup F w p v z) (fun _ _ _ h9 hR => h9.up HF.out hR)),⟨.inr (.inr (zS (fun v z => KTup F w p v z) (fun _ _ _ h9 hR => h9.st HF.out hR))),trivial⟩⟩,
  ⟨.inr (zS (fun v z => KTup F w p v z) (fun _ _ _ h9 hR => h9.up HF.out hR)),⟨.inr (.inr (zS (fun v z => KTup F w p v z) (fun _ _ _ h9 hR => h9.st HF.out hR))),trivial⟩⟩,
  ⟨.inr (zS (fun v z => KNet F w p v z) (fun _ _ _ h9 hR => h9.up HF.out hR)),⟨.inr (.inr (zS (fun v z => KNet F w p v z) (fun _ _ _ h9 hR => h9.st HF.out hR))),trivial⟩⟩,
  zU,
  ⟨.inr zK,⟨.inr (.inl rfl),trivial⟩⟩,
  zU,trivial⟩ ⟨zL,
  zL,
  zL,
  zL,
  zL,
  zL,
  zL,
  fun _ _ _ h _ v => (by simpa only [<- h] using v),
  fun _ _ _ h _ v => (by simpa only [<- h] using v),
  fun _ _ _ h _ v => (by simpa only [<- h] using v),
  zL,
  fun _ _ _ _ _ _ => trivial,
  zL,trivial⟩ (⟨fun _ => HK2.out.up HF.out (z02 (Below.refl _ _) 1),(fun h => by cases h),z09 HK2.out.bel (z02 (Below.refl _ _) 1)⟩) ⟨?_,?_,?_,?_,?_,?_,?_,?_,?_,?_,?_,?_,?_,trivial⟩ ?_
    ·
     intro vals xw f hf1 hf2 hf3 hI hF; have k11 : f 11 = false:=hf3 11 (by kernel_rfl); clear hf2 hf3; dsimp only [z03,bare]; simp only [z01,Act.put,zQ]; have hv9:=(hI.1 k11).var; have y0:=(z00 hv9 0).1; have y1:=(z00 hv9 1).1; have y2:=(z00 hv9 2).1
     go_wp2
     exact zX hI rfl
    iterate 3
     ·
      rintro vals xw f hf1 - - hI hF; dsimp only [z03,bare]; simp only [z01,Act.put,zQ]
      go_wp2
      exact zX hI rfl
    ·
     rintro vals xw f hf1 - - hI hF; simp only [z05,zF,zR,and_true] at hF; obtain ⟨e33,e34⟩:=hF; dsimp only [z03,bare]; simp only [z01,Act.put,zQ]; simp only [e33,e34]
     go_wp2
     exact zX hI rfl
    ·
     rintro vals xw f hf1 - - hI hF; simp only [z05,zF,zR,and_true] at hF; have e35:=hF; dsimp only [z03,bare]; simp only [z01,Act.put,zQ]; simp only [e35]; have c9:=HRY.out _ hI.2.2
     go_wp2
     exact zX hI rfl
    ·
     rintro vals xw f hf1 - - hI hF; dsimp only [z03,bare]; simp only [z01,Act.put,zQ]
     go_wp2
     exact zX hI rfl
    ·
     intro vals xw f hf1 hf2 hf3 hI hF; have k11 : f 11 = false:=hf3 11 (by kernel_rfl); clear hf2 hf3; simp only [z05,zF,zR,and_true] at hF; obtain ⟨e31,e32,e36,e37⟩:=hF; dsimp only [z03,bare]; simp only [z01,Act.put,zQ]; simp only [e31,e32,e36,e37]; have HI:=zH hI; have HK:=zH (hI.1 k11); have hsz9:=hI.2.2.size; clear hI; have HC:=zH (l7One_any (G2 F w xw (fun _ => False)) A2 c2 m.1 m.2 y rr xw HK.out.row (KS2.lt HK.out.bel HF.out) HK.out.nil HMB.out.1 HMB.out.2 HXYM.out.2 HRR.out); rw [<- HP.out] at HC
     go_wp2_with fail
     refine HC.out.mono ?_; rintro e wx ⟨A3,c3,rfl,h2,h3,h4⟩; have H3:=zH h3; have H4:=zH h4; clear h3 h4 HC
     go_wp2
     refine ⟨rfl,⟨A3,c3,rfl,h2,H3.out.mono ?_,Nat.le_trans hsz9 H4.out.size⟩,⟨zN rfl,fun _ => H4.out⟩,(fun h => (HI.out.1 h).up HF.out H4.out),(fun h => absurd (k11.symm.trans h) (by simp)),z09 HI.out.2.2 H4.out⟩; intro b hb
     rcases hb with (h9 | h9) | h9
     · exact .inl h9
     · exact .inr ⟨h9.1,Nat.lt_of_lt_of_le h9.2.1 H4.out.size,h9.2.2⟩
     · exact .inr ⟨by have:=HK.out.bel.size; have:=lt_of_block HK.out.res; omega,h9.2,fun e => e⟩
    ·
     rintro vals xw f hf1 - - hI hF; simp only [z05,zF,zR,and_true] at hF; obtain ⟨A3,c3,e38,h2,h3,h4⟩:=hF; dsimp only [z03,bare]; simp only [z01,Act.put,zQ]; simp only [e38]
     go_wp2
     exact ⟨rfl,⟨A3,c3,rfl,h2,h3,h4⟩,⟨zN rfl,fun _ => Below.refl _ _⟩,hI⟩
    ·
     rintro vals xw f hf1 - - hI hF; simp only [z05,zF,zR,and_true] at hF; obtain ⟨A3,c3,e30,h2,h3,h4⟩:=hF; dsimp only [z03,bare]; simp only [z01,Act.put,zQ]; simp only [e30]
     go_wp2
     exact ⟨rfl,⟨A3,c3,rfl,h2,h3,h4⟩,⟨zN rfl,fun _ => Below.refl _ _⟩,hI⟩
    ·
     rintro vals xw f hf1 - - hI hF; simp only [z05,zF,zR,and_true] at hF; obtain ⟨A3,c3,e30,h2,h3,h4⟩:=hF; dsimp only [z03,bare]; simp only [z01,Act.put,zQ]; simp only [e30]
     go_wp2
     exact zX hI rfl
    ·
     rintro vals xw f hf1 - - hI hF; simp only [z05,zF,zR,and_true] at hF; obtain ⟨A3,c3,e39,h2,h3,h4⟩:=hF; dsimp only [z03,bare]; simp only [z01,Act.put,zQ]; simp only [e39]; have HI:=zH hI; have HK:=zH (hI.1 hf1); have hv9:=HK.out.var; have y0:=(z00 hv9 0).1; have y1:=(z00 hv9 1).1; have y2:=(z00 hv9 2).1; have g0:=(z00 hv9 0).2; have g1:=(z00 hv9 1).2; have g2:=(z00 hv9 2).2; have H3:=zH h3; clear hI hv9 h3 h4
     go_wp2
     have hset:=HK.out.set (c':=c3) HF.out H3.out h2; have hgr : xw.grownBy (st3 xw w.heap.size (.int .i64 p.1.1.ins) (.slice A3 p.1.1.gs.length c3) (.bool p.1.2)) (some w.heap.size):=z06 (z06 (z06 (World.grownBy.refl _ _) _ _) _ _) _ _; exact ⟨rfl,trivial,⟨fun _ => hgr,fun h9 => absurd rfl h9⟩,fun h => absurd ((z0h f 11).symm.trans h) (by simp),fun _ => ⟨A3,c3,hset⟩,z0i HI.out.2.2 (Nat.le_refl _) _ _ _⟩
    ·
     rintro vals xw f hf1 - - hI hF; simp only [z05,zF,zR,and_true] at hF; have e40:=hF; dsimp only [z03,bare]; simp only [z01,Act.put,zQ]; simp only [e40]
     go_wp2
     exact zX hI rfl
    ·
     intro vals xw f hall hI hF; rw [show List.range _ = [0,1,2,3,4,5,6,7,8,9,10,11,12] from rfl] at hF; simp only [says,zF,zR,and_true] at hF; obtain ⟨A3,c3,hk2⟩:=hI.2.1 (hall 11 (by decide)); have e9 : vals 12 = .int .i64 p.2:=by obtain ⟨_,_,_,_,_,_,_,_,_,_,_,_,e9⟩:=hF; exact e9
     have HK2:=zH hk2; clear hF hk2 hI; simp only [z01,Act.put,zQ]; simp only [e9]; clear e9
     go_wp2
     go_roundw
     case rel => exact ⟨j + 1,p.1,p.2,A3,c3,by omega,by go_num,rfl,HPB.out.2,HK2.out,HPB.out.1,zH (by rw [HP.out,HM.out]; exact HST.out)⟩
     case measure => simp [intOf]; omega
  ·
   have hje : j = xs.length:=by omega
   subst hje; have hlt2 : ¬ ((xs.length : Nat) : Int) < xs.length:=by omega
   have hv9:=HKS.out.var; have y0:=(z00 hv9 0).1; have y1:=(z00 hv9 1).1; have y2:=(z00 hv9 2).1; have hr9:=HKS.out.res; have r0:=(z00 hr9 0).1; have r1:=(z00 hr9 1).1; have r2:=(z00 hr9 2).1; have rf0:=(z00 hr9 0).2; have rf1:=(z00 hr9 1).2; have rf2:=(z00 hr9 2).2; clear hv9 hr9
   go_wp2
   have hs:=z0s HKS.out.res (.int .i64 k1.1.ins) (.slice A1 k1.1.gs.length c1) (.bool k1.2); have k5:=(z00 hs 0).1; have k6:=(z00 hs 1).1; have k7:=(z00 hs 2).1; have kf5:=(z00 hs 0).2; have kf6:=(z00 hs 1).2; have kf7:=(z00 hs 2).2; refine bodyPost_ret (v:=.tuple #[.agg #[.int .i64 k1.1.ins,.slice A1 k1.1.gs.length c1,.bool k1.2],.int .i64 rr]) (by simp [results,Tryz.results118,go_sem,k5,k6,k7,kf5,kf6,kf7]) rfl ?_; have hd1 : xs.drop xs.length = []:=List.drop_length; have hd2 : ys.drop xs.length = []:=by rw [HL.out]; exact List.drop_length
   have hst2:=hst.out; rw [hd1,hd2] at hst2; have hT2 : T = (k1,rr):=by rw [<- hst2]; rfl
   rw [hT2]; exact HKS.out.one2.done HF.out
def Vals (many : Nat) (put : List Int) (vs : List Int) : Prop:=vs.length = many + 1 /\ ∀ v : Nat,1 <= v -> v <= many -> vs[v]? = some (sg put v)
theorem Good.at {many : Int} {put : List Int} (h : Good many put) {k : Nat} (hk : k < put.length) : put[k] ∉ put.take k /\ -put[k] ∉ put.take k:=by
 have hp:=List.pairwise_iff_getElem.1 h.nodup; refine ⟨fun hm => ?_,fun hm => ?_⟩
 all_goals
  obtain ⟨i,hi,e⟩:=List.getElem_of_mem hm; have hik : i < k:=by simp at hi; omega
  rw [List.getElem_take] at e; exact hp i k (by simp <;> omega) (by simpa using hk) hik (by simp only [List.getElem_map,e] <;> omega)
def ValsAt (M : Nat) (put : List Int) (v : Value) (x : World) : Prop:=∃ (A : Option Addr) (c : Nat) (vs : List Int),v = .slice A vs.length c /\ Vals M put vs /\ Lay.int.Rd x A vs
theorem ValsAt.up {M : Nat} {put : List Int} {v : Value} {x x' : World} (h : ValsAt M put v x) (hb : Below x.heap.size x x') : ValsAt M put v x':=by
 obtain ⟨A,c,vs,h1,h2,h3⟩:=h; exact ⟨A,c,vs,h1,h2,h3.up hb⟩
def Fact.vals (M : Nat) (put : List Int) : Fact:=.of (ValsAt M put) fun _ _ _ h hb => h.up hb
def lenOf : Value -> Nat
 | .slice _ n _ => n
 | _ => 0
def PlacesOk (M : Nat) (put pl : List Int) : Prop :=
 pl.length = M + 1 /\ ∀ v : Nat,1 <= v -> v <= M -> (∃ k,∃ h : k < put.length,put[k].natAbs = v /\ pl[v]? = some ((k : Int) + 1)) \/ ((∀ l ∈ put,l.natAbs ≠ v) /\ pl[v]? = some 0)
def BelowS (lo : Nat) (S : Nat -> Prop) (w w' : World) : Prop:=Below lo w w' /\ ∀ x,S x -> w'.heap[x]? = w.heap[x]?
theorem BelowS.refl (lo : Nat) (S : Nat -> Prop) (w : World) : BelowS lo S w w:=⟨Below.refl _ _,fun _ _ => rfl⟩
theorem BelowS.trans {lo : Nat} {S : Nat -> Prop} {w w' w'' : World} (h : BelowS lo S w w') (h' : BelowS lo S w' w'') : BelowS lo S w w'':=⟨h.1.trans h'.1,fun x hx => (h'.2 x hx).trans (h.2 x hx)⟩
theorem BelowS.of {lo : Nat} {S : Nat -> Prop} {w w' : World} (h : Below w.heap.size w w') (hlo : lo <= w.heap.size) (hS : ∀ x,S x -> x < w.heap.size) : BelowS lo S w w':=⟨h.mono hlo,fun x hx => h.block x (hS x hx)⟩
theorem PlacesOk.snoc {M : Nat} {put pl : List Int} (h : PlacesOk M put pl) {l : Int} (h0 : l ≠ 0) (h1 : -(M : Int) <= l) (h2 : l <= M) (h3 : l ∉ put) (h4 : -l ∉ put) : PlacesOk M (put ++ [l]) (pl.set l.natAbs ((put.length : Int) + 1)):=by
 refine ⟨by rw [List.length_set]; exact h.1,fun v hv1 hv2 => ?_⟩
 by_cases e : l.natAbs = v
 ·
  refine .inl ⟨put.length,by simp,by simp [e],?_⟩; rw [<- e,List.getElem?_set_self (by rw [h.1]; omega)]
 ·
  rw [List.getElem?_set_ne e]
  rcases h.2 v hv1 hv2 with ⟨k,hk,hk1,hk2⟩ | ⟨hn,hk2⟩
  · exact .inl ⟨k,by simp; omega,by rw [List.getElem_append_left hk]; exact hk1,hk2⟩
  ·
   refine .inr ⟨fun x hx => ?_,hk2⟩
   rcases List.mem_append.1 hx with hx | hx
   · exact hn x hx
   · rw [List.mem_singleton.1 hx]; exact e
theorem OwnI.gr {S : Nat -> Prop} {w w' : World} {base : Nat} {v : Value} {xs : List Int} (h : OwnI w base v xs) (hg : Gr S w w') (hr : ∀ b,S b -> b < base) : OwnI w' base v xs :=
 z1d h fun g hg' => hg.block g (h.lt g hg').2 (fun e => by have:=hr g e; have:=(h.lt g hg').1; omega)
theorem OwnI.ab {S : Nat -> Prop} {w : World} {base c : Nat} {A : Option Addr} {xs : List Int} (h : OwnI w base (.slice A xs.length c) xs) (hr : ∀ b,S b -> b < base) : Lay.int.Sl w (Ab S w) A xs:=by
 obtain ⟨A',c',e,h1,h2⟩:=h.form
 injection e with e1 e2 e3
 subst e1; exact h2.mono fun b hb => ⟨hb.2,fun e => by have:=hr b e; have:=hb.1; omega⟩
def RetDI (r : Nat) (p N : Int) (ok : List Int -> Prop) (w : World) (e : Ending) (w' : World) : Prop:=∃ A c xs,e = .returned (.slice A xs.length c) /\ OwnI w' w.heap.size (.slice A xs.length c) xs /\ ok xs /\ Drawn r p N w w'
theorem own_lit0I (w : World) : OwnI (w.alloc (.cells #[] 3)) w.heap.size (.slice (some ⟨w.heap.size,0,none⟩) 0 0) []:=z18 rfl
def RetNw (xs : List Int) (w : World) (e : Ending) (w' : World) : Prop:=∃ B d,e = .returned (.slice B xs.length d) /\ xs.length <= d /\ Lay.int.Sl w' (Own w.heap.size w') B xs /\ Below w.heap.size w w'
theorem take_step' {α : Type} {l : List α} {j : Nat} {x : α} (h : l[j]? = some x) : l.take (j + 1) = l.take j ++ [x]:=by
 rw [List.take_add_one,h]; rfl
set_option maxRecDepth 100000 in
set_option maxHeartbeats 2000000 in
theorem l7Turn_any (X : Option Addr) (c : Nat) (xs : List Int) (w : World) (hX : Lay.int.Rd w X xs) (hxi : ∀ x ∈ xs,RB x) (hn : xs.length <= 500) :
  Calls Tryz.prog 89 #[.slice X xs.length c] w (RetNw (xs.map Neg.neg) w):=by
 have hal : Below w.heap.size w (w.alloc (.cells #[] 3)):=(Below.refl _ _).alloc (Nat.le_refl _) _; have hown0 : OwnI (w.alloc (.cells #[] 3)) w.heap.size (.slice (some ⟨w.heap.size,0,none⟩) ([] : List Int).length 0) []:=own_lit0I w; have HX:=zH hX; have HXI:=zH hxi; clear hX hxi
 go_enter Tryz.func89,Tryz.ntmps89
 go_wp2
 go_loopw [3,4] (fun s i wr => ∃ (j : Nat) (l : List Int) (B : Option Addr) (d : Nat),j <= xs.length /\ i = .int .i64 j /\ s = .slice B l.length d /\ l.length = j /\ l = (xs.map Neg.neg).take j /\ OwnI wr w.heap.size (.slice B l.length d) l /\ Below w.heap.size w wr) (fun _ i _ => xs.length - (intOf i).toNat)
 case atStart => exact ⟨0,[],_,0,Nat.zero_le _,rfl,rfl,rfl,rfl,hown0,hal⟩
 case round =>
  obtain ⟨j,l,B,d,hj,rfl,rfl,hlj,hle,hown,hbr⟩:=hrel; have HLE:=zH hle; have HLJ:=zH hlj; have hl3 : l.length <= 1000:=by omega
  have hws : w.heap.size <= wr.heap.size:=hbr.size; clear hle hlj
  by_cases hlt : j < xs.length
  ·
   have hlt2 : (j : Int) < xs.length:=by omega
   have hxi:=HXI.out _ (List.getElem_mem hlt); obtain ⟨ad,rfl,-,hcell⟩:=(HX.out.up hbr).at_int hlt; have HXT:=zH (show (xs.map Neg.neg)[j]? = some (-xs[j]) by rw [List.getElem?_map,List.getElem?_eq_getElem hlt]; rfl); obtain ⟨x,hx⟩ : ∃ x,x = xs[j]:=⟨_,rfl⟩; rw [<- hx] at hcell hxi HXT; clear hx; obtain ⟨hx0,hx1⟩:=hxi; obtain ⟨l2,hl2⟩ : ∃ l2,l2 = l ++ [(-x)]:=⟨_,rfl⟩; have HL2:=zH hl2; clear hl2
   go_wp2_with (at_builtin; refine z0g (ys:=l2) (by rfl) (.tmp 12) (.tmp 18) (by rfl) (by rfl) (by rfl) hown (by omega) hws HL2.out ?_; intro B3 d3 w3 hown3 hg3 hbk3)
   have hb3:=hbr.grown hg3 hbr.size fun g e => (hown.lt g e).1
   clear hbk3 hg3 hown hbr
   go_roundw
   case rel => exact ⟨j + 1,l2,B3,d3,by omega,by go_num,rfl,by rw [HL2.out,List.length_append,HLJ.out]; rfl,by
     rw [HL2.out,HLE.out]; exact (take_step' HXT.out).symm,hown3,hb3⟩
   case measure => simp [intOf]; omega
  ·
   have hje : j = xs.length:=by omega
   have hfin : l = xs.map Neg.neg:=by rw [HLE.out,hje]; exact List.take_of_length_le (by simp)
   go_wp2
   go_ret
   rw [<- hfin]; exact ⟨B,d,rfl,hown.cap,hown.own,hbr⟩
end Go.Proofs.YtemdmlmcidfodaaGreatDoor
