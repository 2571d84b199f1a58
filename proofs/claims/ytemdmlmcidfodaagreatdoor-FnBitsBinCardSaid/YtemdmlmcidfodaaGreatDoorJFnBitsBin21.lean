/- Draws of nets: l6Lit, l6Net. -/
import Derived.Test.YtemdmlmcidfodaaGreatDoorJFnBitsBin0
import Derived.Test.YtemdmlmcidfodaaGreatDoorJFnBitsBin4
import Derived.Test.YtemdmlmcidfodaaGreatDoorJFnBitsBin8
import Derived.Test.YtemdmlmcidfodaaGreatDoorJFnBitsBin10
import Derived.Test.YtemdmlmcidfodaaGreatDoorJFnBitsBin19
namespace Go.Proofs.YtemdmlmcidfodaaGreatDoor
open Go Go.RowKit
theorem KS2.owned {F S : Nat -> Prop} {w x x' : World} {k : N × Bool} {A : Option Addr} {c : Nat} {v : Value} {l : List Int} (h : KS2 F w x k A c S) (hF : ∀ b,F b -> b < w.heap.size) (hb : Below x.heap.size x x') (ho : OwnI x' x.heap.size v l) : KS2 F w x' k A c (fun b => v.ownBlock = some b):=by
 have h9:=h.up hF hb; refine ⟨h9.bel,h9.var,h9.res,(h.row.below hb (KS2.lt h.bel hF)).mono fun b hb' => hb'.imp id fun h8 => ⟨h8.1,Nat.lt_of_lt_of_le h8.2.1 hb.size,fun e => ?_⟩,h.nil⟩; have:=(ho.lt b e).1; omega
theorem RdI.owned {S : Nat -> Prop} {w x x' : World} {A : Option Addr} {v : Value} {l l' : List Int} (h : RdI w x S A l) (hb : Below x.heap.size x x') (ho : OwnI x' x.heap.size v l') : RdI w x' (fun b => v.ownBlock = some b) A l :=
 (Lay.Sl.below h hb fun _ hb => hb.2.1).mono fun b h8 => ⟨h8.1,Nat.lt_of_lt_of_le h8.2.1 hb.size,fun e => by have:=(ho.lt b e).1; omega⟩
theorem run_map {σ : Type} {o : Ops σ} {f : Int -> PG Int} (us : List Int) (q : Nat) (x : Int) (hx : us[q]? = some x) (k : σ) (l : List Int) :
  (let z:=run o (mapP f (us.drop q)) k; (z.1,l ++ z.2)) = (let m:=run o (f x) k; let r:=run o (mapP f (us.drop (q + 1))) m.1; (r.1,(l ++ [m.2]) ++ r.2)):=by
 obtain ⟨hk,rfl⟩:=List.getElem?_eq_some_iff.1 hx; rw [List.drop_eq_getElem_cons hk]; simp only [mapP,run_bind,run,List.append_assoc,List.singleton_append]
theorem run_mul {σ : Type} {o : Ops σ} (xs ys : List Int) (j : Nat) (y : Int) (s : List Int) (k : σ) (hy : ys[j]? = some y) :
  run o (mulP xs (ys.drop j) j s) k = (fun p : σ × List Int => (fun u : σ × List Int => run o (mulP xs (ys.drop (j + 1)) (j + 1) u.2) u.1) (run o (sumP s p.2 (-1)) p.1)) (let z:=run o (mapP (andP y) (xs.take (xs.length - j))) k; (z.1,List.replicate j (-1) ++ z.2)):=by
 obtain ⟨hk,rfl⟩:=List.getElem?_eq_some_iff.1 hy; rw [List.drop_eq_getElem_cons hk]; simp only [mulP,rowP,run_bind,run]
set_option maxRecDepth 100000 in
set_option maxHeartbeats 8000000 in
theorem l7Mul_any (F : Nat -> Prop) (A : Option Addr) (c : Nat) (k : N × Bool) (X Y : Option Addr) (cx cy : Nat) (xs ys : List Int) (w : World) (h : Lay.gate.Sl w F A k.1.gs) (hF : ∀ b,F b -> b < w.heap.size) (hA : A = none -> k.1.gs.length = 0) (hnb : NB k.1) (hX : Lay.int.Rd w X xs) (hY : Lay.int.Rd w Y ys) (hxm : ∀ x ∈ xs,RB x) (hym : ∀ y ∈ ys,RB y) (hl : xs.length = ys.length) (hn : xs.length <= 8) :
  Calls Tryz.prog 90 #[.agg #[.int .i64 k.1.ins,.slice A k.1.gs.length c,.bool k.2],.slice X xs.length cx,.slice Y ys.length cy] w (RetKL F w (run opsR (mulP xs ys 0 (List.replicate xs.length (-1))) k)):=by
 obtain ⟨s0,hs0⟩ : ∃ s0,s0 = List.replicate xs.length (-1 : Int):=⟨_,rfl⟩; rw [<- hs0]; have HS0L : Hid (s0.length = xs.length):=zH (by rw [hs0]; simp); have HS0M : Hid (∀ m ∈ s0,RB m):=zH fun m hm => by rw [hs0] at hm; rw [List.eq_of_mem_replicate hm]; exact z2d.off
 obtain ⟨T,hT⟩ : ∃ T,T = run opsR (mulP xs ys 0 s0) k:=⟨_,rfl⟩; rw [<- hT]; have HT:=zH hT; have K0:=KS.two (c:=c) h hF hA; have HF:=zH hF; have HNB:=zH hnb; have HX:=zH hX; have HY:=zH hY; have HXM:=zH hxm; have HYM:=zH hym; have HL:=zH hl; have K0:=zH K0; have hX0s : ((w.alloc (.cells #[.int .i64 k.1.ins,.slice A k.1.gs.length c,.bool k.2] 85)).alloc (.cells #[.int .i64 0,.slice none 0 0,.bool false] 85)).heap.size = w.heap.size + 2:=by simp
 have HX0S:=zH hX0s; have hn' : ys.length <= 8:=by omega
 have HFL:=zH (show Calls Tryz.prog 117 #[.int .i64 (-1),.int .i64 (xs.length : Int)] ((w.alloc (.cells #[.int .i64 k.1.ins,.slice A k.1.gs.length c,.bool k.2] 85)).alloc (.cells #[.int .i64 0,.slice none 0 0,.bool false] 85)) (RetOI s0 ((w.alloc (.cells #[.int .i64 k.1.ins,.slice A k.1.gs.length c,.bool k.2] 85)).alloc (.cells #[.int .i64 0,.slice none 0 0,.bool false] 85))) from by rw [hs0]; exact l7FillO_any (-1) xs.length _ (by omega)); clear h hA hnb hX hY hxm hym hT hX0s hl hs0
 go_enter Tryz.func90,Tryz.ntmps90
 go_wp2_with fail
 refine HFL.out.mono ?_; generalize hX0 : (w.alloc (.cells #[.int .i64 k.1.ins,.slice A k.1.gs.length c,.bool k.2] 85)).alloc (.cells #[.int .i64 0,.slice none 0 0,.bool false] 85) = X0 at *; clear hX0; rintro e w3 ⟨X2,d2,rfl,ho3,hb3⟩; have K3:=zH (K0.out.two2.up HF.out hb3); have HR3 : Hid (RdI w w3 (fun _ => False) X2 s0):=zH (RdI.of ho3 (by rw [HX0S.out]; exact Nat.le_refl _)); have HC3:=zH ho3.cap; clear ho3 hb3 K0 HFL
 go_wp2
 go_loopw [8,9] (fun s i wr => ∃ (j : Nat) (k1 : N × Bool) (s1 : List Int) (A1 Sp : Option Addr) (c1 sc : Nat),j <= ys.length /\ i = .int .i64 j /\ s = .slice Sp s1.length sc /\ s1.length = xs.length /\ s1.length <= sc /\ (∀ m ∈ s1,RB m) /\ KS2 F w wr k1 A1 c1 (fun _ => False) /\ RdI w wr (fun _ => False) Sp s1 /\ NB k1.1 /\ Hid (run opsR (mulP xs (ys.drop j) j s1) k1 = T)) (fun _ i _ => ys.length - (intOf i).toNat)
 case atStart => exact ⟨0,k,s0,A,X2,c,d2,Nat.zero_le _,rfl,rfl,HS0L.out,HC3.out,HS0M.out,K3.out,HR3.out,HNB.out,zH (by rw [HT.out]; rfl)⟩
 case round =>
  obtain ⟨j,k1,s1,A1,Sp,c1,sc,hj,rfl,rfl,hsl,hcap,hsm,hks,hrd,hnb1,hst⟩:=hrel; have HSL:=zH hsl; have HCAP:=zH hcap; have HSM:=zH hsm; have HKS:=zH hks; have HRD:=zH hrd; have HNB1:=zH hnb1; clear hsl hcap hsm hks hrd hnb1 HT K3 HR3 HC3 HX0S HS0L HS0M
  by_cases hlt : j < ys.length
  ·
   have hlt2 : (j : Int) < ys.length:=by omega
   have hjx : j < xs.length:=by rw [HL.out]; exact hlt
   obtain ⟨y,hy⟩ : ∃ y,ys[j]? = some y:=⟨_,List.getElem?_eq_getElem hlt⟩; have hyg : ys[j] = y:=(List.getElem?_eq_some_iff.1 hy).2; have HYR:=zH (HYM.out y (List.mem_of_getElem? hy)); obtain ⟨ady,rfl,-,-⟩:=HY.out.at_int hlt; have HRY : Hid (∀ z,Below w.heap.size w z -> z.cell? (ady.add j) = some (.int .i64 y)):=zH fun z hz => by
    obtain ⟨ad,e,_,hc⟩:=(HY.out.up hz).at_int hlt
    injection e with e; subst e; rw [<- hyg]; exact hc
   have hst2:=(run_mul (o:=opsR) xs ys j y s1 k1 hy).symm.trans hst.out; obtain ⟨us,hus⟩ : ∃ us,us = xs.take (xs.length - j):=⟨_,rfl⟩; rw [<- hus] at hst2; have HUS:=zH hus; have HUL : Hid (us.length = xs.length - j):=zH (by rw [hus,List.length_take]; omega); obtain ⟨C,hC⟩ : ∃ C,C = (fun p : (N × Bool) × List Int => (fun u : (N × Bool) × List Int => run opsR (mulP xs (ys.drop (j + 1)) (j + 1) u.2) u.1) (run opsR (sumP s1 p.2 (-1)) p.1)):=⟨_,rfl⟩; rw [<- hC] at hst2; have HC:=zH hC; obtain ⟨r0,hr0⟩ : ∃ r0,r0 = List.replicate j (-1 : Int):=⟨_,rfl⟩; rw [<- hr0] at hst2; have HST:=zH hst2; have HR0L : Hid (r0.length = j):=zH (by rw [hr0]; simp); have HR0M : Hid (∀ m ∈ r0,RB m):=zH fun m hm => by rw [hr0] at hm; rw [List.eq_of_mem_replicate hm]; exact z2d.off
   have HFL:=zH (show Calls Tryz.prog 117 #[.int .i64 (-1),.int .i64 (j : Int)] wr (RetOI r0 wr) from by rw [hr0]; exact l7FillO_any (-1) j _ (by omega)); clear hy hyg hst hst2 hC hus hr0
   go_wp2_with fail
   refine HFL.out.mono ?_; rintro e w4 ⟨B0,d0,rfl,ho4,hb4⟩; have K4:=zH (HKS.out.owned HF.out hb4 ho4); have HR4:=zH (HRD.out.owned hb4 ho4); have HO4:=zH (ho4.base (b':=w.heap.size + 2) (by have:=lt_of_block HKS.out.res; omega)); clear ho4 hb4 HFL HKS HRD
   go_wp2
   go_loopw [10,11] (fun out i wr => ∃ (q r : Nat) (k2 : N × Bool) (l : List Int) (A2 B : Option Addr) (c2 d : Nat),r = j + q /\ r <= xs.length /\ i = .int .i64 (r : Int) /\ out = .slice B l.length d /\ l.length = r /\ (∀ m ∈ l,RB m) /\ AddI F w wr k2 A2 c2 B d l /\ RdI w wr (fun b => (Value.slice B l.length d).ownBlock = some b) Sp s1 /\ NB k2.1 /\ Hid (C (let z:=run opsR (mapP (andP y) (us.drop q)) k2; (z.1,l ++ z.2)) = T)) (fun _ i _ => xs.length - (intOf i).toNat)
   case atStart => exact ⟨0,j,k1,r0,A1,B0,c1,d0,rfl,by omega,rfl,rfl,HR0L.out,HR0M.out,⟨K4.out,HO4.out⟩,HR4.out,HNB1.out,HST⟩
   case round =>
    obtain ⟨q,r,k2,l,A2,B,c2,d,hrq,hr,rfl,rfl,hlq,hlm,hks,hrd,hnb2,hst⟩:=hrel; have HLM:=zH hlm; have HKS:=zH hks; have HRD:=zH hrd; have HLQ:=zH hlq; have HNB2:=zH hnb2; have h1 : (r : Int) - (j : Int) = (q : Int):=by omega
    clear hlm hks hrd hlq hnb2 K4 HR4 HO4 HST HR0L HR0M
    by_cases hltq : r < xs.length
    ·
     have hltq2 : (r : Int) < xs.length:=by omega
     have hqx : q < xs.length:=by omega
     obtain ⟨x,hx⟩ : ∃ x,xs[q]? = some x:=⟨_,List.getElem?_eq_getElem hqx⟩; have hxg : xs[q] = x:=(List.getElem?_eq_some_iff.1 hx).2; have hux : us[q]? = some x:=by rw [HUS.out,List.getElem?_take_of_lt (by omega)]; exact hx
     have HXR:=zH (HXM.out x (List.mem_of_getElem? hx)); have HST:=zH ((congrArg C (run_map (o:=opsR) (f:=andP y) us q x hux k2 l)).symm.trans hst.out); obtain ⟨adx,rfl,-,-⟩:=HX.out.at_int hqx; have HRX : Hid (∀ z,Below w.heap.size w z -> z.cell? (adx.add q) = some (.int .i64 x)):=zH fun z hz => by
      obtain ⟨ad,e,_,hc⟩:=(HX.out.up hz).at_int hqx
      injection e with e; subst e; rw [<- hxg]; exact hc
     have hll : l.length <= 1000:=by have:=HLQ.out; omega
     have HRQ:=zH hrq; clear hx hxg hux hst hrq; obtain ⟨g,h9⟩ : ∃ g,g = run opsR (andP y x) k2:=⟨_,rfl⟩; have HG:=zH h9; have HGB : Hid (NB g.1.1 /\ RB g.2):=zH (by rw [h9]; exact opsR_and_nb HNB2.out HXR.out HYR.out); clear h9; have HST : Hid (C (let r:=run opsR (mapP (andP y) (us.drop (q + 1))) g.1; (r.1,(l ++ [g.2]) ++ r.2)) = T):=zH (by rw [HG.out]; exact HST.out); obtain ⟨l2,hl2⟩ : ∃ l2,l2 = l ++ [g.2]:=⟨_,rfl⟩; have HL2:=zH hl2; clear hl2
     go_wp2
     refine z0a [[],[],[],[],[(2,34),(3,35)],[(1,33),(4,36)],[(5,37)],[],[],[(7,39),(8,40)],[(9,41)],[(0,32),(6,38),(10,42)],[(11,43)],[(12,31)],[(12,31)],[(13,44)],[(14,45)]]
      (fun x9 y9 => Below x9.heap.size x9 y9)
      [(15,fun x9 y9 => x9.grownBy y9 (some w.heap.size))]
      (fun f9 x9 => (f9 15 = false -> AddI F w x9 k2 A2 c2 B d l) /\ (f9 15 = true -> ∃ A9 c9,AddI F w x9 g.1 A9 c9 B d l) /\ Below w.heap.size w x9 /\ Kept w.heap.size wr x9)
      [zF 0 (.agg #[.int .i64 k2.1.ins,.slice A2 k2.1.gs.length c2,.bool k2.2]),
  zF 1 (.slice (some adx) xs.length cx),
  zF 2 (.int .i64 (r : Int)),
  zF 3 (.int .i64 (j : Int)),
  zF 4 (.int .i64 (q : Int)),
  zF 5 (.pointer (some (adx.add q))),
  zF 6 (.int .i64 x),
  zF 7 (.slice (some ady) ys.length cy),
  zF 8 (.int .i64 (j : Int)),
  zF 9 (.pointer (some (ady.add j))),
  zF 10 (.int .i64 y),
  fun vs9 y9 => (fun v z => ATup F (fun b => (Value.slice B l.length d).ownBlock = some b) w g v z) (vs9 11) y9,
  fun vs9 y9 => (fun v z => ATup F (fun b => (Value.slice B l.length d).ownBlock = some b) w g v z) (vs9 12) y9,
  fun vs9 y9 => (fun v z => ANet F (fun b => (Value.slice B l.length d).ownBlock = some b) w g v z) (vs9 13) y9,
  zF 14 (.int .i64 g.2),
  fun _ _ => True,
  zF 16 (.int .i64 g.2)]
      [(0,32),(1,33),(2,34),(3,35),(4,36),(5,37),(6,38),(7,39),(8,40),(9,41),(10,42),(11,43),(12,31),(13,44),(14,45),(16,12)] (by kernel_rfl) (by kernel_rfl) (by kernel_rfl) (by kernel_rfl)
      (fun _ => Below.refl _ _) ⟨fun _ => World.grownBy.refl _ _,trivial⟩
      ⟨zU,
  zU,
  zU,
  zU,
  zU,
  zU,
  zU,
  zU,
  zU,
  zU,
  zU,
  ⟨.inr (zS (fun v z => ATup F (fun b => (Value.slice B l.length d).ownBlock = some b) w g v z) (fun _ _ _ h9 hR => h9.up HF.out hR)),⟨.inr (.inr (zS (fun v z => ATup F (fun b => (Value.slice B l.length d).ownBlock = some b) w g v z) (fun _ _ _ h9 hR => h9.st HF.out hR))),trivial⟩⟩,
  ⟨.inr (zS (fun v z => ATup F (fun b => (Value.slice B l.length d).ownBlock = some b) w g v z) (fun _ _ _ h9 hR => h9.up HF.out hR)),⟨.inr (.inr (zS (fun v z => ATup F (fun b => (Value.slice B l.length d).ownBlock = some b) w g v z) (fun _ _ _ h9 hR => h9.st HF.out hR))),trivial⟩⟩,
  ⟨.inr (zS (fun v z => ANet F (fun b => (Value.slice B l.length d).ownBlock = some b) w g v z) (fun _ _ _ h9 hR => h9.up HF.out hR)),⟨.inr (.inr (zS (fun v z => ANet F (fun b => (Value.slice B l.length d).ownBlock = some b) w g v z) (fun _ _ _ h9 hR => h9.st HF.out hR))),trivial⟩⟩,
  zU,
  ⟨.inr zK,⟨.inr (.inl rfl),trivial⟩⟩,
  zU,trivial⟩ ⟨zL,
  zL,
  zL,
  zL,
  zL,
  zL,
  zL,
  zL,
  zL,
  zL,
  zL,
  fun _ _ _ h _ v => (by simpa only [<- h] using v),
  fun _ _ _ h _ v => (by simpa only [<- h] using v),
  fun _ _ _ h _ v => (by simpa only [<- h] using v),
  zL,
  fun _ _ _ _ _ _ => trivial,
  zL,trivial⟩ (⟨fun _ => HKS.out.up HF.out (z02 (Below.refl _ _) 1),(fun h => by cases h),z09 HKS.out.ks.bel (z02 (Below.refl _ _) 1),Kept.drew _ _ 1⟩) ⟨?_,?_,?_,?_,?_,?_,?_,?_,?_,?_,?_,?_,?_,?_,?_,?_,?_,trivial⟩ ?_
     ·
      intro vals xw f hf1 hf2 hf3 hI hF; have k15 : f 15 = false:=hf3 15 (by kernel_rfl); clear hf2 hf3; dsimp only [z03,bare]; simp only [z01,Act.put,zQ]; have hv9:=(hI.1 k15).ks.var; have y0:=(z00 hv9 0).1; have y1:=(z00 hv9 1).1; have y2:=(z00 hv9 2).1
      go_wp2
      exact zX hI rfl
     iterate 3
      ·
       rintro vals xw f hf1 - - hI hF; dsimp only [z03,bare]; simp only [z01,Act.put,zQ]
       go_wp2
       exact zX hI rfl
     ·
      rintro vals xw f hf1 - - hI hF; simp only [z05,zF,zR,and_true] at hF; obtain ⟨e34,e35⟩:=hF; dsimp only [z03,bare]; simp only [z01,Act.put,zQ]; simp only [e34,e35]
      go_wp2
      exact zX hI rfl
     ·
      rintro vals xw f hf1 - - hI hF; simp only [z05,zF,zR,and_true] at hF; obtain ⟨e33,e36⟩:=hF; dsimp only [z03,bare]; simp only [z01,Act.put,zQ]; simp only [e33,e36]
      go_wp2
      exact zX hI rfl
     ·
      rintro vals xw f hf1 - - hI hF; simp only [z05,zF,zR,and_true] at hF; have e37:=hF; dsimp only [z03,bare]; simp only [z01,Act.put,zQ]; simp only [e37]; have c9:=HRX.out _ hI.2.2.1
      go_wp2
      exact zX hI rfl
     iterate 2
      ·
       rintro vals xw f hf1 - - hI hF; dsimp only [z03,bare]; simp only [z01,Act.put,zQ]
       go_wp2
       exact zX hI rfl
     ·
      rintro vals xw f hf1 - - hI hF; simp only [z05,zF,zR,and_true] at hF; obtain ⟨e39,e40⟩:=hF; dsimp only [z03,bare]; simp only [z01,Act.put,zQ]; simp only [e39,e40]
      go_wp2
      exact zX hI rfl
     ·
      rintro vals xw f hf1 - - hI hF; simp only [z05,zF,zR,and_true] at hF; have e41:=hF; dsimp only [z03,bare]; simp only [z01,Act.put,zQ]; simp only [e41]; have c9:=HRY.out _ hI.2.2.1
      go_wp2
      exact zX hI rfl
     ·
      intro vals xw f hf1 hf2 hf3 hI hF; have k15 : f 15 = false:=hf3 15 (by kernel_rfl); clear hf2 hf3; simp only [z05,zF,zR,and_true] at hF; obtain ⟨e32,e38,e42⟩:=hF; dsimp only [z03,bare]; simp only [z01,Act.put,zQ]; simp only [e32,e38,e42]; have HI:=zH hI; have HK:=zH (hI.1 k15); have hsz9:=hI.2.2.1.size; clear hI; have HC:=zH (show Calls _ _ _ _ (RetK _ xw (run opsR (andP y x) k2)) from l7And_any (G2 F w xw (fun b => (Value.slice B l.length d).ownBlock = some b)) A2 c2 k2 x y xw HK.out.ks.row (KS2.lt HK.out.ks.bel HF.out) HK.out.ks.nil HNB2.out HXR.out HYR.out); rw [<- HG.out] at HC
      go_wp2_with fail
      refine HC.out.mono ?_; rintro e wx ⟨A9,c9,rfl,h2,h3,h4⟩; have H3:=zH h3; have H4:=zH h4; clear h3 h4 HC
      go_wp2
      refine ⟨rfl,⟨A9,c9,rfl,h2,H3.out.mono ?_,Nat.le_trans hsz9 H4.out.size⟩,⟨zN rfl,fun _ => H4.out⟩,krI_up HF.out HI.out H4.out⟩; intro b hb
      rcases hb with (h9 | h9) | h9
      · exact .inl h9
      · exact .inr ⟨h9.1,Nat.lt_of_lt_of_le h9.2.1 H4.out.size,h9.2.2⟩
      · exact .inr ⟨by have:=lt_of_block HK.out.ks.res; omega,h9.2,fun e => by have:=(HK.out.own.lt b e).2; omega⟩
     ·
      rintro vals xw f hf1 - - hI hF; simp only [z05,zF,zR,and_true] at hF; obtain ⟨A9,c9,e43,h2,h3,h4⟩:=hF; dsimp only [z03,bare]; simp only [z01,Act.put,zQ]; simp only [e43]
      go_wp2
      exact ⟨rfl,⟨A9,c9,rfl,h2,h3,h4⟩,⟨zN rfl,fun _ => Below.refl _ _⟩,hI⟩
     ·
      rintro vals xw f hf1 - - hI hF; simp only [z05,zF,zR,and_true] at hF; obtain ⟨A9,c9,e31,h2,h3,h4⟩:=hF; dsimp only [z03,bare]; simp only [z01,Act.put,zQ]; simp only [e31]
      go_wp2
      exact ⟨rfl,⟨A9,c9,rfl,h2,h3,h4⟩,⟨zN rfl,fun _ => Below.refl _ _⟩,hI⟩
     ·
      rintro vals xw f hf1 - - hI hF; simp only [z05,zF,zR,and_true] at hF; obtain ⟨A9,c9,e31,h2,h3,h4⟩:=hF; dsimp only [z03,bare]; simp only [z01,Act.put,zQ]; simp only [e31]
      go_wp2
      exact zX hI rfl
     ·
      rintro vals xw f hf1 - - hI hF; simp only [z05,zF,zR,and_true] at hF; obtain ⟨A9,c9,e44,h2,h3,h4⟩:=hF; dsimp only [z03,bare]; simp only [z01,Act.put,zQ]; simp only [e44]; have HI:=zH hI; have HK:=zH (hI.1 hf1); have hv9:=HK.out.ks.var; have y0:=(z00 hv9 0).1; have y1:=(z00 hv9 1).1; have y2:=(z00 hv9 2).1; have g0:=(z00 hv9 0).2; have g1:=(z00 hv9 1).2; have g2:=(z00 hv9 2).2; have H3:=zH h3; clear hI hv9 h3 h4
      go_wp2
      have hset:=HK.out.set (c':=c9) HF.out H3.out h2; have hgr : xw.grownBy (st3 xw w.heap.size (.int .i64 g.1.1.ins) (.slice A9 g.1.1.gs.length c9) (.bool g.1.2)) (some w.heap.size):=z06 (z06 (z06 (World.grownBy.refl _ _) _ _) _ _) _ _; exact ⟨rfl,trivial,⟨fun _ => hgr,fun h9 => absurd rfl h9⟩,fun h => absurd ((z0h f 15).symm.trans h) (by simp),fun _ => ⟨A9,c9,hset⟩,z0i HI.out.2.2.1 (Nat.le_refl _) _ _ _,HI.out.2.2.2.grown hgr⟩
     ·
      rintro vals xw f hf1 - - hI hF; simp only [z05,zF,zR,and_true] at hF; have e45:=hF; dsimp only [z03,bare]; simp only [z01,Act.put,zQ]; simp only [e45]
      go_wp2
      exact zX hI rfl
     ·
      intro vals xw f hall hI hF; rw [show List.range _ = [0,1,2,3,4,5,6,7,8,9,10,11,12,13,14,15,16] from rfl] at hF; simp only [says,zF,zR,and_true] at hF; obtain ⟨A12,c12,hk2⟩:=hI.2.1 (hall 15 (by decide)); have e9 : vals 16 = .int .i64 g.2:=by obtain ⟨_,_,_,_,_,_,_,_,_,_,_,_,_,_,_,_,e9⟩:=hF; exact e9
      have K12:=zH hk2; have HKP:=zH hI.2.2.2; clear hF hk2 hI; simp only [z01,Act.put,zQ]; simp only [e9]; clear e9; have hown9:=K12.out.own; have hsz9 : w.heap.size + 2 <= xw.heap.size:=by have:=lt_of_block K12.out.ks.res; omega
      go_wp2_with (at_builtin; refine z0g (ys:=l2) (by rfl) (.tmp 46) (.tmp 48) (by rfl) (by rfl) (by rfl) hown9 (by omega) hsz9 HL2.out ?_; intro B2 d2 w2 hown2 hg2 hbk2)
      have hk3:=K12.out.ks.grown (v':=.slice B2 l2.length d2) HF.out hg2 (fun g hg => (K12.out.own.lt g hg).1) hbk2; have hr3:=(HRD.out.kept HKP.out).grown (v':=.slice B2 l2.length d2) hg2 hbk2
      go_roundw
      case rel => exact ⟨q + 1,r + 1,g.1,l2,A12,B2,c12,d2,by have:=HRQ.out; omega,by omega,by go_num,rfl,by rw [HL2.out,List.length_append,HLQ.out]; rfl,fun z hz => (List.mem_append.1 (by rw [HL2.out] at hz; exact hz)).elim (HLM.out z) (fun hz => by rw [List.mem_singleton.1 hz]; exact HGB.out.2),⟨hk3,hown2⟩,hr3,HGB.out.1,zH (by rw [HL2.out]; exact HST.out)⟩
      case measure => simp [intOf]; omega
    ·
     have hje : r = xs.length:=by omega
     subst hje; have hltq2 : ¬ ((xs.length : Nat) : Int) < xs.length:=by omega
     have hd1 : us.drop q = []:=List.drop_eq_nil_of_le (by rw [HUL.out]; omega); have hst2:=hst.out; rw [hd1] at hst2; have hst3 : C (k2,l) = T:=by rw [<- hst2]; show _ = C (k2,l ++ []); rw [List.append_nil]
     rw [HC.out] at hst3; obtain ⟨u,hu⟩ : ∃ u,u = run opsR (sumP s1 l (-1)) k2:=⟨_,rfl⟩; have HUB : Hid (NB u.1.1 /\ (∀ m ∈ u.2,RB m) /\ u.2.length = s1.length):=zH (by rw [hu]; exact bd_runR (Φ:=fun l9 => (∀ m ∈ l9,RB m) /\ l9.length = s1.length) _ _ (sum_bd z2d _ _ _ _ z2d.off HSM.out HLM.out fun l9 h9 h8 => ⟨h9,h8 (by rw [HSL.out,HLQ.out])⟩) HNB2.out); have HCA:=zH (l7Add_any (G2 F w wr (fun b => (Value.slice B l.length d).ownBlock = some b)) A2 c2 k2 (-1) Sp B sc d s1 l wr HKS.out.ks.row (KS2.lt HKS.out.ks.bel HF.out) HKS.out.ks.nil HNB2.out z2d.off HRD.out.rd HKS.out.own.rd HSM.out HLM.out (by rw [HSL.out,HLQ.out]) (by rw [HSL.out]; omega)); rw [<- hu] at HCA; have HST2 : Hid (run opsR (mulP xs (ys.drop (j + 1)) (j + 1) u.2) u.1 = T):=zH (by rw [hu]; exact hst3); clear hst hst2 hst3 hd1 hu hrq; have hv9:=HKS.out.ks.var; have y0:=(z00 hv9 0).1; have y1:=(z00 hv9 1).1; have y2:=(z00 hv9 2).1; clear hv9
     go_wp2_with fail
     refine HCA.out.mono ?_; rintro e z3 ⟨A3,c3,B3,d3,rfl,hn9,hs9,hcap9,hsl9,hm9,hb9⟩; have hv9:=(hb9.block _ (lt_of_block HKS.out.ks.var)).trans HKS.out.ks.var; clear y0 y1 y2 HCA; have y0:=(z00 hv9 0).1; have y1:=(z00 hv9 1).1; have y2:=(z00 hv9 2).1; have g0:=(z00 hv9 0).2; have g1:=(z00 hv9 1).2; have g2:=(z00 hv9 2).2; have K9:=HKS.out.call (c':=c3) HF.out hs9 hb9 hn9; have HR9 : Hid (RdI w (st3 z3 w.heap.size (.int .i64 u.1.1.ins) (.slice A3 u.1.1.gs.length c3) (.bool u.1.2)) (fun _ => False) B3 u.2):=zH ((z1a (h:=w.heap.size) hsl9 (fun b hb => by have:=lt_of_block HKS.out.ks.res; omega) _ _ _).mono fun b hb => ⟨by have:=lt_of_block HKS.out.ks.res; omega,by rw [z0o]; exact hb.2,fun e => e⟩); dsimp only [st3] at K9 HR9; have K9:=zH K9; have HCAP9:=zH hcap9; have HM9:=zH hm9; clear hs9 hb9 hn9 hv9 hsl9 hcap9 hm9
     go_wp2
     go_roundw
     case rel => exact ⟨j + 1,u.1,u.2,A3,B3,c3,d3,by omega,by go_num,rfl,by rw [HUB.out.2.2,HSL.out],HCAP9.out,HM9.out,K9.out.ks.free,HR9.out,HUB.out.1,HST2⟩
     case measure => simp [intOf]; omega
  ·
   have hje : j = ys.length:=by omega
   subst hje; have hlt2 : ¬ ((ys.length : Nat) : Int) < ys.length:=by omega
   have hd1 : ys.drop ys.length = []:=List.drop_length; have hst2:=hst.out; rw [hd1] at hst2; have hT2 : T = (k1,s1):=by rw [<- hst2]; rfl
   have HT2:=zH hT2; clear hst hst2 hT2 hd1; have hv9:=HKS.out.var; have y0:=(z00 hv9 0).1; have y1:=(z00 hv9 1).1; have y2:=(z00 hv9 2).1; have hr9:=HKS.out.res; have r0:=(z00 hr9 0).1; have r1:=(z00 hr9 1).1; have r2:=(z00 hr9 2).1; have rf0:=(z00 hr9 0).2; have rf1:=(z00 hr9 1).2; have rf2:=(z00 hr9 2).2; clear hv9 hr9
   go_wp2
   have hs:=z0s HKS.out.res (.int .i64 k1.1.ins) (.slice A1 k1.1.gs.length c1) (.bool k1.2); have k5:=(z00 hs 0).1; have k6:=(z00 hs 1).1; have k7:=(z00 hs 2).1; have kf5:=(z00 hs 0).2; have kf6:=(z00 hs 1).2; have kf7:=(z00 hs 2).2; refine bodyPost_ret (v:=.tuple #[.agg #[.int .i64 k1.1.ins,.slice A1 k1.1.gs.length c1,.bool k1.2],.slice Sp s1.length sc]) (by simp [results,Tryz.results90,go_sem,k5,k6,k7,kf5,kf6,kf7]) rfl ?_; rw [HT2.out]; refine ⟨A1,c1,Sp,sc,rfl,HKS.out.nil,(z1a (h:=w.heap.size + 1) HKS.out.row (fun b hb => ?_) _ _ _).mono (fun b hb => ?_),HCAP.out,(z1a (h:=w.heap.size + 1) HRD.out (fun b hb => by omega) _ _ _).mono (fun b hb => by rw [z0o]; omega),HSM.out,z0i HKS.out.bel (by omega) _ _ _⟩
   ·
    rcases hb with hb | hb
    · have:=HF.out b hb; omega
    · omega
   ·
    rw [z0o]; exact hb.imp id fun h9 => ⟨by omega,h9.2.1⟩
def smallN (m : Nat) (n : N) : Prop:=0 <= n.ins /\ n.ins <= 8 /\ n.gs.length <= m /\ okInts n
theorem smallN.mono {m k : Nat} {n : N} (h : smallN m n) (hk : m <= k) : smallN k n:=⟨h.1,h.2.1,Nat.le_trans h.2.2.1 hk,h.2.2.2⟩
theorem put_small {m : Nat} {n : N} {g : G} (h : smallN m n) (hg : okGi g) : smallN (m + 1) (put n g).1:=by
 obtain ⟨h0,h1,h2,h3⟩:=h; unfold put
 split
 · exact ⟨h0,h1,by show n.gs.length <= _; omega,h3⟩
 ·
  split
  · exact ⟨by decide,by decide,Nat.zero_le _,fun g hg => by cases hg⟩
  ·
   refine ⟨h0,h1,by show (n.gs ++ [g]).length <= _; simp; omega,fun g' hg' => ?_⟩
   rcases List.mem_append.1 hg' with hg' | hg'
   · exact h3 g' hg'
   · rw [List.mem_singleton.1 hg']; exact hg
theorem and1_small {m : Nat} {n : N} {a b : Int} (h : smallN m n) (ha : z15 a) (hb : z15 b) : smallN (m + 1) (and1 n a b).1:=by
 unfold z15 at ha hb; unfold and1
 repeat' split
 all_goals first | exact h.mono (by omega) | exact put_small h ⟨ha,hb⟩ | exact put_small h ⟨hb,ha⟩
set_option maxHeartbeats 1000000 in
theorem l6Lit_any (r : Nat) (p : Int) (n : N) (A : Option Addr) (c : Nat) (w : World) (h : Rdr w r p) (hn : n.gs.length <= 1048576) (h0 : -1000000 <= n.ins) (h1 : n.ins <= 1000000) (p0 : 0 <= p) (p1 : p <= 900000000) :
  Calls Tryz.prog 48 #[.pointer (some ⟨r,0,none⟩),.agg #[.int .i64 n.ins,.slice A n.gs.length c]] w
   fun e w' => ∃ m,e = .returned (.int .i64 m) /\ (m ≠ 0 /\ -3000000 <= m /\ m <= 3000000 /\ (0 <= n.ins -> z07 n m = true)) /\ Drawn r p 2 w w':=by
 have hal : Below w.heap.size w (w.alloc (.cells #[.int .i64 n.ins,.slice A n.gs.length c] 29)):=(Below.refl _ _).alloc (Nat.le_refl _) _; have hR:=h.up hal; have HAL:=zH hal; clear h hal
 go_enter Tryz.func48,Tryz.ntmps48
 go_wp2_with fail
 generalize w.alloc (.cells #[.int .i64 n.ins,.slice A n.gs.length c] 29) = w0 at *; refine (l6Many_any A c n.gs.length n.ins w0 hn h0 h1).mono ?_; rintro e w1 ⟨rfl,hb1⟩; have hR1:=hR.up hb1; have hbw:=z09 HAL.out hb1; clear hR hb1 HAL
 go_wp2_with fail
 refine (z17 r p (1 + n.ins + n.gs.length) w1 hR1 p0 (by omega) (by omega) (by omega)).mono ?_; rintro e w2 ⟨k,rfl,k0,k1,k2,hR2,hg2⟩; have hg2:=(Gr.below (S:=fun b => b = r) hbw).trans (Gr.one hg2 rfl); have hk : 1 + k <= 2100000 /\ (0 <= n.ins -> 1 + k <= 1 + n.ins + n.gs.length):=by
  by_cases h9 : 1 <= 1 + n.ins + (n.gs.length : Int)
  · have:=k1 h9; omega
  · have:=k2 (by omega); omega
 obtain ⟨hk1,hk2⟩:=hk; clear k1 k2 hR1 hbw
 go_wp2_with fail
 refine (z17 r (p + 1) 2 w2 hR2 (by omega) (by omega) (by omega) (by omega)).mono ?_; rintro e w3 ⟨j,rfl,j0,j1,_,hR3,hg3⟩; have hg3:=hg2.trans (Gr.one hg3 rfl); have HD : Hid (Drawn r p 2 w w3):=zH ⟨p + 1 + 1,by omega,by omega,hR3,hg3⟩; have HK:=zH hk2; clear hg2 hg3 hR2 hR3 j1 hk2
 by_cases hz : j = 0
 ·
  subst hz; have e1 : IntKind.i64.wrap (-(1 + k)) = -(1 + k):=IntWalk.i64_in _ (by omega)
  go_wp2
  go_ret
  exact ⟨-(1 + k),rfl,⟨by omega,by omega,by omega,fun h9 => z0j.2 (by have:=HK.out h9; omega)⟩,HD.out⟩
 ·
  have hzb : (j == 0) = false:=by simpa using hz
  clear hz
  go_wp2
  go_ret
  exact ⟨1 + k,rfl,⟨by omega,by omega,by omega,fun h9 => z0j.2 (by have:=HK.out h9; omega)⟩,HD.out⟩
def RetDN (S0 : Nat -> Prop) (r : Nat) (p M : Int) (ok : N -> Prop) (w : World) (e : Ending) (w' : World) : Prop :=
 ∃ n A c,e = .returned (.agg #[.int .i64 (N.ins n),.slice A (N.gs n).length c]) /\ Lay.gate.Sl w' (Ab S0 w') A n.gs /\ ok n /\ Drawn r p M w w'
theorem sl_made {S : Nat -> Prop} {w w' : World} {A : Option Addr} {gs : List G} (h : Lay.gate.Sl w' (fun b => Ab S w b \/ (w.heap.size <= b /\ b < w'.heap.size)) A gs) (hS : ∀ b,S b -> b < w.heap.size) (hb : Below w.heap.size w w') : Lay.gate.Sl w' (Ab S w') A gs :=
 h.mono fun b hb' => by
  rcases hb' with h1 | h1
  · exact ⟨Nat.lt_of_lt_of_le h1.1 hb.size,h1.2⟩
  · exact ⟨h1.2,fun e => by have:=hS b e; omega⟩
def NetIn (P : N -> Prop) (S : Nat -> Prop) (b : Nat) (x : World) : Prop:=∃ n A c,x.heap[b]? = some (.cells #[.int .i64 (N.ins n),.slice A (N.gs n).length c] 29 (0,0)) /\ P n /\ Lay.gate.Sl x (Ab S x) A n.gs
theorem NetIn.gr {P : N -> Prop} {S T : Nat -> Prop} {b : Nat} {x x' : World} (h : NetIn P S b x) (hg : Gr T x x') (hb : ¬ T b) (hT : ∀ b,T b -> S b) : NetIn P S b x':=by
 obtain ⟨n,A,c,h1,h2,h3⟩:=h; exact ⟨n,A,c,hg.heap hb h1,h2,h3.gr (hg.mono hT)⟩
variable {P : N -> Prop} {S T : Nat -> Prop} {r b3 N9 n : Nat} {q M : Int} {w x x' : World} {o : Obj}
end Go.Proofs.YtemdmlmcidfodaaGreatDoor
