/- The program's signals that are off; its operations on one list. -/
import Derived.Test.YtemdmlmcidfodaaGreatDoorJFnBitsBin0
import Derived.Test.YtemdmlmcidfodaaGreatDoorJFnBitsBin13
import Derived.Test.YtemdmlmcidfodaaGreatDoorJFnBitsBin14
namespace Go.Proofs.YtemdmlmcidfodaaGreatDoor
open Go Go.RowKit
theorem run_sum {σ : Type} {o : Ops σ} (xs ys : List Int) (k : Nat) (x y : Int) (hx : xs[k]? = some x) (hy : ys[k]? = some y) (s : σ) (c : Int) (l : List Int) :
  (let r:=run o (sumP (xs.drop k) (ys.drop k) c) s; (r.1,l ++ r.2)) = (let m:=o.xor s x y; let u:=o.xor m.1 m.2 c; let p:=o.and u.1 x y; let q:=o.and p.1 m.2 c; let g:=run o (orP p.2 q.2) q.1; let r:=run o (sumP (xs.drop (k + 1)) (ys.drop (k + 1)) g.2) g.1; (r.1,(l ++ [u.2]) ++ r.2)):=by
 obtain ⟨hk,rfl⟩:=List.getElem?_eq_some_iff.1 hx; obtain ⟨hk',rfl⟩:=List.getElem?_eq_some_iff.1 hy; rw [List.drop_eq_getElem_cons hk,List.drop_eq_getElem_cons hk']; simp only [sumP,run_bind,run,List.append_assoc,List.singleton_append]
theorem or_rb {x y : Int} {k : N × Bool} (h : NB k.1) (hx : RB x) (hy : RB y) : NB (run opsR (orP x y) k).1.1 /\ RB (run opsR (orP x y) k).2:=by
 have h3 : NB (opsR.and k (-x) (-y)).1.1 /\ RB (opsR.and k (-x) (-y)).2:=z2g h (and1_nb h hx.neg hy.neg); exact ⟨h3.1,h3.2.neg⟩
theorem wpList_append_int7 {Q : Exit -> Act -> World -> Prop} {ops : Array Oper} {rest : List Oper} {o : Oper} {a : Act} {W : World} {lo b : Nat} {A : Option Addr} {c : Nat} {xs ys : List Int} {x : Int} {e' : TypeId} (hgd : o.guard = none) (s y : Operand)
  (ho : o.op = .call { callee:=.builtin .append,args:=#[s,y],argTypes:=#[34,34] }) (hs : a.eval s = .slice A xs.length c) (hy : a.eval y = .slice (some ⟨b,0,none⟩) 1 1) (hb : b = W.heap.size)
  (hown : OwnI W lo (.slice A xs.length c) xs) (hn : xs.length <= 2000000) (hlo : lo <= W.heap.size) (hys : ys = xs ++ [x])
  (h : ∀ A' c' w',OwnI w' lo (.slice A' ys.length c') ys -> W.grownBy w' (Value.slice A xs.length c).ownBlock →
   ((Value.slice A' ys.length c').ownBlock = (Value.slice A xs.length c).ownBlock \/ ∃ g,(Value.slice A' ys.length c').ownBlock = some g /\ W.heap.size <= g) -> wpList Tryz.prog ops Q rest (a.put o.dst (.slice A' ys.length c')) w') :
  wpList Tryz.prog ops Q (o :: rest) a (W.alloc (.cells #[.int .i64 x] e')):=by
 subst hb; exact z0g hgd s y ho hs hy hown hn hlo hys h
structure AddI (F : Nat -> Prop) (w x : World) (k : N × Bool) (A : Option Addr) (c : Nat) (B : Option Addr) (d : Nat) (l : List Int) : Prop where
 ks : KS2 F w x k A c (fun b => (Value.slice B l.length d).ownBlock = some b)
 own : OwnI x (w.heap.size + 2) (.slice B l.length d) l
theorem AddI.up {F : Nat -> Prop} {w x x' : World} {k : N × Bool} {A : Option Addr} {c : Nat} {B : Option Addr} {d : Nat} {l : List Int} (h : AddI F w x k A c B d l) (hF : ∀ b,F b -> b < w.heap.size) (hb : Below x.heap.size x x') : AddI F w x' k A c B d l:=⟨h.ks.up hF hb,h.own.up hb⟩
theorem AddI.set {F : Nat -> Prop} {w x : World} {k k' : N × Bool} {A A' : Option Addr} {c c' : Nat} {B : Option Addr} {d : Nat} {l : List Int} (h : AddI F w x k A c B d l) (hF : ∀ b,F b -> b < w.heap.size) (hs : Lay.gate.Sl x (G2 F w x (fun b => (Value.slice B l.length d).ownBlock = some b)) A' k'.1.gs) (hn : A' = none -> k'.1.gs.length = 0) :
  AddI F w (st3 x w.heap.size (.int .i64 k'.1.ins) (.slice A' k'.1.gs.length c') (.bool k'.2)) k' A' c' B d l:=by
 have hgr : x.grownBy (st3 x w.heap.size (.int .i64 k'.1.ins) (.slice A' k'.1.gs.length c') (.bool k'.2)) (some w.heap.size):=z06 (z06 (z06 (World.grownBy.refl _ _) _ _) _ _) _ _; exact ⟨h.ks.set hF hs hn,z1d h.own fun g hg => hgr.block g (h.own.lt g hg).2 (fun e => by injection e with e; have:=(h.own.lt g hg).1; omega)⟩
theorem AddI.call {F : Nat -> Prop} {w x x' : World} {k k' : N × Bool} {A A' : Option Addr} {c c' : Nat} {B : Option Addr} {d : Nat} {l : List Int} (h : AddI F w x k A c B d l) (hF : ∀ b,F b -> b < w.heap.size) (hs : Lay.gate.Sl x' (fun b => G2 F w x (fun b => (Value.slice B l.length d).ownBlock = some b) b \/ (x.heap.size <= b /\ b < x'.heap.size)) A' k'.1.gs) (hb : Below x.heap.size x x') (hn : A' = none -> k'.1.gs.length = 0) :
  AddI F w (st3 x' w.heap.size (.int .i64 k'.1.ins) (.slice A' k'.1.gs.length c') (.bool k'.2)) k' A' c' B d l:=by
 refine (h.up hF hb).set hF (hs.mono fun b hb' => ?_) hn; have hr:=lt_of_block h.ks.res
 rcases hb' with (h9 | h9) | h9
 · exact .inl h9
 · exact .inr ⟨h9.1,Nat.lt_of_lt_of_le h9.2.1 hb.size,h9.2.2⟩
 · exact .inr ⟨by omega,h9.2,fun e => by have:=(h.own.lt b e).2; omega⟩
def ATup (F S : Nat -> Prop) (w : World) (m : (N × Bool) × Int) (v : Value) (z : World) : Prop:=∃ A2 c2,v = .tuple #[.agg #[.int .i64 m.1.1.ins,.slice A2 m.1.1.gs.length c2,.bool m.1.2],.int .i64 m.2] /\ (A2 = none -> m.1.1.gs.length = 0) /\ Lay.gate.Sl z (G2 F w z S) A2 m.1.1.gs /\ w.heap.size <= z.heap.size
def ANet (F S : Nat -> Prop) (w : World) (m : (N × Bool) × Int) (v : Value) (z : World) : Prop:=∃ A2 c2,v = .agg #[.int .i64 m.1.1.ins,.slice A2 m.1.1.gs.length c2,.bool m.1.2] /\ (A2 = none -> m.1.1.gs.length = 0) /\ Lay.gate.Sl z (G2 F w z S) A2 m.1.1.gs /\ w.heap.size <= z.heap.size
theorem g2_stS {F S : Nat -> Prop} {w x y : World} {A : Option Addr} {gs : List G} (hF : ∀ b,F b -> b < w.heap.size) (h3 : Lay.gate.Sl x (G2 F w x S) A gs) (h4 : w.heap.size <= x.heap.size) (hR : x.grownBy y (some w.heap.size)) : Lay.gate.Sl y (G2 F w y S) A gs :=
 (h3.keep fun b hb => hR.block b (hb.elim (fun h9 => Nat.lt_of_lt_of_le (hF b h9) h4) (fun h9 => h9.2.1)) (fun e => by injection e with e; exact hb.elim (fun h9 => by have:=hF b h9; omega) (fun h9 => by omega))).mono fun b hb => hb.imp id fun h9 => ⟨h9.1,Nat.lt_of_lt_of_le h9.2.1 hR.size,h9.2.2⟩
theorem ATup.up {F S : Nat -> Prop} {w x y : World} {m : (N × Bool) × Int} {v : Value} (hF : ∀ b,F b -> b < w.heap.size) (h : ATup F S w m v x) (hb : Below x.heap.size x y) : ATup F S w m v y:=by
 obtain ⟨A2,c2,h1,h2,h3,h4⟩:=h; exact ⟨A2,c2,h1,h2,G2.up2 h3 (fun b hb => Nat.lt_of_lt_of_le (hF b hb) h4) hb,Nat.le_trans h4 hb.size⟩
theorem ATup.st {F S : Nat -> Prop} {w x y : World} {m : (N × Bool) × Int} {v : Value} (hF : ∀ b,F b -> b < w.heap.size) (h : ATup F S w m v x) (hR : x.grownBy y (some w.heap.size)) : ATup F S w m v y:=by
 obtain ⟨A2,c2,h1,h2,h3,h4⟩:=h; exact ⟨A2,c2,h1,h2,g2_stS hF h3 h4 hR,Nat.le_trans h4 hR.size⟩
theorem ANet.up {F S : Nat -> Prop} {w x y : World} {m : (N × Bool) × Int} {v : Value} (hF : ∀ b,F b -> b < w.heap.size) (h : ANet F S w m v x) (hb : Below x.heap.size x y) : ANet F S w m v y:=by
 obtain ⟨A2,c2,h1,h2,h3,h4⟩:=h; exact ⟨A2,c2,h1,h2,G2.up2 h3 (fun b hb => Nat.lt_of_lt_of_le (hF b hb) h4) hb,Nat.le_trans h4 hb.size⟩
theorem ANet.st {F S : Nat -> Prop} {w x y : World} {m : (N × Bool) × Int} {v : Value} (hF : ∀ b,F b -> b < w.heap.size) (h : ANet F S w m v x) (hR : x.grownBy y (some w.heap.size)) : ANet F S w m v y:=by
 obtain ⟨A2,c2,h1,h2,h3,h4⟩:=h; exact ⟨A2,c2,h1,h2,g2_stS hF h3 h4 hR,Nat.le_trans h4 hR.size⟩
set_option maxRecDepth 100000 in
set_option maxHeartbeats 8000000 in
theorem l7Add_any (F : Nat -> Prop) (A : Option Addr) (c : Nat) (k : N × Bool) (c0 : Int) (X Y : Option Addr) (cx cy : Nat) (xs ys : List Int) (w : World) (h : Lay.gate.Sl w F A k.1.gs) (hF : ∀ b,F b -> b < w.heap.size) (hA : A = none -> k.1.gs.length = 0) (hnb : NB k.1) (hc : RB c0) (hX : Lay.int.Rd w X xs) (hY : Lay.int.Rd w Y ys) (hxm : ∀ x ∈ xs,RB x) (hym : ∀ y ∈ ys,RB y) (hl : xs.length = ys.length) (hn : xs.length <= 1000) :
  Calls Tryz.prog 88 #[.agg #[.int .i64 k.1.ins,.slice A k.1.gs.length c,.bool k.2],.slice X xs.length cx,.slice Y ys.length cy,.int .i64 c0] w (RetKL F w (run opsR (sumP xs ys c0) k)):=by
 obtain ⟨T,hT⟩ : ∃ T,T = run opsR (sumP xs ys c0) k:=⟨_,rfl⟩; rw [<- hT]; have HT:=zH hT; have K0:=KS.two (c:=c) h hF hA; have HRW:=zH (h.below K0.bel hF); have HNIL:=zH hA; have HF:=zH hF; have HNB:=zH hnb; have HX:=zH hX; have HY:=zH hY; have HXM:=zH hxm; have HYM:=zH hym; have HL:=zH hl; have HC0:=zH hc; have K0:=zH K0; have hX0s : ((w.alloc (.cells #[.int .i64 k.1.ins,.slice A k.1.gs.length c,.bool k.2] 85)).alloc (.cells #[.int .i64 0,.slice none 0 0,.bool false] 85)).heap.size = w.heap.size + 2:=by simp
 clear h hA hnb hX hY hxm hym hc hT; rw [<- hl]; clear hl
 go_enter Tryz.func88,Tryz.ntmps88
 go_wp2
 generalize hX0 : (w.alloc (.cells #[.int .i64 k.1.ins,.slice A k.1.gs.length c,.bool k.2] 85)).alloc (.cells #[.int .i64 0,.slice none 0 0,.bool false] 85) = X0 at *; clear hX0; have hal : Below X0.heap.size X0 (X0.alloc (.cells #[] 3)):=(Below.refl _ _).alloc (Nat.le_refl _) _; have hown0 : OwnI (X0.alloc (.cells #[] 3)) (w.heap.size + 2) (.slice (some ⟨w.heap.size + 1 + 1,0,none⟩) 0 0) []:=z18 hX0s; have K1:=zH (K0.out.up HF.out hal); have HO0:=zH hown0; have HRW:=zH (HRW.out.below hal (fun b hb => by have:=HF.out b hb; omega)); clear hal hown0 K0
 go_loopw [10,11,3] (fun out i cv wr => ∃ (j : Nat) (k1 : N × Bool) (l : List Int) (A1 B : Option Addr) (c1 d : Nat) (cc : Int),j <= xs.length /\ i = .int .i64 j /\ out = .slice B l.length d /\ cv = .int .i64 cc /\ RB cc /\ l.length = j /\ (∀ m ∈ l,RB m) /\ AddI F w wr k1 A1 c1 B d l /\ NB k1.1 /\ Hid ((let z:=run opsR (sumP (xs.drop j) (ys.drop j) cc) k1; (z.1,l ++ z.2)) = T)) (fun _ i _ _ => xs.length - (intOf i).toNat)
 case atStart => exact ⟨0,k,[],A,some ⟨w.heap.size + 1 + 1,0,none⟩,c,0,c0,Nat.zero_le _,rfl,rfl,rfl,HC0.out,rfl,(fun _ h => by cases h),⟨⟨K1.out.bel,K1.out.var,K1.out.res,HRW.out.mono fun _ => .inl,HNIL.out⟩,HO0.out⟩,HNB.out,zH (by rw [HT.out]; rfl)⟩
 case round =>
  obtain ⟨j,k1,l,A1,B,c1,d,cc,hj,rfl,rfl,rfl,hcc,hlj,hlm,hks,hnb1,hst⟩:=hrel; have HCC:=zH hcc; have HLM:=zH hlm; have HKS:=zH hks; have HLJ:=zH hlj; have HNB1:=zH hnb1; clear hlm hks hlj hnb1 hcc
  by_cases hlt : j < xs.length
  ·
   have hlt2 : (j : Int) < xs.length:=by omega
   have hlty : j < ys.length:=by rw [<- HL.out]; exact hlt
   obtain ⟨x,hx⟩ : ∃ x,xs[j]? = some x:=⟨_,List.getElem?_eq_getElem hlt⟩; obtain ⟨y,hy⟩ : ∃ y,ys[j]? = some y:=⟨_,List.getElem?_eq_getElem hlty⟩; have hxg : xs[j] = x:=(List.getElem?_eq_some_iff.1 hx).2; have hyg : ys[j] = y:=(List.getElem?_eq_some_iff.1 hy).2; have HXYM:=zH (And.intro (HXM.out x (List.mem_of_getElem? hx)) (HYM.out y (List.mem_of_getElem? hy))); obtain ⟨adx,rfl,-,-⟩:=HX.out.at_int hlt; obtain ⟨ady,rfl,-,-⟩:=HY.out.at_int hlty; have HST:=zH ((run_sum (o:=opsR) xs ys j x y hx hy k1 cc l).symm.trans hst.out); have HRX : Hid (∀ z,Below w.heap.size w z -> z.cell? (adx.add j) = some (.int .i64 x)):=zH fun z hz => by
    obtain ⟨ad,e,_,hc⟩:=(HX.out.up hz).at_int hlt
    injection e with e; subst e; rw [<- hxg]; exact hc
   have HRY : Hid (∀ z,Below w.heap.size w z -> z.cell? (ady.add j) = some (.int .i64 y)):=zH fun z hz => by
    obtain ⟨ad,e,_,hc⟩:=(HY.out.up hz).at_int hlty
    injection e with e; subst e; rw [<- hyg]; exact hc
   have hll : l.length <= 1000:=by have:=HLJ.out; omega
   clear hx hy hxg hyg hst hlty; obtain ⟨m,h9⟩ : ∃ m,m = opsR.xor k1 x y:=⟨_,rfl⟩; have HM:=zH h9; have HMB : Hid (NB m.1.1 /\ RB m.2):=zH (by rw [h9]; exact opsR_xor_nb HNB1.out HXYM.out.1 HXYM.out.2); clear h9; obtain ⟨u,h9⟩ : ∃ u,u = opsR.xor m.1 m.2 cc:=⟨_,rfl⟩; have HU:=zH h9; have HUB : Hid (NB u.1.1 /\ RB u.2):=zH (by rw [h9]; exact opsR_xor_nb HMB.out.1 HMB.out.2 HCC.out); clear h9; obtain ⟨p,h9⟩ : ∃ p,p = opsR.and u.1 x y:=⟨_,rfl⟩; have HP:=zH h9; have HPB : Hid (NB p.1.1 /\ RB p.2):=zH (by rw [h9]; exact opsR_and_nb HUB.out.1 HXYM.out.1 HXYM.out.2); clear h9; obtain ⟨q,h9⟩ : ∃ q,q = opsR.and p.1 m.2 cc:=⟨_,rfl⟩; have HQ:=zH h9; have HQB : Hid (NB q.1.1 /\ RB q.2):=zH (by rw [h9]; exact opsR_and_nb HPB.out.1 HMB.out.2 HCC.out); clear h9; obtain ⟨g,h9⟩ : ∃ g,g = run opsR (orP p.2 q.2) q.1:=⟨_,rfl⟩; have HG:=zH h9; have HGB : Hid (NB g.1.1 /\ RB g.2):=zH (by rw [h9]; exact or_rb HQB.out.1 HPB.out.2 HQB.out.2); clear h9; have HST : Hid ((let r:=run opsR (sumP (xs.drop (j + 1)) (ys.drop (j + 1)) g.2) g.1; (r.1,(l ++ [u.2]) ++ r.2)) = T):=zH (by rw [HG.out,HQ.out,HP.out,HU.out,HM.out]; exact HST.out); obtain ⟨l2,hl2⟩ : ∃ l2,l2 = l ++ [u.2]:=⟨_,rfl⟩; have HL2:=zH hl2; clear hl2
   go_wp2
   refine z0a [[],[],[],[(1,25),(2,26)],[(3,27)],[],[],[(5,29),(6,30)],[(7,31)],[(0,24),(4,28),(8,32)],[(9,33)],[(10,23)],[(10,23)],[(11,34)],[(12,35)]]
    (fun x9 y9 => Below x9.heap.size x9 y9)
    [(13,fun x9 y9 => x9.grownBy y9 (some w.heap.size))]
    (fun f9 x9 => (f9 13 = false -> AddI F w x9 k1 A1 c1 B d l) /\ (f9 13 = true -> ∃ A9 c9,AddI F w x9 m.1 A9 c9 B d l) /\ Below w.heap.size w x9)
    [zF 0 (.agg #[.int .i64 k1.1.ins,.slice A1 k1.1.gs.length c1,.bool k1.2]),
  zF 1 (.slice (some adx) xs.length cx),
  zF 2 (.int .i64 (j : Int)),
  zF 3 (.pointer (some (adx.add j))),
  zF 4 (.int .i64 x),
  zF 5 (.slice (some ady) xs.length cy),
  zF 6 (.int .i64 (j : Int)),
  zF 7 (.pointer (some (ady.add j))),
  zF 8 (.int .i64 y),
  fun vs9 y9 => (fun v z => ATup F (fun b => (Value.slice B l.length d).ownBlock = some b) w m v z) (vs9 9) y9,
  fun vs9 y9 => (fun v z => ATup F (fun b => (Value.slice B l.length d).ownBlock = some b) w m v z) (vs9 10) y9,
  fun vs9 y9 => (fun v z => ANet F (fun b => (Value.slice B l.length d).ownBlock = some b) w m v z) (vs9 11) y9,
  zF 12 (.int .i64 m.2),
  fun _ _ => True,
  zF 14 (.int .i64 m.2)]
    [(0,24),(1,25),(2,26),(3,27),(4,28),(5,29),(6,30),(7,31),(8,32),(9,33),(10,23),(11,34),(12,35),(14,12)] (by kernel_rfl) (by kernel_rfl) (by kernel_rfl) (by kernel_rfl)
    (fun _ => Below.refl _ _) ⟨fun _ => World.grownBy.refl _ _,trivial⟩
    ⟨zU,
  zU,
  zU,
  zU,
  zU,
  zU,
  zU,
  zU,
  zU,
  ⟨.inr (zS (fun v z => ATup F (fun b => (Value.slice B l.length d).ownBlock = some b) w m v z) (fun _ _ _ h9 hR => h9.up HF.out hR)),⟨.inr (.inr (zS (fun v z => ATup F (fun b => (Value.slice B l.length d).ownBlock = some b) w m v z) (fun _ _ _ h9 hR => h9.st HF.out hR))),trivial⟩⟩,
  ⟨.inr (zS (fun v z => ATup F (fun b => (Value.slice B l.length d).ownBlock = some b) w m v z) (fun _ _ _ h9 hR => h9.up HF.out hR)),⟨.inr (.inr (zS (fun v z => ATup F (fun b => (Value.slice B l.length d).ownBlock = some b) w m v z) (fun _ _ _ h9 hR => h9.st HF.out hR))),trivial⟩⟩,
  ⟨.inr (zS (fun v z => ANet F (fun b => (Value.slice B l.length d).ownBlock = some b) w m v z) (fun _ _ _ h9 hR => h9.up HF.out hR)),⟨.inr (.inr (zS (fun v z => ANet F (fun b => (Value.slice B l.length d).ownBlock = some b) w m v z) (fun _ _ _ h9 hR => h9.st HF.out hR))),trivial⟩⟩,
  zU,
  ⟨.inr zK,⟨.inr (.inl rfl),trivial⟩⟩,
  zU,trivial⟩ ⟨zL,
  zL,
  zL,
  zL,
  zL,
  zL,
  zL,
  zL,
  zL,
  fun _ _ _ h _ v => (by simpa only [<- h] using v),
  fun _ _ _ h _ v => (by simpa only [<- h] using v),
  fun _ _ _ h _ v => (by simpa only [<- h] using v),
  zL,
  fun _ _ _ _ _ _ => trivial,
  zL,trivial⟩ (⟨fun _ => HKS.out.up HF.out (z02 (Below.refl _ _) 1),(fun h => by cases h),z09 HKS.out.ks.bel (z02 (Below.refl _ _) 1)⟩) ⟨?_,?_,?_,?_,?_,?_,?_,?_,?_,?_,?_,?_,?_,?_,?_,trivial⟩ ?_
   ·
    intro vals xw f hf1 hf2 hf3 hI hF; have k13 : f 13 = false:=hf3 13 (by kernel_rfl); clear hf2 hf3; dsimp only [z03,bare]; simp only [z01,Act.put,zQ]; have hv9:=(hI.1 k13).ks.var; have y0:=(z00 hv9 0).1; have y1:=(z00 hv9 1).1; have y2:=(z00 hv9 2).1
    go_wp2
    exact zX hI rfl
   iterate 2
    ·
     rintro vals xw f hf1 - - hI hF; dsimp only [z03,bare]; simp only [z01,Act.put,zQ]
     go_wp2
     exact zX hI rfl
   ·
    rintro vals xw f hf1 - - hI hF; simp only [z05,zF,zR,and_true] at hF; obtain ⟨e25,e26⟩:=hF; dsimp only [z03,bare]; simp only [z01,Act.put,zQ]; simp only [e25,e26]
    go_wp2
    exact zX hI rfl
   ·
    rintro vals xw f hf1 - - hI hF; simp only [z05,zF,zR,and_true] at hF; have e27:=hF; dsimp only [z03,bare]; simp only [z01,Act.put,zQ]; simp only [e27]; have c9:=HRX.out _ hI.2.2
    go_wp2
    exact zX hI rfl
   iterate 2
    ·
     rintro vals xw f hf1 - - hI hF; dsimp only [z03,bare]; simp only [z01,Act.put,zQ]
     go_wp2
     exact zX hI rfl
   ·
    rintro vals xw f hf1 - - hI hF; simp only [z05,zF,zR,and_true] at hF; obtain ⟨e29,e30⟩:=hF; dsimp only [z03,bare]; simp only [z01,Act.put,zQ]; simp only [e29,e30]
    go_wp2
    exact zX hI rfl
   ·
    rintro vals xw f hf1 - - hI hF; simp only [z05,zF,zR,and_true] at hF; have e31:=hF; dsimp only [z03,bare]; simp only [z01,Act.put,zQ]; simp only [e31]; have c9:=HRY.out _ hI.2.2
    go_wp2
    exact zX hI rfl
   ·
    intro vals xw f hf1 hf2 hf3 hI hF; have k13 : f 13 = false:=hf3 13 (by kernel_rfl); clear hf2 hf3; simp only [z05,zF,zR,and_true] at hF; obtain ⟨e24,e28,e32⟩:=hF; dsimp only [z03,bare]; simp only [z01,Act.put,zQ]; simp only [e24,e28,e32]; have HI:=zH hI; have HK:=zH (hI.1 k13); have hsz9:=hI.2.2.size; clear hI; have HC:=zH (l7Xor_any (G2 F w xw (fun b => (Value.slice B l.length d).ownBlock = some b)) A1 c1 k1 x y xw HK.out.ks.row (KS2.lt HK.out.ks.bel HF.out) HK.out.ks.nil HNB1.out HXYM.out.1 HXYM.out.2); rw [<- HM.out] at HC
    go_wp2_with fail
    refine HC.out.mono ?_; rintro e wx ⟨A9,c9,rfl,h2,h3,h4⟩; have H3:=zH h3; have H4:=zH h4; clear h3 h4 HC
    go_wp2
    refine ⟨rfl,⟨A9,c9,rfl,h2,H3.out.mono ?_,Nat.le_trans hsz9 H4.out.size⟩,⟨zN rfl,fun _ => H4.out⟩,(fun h => (HI.out.1 h).up HF.out H4.out),(fun h => absurd (k13.symm.trans h) (by simp)),z09 HI.out.2.2 H4.out⟩; intro b hb
    rcases hb with (h9 | h9) | h9
    · exact .inl h9
    · exact .inr ⟨h9.1,Nat.lt_of_lt_of_le h9.2.1 H4.out.size,h9.2.2⟩
    · exact .inr ⟨by have:=lt_of_block HK.out.ks.res; omega,h9.2,fun e => by have:=(HK.out.own.lt b e).2; omega⟩
   ·
    rintro vals xw f hf1 - - hI hF; simp only [z05,zF,zR,and_true] at hF; obtain ⟨A9,c9,e33,h2,h3,h4⟩:=hF; dsimp only [z03,bare]; simp only [z01,Act.put,zQ]; simp only [e33]
    go_wp2
    exact ⟨rfl,⟨A9,c9,rfl,h2,h3,h4⟩,⟨zN rfl,fun _ => Below.refl _ _⟩,hI⟩
   ·
    rintro vals xw f hf1 - - hI hF; simp only [z05,zF,zR,and_true] at hF; obtain ⟨A9,c9,e23,h2,h3,h4⟩:=hF; dsimp only [z03,bare]; simp only [z01,Act.put,zQ]; simp only [e23]
    go_wp2
    exact ⟨rfl,⟨A9,c9,rfl,h2,h3,h4⟩,⟨zN rfl,fun _ => Below.refl _ _⟩,hI⟩
   ·
    rintro vals xw f hf1 - - hI hF; simp only [z05,zF,zR,and_true] at hF; obtain ⟨A9,c9,e23,h2,h3,h4⟩:=hF; dsimp only [z03,bare]; simp only [z01,Act.put,zQ]; simp only [e23]
    go_wp2
    exact zX hI rfl
   ·
    rintro vals xw f hf1 - - hI hF; simp only [z05,zF,zR,and_true] at hF; obtain ⟨A9,c9,e34,h2,h3,h4⟩:=hF; dsimp only [z03,bare]; simp only [z01,Act.put,zQ]; simp only [e34]; have HI:=zH hI; have HK:=zH (hI.1 hf1); have hv9:=HK.out.ks.var; have y0:=(z00 hv9 0).1; have y1:=(z00 hv9 1).1; have y2:=(z00 hv9 2).1; have g0:=(z00 hv9 0).2; have g1:=(z00 hv9 1).2; have g2:=(z00 hv9 2).2; have H3:=zH h3; clear hI hv9 h3 h4
    go_wp2
    have hset:=HK.out.set (c':=c9) HF.out H3.out h2; have hgr : xw.grownBy (st3 xw w.heap.size (.int .i64 m.1.1.ins) (.slice A9 m.1.1.gs.length c9) (.bool m.1.2)) (some w.heap.size):=z06 (z06 (z06 (World.grownBy.refl _ _) _ _) _ _) _ _; exact ⟨rfl,trivial,⟨fun _ => hgr,fun h9 => absurd rfl h9⟩,fun h => absurd ((z0h f 13).symm.trans h) (by simp),fun _ => ⟨A9,c9,hset⟩,z0i HI.out.2.2 (Nat.le_refl _) _ _ _⟩
   ·
    rintro vals xw f hf1 - - hI hF; simp only [z05,zF,zR,and_true] at hF; have e35:=hF; dsimp only [z03,bare]; simp only [z01,Act.put,zQ]; simp only [e35]
    go_wp2
    exact zX hI rfl
   ·
    intro vals xw f hall hI hF; rw [show List.range _ = [0,1,2,3,4,5,6,7,8,9,10,11,12,13,14] from rfl] at hF; simp only [says,zF,zR,and_true] at hF; obtain ⟨A2,c2,hk2⟩:=hI.2.1 (hall 13 (by decide)); have e9 : vals 14 = .int .i64 m.2:=by obtain ⟨_,_,_,_,_,_,_,_,_,_,_,_,_,_,e9⟩:=hF; exact e9
    have K2:=zH hk2; clear hF hk2 hI; simp only [z01,Act.put,zQ]; simp only [e9]; clear e9; have hv9:=K2.out.ks.var; have y0:=(z00 hv9 0).1; have y1:=(z00 hv9 1).1; have y2:=(z00 hv9 2).1; clear hv9; have HC:=zH (l7Xor_any _ A2 c2 m.1 m.2 cc _ K2.out.ks.row (KS2.lt K2.out.ks.bel HF.out) K2.out.ks.nil HMB.out.1 HMB.out.2 HCC.out); rw [<- HU.out] at HC
    go_wp2_with fail
    refine HC.out.mono ?_; rintro e z3 ⟨A3,c3,rfl,hn9,hs9,hb9⟩; have hv9:=(hb9.block _ (lt_of_block K2.out.ks.var)).trans K2.out.ks.var; clear y0 y1 y2 HC; have y0:=(z00 hv9 0).1; have y1:=(z00 hv9 1).1; have y2:=(z00 hv9 2).1; have g0:=(z00 hv9 0).2; have g1:=(z00 hv9 1).2; have g2:=(z00 hv9 2).2; have K9:=K2.out.call (c':=c3) HF.out hs9 hb9 hn9; dsimp only [st3] at K9; have K3:=zH K9; clear K9 hs9 hb9 hn9 hv9 K2
    go_wp2
    generalize hX3 : ((z3.setCell ⟨w.heap.size,0,none⟩ (.int .i64 u.1.1.ins)).setCell ⟨w.heap.size,1,none⟩ (.slice A3 u.1.1.gs.length c3)).setCell ⟨w.heap.size,2,none⟩ (.bool u.1.2) = X3 at *; clear hX3 y0 y1 y2 g0 g1 g2; refine z0a [[],[],[],[(1,45),(2,46)],[(3,47)],[],[],[(5,49),(6,50)],[(7,51)],[(0,44),(4,48),(8,52)],[(9,53)],[(10,43)],[(10,43)],[(11,54)],[(12,55)]]
     (fun x9 y9 => Below x9.heap.size x9 y9)
     [(13,fun x9 y9 => x9.grownBy y9 (some w.heap.size))]
     (fun f9 x9 => (f9 13 = false -> AddI F w x9 u.1 A3 c3 B d l) /\ (f9 13 = true -> ∃ A9 c9,AddI F w x9 p.1 A9 c9 B d l) /\ Below w.heap.size w x9)
     [zF 0 (.agg #[.int .i64 u.1.1.ins,.slice A3 u.1.1.gs.length c3,.bool u.1.2]),
  zF 1 (.slice (some adx) xs.length cx),
  zF 2 (.int .i64 (j : Int)),
  zF 3 (.pointer (some (adx.add j))),
  zF 4 (.int .i64 x),
  zF 5 (.slice (some ady) xs.length cy),
  zF 6 (.int .i64 (j : Int)),
  zF 7 (.pointer (some (ady.add j))),
  zF 8 (.int .i64 y),
  fun vs9 y9 => (fun v z => ATup F (fun b => (Value.slice B l.length d).ownBlock = some b) w p v z) (vs9 9) y9,
  fun vs9 y9 => (fun v z => ATup F (fun b => (Value.slice B l.length d).ownBlock = some b) w p v z) (vs9 10) y9,
  fun vs9 y9 => (fun v z => ANet F (fun b => (Value.slice B l.length d).ownBlock = some b) w p v z) (vs9 11) y9,
  zF 12 (.int .i64 p.2),
  fun _ _ => True,
  zF 14 (.int .i64 p.2)]
     [(0,44),(1,45),(2,46),(3,47),(4,48),(5,49),(6,50),(7,51),(8,52),(9,53),(10,43),(11,54),(12,55),(14,14)] (by kernel_rfl) (by kernel_rfl) (by kernel_rfl) (by kernel_rfl)
     (fun _ => Below.refl _ _) ⟨fun _ => World.grownBy.refl _ _,trivial⟩
     ⟨zU,
  zU,
  zU,
  zU,
  zU,
  zU,
  zU,
  zU,
  zU,
  ⟨.inr (zS (fun v z => ATup F (fun b => (Value.slice B l.length d).ownBlock = some b) w p v z) (fun _ _ _ h9 hR => h9.up HF.out hR)),⟨.inr (.inr (zS (fun v z => ATup F (fun b => (Value.slice B l.length d).ownBlock = some b) w p v z) (fun _ _ _ h9 hR => h9.st HF.out hR))),trivial⟩⟩,
  ⟨.inr (zS (fun v z => ATup F (fun b => (Value.slice B l.length d).ownBlock = some b) w p v z) (fun _ _ _ h9 hR => h9.up HF.out hR)),⟨.inr (.inr (zS (fun v z => ATup F (fun b => (Value.slice B l.length d).ownBlock = some b) w p v z) (fun _ _ _ h9 hR => h9.st HF.out hR))),trivial⟩⟩,
  ⟨.inr (zS (fun v z => ANet F (fun b => (Value.slice B l.length d).ownBlock = some b) w p v z) (fun _ _ _ h9 hR => h9.up HF.out hR)),⟨.inr (.inr (zS (fun v z => ANet F (fun b => (Value.slice B l.length d).ownBlock = some b) w p v z) (fun _ _ _ h9 hR => h9.st HF.out hR))),trivial⟩⟩,
  zU,
  ⟨.inr zK,⟨.inr (.inl rfl),trivial⟩⟩,
  zU,trivial⟩ ⟨zL,
  zL,
  zL,
  zL,
  zL,
  zL,
  zL,
  zL,
  zL,
  fun _ _ _ h _ v => (by simpa only [<- h] using v),
  fun _ _ _ h _ v => (by simpa only [<- h] using v),
  fun _ _ _ h _ v => (by simpa only [<- h] using v),
  zL,
  fun _ _ _ _ _ _ => trivial,
  zL,trivial⟩ (⟨fun _ => K3.out.up HF.out (z02 (Below.refl _ _) 1),(fun h => by cases h),z09 K3.out.ks.bel (z02 (Below.refl _ _) 1)⟩) ⟨?_,?_,?_,?_,?_,?_,?_,?_,?_,?_,?_,?_,?_,?_,?_,trivial⟩ ?_
    ·
     intro vals xw f hf1 hf2 hf3 hI hF; have k13 : f 13 = false:=hf3 13 (by kernel_rfl); clear hf2 hf3; dsimp only [z03,bare]; simp only [z01,Act.put,zQ]; have hv9:=(hI.1 k13).ks.var; have y0:=(z00 hv9 0).1; have y1:=(z00 hv9 1).1; have y2:=(z00 hv9 2).1
     go_wp2
     exact zX hI rfl
    iterate 2
     ·
      rintro vals xw f hf1 - - hI hF; dsimp only [z03,bare]; simp only [z01,Act.put,zQ]
      go_wp2
      exact zX hI rfl
    ·
     rintro vals xw f hf1 - - hI hF; simp only [z05,zF,zR,and_true] at hF; obtain ⟨e45,e46⟩:=hF; dsimp only [z03,bare]; simp only [z01,Act.put,zQ]; simp only [e45,e46]
     go_wp2
     exact zX hI rfl
    ·
     rintro vals xw f hf1 - - hI hF; simp only [z05,zF,zR,and_true] at hF; have e47:=hF; dsimp only [z03,bare]; simp only [z01,Act.put,zQ]; simp only [e47]; have c9:=HRX.out _ hI.2.2
     go_wp2
     exact zX hI rfl
    iterate 2
     ·
      rintro vals xw f hf1 - - hI hF; dsimp only [z03,bare]; simp only [z01,Act.put,zQ]
      go_wp2
      exact zX hI rfl
    ·
     rintro vals xw f hf1 - - hI hF; simp only [z05,zF,zR,and_true] at hF; obtain ⟨e49,e50⟩:=hF; dsimp only [z03,bare]; simp only [z01,Act.put,zQ]; simp only [e49,e50]
     go_wp2
     exact zX hI rfl
    ·
     rintro vals xw f hf1 - - hI hF; simp only [z05,zF,zR,and_true] at hF; have e51:=hF; dsimp only [z03,bare]; simp only [z01,Act.put,zQ]; simp only [e51]; have c9:=HRY.out _ hI.2.2
     go_wp2
     exact zX hI rfl
    ·
     intro vals xw f hf1 hf2 hf3 hI hF; have k13 : f 13 = false:=hf3 13 (by kernel_rfl); clear hf2 hf3; simp only [z05,zF,zR,and_true] at hF; obtain ⟨e44,e48,e52⟩:=hF; dsimp only [z03,bare]; simp only [z01,Act.put,zQ]; simp only [e44,e48,e52]; have HI:=zH hI; have HK:=zH (hI.1 k13); have hsz9:=hI.2.2.size; clear hI; have HC:=zH (l7And_any (G2 F w xw (fun b => (Value.slice B l.length d).ownBlock = some b)) A3 c3 u.1 x y xw HK.out.ks.row (KS2.lt HK.out.ks.bel HF.out) HK.out.ks.nil HUB.out.1 HXYM.out.1 HXYM.out.2); rw [<- HP.out] at HC
     go_wp2_with fail
     refine HC.out.mono ?_; rintro e wx ⟨A9,c9,rfl,h2,h3,h4⟩; have H3:=zH h3; have H4:=zH h4; clear h3 h4 HC
     go_wp2
     refine ⟨rfl,⟨A9,c9,rfl,h2,H3.out.mono ?_,Nat.le_trans hsz9 H4.out.size⟩,⟨zN rfl,fun _ => H4.out⟩,(fun h => (HI.out.1 h).up HF.out H4.out),(fun h => absurd (k13.symm.trans h) (by simp)),z09 HI.out.2.2 H4.out⟩; intro b hb
     rcases hb with (h9 | h9) | h9
     · exact .inl h9
     · exact .inr ⟨h9.1,Nat.lt_of_lt_of_le h9.2.1 H4.out.size,h9.2.2⟩
     · exact .inr ⟨by have:=lt_of_block HK.out.ks.res; omega,h9.2,fun e => by have:=(HK.out.own.lt b e).2; omega⟩
    ·
     rintro vals xw f hf1 - - hI hF; simp only [z05,zF,zR,and_true] at hF; obtain ⟨A9,c9,e53,h2,h3,h4⟩:=hF; dsimp only [z03,bare]; simp only [z01,Act.put,zQ]; simp only [e53]
     go_wp2
     exact ⟨rfl,⟨A9,c9,rfl,h2,h3,h4⟩,⟨zN rfl,fun _ => Below.refl _ _⟩,hI⟩
    ·
     rintro vals xw f hf1 - - hI hF; simp only [z05,zF,zR,and_true] at hF; obtain ⟨A9,c9,e43,h2,h3,h4⟩:=hF; dsimp only [z03,bare]; simp only [z01,Act.put,zQ]; simp only [e43]
     go_wp2
     exact ⟨rfl,⟨A9,c9,rfl,h2,h3,h4⟩,⟨zN rfl,fun _ => Below.refl _ _⟩,hI⟩
    ·
     rintro vals xw f hf1 - - hI hF; simp only [z05,zF,zR,and_true] at hF; obtain ⟨A9,c9,e43,h2,h3,h4⟩:=hF; dsimp only [z03,bare]; simp only [z01,Act.put,zQ]; simp only [e43]
     go_wp2
     exact zX hI rfl
    ·
     rintro vals xw f hf1 - - hI hF; simp only [z05,zF,zR,and_true] at hF; obtain ⟨A9,c9,e54,h2,h3,h4⟩:=hF; dsimp only [z03,bare]; simp only [z01,Act.put,zQ]; simp only [e54]; have HI:=zH hI; have HK:=zH (hI.1 hf1); have hv9:=HK.out.ks.var; have y0:=(z00 hv9 0).1; have y1:=(z00 hv9 1).1; have y2:=(z00 hv9 2).1; have g0:=(z00 hv9 0).2; have g1:=(z00 hv9 1).2; have g2:=(z00 hv9 2).2; have H3:=zH h3; clear hI hv9 h3 h4
     go_wp2
     have hset:=HK.out.set (c':=c9) HF.out H3.out h2; have hgr : xw.grownBy (st3 xw w.heap.size (.int .i64 p.1.1.ins) (.slice A9 p.1.1.gs.length c9) (.bool p.1.2)) (some w.heap.size):=z06 (z06 (z06 (World.grownBy.refl _ _) _ _) _ _) _ _; exact ⟨rfl,trivial,⟨fun _ => hgr,fun h9 => absurd rfl h9⟩,fun h => absurd ((z0h f 13).symm.trans h) (by simp),fun _ => ⟨A9,c9,hset⟩,z0i HI.out.2.2 (Nat.le_refl _) _ _ _⟩
    ·
     rintro vals xw f hf1 - - hI hF; simp only [z05,zF,zR,and_true] at hF; have e55:=hF; dsimp only [z03,bare]; simp only [z01,Act.put,zQ]; simp only [e55]
     go_wp2
     exact zX hI rfl
    ·
     intro vals xw f hall hI hF; rw [show List.range _ = [0,1,2,3,4,5,6,7,8,9,10,11,12,13,14] from rfl] at hF; simp only [says,zF,zR,and_true] at hF; obtain ⟨A4,c4,hk2⟩:=hI.2.1 (hall 13 (by decide)); have e9 : vals 14 = .int .i64 p.2:=by obtain ⟨_,_,_,_,_,_,_,_,_,_,_,_,_,_,e9⟩:=hF; exact e9
     have K4:=zH hk2; clear hF hk2 hI; simp only [z01,Act.put,zQ]; simp only [e9]; clear e9; have hv9:=K4.out.ks.var; have y0:=(z00 hv9 0).1; have y1:=(z00 hv9 1).1; have y2:=(z00 hv9 2).1; clear hv9; have HC:=zH (l7And_any _ A4 c4 p.1 m.2 cc _ K4.out.ks.row (KS2.lt K4.out.ks.bel HF.out) K4.out.ks.nil HPB.out.1 HMB.out.2 HCC.out); rw [<- HQ.out] at HC
     go_wp2_with fail
     refine HC.out.mono ?_; rintro e z5 ⟨A5,c5,rfl,hn9,hs9,hb9⟩; have hv9:=(hb9.block _ (lt_of_block K4.out.ks.var)).trans K4.out.ks.var; clear y0 y1 y2 HC; have y0:=(z00 hv9 0).1; have y1:=(z00 hv9 1).1; have y2:=(z00 hv9 2).1; have g0:=(z00 hv9 0).2; have g1:=(z00 hv9 1).2; have g2:=(z00 hv9 2).2; have K9:=K4.out.call (c':=c5) HF.out hs9 hb9 hn9; dsimp only [st3] at K9; have K5:=zH K9; clear K9 hs9 hb9 hn9 hv9 K4; have hv9:=K5.out.ks.var; have y0:=(z00 hv9 0).1; have y1:=(z00 hv9 1).1; have y2:=(z00 hv9 2).1; clear hv9; have HC:=zH (l7Or_any _ A5 c5 q.1 p.2 q.2 _ K5.out.ks.row (KS2.lt K5.out.ks.bel HF.out) K5.out.ks.nil HQB.out.1 HPB.out.2 HQB.out.2); rw [<- HG.out] at HC
     go_wp2_with fail
     refine HC.out.mono ?_; generalize hX5 : ((z5.setCell ⟨w.heap.size,0,none⟩ (.int .i64 q.1.1.ins)).setCell ⟨w.heap.size,1,none⟩ (.slice A5 q.1.1.gs.length c5)).setCell ⟨w.heap.size,2,none⟩ (.bool q.1.2) = X5 at *; clear hX5; rintro e z6 ⟨A6,c6,rfl,hn9,hs9,hb9⟩; have hv9:=(hb9.block _ (lt_of_block K5.out.ks.var)).trans K5.out.ks.var; clear y0 y1 y2 HC g0 g1 g2; have y0:=(z00 hv9 0).1; have y1:=(z00 hv9 1).1; have y2:=(z00 hv9 2).1; have g0:=(z00 hv9 0).2; have g1:=(z00 hv9 1).2; have g2:=(z00 hv9 2).2; have K9:=K5.out.call (c':=c6) HF.out hs9 hb9 hn9; dsimp only [st3] at K9; have K6:=zH K9; clear K9 hs9 hb9 hn9 hv9 K5; have hown9:=K6.out.own; have hsz9 : w.heap.size + 2 <= (((z6.setCell ⟨w.heap.size,0,none⟩ (.int .i64 g.1.1.ins)).setCell ⟨w.heap.size,1,none⟩ (.slice A6 g.1.1.gs.length c6)).setCell ⟨w.heap.size,2,none⟩ (.bool g.1.2)).heap.size:=by have:=lt_of_block K6.out.ks.res; omega
     have K6:=zH K6.out
     go_wp2_with (at_builtin; refine wpList_append_int7 (ys:=l2) (by rfl) (.tmp 70) (.tmp 72) (by rfl) (by rfl) (by rfl) (by simp [World.setCell]) hown9 (by omega) hsz9 HL2.out ?_; intro B2 d2 w2 hown2 hg2 hbk2)
     have hk3:=K6.out.ks.grown (v':=.slice B2 l2.length d2) HF.out hg2 (fun g hg => (K6.out.own.lt g hg).1) hbk2
     go_roundw
     case rel => exact ⟨j + 1,g.1,l2,A6,B2,c6,d2,g.2,by omega,by go_num,rfl,rfl,HGB.out.2,by rw [HL2.out,List.length_append,HLJ.out]; rfl,fun z hz => by
       rw [HL2.out] at hz
       rcases List.mem_append.1 hz with hz | hz
       · exact HLM.out z hz
       · rw [List.mem_singleton.1 hz]; exact HUB.out.2,⟨hk3,hown2⟩,HGB.out.1,zH (by rw [HL2.out]; exact HST.out)⟩
     case measure => simp [intOf]; omega
  ·
   have hje : j = xs.length:=by omega
   subst hje; have hlt2 : ¬ ((xs.length : Nat) : Int) < xs.length:=by omega
   have hv9:=HKS.out.ks.var; have y0:=(z00 hv9 0).1; have y1:=(z00 hv9 1).1; have y2:=(z00 hv9 2).1; have hr9:=HKS.out.ks.res; have r0:=(z00 hr9 0).1; have r1:=(z00 hr9 1).1; have r2:=(z00 hr9 2).1; have rf0:=(z00 hr9 0).2; have rf1:=(z00 hr9 1).2; have rf2:=(z00 hr9 2).2; clear hv9 hr9
   go_wp2
   have hs:=z0s HKS.out.ks.res (.int .i64 k1.1.ins) (.slice A1 k1.1.gs.length c1) (.bool k1.2); have k5:=(z00 hs 0).1; have k6:=(z00 hs 1).1; have k7:=(z00 hs 2).1; have kf5:=(z00 hs 0).2; have kf6:=(z00 hs 1).2; have kf7:=(z00 hs 2).2; refine bodyPost_ret (v:=.tuple #[.agg #[.int .i64 k1.1.ins,.slice A1 k1.1.gs.length c1,.bool k1.2],.slice B l.length d]) (by simp [results,Tryz.results88,go_sem,k5,k6,k7,kf5,kf6,kf7]) rfl ?_; have hd1 : xs.drop xs.length = []:=List.drop_length; have hd2 : ys.drop xs.length = []:=by rw [HL.out]; exact List.drop_length
   have hst2:=hst.out; rw [hd1,hd2] at hst2; have hT2 : T = (k1,l):=by rw [<- hst2]; show (k1,l ++ []) = _; rw [List.append_nil]
   rw [hT2]; obtain ⟨B',d',e9,hcap,hsl⟩:=HKS.out.own.form
   injection e9 with e1 e2 e3
   subst e1 e3; refine ⟨A1,c1,B,d,rfl,HKS.out.ks.nil,(z1a (h:=w.heap.size + 1) HKS.out.ks.row (fun b hb => ?_) _ _ _).mono (fun b hb => ?_),hcap,(z1a (h:=w.heap.size + 1) hsl (fun b hb => by omega) _ _ _).mono (fun b hb => by rw [z0o]; omega),HLM.out,z0i HKS.out.ks.bel (by omega) _ _ _⟩
   ·
    rcases hb with hb | hb
    · have:=HF.out b hb; omega
    · omega
   ·
    rw [z0o]; exact hb.imp id fun h9 => ⟨by omega,h9.2.1⟩
def SumI (a0 a1 : Addr) (lo : Nat) (W : World) (q r : Nat) (s s' : BS) (A : Option Addr) (c : Nat) (l : List Int) (called : Bool) (x : World) : Prop:=BelB lo W x /\ Bd a0 a1 lo x q r (if called = true then s' else s) /\ z0u x W.heap.size (.slice A l.length c) l
theorem SumI.up {a0 a1 : Addr} {lo : Nat} {W : World} {q r : Nat} {s s' : BS} {A : Option Addr} {c : Nat} {l : List Int} {called : Bool} {x x' : World} (h : SumI a0 a1 lo W q r s s' A c l called x) (hb : Below x.heap.size x x') : SumI a0 a1 lo W q r s s' A c l called x':=⟨h.1.trans (.of hb h.2.1.size),h.2.1.up hb,z0e h.2.2 hb (Nat.le_refl _)⟩
theorem or_mb {x y : Int} {s : BS} (h : NB s.n) (hx : RB x) (hy : RB y) : NB (run opsP (orP x y) s).1.n /\ MB (run opsP (orP x y) s).2:=by
 have h3:=z1e (x:=-x) (y:=-y) h hx.neg hy.neg; exact ⟨h3.1,h3.2.neg⟩
set_option maxRecDepth 100000 in
set_option maxHeartbeats 8000000 in
theorem bSum_any (a0 a1 : Addr) (lo q r : Nat) (c0 : Int) (X Y : Option Addr) (cx cy : Nat) (xs ys : List Int) (s : BS) (w : World) (h : Bd a0 a1 lo w q r s) (hc : MB c0) (hX : Lay.int.Pl w X xs) (hY : Lay.int.Pl w Y ys) (hxm : ∀ x ∈ xs,MB x) (hym : ∀ y ∈ ys,MB y) (hl : xs.length = ys.length) (hn : xs.length <= 1000) :
  Calls Tryz.prog 80 #[.pointer (some ⟨q,0,none⟩),.slice X xs.length cx,.slice Y ys.length cy,.int .i64 c0] w (RetL a0 a1 lo w q r (run opsP (sumP xs ys c0) s)):=by
 obtain ⟨T,hT⟩ : ∃ T,T = run opsP (sumP xs ys c0) s:=⟨_,rfl⟩; rw [<- hT]; have HT:=zH hT; have HB:=zH h; have HX:=zH hX; have HY:=zH hY; have HXM:=zH hxm; have HYM:=zH hym; have HL:=zH hl; have HC0:=zH hc; have hlo:=h.size; clear hT h hX hY hxm hym hc; rw [<- hl]; clear hl
 go_enter Tryz.func80,Tryz.ntmps80
 go_wp2
 go_loopw [9,16,3] (fun out i cv wr => ∃ (k : Nat) (s1 : BS) (l : List Int) (A : Option Addr) (c : Nat) (cc : Int),k <= xs.length /\ i = .int .i64 k /\ out = .slice A l.length c /\ cv = .int .i64 cc /\ MB cc /\ l.length = k /\ (∀ m ∈ l,MB m) /\ SumI a0 a1 lo w q r s1 s1 A c l false wr /\ Hid ((let z:=run opsP (sumP (xs.drop k) (ys.drop k) cc) s1; (z.1,l ++ z.2)) = T)) (fun _ i _ _ => xs.length - (intOf i).toNat)
 case atStart => exact ⟨0,s,[],none,0,c0,Nat.zero_le _,rfl,rfl,rfl,HC0.out,rfl,(fun _ h => by cases h),⟨.refl _ _,HB.out,z0u.nil _ _⟩,zH (by rw [HT.out]; rfl)⟩
 case round =>
  obtain ⟨k,s1,l,A,c,cc,hk,rfl,rfl,rfl,hcc,hlk,hlm,hsi,hst⟩:=hrel; have HCC:=zH hcc; have HLM:=zH hlm; have HSI:=zH hsi; have HLK:=zH hlk; clear hlm hsi hlk hcc
  by_cases hlt : k < xs.length
  ·
   have hlt2 : (k : Int) < xs.length:=by omega
   have hlty : k < ys.length:=by rw [<- HL.out]; exact hlt
   obtain ⟨x,hx⟩ : ∃ x,xs[k]? = some x:=⟨_,List.getElem?_eq_getElem hlt⟩; obtain ⟨y,hy⟩ : ∃ y,ys[k]? = some y:=⟨_,List.getElem?_eq_getElem hlty⟩; have hxg : xs[k] = x:=(List.getElem?_eq_some_iff.1 hx).2; have hyg : ys[k] = y:=(List.getElem?_eq_some_iff.1 hy).2; have HXYM:=zH (And.intro (HXM.out x (List.mem_of_getElem? hx)) (HYM.out y (List.mem_of_getElem? hy))); obtain ⟨adx,rfl,-,-⟩:=HX.out.at_int hlt; obtain ⟨ady,rfl,-,-⟩:=HY.out.at_int hlty; have HST:=zH ((run_sum (o:=opsP) xs ys k x y hx hy s1 cc l).symm.trans hst.out); have HRX : Hid (∀ z,BelB lo w z -> z.cell? (adx.add k) = some (.int .i64 x)):=zH fun z hz => by
    obtain ⟨ad,e,_,hc⟩:=(HX.out.upB hz).at_int hlt
    injection e with e; subst e; rw [<- hxg]; exact hc
   have HRY : Hid (∀ z,BelB lo w z -> z.cell? (ady.add k) = some (.int .i64 y)):=zH fun z hz => by
    obtain ⟨ad,e,_,hc⟩:=(HY.out.upB hz).at_int hlty
    injection e with e; subst e; rw [<- hyg]; exact hc
   have hll : l.length <= 1000:=by have:=HLK.out; omega
   clear hx hy hxg hyg hst hlty; obtain ⟨m,h9⟩ : ∃ m,m = opsP.xor s1 x y:=⟨_,rfl⟩; have HM:=zH h9; have HMB : Hid (NB m.1.n /\ MB m.2):=zH (by rw [h9]; exact opsP_xor_mb HSI.out.2.1.nb HXYM.out.1.rb HXYM.out.2.rb); clear h9; obtain ⟨u,h9⟩ : ∃ u,u = opsP.xor m.1 m.2 cc:=⟨_,rfl⟩; have HU:=zH h9; have HUB : Hid (NB u.1.n /\ MB u.2):=zH (by rw [h9]; exact opsP_xor_mb HMB.out.1 HMB.out.2.rb HCC.out.rb); clear h9; obtain ⟨p,h9⟩ : ∃ p,p = opsP.and u.1 x y:=⟨_,rfl⟩; have HP:=zH h9; have HPB : Hid (NB p.1.n /\ MB p.2):=zH (by rw [h9]; exact z1e HUB.out.1 HXYM.out.1.rb HXYM.out.2.rb); clear h9; obtain ⟨v,h9⟩ : ∃ v,v = opsP.and p.1 m.2 cc:=⟨_,rfl⟩; have HV:=zH h9; have HVB : Hid (NB v.1.n /\ MB v.2):=zH (by rw [h9]; exact z1e HPB.out.1 HMB.out.2.rb HCC.out.rb); clear h9; obtain ⟨g,h9⟩ : ∃ g,g = run opsP (orP p.2 v.2) v.1:=⟨_,rfl⟩; have HG:=zH h9; have HGB : Hid (NB g.1.n /\ MB g.2):=zH (by rw [h9]; exact or_mb HVB.out.1 HPB.out.2.rb HVB.out.2.rb); clear h9; have HST : Hid ((let z:=run opsP (sumP (xs.drop (k + 1)) (ys.drop (k + 1)) g.2) g.1; (z.1,(l ++ [u.2]) ++ z.2)) = T):=zH (by rw [HG.out,HV.out,HP.out,HU.out,HM.out]; exact HST.out); obtain ⟨l2,hl2⟩ : ∃ l2,l2 = l ++ [u.2]:=⟨_,rfl⟩; have HL2:=zH hl2; clear hl2
   go_wp2
   have HSZ : Hid (∀ z,BelB lo w z -> w.heap.size <= z.heap.size):=zH fun z hz => hz.bel.size
   refine z0a [[],[],[],[(1,20),(2,21)],[(3,22)],[],[],[(5,24),(6,25)],[(7,26)],[(0,19),(4,23),(8,27)],[(9,28)]]
    (fun x9 y9 => Below x9.heap.size x9 y9)
    [(9,fun x9 y9 => BelB lo x9 y9)]
    (fun f9 x9 => SumI a0 a1 lo w q r s1 m.1 A c l (f9 9) x9)
    [zF 0 (.pointer (some ⟨q,0,none⟩)),
     zF 1 (.slice (some adx) xs.length cx),
     zF 2 (.int .i64 (k : Int)),
     zF 3 (.pointer (some (adx.add k))),
     zF 4 (.int .i64 x),
     zF 5 (.slice (some ady) xs.length cy),
     zF 6 (.int .i64 (k : Int)),
     zF 7 (.pointer (some (ady.add k))),
     zF 8 (.int .i64 y),
     zF 9 (.int .i64 m.2),
     zF 10 (.int .i64 m.2)]
    [(0,19),(1,20),(2,21),(3,22),(4,23),(5,24),(6,25),(7,26),(8,27),(9,28),(10,11)] (by kernel_rfl) (by kernel_rfl) (by kernel_rfl) (by kernel_rfl)
    (fun _ => Below.refl _ _) ⟨fun _ => BelB.refl _ _,trivial⟩
    ⟨zU,
     zU,
     zU,
     zU,
     zU,
     zU,
     zU,
     zU,
     zU,
     ⟨.inr zG,⟨.inr (.inl rfl),trivial⟩⟩,
     zU,trivial⟩ ⟨zL,
     zL,
     zL,
     zL,
     zL,
     zL,
     zL,
     zL,
     zL,
     zL,
     zL,trivial⟩ ((show SumI a0 a1 lo w q r s1 m.1 A c l false _ from ⟨HSI.out.1.trans (.of (z02 (Below.refl _ _) 1) HSI.out.2.1.size),by rw [if_neg (by simp)]; exact HSI.out.2.1.up (z02 (Below.refl _ _) 1),z0e HSI.out.2.2 (z02 (Below.refl _ _) 1) (Nat.le_refl _)⟩)) ⟨?_,?_,?_,?_,?_,?_,?_,?_,?_,?_,?_,trivial⟩ ?_
   iterate 3
    ·
     rintro vals xw f hf1 - - hI hF; dsimp only [z03,bare]; simp only [z01,Act.put,zQ]
     go_wp2
     exact zX hI rfl
   ·
    rintro vals xw f hf1 - - hI hF; simp only [z05,zF,zR,and_true] at hF; obtain ⟨e1,e2⟩:=hF; dsimp only [z03,bare]; simp only [z01,Act.put,zQ]; simp only [e1,e2]
    go_wp2
    exact zX hI rfl
   ·
    rintro vals xw f hf1 - - hI hF; simp only [z05,zF,zR,and_true] at hF; have e1:=hF; dsimp only [z03,bare]; simp only [z01,Act.put,zQ]; simp only [e1]; have c9:=HRX.out _ hI.1
    go_wp2
    exact zX hI rfl
   iterate 2
    ·
     rintro vals xw f hf1 - - hI hF; dsimp only [z03,bare]; simp only [z01,Act.put,zQ]
     go_wp2
     exact zX hI rfl
   ·
    rintro vals xw f hf1 - - hI hF; simp only [z05,zF,zR,and_true] at hF; obtain ⟨e1,e2⟩:=hF; dsimp only [z03,bare]; simp only [z01,Act.put,zQ]; simp only [e1,e2]
    go_wp2
    exact zX hI rfl
   ·
    rintro vals xw f hf1 - - hI hF; simp only [z05,zF,zR,and_true] at hF; have e1:=hF; dsimp only [z03,bare]; simp only [z01,Act.put,zQ]; simp only [e1]; have c9:=HRY.out _ hI.1
    go_wp2
    exact zX hI rfl
   ·
    rintro vals xw f hf1 - - hI hF; simp only [z05,zF,zR,and_true] at hF; obtain ⟨e1,e2,e3⟩:=hF; dsimp only [z03,bare]; simp only [z01,Act.put,zQ]; simp only [e1,e2,e3]; obtain ⟨i1,i2,i3⟩:=hI; rw [hf1,if_neg (by simp)] at i2; have I1:=zH i1; have I3:=zH i3; have HC:=zH (bXor_any a0 a1 lo q r s1 x y xw i2 HXYM.out.1 HXYM.out.2); rw [<- HM.out] at HC; clear i1 i2 i3
    go_wp2_with fail
    refine HC.out.mono ?_; rintro e wx ⟨rfl,hb9,hd9⟩; have HB9:=zH hb9; have HD9:=zH hd9; clear hb9 hd9 HC
    go_wp2
    exact ⟨rfl,rfl,⟨fun _ => HB9.out,fun h9 => absurd rfl h9⟩,I1.out.trans HB9.out,by rw [z0h,if_pos rfl]; exact HD9.out,I3.out.upB HB9.out⟩
   ·
    rintro vals xw f hf1 - - hI hF; simp only [z05,zF,zR,and_true] at hF; have e1:=hF; dsimp only [z03,bare]; simp only [z01,Act.put,zQ]; simp only [e1]
    go_wp2
    exact zX hI rfl
   ·
    intro vals xw f hall hI hF; rw [show List.range _ = [0,1,2,3,4,5,6,7,8,9,10] from rfl] at hF; simp only [says,zF,zR,and_true] at hF; obtain ⟨i1,i2,i3⟩:=hI; rw [hall 9 (by decide),if_pos rfl] at i2; have e9 : vals 10 = .int .i64 m.2:=by obtain ⟨_,_,_,_,_,_,_,_,_,_,e9⟩:=hF; exact e9
    simp only [z01,Act.put,zQ]; simp only [e9]; clear e9 hF; have I1:=zH i1; have I2:=zH i2; have I3:=zH i3; clear i1 i2 i3; have HC:=zH (bXor_any a0 a1 lo q r m.1 m.2 cc _ I2.out HMB.out.2 HCC.out); rw [<- HU.out] at HC
    go_wp2_with fail
    refine HC.out.mono ?_; rintro e z2 ⟨rfl,hb9,hd9⟩; have B2:=zH (I1.out.trans hb9); have D2:=zH hd9; have O2:=zH (I3.out.upB hb9); clear hb9 hd9 HC; have hsz2 : w.heap.size <= z2.heap.size:=HSZ.out _ B2.out; have hal9 : Below z2.heap.size z2 (z2.alloc (.cells #[.int .i64 u.2] 110)):=(Below.refl _ _).alloc (Nat.le_refl _) _; have HAL:=zH hal9; have hsz8 : w.heap.size <= (z2.alloc (.cells #[.int .i64 u.2] 110)).heap.size:=Nat.le_trans hsz2 hal9.size; have O2 : Hid (z0u (z2.alloc (.cells #[.int .i64 u.2] 110)) w.heap.size (.slice A l.length c) l):=zH (z0e O2.out hal9 (Nat.le_refl _)); clear hal9
    go_wp2_with (at_builtin; refine z0y (ys:=l2) (by rfl) (.tmp 29) (.tmp 34) (by rfl) (by rfl) (by rfl) O2.out (heap_alloc_new _ _) (by omega) hsz8 HL2.out ?_; intro A2 c2 w3 hown3 hg3)
    have hal9:=HAL.out; obtain ⟨hs9,hb8⟩:=O2.out.grown hg3 hsz8 hlo; have B3:=zH ((B2.out.trans (.of hal9 D2.out.size)).then hb8 hlo); have D3:=zH ((D2.out.up hal9).upS hs9); have O3:=zH hown3; clear hal9 hs9 hb8 hown3 hg3 HAL B2 D2 O2 hsz8
    go_wp2
    refine z0a [[],[],[],[(1,37),(2,38)],[(3,39)],[],[],[(5,41),(6,42)],[(7,43)],[(0,36),(4,40),(8,44)],[(9,45)]]
     (fun x9 y9 => Below x9.heap.size x9 y9)
     [(9,fun x9 y9 => BelB lo x9 y9)]
     (fun f9 x9 => SumI a0 a1 lo w q r u.1 p.1 A2 c2 l2 (f9 9) x9)
     [zF 0 (.pointer (some ⟨q,0,none⟩)),
     zF 1 (.slice (some adx) xs.length cx),
     zF 2 (.int .i64 (k : Int)),
     zF 3 (.pointer (some (adx.add k))),
     zF 4 (.int .i64 x),
     zF 5 (.slice (some ady) xs.length cy),
     zF 6 (.int .i64 (k : Int)),
     zF 7 (.pointer (some (ady.add k))),
     zF 8 (.int .i64 y),
     zF 9 (.int .i64 p.2),
     zF 10 (.int .i64 p.2)]
     [(0,36),(1,37),(2,38),(3,39),(4,40),(5,41),(6,42),(7,43),(8,44),(9,45),(10,12)] (by kernel_rfl) (by kernel_rfl) (by kernel_rfl) (by kernel_rfl)
     (fun _ => Below.refl _ _) ⟨fun _ => BelB.refl _ _,trivial⟩
     ⟨zU,
     zU,
     zU,
     zU,
     zU,
     zU,
     zU,
     zU,
     zU,
     ⟨.inr zG,⟨.inr (.inl rfl),trivial⟩⟩,
     zU,trivial⟩ ⟨zL,
     zL,
     zL,
     zL,
     zL,
     zL,
     zL,
     zL,
     zL,
     zL,
     zL,trivial⟩ ((show SumI a0 a1 lo w q r u.1 p.1 A2 c2 l2 false _ from ⟨B3.out.trans (.of (z02 (Below.refl _ _) 1) D3.out.size),by rw [if_neg (by simp)]; exact D3.out.up (z02 (Below.refl _ _) 1),z0e O3.out (z02 (Below.refl _ _) 1) (Nat.le_refl _)⟩)) ⟨?_,?_,?_,?_,?_,?_,?_,?_,?_,?_,?_,trivial⟩ ?_
    iterate 3
     ·
      rintro vals xw f hf1 - - hI hF; dsimp only [z03,bare]; simp only [z01,Act.put,zQ]
      go_wp2
      exact zX hI rfl
    ·
     rintro vals xw f hf1 - - hI hF; simp only [z05,zF,zR,and_true] at hF; obtain ⟨e1,e2⟩:=hF; dsimp only [z03,bare]; simp only [z01,Act.put,zQ]; simp only [e1,e2]
     go_wp2
     exact zX hI rfl
    ·
     rintro vals xw f hf1 - - hI hF; simp only [z05,zF,zR,and_true] at hF; have e1:=hF; dsimp only [z03,bare]; simp only [z01,Act.put,zQ]; simp only [e1]; have c9:=HRX.out _ hI.1
     go_wp2
     exact zX hI rfl
    iterate 2
     ·
      rintro vals xw f hf1 - - hI hF; dsimp only [z03,bare]; simp only [z01,Act.put,zQ]
      go_wp2
      exact zX hI rfl
    ·
     rintro vals xw f hf1 - - hI hF; simp only [z05,zF,zR,and_true] at hF; obtain ⟨e1,e2⟩:=hF; dsimp only [z03,bare]; simp only [z01,Act.put,zQ]; simp only [e1,e2]
     go_wp2
     exact zX hI rfl
    ·
     rintro vals xw f hf1 - - hI hF; simp only [z05,zF,zR,and_true] at hF; have e1:=hF; dsimp only [z03,bare]; simp only [z01,Act.put,zQ]; simp only [e1]; have c9:=HRY.out _ hI.1
     go_wp2
     exact zX hI rfl
    ·
     rintro vals xw f hf1 - - hI hF; simp only [z05,zF,zR,and_true] at hF; obtain ⟨e1,e2,e3⟩:=hF; dsimp only [z03,bare]; simp only [z01,Act.put,zQ]; simp only [e1,e2,e3]; obtain ⟨i1,i2,i3⟩:=hI; rw [hf1,if_neg (by simp)] at i2; have I1:=zH i1; have I3:=zH i3; have HC:=zH (bAnd_any a0 a1 lo q r u.1 x y xw i2 HXYM.out.1 HXYM.out.2); rw [<- HP.out] at HC; clear i1 i2 i3
     go_wp2_with fail
     refine HC.out.mono ?_; rintro e wx ⟨rfl,hb9,hd9⟩; have HB9:=zH hb9; have HD9:=zH hd9; clear hb9 hd9 HC
     go_wp2
     exact ⟨rfl,rfl,⟨fun _ => HB9.out,fun h9 => absurd rfl h9⟩,I1.out.trans HB9.out,by rw [z0h,if_pos rfl]; exact HD9.out,I3.out.upB HB9.out⟩
    ·
     rintro vals xw f hf1 - - hI hF; simp only [z05,zF,zR,and_true] at hF; have e1:=hF; dsimp only [z03,bare]; simp only [z01,Act.put,zQ]; simp only [e1]
     go_wp2
     exact zX hI rfl
    ·
     intro vals xw f hall hI hF; rw [show List.range _ = [0,1,2,3,4,5,6,7,8,9,10] from rfl] at hF; simp only [says,zF,zR,and_true] at hF; obtain ⟨i1,i2,i3⟩:=hI; rw [hall 9 (by decide),if_pos rfl] at i2; have e9 : vals 10 = .int .i64 p.2:=by obtain ⟨_,_,_,_,_,_,_,_,_,_,e9⟩:=hF; exact e9
     simp only [z01,Act.put,zQ]; simp only [e9]; clear e9 hF; have I1:=zH i1; have I2:=zH i2; have I3:=zH i3; clear i1 i2 i3; have HC:=zH (bAnd_any a0 a1 lo q r p.1 m.2 cc _ I2.out HMB.out.2 HCC.out); rw [<- HV.out] at HC
     go_wp2_with fail
     refine HC.out.mono ?_; rintro e z4 ⟨rfl,hb9,hd9⟩; have B4:=zH (I1.out.trans hb9); have D4:=zH hd9; have O4:=zH (I3.out.upB hb9); clear hb9 hd9 HC; have HC:=zH (bOr_any a0 a1 lo q r v.1 p.2 v.2 _ D4.out HPB.out.2 HVB.out.2); rw [<- HG.out] at HC
     go_wp2_with fail
     refine HC.out.mono ?_; rintro e z5 ⟨rfl,hb9,hd9⟩; have B5:=zH (B4.out.trans hb9); have D5:=zH hd9; have O5:=zH (O4.out.upB hb9); clear hb9 hd9 HC
     go_wp2
     go_roundw
     case rel => exact ⟨k + 1,g.1,l2,A2,c2,g.2,by omega,by go_num,rfl,rfl,HGB.out.2,by rw [HL2.out,List.length_append,HLK.out]; rfl,fun z hz => by
      rw [HL2.out] at hz
      rcases List.mem_append.1 hz with hz | hz
      · exact HLM.out z hz
      · rw [List.mem_singleton.1 hz]; exact HUB.out.2,⟨B5.out,D5.out,O5.out⟩,zH (by rw [HL2.out]; exact HST.out)⟩
     case measure => simp [intOf]; omega
  ·
   have hke : k = xs.length:=by omega
   subst hke; have hlt2 : ¬ ((xs.length : Nat) : Int) < xs.length:=by omega
   go_wp2
   go_ret
   have hd1 : xs.drop xs.length = []:=List.drop_length; have hd2 : ys.drop xs.length = []:=by rw [HL.out]; exact List.drop_length
   have hst2:=hst.out; rw [hd1,hd2] at hst2; have hT2 : T = (s1,l):=by rw [<- hst2]; show (s1,l ++ []) = _; rw [List.append_nil]
   rw [hT2]; exact ⟨A,c,rfl,HSI.out.2.2.pl.1,HSI.out.2.2.pl.2,HLM.out,HSI.out.1,HSI.out.2.1⟩
set_option maxHeartbeats 1000000 in
theorem offs_any (n : Nat) (w : World) (hn : n <= 1000) : Calls Tryz.prog 109 #[.int .i64 (n : Int)] w (RetOw (List.replicate n (-1)) w):=by
 have hal : Below w.heap.size w (w.alloc (.cells #[.int .i64 (-1)] 110)):=(Below.refl _ _).alloc (Nat.le_refl _) _; have HAL:=zH hal; obtain ⟨rs,hrs⟩ : ∃ rs,rs = List.replicate n (-1 : Int):=⟨_,rfl⟩; rw [<- hrs]; have HC:=zH (repeat_any (-1) n w.heap.size 110 _ (heap_alloc_new w (.cells #[.int .i64 (-1)] 110)) hn); rw [<- hrs] at HC; clear hal hrs
 go_enter Tryz.func109,Tryz.ntmps109
 go_wp2_with fail
 refine HC.out.mono ?_; rintro e w1 ⟨A,c,rfl,h1,h2⟩; have H1:=zH h1; have H2:=zH h2; clear h1 h2 HC
 go_wp2
 go_ret
 exact ⟨A,c,rfl,own_mono H1.out HAL.out.size,z09 HAL.out H2.out⟩
end Go.Proofs.YtemdmlmcidfodaaGreatDoor
