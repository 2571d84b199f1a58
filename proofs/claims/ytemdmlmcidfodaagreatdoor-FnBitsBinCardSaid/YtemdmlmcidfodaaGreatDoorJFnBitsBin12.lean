/- The program's comparisons: less, same. -/
import Derived.RangeFuncNested
import Derived.RangeFuncCalls
import Derived.RangeFuncLeaves
import Derived.Test.YtemdmlmcidfodaaGreatDoorJFnBitsBin0
import Derived.Test.YtemdmlmcidfodaaGreatDoorJFnBitsBin1
import Derived.Test.YtemdmlmcidfodaaGreatDoorJFnBitsBin7
import Derived.Test.YtemdmlmcidfodaaGreatDoorJFnBitsBin10
import Derived.Test.YtemdmlmcidfodaaGreatDoorJFnBitsBin11
namespace Go.Proofs.YtemdmlmcidfodaaGreatDoor
open Go Go.RowKit
abbrev G2 (F : Nat -> Prop) (w x : World) (S : Nat -> Prop) (b : Nat) : Prop:=F b \/ (w.heap.size + 2 <= b /\ b < x.heap.size /\ ¬ S b)
structure KS2 (F : Nat -> Prop) (w x : World) (k : N × Bool) (A : Option Addr) (c : Nat) (S : Nat -> Prop) : Prop where
 bel : Below w.heap.size w x
 var : x.heap[w.heap.size]? = some (.cells #[.int .i64 k.1.ins,.slice A k.1.gs.length c,.bool k.2] 85 (0,0))
 res : x.heap[w.heap.size + 1]? = some (.cells #[.int .i64 0,.slice none 0 0,.bool false] 85 (0,0))
 row : Lay.gate.Sl x (G2 F w x S) A k.1.gs
 nil : A = none -> k.1.gs.length = 0
theorem KS2.lt {F : Nat -> Prop} {w x : World} {S : Nat -> Prop} (h : Below w.heap.size w x) (hF : ∀ b,F b -> b < w.heap.size) : ∀ b,G2 F w x S b -> b < x.heap.size:=fun b hb => by
 rcases hb with hb | hb
 · have:=hF b hb; have:=h.size; omega
 · exact hb.2.1
theorem G2.up {α : Type} {L : Lay α} {F : Nat -> Prop} {w x x' : World} {S : Nat -> Prop} {A : Option Addr} {xs : List α} (h : L.Sl x (G2 F w x S) A xs) (hw : Below w.heap.size w x) (hF : ∀ b,F b -> b < w.heap.size) (hb : Below x.heap.size x x') : L.Sl x' (G2 F w x' S) A xs :=
 (h.below hb (KS2.lt hw hF)).mono fun b hb' => hb'.imp id fun h9 => ⟨h9.1,Nat.lt_of_lt_of_le h9.2.1 hb.size,h9.2.2⟩
theorem G2.up2 {α : Type} {L : Lay α} {F : Nat -> Prop} {w x x' : World} {S : Nat -> Prop} {A : Option Addr} {xs : List α} (h : L.Sl x (G2 F w x S) A xs) (hF : ∀ b,F b -> b < x.heap.size) (hb : Below x.heap.size x x') : L.Sl x' (G2 F w x' S) A xs :=
 (h.below hb (fun b hb' => hb'.elim (hF b) (fun h9 => h9.2.1))).mono fun b hb' => hb'.imp id fun h9 => ⟨h9.1,Nat.lt_of_lt_of_le h9.2.1 hb.size,h9.2.2⟩
theorem KS2.up {F : Nat -> Prop} {w x x' : World} {k : N × Bool} {A : Option Addr} {c : Nat} {S : Nat -> Prop} (h : KS2 F w x k A c S) (hF : ∀ b,F b -> b < w.heap.size) (hb : Below x.heap.size x x') : KS2 F w x' k A c S :=
 ⟨z09 h.bel hb,(hb.block _ (lt_of_block h.var)).trans h.var,(hb.block _ (lt_of_block h.res)).trans h.res,G2.up h.row h.bel hF hb,h.nil⟩
theorem KS2.set {F : Nat -> Prop} {w x : World} {k k' : N × Bool} {A A' : Option Addr} {c c' : Nat} {S : Nat -> Prop} (h : KS2 F w x k A c S) (hF : ∀ b,F b -> b < w.heap.size) (hs : Lay.gate.Sl x (G2 F w x S) A' k'.1.gs) (hn : A' = none -> k'.1.gs.length = 0) :
  KS2 F w (st3 x w.heap.size (.int .i64 k'.1.ins) (.slice A' k'.1.gs.length c') (.bool k'.2)) k' A' c' S:=by
 refine ⟨z0i h.bel (Nat.le_refl _) _ _ _,z0s h.var _ _ _,(st3_other (by omega)).trans h.res,(z1a (h:=w.heap.size) hs (fun b hb' => ?_) _ _ _).mono (fun b hb' => ?_),hn⟩
 ·
  rcases hb' with hb' | hb'
  · have:=hF b hb'; omega
  · omega
 · rw [G2,z0o]; exact hb'
theorem KS2.grown {F : Nat -> Prop} {w x x' : World} {k : N × Bool} {A : Option Addr} {c : Nat} {v v' : Value} (h : KS2 F w x k A c (fun b => v.ownBlock = some b)) (hF : ∀ b,F b -> b < w.heap.size) (hg : x.grownBy x' v.ownBlock) (hv : ∀ g,v.ownBlock = some g -> w.heap.size + 2 <= g) (hbk : v'.ownBlock = v.ownBlock \/ ∃ g,v'.ownBlock = some g /\ x.heap.size <= g) :
  KS2 F w x' k A c (fun b => v'.ownBlock = some b):=by
 have hne : ∀ b,b < w.heap.size + 2 -> some b ≠ v.ownBlock:=fun b hb e => by have:=hv b e.symm; omega
 have h1:=lt_of_block h.var; have h2:=lt_of_block h.res; have hk : ∀ b,G2 F w x (fun b => v.ownBlock = some b) b -> x'.heap[b]? = x.heap[b]?:=fun b hb => by
  rcases hb with hb | hb
  · have:=hF b hb; exact hg.block b (by omega) (hne b (by omega))
  · exact hg.block b hb.2.1 fun e => hb.2.2 e.symm
 refine ⟨h.bel.grown hg h.bel.size fun g e => by have:=hv g e; omega,(hg.block _ h1 (hne _ (by omega))).trans h.var,(hg.block _ h2 (hne _ (by omega))).trans h.res,(h.row.keep hk).mono fun b hb => hb.imp id fun h9 => ⟨h9.1,Nat.lt_of_lt_of_le h9.2.1 hg.size,fun e => ?_⟩,h.nil⟩
 rcases hbk with hbk | ⟨g,hbk,hle⟩
 · rw [hbk] at e; exact h9.2.2 e
 · rw [hbk] at e; injection e with e; omega
def RetKL (F : Nat -> Prop) (w : World) (res : (N × Bool) × List Int) (e : Ending) (w' : World) : Prop :=
 ∃ A c B d,e = .returned (.tuple #[.agg #[.int .i64 res.1.1.ins,.slice A res.1.1.gs.length c,.bool res.1.2],.slice B res.2.length d]) /\ (A = none -> res.1.1.gs.length = 0) /\ Lay.gate.Sl w' (fun b => F b \/ (w.heap.size <= b /\ b < w'.heap.size)) A res.1.1.gs /\ res.2.length <= d /\ Lay.int.Sl w' (fun b => w.heap.size <= b /\ b < w'.heap.size) B res.2 /\ (∀ m ∈ res.2,RB m) /\ Below w.heap.size w w'
theorem mux_rb {c x y : Int} {k : N × Bool} (h : NB k.1) (hc : RB c) (hx : RB x) (hy : RB y) : NB (run opsR (muxP c x y) k).1.1 /\ RB (run opsR (muxP c x y) k).2:=by
 have h1 : NB (opsR.and k c x).1.1 /\ RB (opsR.and k c x).2:=z2g h (and1_nb h hc hx); have h2 : NB (opsR.and (opsR.and k c x).1 (-c) y).1.1 /\ RB (opsR.and (opsR.and k c x).1 (-c) y).2:=z2g h1.1 (and1_nb h1.1 hc.neg hy); have h3 : NB (opsR.and (opsR.and (opsR.and k c x).1 (-c) y).1 (-(opsR.and k c x).2) (-(opsR.and (opsR.and k c x).1 (-c) y).2)).1.1 /\ RB (opsR.and (opsR.and (opsR.and k c x).1 (-c) y).1 (-(opsR.and k c x).2) (-(opsR.and (opsR.and k c x).1 (-c) y).2)).2:=z2g h2.1 (and1_nb h2.1 h1.2.neg h2.2.neg); exact ⟨h3.1,h3.2.neg⟩
set_option maxRecDepth 100000 in
set_option maxHeartbeats 4000000 in
theorem l7Ifs_any (F : Nat -> Prop) (A : Option Addr) (c : Nat) (k : N × Bool) (c0 : Int) (X Y : Option Addr) (cx cy : Nat) (xs ys : List Int) (w : World) (h : Lay.gate.Sl w F A k.1.gs) (hF : ∀ b,F b -> b < w.heap.size) (hA : A = none -> k.1.gs.length = 0) (hnb : NB k.1) (hc : RB c0) (hX : Lay.int.Rd w X xs) (hY : Lay.int.Rd w Y ys) (hxm : ∀ x ∈ xs,RB x) (hym : ∀ y ∈ ys,RB y) (hl : xs.length = ys.length) (hn : xs.length <= 1000) :
  Calls Tryz.prog 119 #[.agg #[.int .i64 k.1.ins,.slice A k.1.gs.length c,.bool k.2],.int .i64 c0,.slice X xs.length cx,.slice Y ys.length cy] w (RetKL F w (run opsR (z0v (muxP c0) xs ys) k)):=by
 obtain ⟨T,hT⟩ : ∃ T,T = run opsR (z0v (muxP c0) xs ys) k:=⟨_,rfl⟩; rw [<- hT]; have HT:=zH hT; have K0:=KS.two (c:=c) h hF hA; have HRW:=zH (h.below K0.bel hF); have HNIL:=zH hA; have HF:=zH hF; have HNB:=zH hnb; have HX:=zH hX; have HY:=zH hY; have HXM:=zH hxm; have HYM:=zH hym; have HL:=zH hl; have HC0:=zH hc; have K0:=zH K0; have hX0s : ((w.alloc (.cells #[.int .i64 k.1.ins,.slice A k.1.gs.length c,.bool k.2] 85)).alloc (.cells #[.int .i64 0,.slice none 0 0,.bool false] 85)).heap.size = w.heap.size + 2:=by simp
 clear h hA hnb hX hY hxm hym hc hT; rw [<- hl]; clear hl
 go_enter Tryz.func119,Tryz.ntmps119
 go_wp2
 generalize hX0 : (w.alloc (.cells #[.int .i64 k.1.ins,.slice A k.1.gs.length c,.bool k.2] 85)).alloc (.cells #[.int .i64 0,.slice none 0 0,.bool false] 85) = X0 at *; clear hX0; have hal : Below X0.heap.size X0 (X0.alloc (.cells #[] 3)):=(Below.refl _ _).alloc (Nat.le_refl _) _; have hown0 : OwnI (X0.alloc (.cells #[] 3)) (w.heap.size + 2) (.slice (some ⟨w.heap.size + 1 + 1,0,none⟩) 0 0) []:=z18 hX0s; have K1:=zH (K0.out.up HF.out hal); have HO0:=zH hown0; have HRW:=zH (HRW.out.below hal (fun b hb => by have:=HF.out b hb; omega)); clear hal hown0 K0
 go_loopw [10,11] (fun out i wr => ∃ (j : Nat) (k1 : N × Bool) (l : List Int) (A1 B : Option Addr) (c1 d : Nat),j <= xs.length /\ i = .int .i64 j /\ out = .slice B l.length d /\ l.length = j /\ OwnI wr (w.heap.size + 2) (.slice B l.length d) l /\ (∀ m ∈ l,RB m) /\ KS2 F w wr k1 A1 c1 (fun b => (Value.slice B l.length d).ownBlock = some b) /\ NB k1.1 /\ Hid ((let z:=run opsR (z0v (muxP c0) (xs.drop j) (ys.drop j)) k1; (z.1,l ++ z.2)) = T)) (fun _ i _ => xs.length - (intOf i).toNat)
 case atStart => exact ⟨0,k,[],A,some ⟨w.heap.size + 1 + 1,0,none⟩,c,0,Nat.zero_le _,rfl,rfl,rfl,HO0.out,(fun _ h => by cases h),⟨K1.out.bel,K1.out.var,K1.out.res,HRW.out.mono fun _ => .inl,HNIL.out⟩,HNB.out,zH (by rw [HT.out]; rfl)⟩
 case round =>
  obtain ⟨j,k1,l,A1,B,c1,d,hj,rfl,rfl,hlj,hown,hlm,hks,hnb1,hst⟩:=hrel; have HOWN:=zH hown; have HLM:=zH hlm; have HKS:=zH hks; have HLJ:=zH hlj; have HNB1:=zH hnb1; clear hown hlm hks hlj hnb1
  by_cases hlt : j < xs.length
  ·
   have hlt2 : (j : Int) < xs.length:=by omega
   have hlty : j < ys.length:=by rw [<- HL.out]; exact hlt
   obtain ⟨x,hx⟩ : ∃ x,xs[j]? = some x:=⟨_,List.getElem?_eq_getElem hlt⟩; obtain ⟨y,hy⟩ : ∃ y,ys[j]? = some y:=⟨_,List.getElem?_eq_getElem hlty⟩; have hxg : xs[j] = x:=(List.getElem?_eq_some_iff.1 hx).2; have hyg : ys[j] = y:=(List.getElem?_eq_some_iff.1 hy).2; have hxM : RB x:=HXM.out x (List.mem_of_getElem? hx); have hyM : RB y:=HYM.out y (List.mem_of_getElem? hy); obtain ⟨adx,rfl,-,-⟩:=HX.out.at_int hlt; obtain ⟨ady,rfl,-,-⟩:=HY.out.at_int hlty; obtain ⟨m,hm⟩ : ∃ m,m = run opsR ((muxP c0) x y) k1:=⟨_,rfl⟩; have HST:=zH ((z1v (o:=opsR) (f:=(muxP c0)) xs ys j x y hx hy k1 l).symm.trans hst.out); have HM:=zH hm; have HMB : Hid (NB m.1.1 /\ RB m.2):=zH (by rw [hm]; exact mux_rb HNB1.out HC0.out hxM hyM); have HRX : Hid (∀ z,Below w.heap.size w z -> z.cell? (adx.add j) = some (.int .i64 x)):=zH fun z hz => by
    obtain ⟨ad,e,_,hc⟩:=(HX.out.up hz).at_int hlt
    injection e with e; subst e; rw [<- hxg]; exact hc
   have HRY : Hid (∀ z,Below w.heap.size w z -> z.cell? (ady.add j) = some (.int .i64 y)):=zH fun z hz => by
    obtain ⟨ad,e,_,hc⟩:=(HY.out.up hz).at_int hlty
    injection e with e; subst e; rw [<- hyg]; exact hc
   obtain ⟨l2,hl2⟩ : ∃ l2,l2 = l ++ [m.2]:=⟨_,rfl⟩; have HL2:=zH hl2; have hll : l.length <= 1000:=by have:=HLJ.out; omega
   have HXYM:=zH (And.intro hxM hyM); clear hm hx hy hxg hyg hst hl2 hxM hyM hlty
   go_wp2
   refine z0a [[],[],[],[],[(2,23),(3,24)],[(4,25)],[],[],[(6,27),(7,28)],[(8,29)],[(0,21),(1,22),(5,26),(9,30)],[(10,31)],[(11,20)],[(11,20)],[(12,32)],[(13,33)]]
    (fun x9 y9 => Below x9.heap.size x9 y9)
    [(14,fun x9 y9 => x9.grownBy y9 (some w.heap.size))]
    (fun f9 x9 => (f9 14 = false -> KS2 F w x9 k1 A1 c1 (fun b => (Value.slice B l.length d).ownBlock = some b)) /\ (f9 14 = true -> ∃ A2 c2,KS2 F w x9 m.1 A2 c2 (fun b => (Value.slice B l.length d).ownBlock = some b)) /\ OwnI x9 (w.heap.size + 2) (.slice B l.length d) l /\ Below w.heap.size w x9)
    [zF 0 (.agg #[.int .i64 k1.1.ins,.slice A1 k1.1.gs.length c1,.bool k1.2]),
  zF 1 (.int .i64 c0),
  zF 2 (.slice (some adx) xs.length cx),
  zF 3 (.int .i64 (j : Int)),
  zF 4 (.pointer (some (adx.add j))),
  zF 5 (.int .i64 x),
  zF 6 (.slice (some ady) xs.length cy),
  zF 7 (.int .i64 (j : Int)),
  zF 8 (.pointer (some (ady.add j))),
  zF 9 (.int .i64 y),
  fun vs9 y9 => (fun v z => ∃ A2 c2,v = .tuple #[.agg #[.int .i64 m.1.1.ins,.slice A2 m.1.1.gs.length c2,.bool m.1.2],.int .i64 m.2] /\ (A2 = none -> m.1.1.gs.length = 0) /\ Lay.gate.Sl z (G2 F w z (fun b => (Value.slice B l.length d).ownBlock = some b)) A2 m.1.1.gs /\ w.heap.size <= z.heap.size) (vs9 10) y9,
  fun vs9 y9 => (fun v z => ∃ A2 c2,v = .tuple #[.agg #[.int .i64 m.1.1.ins,.slice A2 m.1.1.gs.length c2,.bool m.1.2],.int .i64 m.2] /\ (A2 = none -> m.1.1.gs.length = 0) /\ Lay.gate.Sl z (G2 F w z (fun b => (Value.slice B l.length d).ownBlock = some b)) A2 m.1.1.gs /\ w.heap.size <= z.heap.size) (vs9 11) y9,
  fun vs9 y9 => (fun v z => ∃ A2 c2,v = .agg #[.int .i64 m.1.1.ins,.slice A2 m.1.1.gs.length c2,.bool m.1.2] /\ (A2 = none -> m.1.1.gs.length = 0) /\ Lay.gate.Sl z (G2 F w z (fun b => (Value.slice B l.length d).ownBlock = some b)) A2 m.1.1.gs /\ w.heap.size <= z.heap.size) (vs9 12) y9,
  zF 13 (.int .i64 m.2),
  fun _ _ => True,
  zF 15 (.int .i64 m.2)]
    [(0,21),(1,22),(2,23),(3,24),(4,25),(5,26),(6,27),(7,28),(8,29),(9,30),(10,31),(11,20),(12,32),(13,33),(15,12)] (by kernel_rfl) (by kernel_rfl) (by kernel_rfl) (by kernel_rfl)
    (fun _ => Below.refl _ _) ⟨fun _ => World.grownBy.refl _ _,trivial⟩
    ⟨zU,
  zU,
  zU,
  zU,
  zU,
  zU,
  zU,
  zU,
  zU,
  zU,
  ⟨.inr (zS (fun v z => ∃ A2 c2,v = .tuple #[.agg #[.int .i64 m.1.1.ins,.slice A2 m.1.1.gs.length c2,.bool m.1.2],.int .i64 m.2] /\ (A2 = none -> m.1.1.gs.length = 0) /\ Lay.gate.Sl z (G2 F w z (fun b => (Value.slice B l.length d).ownBlock = some b)) A2 m.1.1.gs /\ w.heap.size <= z.heap.size) (fun _ _ _ ⟨A2,c2,h1,h2,h3,h4⟩ hR => ⟨A2,c2,h1,h2,G2.up2 h3 (fun b hb => Nat.lt_of_lt_of_le (HF.out b hb) h4) hR,Nat.le_trans h4 hR.size⟩)),⟨.inr (.inr (zS (fun v z => ∃ A2 c2,v = .tuple #[.agg #[.int .i64 m.1.1.ins,.slice A2 m.1.1.gs.length c2,.bool m.1.2],.int .i64 m.2] /\ (A2 = none -> m.1.1.gs.length = 0) /\ Lay.gate.Sl z (G2 F w z (fun b => (Value.slice B l.length d).ownBlock = some b)) A2 m.1.1.gs /\ w.heap.size <= z.heap.size) (fun _ _ _ ⟨A2,c2,h1,h2,h3,h4⟩ hR => ⟨A2,c2,h1,h2,(h3.keep fun b hb => hR.block b (hb.elim (fun h9 => Nat.lt_of_lt_of_le (HF.out b h9) h4) (fun h9 => h9.2.1)) (fun e => by injection e with e; exact hb.elim (fun h9 => by have:=HF.out b h9; omega) (fun h9 => by omega))).mono fun b hb => hb.imp id fun h9 => ⟨h9.1,Nat.lt_of_lt_of_le h9.2.1 hR.size,h9.2.2⟩,Nat.le_trans h4 hR.size⟩))),trivial⟩⟩,
  ⟨.inr (zS (fun v z => ∃ A2 c2,v = .tuple #[.agg #[.int .i64 m.1.1.ins,.slice A2 m.1.1.gs.length c2,.bool m.1.2],.int .i64 m.2] /\ (A2 = none -> m.1.1.gs.length = 0) /\ Lay.gate.Sl z (G2 F w z (fun b => (Value.slice B l.length d).ownBlock = some b)) A2 m.1.1.gs /\ w.heap.size <= z.heap.size) (fun _ _ _ ⟨A2,c2,h1,h2,h3,h4⟩ hR => ⟨A2,c2,h1,h2,G2.up2 h3 (fun b hb => Nat.lt_of_lt_of_le (HF.out b hb) h4) hR,Nat.le_trans h4 hR.size⟩)),⟨.inr (.inr (zS (fun v z => ∃ A2 c2,v = .tuple #[.agg #[.int .i64 m.1.1.ins,.slice A2 m.1.1.gs.length c2,.bool m.1.2],.int .i64 m.2] /\ (A2 = none -> m.1.1.gs.length = 0) /\ Lay.gate.Sl z (G2 F w z (fun b => (Value.slice B l.length d).ownBlock = some b)) A2 m.1.1.gs /\ w.heap.size <= z.heap.size) (fun _ _ _ ⟨A2,c2,h1,h2,h3,h4⟩ hR => ⟨A2,c2,h1,h2,(h3.keep fun b hb => hR.block b (hb.elim (fun h9 => Nat.lt_of_lt_of_le (HF.out b h9) h4) (fun h9 => h9.2.1)) (fun e => by injection e with e; exact hb.elim (fun h9 => by have:=HF.out b h9; omega) (fun h9 => by omega))).mono fun b hb => hb.imp id fun h9 => ⟨h9.1,Nat.lt_of_lt_of_le h9.2.1 hR.size,h9.2.2⟩,Nat.le_trans h4 hR.size⟩))),trivial⟩⟩,
  ⟨.inr (zS (fun v z => ∃ A2 c2,v = .agg #[.int .i64 m.1.1.ins,.slice A2 m.1.1.gs.length c2,.bool m.1.2] /\ (A2 = none -> m.1.1.gs.length = 0) /\ Lay.gate.Sl z (G2 F w z (fun b => (Value.slice B l.length d).ownBlock = some b)) A2 m.1.1.gs /\ w.heap.size <= z.heap.size) (fun _ _ _ ⟨A2,c2,h1,h2,h3,h4⟩ hR => ⟨A2,c2,h1,h2,G2.up2 h3 (fun b hb => Nat.lt_of_lt_of_le (HF.out b hb) h4) hR,Nat.le_trans h4 hR.size⟩)),⟨.inr (.inr (zS (fun v z => ∃ A2 c2,v = .agg #[.int .i64 m.1.1.ins,.slice A2 m.1.1.gs.length c2,.bool m.1.2] /\ (A2 = none -> m.1.1.gs.length = 0) /\ Lay.gate.Sl z (G2 F w z (fun b => (Value.slice B l.length d).ownBlock = some b)) A2 m.1.1.gs /\ w.heap.size <= z.heap.size) (fun _ _ _ ⟨A2,c2,h1,h2,h3,h4⟩ hR => ⟨A2,c2,h1,h2,(h3.keep fun b hb => hR.block b (hb.elim (fun h9 => Nat.lt_of_lt_of_le (HF.out b h9) h4) (fun h9 => h9.2.1)) (fun e => by injection e with e; exact hb.elim (fun h9 => by have:=HF.out b h9; omega) (fun h9 => by omega))).mono fun b hb => hb.imp id fun h9 => ⟨h9.1,Nat.lt_of_lt_of_le h9.2.1 hR.size,h9.2.2⟩,Nat.le_trans h4 hR.size⟩))),trivial⟩⟩,
  zU,
  ⟨.inr zK,⟨.inr (.inl rfl),trivial⟩⟩,
  zU,trivial⟩ ⟨zL,
  zL,
  zL,
  zL,
  zL,
  zL,
  zL,
  zL,
  zL,
  zL,
  fun _ _ _ h _ v => (by simpa only [<- h] using v),
  fun _ _ _ h _ v => (by simpa only [<- h] using v),
  fun _ _ _ h _ v => (by simpa only [<- h] using v),
  zL,
  fun _ _ _ _ _ _ => trivial,
  zL,trivial⟩ (⟨fun _ => HKS.out.up HF.out (z02 (Below.refl _ _) 1),(fun h => by cases h),HOWN.out.up (z02 (Below.refl _ _) 1),z09 HKS.out.bel (z02 (Below.refl _ _) 1)⟩) ⟨?_,?_,?_,?_,?_,?_,?_,?_,?_,?_,?_,?_,?_,?_,?_,?_,trivial⟩ ?_
   ·
    intro vals xw f hf1 hf2 hf3 hI hF; have k14 : f 14 = false:=hf3 14 (by kernel_rfl); clear hf2 hf3; dsimp only [z03,bare]; simp only [z01,Act.put,zQ]; have hv9:=(hI.1 k14).var; have y0:=(z00 hv9 0).1; have y1:=(z00 hv9 1).1; have y2:=(z00 hv9 2).1
    go_wp2
    exact zX hI rfl
   iterate 3
    ·
     rintro vals xw f hf1 - - hI hF; dsimp only [z03,bare]; simp only [z01,Act.put,zQ]
     go_wp2
     exact zX hI rfl
   ·
    rintro vals xw f hf1 - - hI hF; simp only [z05,zF,zR,and_true] at hF; obtain ⟨e23,e24⟩:=hF; dsimp only [z03,bare]; simp only [z01,Act.put,zQ]; simp only [e23,e24]
    go_wp2
    exact zX hI rfl
   ·
    rintro vals xw f hf1 - - hI hF; simp only [z05,zF,zR,and_true] at hF; have e25:=hF; dsimp only [z03,bare]; simp only [z01,Act.put,zQ]; simp only [e25]; have c9:=HRX.out _ hI.2.2.2
    go_wp2
    exact zX hI rfl
   iterate 2
    ·
     rintro vals xw f hf1 - - hI hF; dsimp only [z03,bare]; simp only [z01,Act.put,zQ]
     go_wp2
     exact zX hI rfl
   ·
    rintro vals xw f hf1 - - hI hF; simp only [z05,zF,zR,and_true] at hF; obtain ⟨e27,e28⟩:=hF; dsimp only [z03,bare]; simp only [z01,Act.put,zQ]; simp only [e27,e28]
    go_wp2
    exact zX hI rfl
   ·
    rintro vals xw f hf1 - - hI hF; simp only [z05,zF,zR,and_true] at hF; have e29:=hF; dsimp only [z03,bare]; simp only [z01,Act.put,zQ]; simp only [e29]; have c9:=HRY.out _ hI.2.2.2
    go_wp2
    exact zX hI rfl
   ·
    intro vals xw f hf1 hf2 hf3 hI hF; have k14 : f 14 = false:=hf3 14 (by kernel_rfl); clear hf2 hf3; simp only [z05,zF,zR,and_true] at hF; obtain ⟨e21,e22,e26,e30⟩:=hF; dsimp only [z03,bare]; simp only [z01,Act.put,zQ]; simp only [e21,e22,e26,e30]; have HI:=zH hI; have HK:=zH (hI.1 k14); have hsz9:=hI.2.2.2.size; clear hI; have HC:=zH (l7One_any (G2 F w xw (fun b => (Value.slice B l.length d).ownBlock = some b)) A1 c1 k1 c0 x y xw HK.out.row (KS2.lt HK.out.bel HF.out) HK.out.nil HNB1.out HC0.out HXYM.out.1 HXYM.out.2); rw [<- HM.out] at HC
    go_wp2_with fail
    refine HC.out.mono ?_; rintro e wx ⟨A2,c2,rfl,h2,h3,h4⟩; have H3:=zH h3; have H4:=zH h4; clear h3 h4 HC
    go_wp2
    refine ⟨rfl,⟨A2,c2,rfl,h2,H3.out.mono ?_,Nat.le_trans hsz9 H4.out.size⟩,⟨zN rfl,fun _ => H4.out⟩,(fun h => (HI.out.1 h).up HF.out H4.out),(fun h => absurd (k14.symm.trans h) (by simp)),HI.out.2.2.1.up H4.out,z09 HI.out.2.2.2 H4.out⟩; intro b hb
    rcases hb with (h9 | h9) | h9
    · exact .inl h9
    · exact .inr ⟨h9.1,Nat.lt_of_lt_of_le h9.2.1 H4.out.size,h9.2.2⟩
    ·
     refine .inr ⟨by have:=HK.out.bel.size; have:=lt_of_block HK.out.res; omega,h9.2,fun e => ?_⟩; have:=(HI.out.2.2.1.lt b e).2; omega
   ·
    rintro vals xw f hf1 - - hI hF; simp only [z05,zF,zR,and_true] at hF; obtain ⟨A2,c2,e31,h2,h3,h4⟩:=hF; dsimp only [z03,bare]; simp only [z01,Act.put,zQ]; simp only [e31]
    go_wp2
    exact ⟨rfl,⟨A2,c2,rfl,h2,h3,h4⟩,⟨zN rfl,fun _ => Below.refl _ _⟩,hI⟩
   ·
    rintro vals xw f hf1 - - hI hF; simp only [z05,zF,zR,and_true] at hF; obtain ⟨A2,c2,e20,h2,h3,h4⟩:=hF; dsimp only [z03,bare]; simp only [z01,Act.put,zQ]; simp only [e20]
    go_wp2
    exact ⟨rfl,⟨A2,c2,rfl,h2,h3,h4⟩,⟨zN rfl,fun _ => Below.refl _ _⟩,hI⟩
   ·
    rintro vals xw f hf1 - - hI hF; simp only [z05,zF,zR,and_true] at hF; obtain ⟨A2,c2,e20,h2,h3,h4⟩:=hF; dsimp only [z03,bare]; simp only [z01,Act.put,zQ]; simp only [e20]
    go_wp2
    exact zX hI rfl
   ·
    rintro vals xw f hf1 - - hI hF; simp only [z05,zF,zR,and_true] at hF; obtain ⟨A2,c2,e32,h2,h3,h4⟩:=hF; dsimp only [z03,bare]; simp only [z01,Act.put,zQ]; simp only [e32]; have HI:=zH hI; have HK:=zH (hI.1 hf1); have hv9:=HK.out.var; have y0:=(z00 hv9 0).1; have y1:=(z00 hv9 1).1; have y2:=(z00 hv9 2).1; have g0:=(z00 hv9 0).2; have g1:=(z00 hv9 1).2; have g2:=(z00 hv9 2).2; have H3:=zH h3; clear hI hv9 h3 h4
    go_wp2
    have hset:=HK.out.set (c':=c2) HF.out H3.out h2; have hgr : xw.grownBy (st3 xw w.heap.size (.int .i64 m.1.1.ins) (.slice A2 m.1.1.gs.length c2) (.bool m.1.2)) (some w.heap.size):=z06 (z06 (z06 (World.grownBy.refl _ _) _ _) _ _) _ _; exact ⟨rfl,trivial,⟨fun _ => hgr,fun h9 => absurd rfl h9⟩,fun h => absurd ((z0h f 14).symm.trans h) (by simp),fun _ => ⟨A2,c2,hset⟩,z1d HI.out.2.2.1 fun g hg => hgr.block g (HI.out.2.2.1.lt g hg).2 (fun e => by injection e with e; have:=(HI.out.2.2.1.lt g hg).1; omega),z0i HI.out.2.2.2 (Nat.le_refl _) _ _ _⟩
   ·
    rintro vals xw f hf1 - - hI hF; simp only [z05,zF,zR,and_true] at hF; have e33:=hF; dsimp only [z03,bare]; simp only [z01,Act.put,zQ]; simp only [e33]
    go_wp2
    exact zX hI rfl
   ·
    intro vals xw f hall hI hF; rw [show List.range _ = [0,1,2,3,4,5,6,7,8,9,10,11,12,13,14,15] from rfl] at hF; simp only [says,zF,zR,and_true] at hF; obtain ⟨A2,c2,hk2⟩:=hI.2.1 (hall 14 (by decide)); have e12 : vals 15 = .int .i64 m.2:=by obtain ⟨_,_,_,_,_,_,_,_,_,_,_,_,_,_,_,e9⟩:=hF; exact e9
    have HK2:=zH hk2; have hown9:=hI.2.2.1; have hsz9 : w.heap.size + 2 <= xw.heap.size:=by have:=lt_of_block hk2.res; omega
    have HI:=zH hI; clear hF hk2 hI; simp only [z01,Act.put,zQ]; simp only [e12]
    go_wp2_with (at_builtin; refine z0g (ys:=l2) (by rfl) (.tmp 34) (.tmp 36) (by rfl) (by rfl) (by rfl) hown9 (by omega) hsz9 HL2.out ?_; intro B2 d2 w2 hown2 hg2 hbk2)
    have hk3:=HK2.out.grown (v':=.slice B2 l2.length d2) HF.out hg2 (fun g hg => (HI.out.2.2.1.lt g hg).1) hbk2
    go_roundw
    case rel => exact ⟨j + 1,m.1,l2,A2,B2,c2,d2,by omega,by go_num,rfl,by rw [HL2.out,List.length_append,HLJ.out]; rfl,hown2,fun z hz => by
         rw [HL2.out] at hz
         rcases List.mem_append.1 hz with hz | hz
         · exact HLM.out z hz
         · rw [List.mem_singleton.1 hz]; exact HMB.out.2,hk3,HMB.out.1,zH (by rw [HL2.out,HM.out]; exact HST.out)⟩
    case measure => simp [intOf]; omega
  ·
   have hje : j = xs.length:=by omega
   subst hje; have hlt2 : ¬ ((xs.length : Nat) : Int) < xs.length:=by omega
   have hv9:=HKS.out.var; have y0:=(z00 hv9 0).1; have y1:=(z00 hv9 1).1; have y2:=(z00 hv9 2).1; have hr9:=HKS.out.res; have r0:=(z00 hr9 0).1; have r1:=(z00 hr9 1).1; have r2:=(z00 hr9 2).1; have rf0:=(z00 hr9 0).2; have rf1:=(z00 hr9 1).2; have rf2:=(z00 hr9 2).2; clear hv9 hr9
   go_wp2
   have hs:=z0s HKS.out.res (.int .i64 k1.1.ins) (.slice A1 k1.1.gs.length c1) (.bool k1.2); have k5:=(z00 hs 0).1; have k6:=(z00 hs 1).1; have k7:=(z00 hs 2).1; have kf5:=(z00 hs 0).2; have kf6:=(z00 hs 1).2; have kf7:=(z00 hs 2).2; refine bodyPost_ret (v:=.tuple #[.agg #[.int .i64 k1.1.ins,.slice A1 k1.1.gs.length c1,.bool k1.2],.slice B l.length d]) (by simp [results,Tryz.results119,go_sem,k5,k6,k7,kf5,kf6,kf7]) rfl ?_; have hd1 : xs.drop xs.length = []:=List.drop_length; have hd2 : ys.drop xs.length = []:=by rw [HL.out]; exact List.drop_length
   have hst2:=hst.out; rw [hd1,hd2] at hst2; have hT2 : T = (k1,l):=by rw [<- hst2]; show (k1,l ++ []) = _; rw [List.append_nil]
   rw [hT2]; obtain ⟨B',d',e9,hcap,hsl⟩:=HOWN.out.form
   injection e9 with e1 e2 e3
   subst e1 e3; refine ⟨A1,c1,B,d,rfl,HKS.out.nil,(z1a (h:=w.heap.size + 1) HKS.out.row (fun b hb => ?_) _ _ _).mono (fun b hb => ?_),hcap,(z1a (h:=w.heap.size + 1) hsl (fun b hb => by omega) _ _ _).mono (fun b hb => by rw [z0o]; omega),HLM.out,z0i HKS.out.bel (by omega) _ _ _⟩
   ·
    rcases hb with hb | hb
    · have:=HF.out b hb; omega
    · omega
   ·
    rw [z0o]; exact hb.imp id fun h9 => ⟨by omega,h9.2.1⟩
set_option maxRecDepth 100000 in
set_option maxHeartbeats 2000000 in
theorem l7Right_any (A X : Option Addr) (c cx : Nat) (n : N) (xs : List Int) (w : World) (hX : Lay.int.Rd w X xs) (hxi : i64s xs) (hlx : xs.length <= 1048576) (hn : n.gs.length <= 1048576) (h0 : 0 <= n.ins) (h1 : n.ins <= 1000000) :
  Calls Tryz.prog 40 #[.agg #[.int .i64 n.ins,.slice A n.gs.length c],.slice X xs.length cx] w (RetB w (z1m n xs)):=by
 have hal : Below w.heap.size w (w.alloc (.cells #[.int .i64 n.ins,.slice A n.gs.length c] 29)):=(Below.refl _ _).alloc (Nat.le_refl _) _; have HB0:=zH (heap_alloc_new w (.cells #[.int .i64 n.ins,.slice A n.gs.length c] 29)); have HAL:=zH hal; have HX:=zH hX; have HXI:=zH hxi; clear hal hX hxi
 go_enter Tryz.func40,Tryz.ntmps40
 go_wp2
 generalize hX0 : w.alloc (.cells #[.int .i64 n.ins,.slice A n.gs.length c] 29) = X0 at *; clear hX0
 go_loopw [5] (fun i wr => ∃ (j : Nat),j <= xs.length /\ i = .int .i64 j /\ Below w.heap.size w wr /\ wr.heap[w.heap.size]? = some (.cells #[.int .i64 n.ins,.slice A n.gs.length c] 29 (0,0)) /\ ∀ m ∈ xs.take j,z07 n m = true) (fun i _ => xs.length - (intOf i).toNat)
 case atStart => exact ⟨0,Nat.zero_le _,rfl,HAL.out,HB0.out,(fun m hm => by simp at hm)⟩
 case round =>
  obtain ⟨j,hj,rfl,hb,hb0,hall⟩:=hrel; have HB:=zH hb; have HB1:=zH hb0; have HALL:=zH hall; clear hb hb0 hall
  by_cases hlt : j < xs.length
  ·
   have hlt2 : (j : Int) < xs.length:=by omega
   obtain ⟨x,hx⟩ : ∃ x,xs[j]? = some x:=⟨_,List.getElem?_eq_getElem hlt⟩; have hxg : xs[j] = x:=(List.getElem?_eq_some_iff.1 hx).2; have HMEM:=zH (List.mem_of_getElem? hx); obtain ⟨x0,x1⟩:=HXI.out x HMEM.out; obtain ⟨adx,rfl,-,-⟩:=HX.out.at_int hlt; have HRX : Hid (∀ z,Below w.heap.size w z -> z.cell? (adx.add j) = some (.int .i64 x)):=zH fun z hz => by
    obtain ⟨ad,e,_,hc⟩:=(HX.out.up hz).at_int hlt
    injection e with e; subst e; rw [<- hxg]; exact hc
   have HTK : Hid (xs.take (j + 1) = xs.take j ++ [x]):=zH (by rw [<- hxg]; simp); obtain ⟨mk,hmk⟩ : ∃ mk,z07 n x = mk:=⟨_,rfl⟩; have HMK:=zH hmk; clear hx hxg hmk
   go_wp2
   refine z0a [[],[],[],[(1,13),(2,14)],[(3,15)],[(0,12),(4,16)],[(5,17)]]
    (fun x9 y9 => Below x9.heap.size x9 y9)
    []
    (fun _ x9 => Below w.heap.size w x9 /\ x9.heap[w.heap.size]? = some (.cells #[.int .i64 n.ins,.slice A n.gs.length c] 29 (0,0)))
    [zF 0 (.agg #[.int .i64 n.ins,.slice A n.gs.length c]),
  zF 1 (.slice (some adx) xs.length cx),
  zF 2 (.int .i64 (j : Int)),
  zF 3 (.pointer (some (adx.add j))),
  zF 4 (.int .i64 x),
  zF 5 (.bool mk),
  zF 6 (.bool (!mk))]
    [(0,12),(1,13),(2,14),(3,15),(4,16),(5,17),(6,18)] (by kernel_rfl) (by kernel_rfl) (by kernel_rfl) (by kernel_rfl)
    (fun _ => Below.refl _ _) trivial
    ⟨⟨.inr zG,trivial⟩,
  ⟨.inr zG,trivial⟩,
  ⟨.inr zG,trivial⟩,
  ⟨.inr zG,trivial⟩,
  ⟨.inr zG,trivial⟩,
  ⟨.inr zG,trivial⟩,
  ⟨.inr zG,trivial⟩,trivial⟩ ⟨zL,
  zL,
  zL,
  zL,
  zL,
  zL,
  zL,trivial⟩ (⟨z09 HB.out (z02 (Below.refl _ _) 1),HB1.out⟩) ⟨?_,?_,?_,?_,?_,?_,?_,trivial⟩ ?_
   ·
    rintro vals xw f hf1 - - hI hF; dsimp only [z03,bare]; simp only [z01,Act.put,zQ]; have y0:=(z00 hI.2 0).1; have y1:=(z00 hI.2 1).1
    go_wp2
    exact ⟨rfl,rfl,Below.refl _ _,hI⟩
   iterate 2
    ·
     rintro vals xw f hf1 - - hI hF; dsimp only [z03,bare]; simp only [z01,Act.put,zQ]
     go_wp2
     exact ⟨rfl,rfl,Below.refl _ _,hI⟩
   ·
    rintro vals xw f hf1 - - hI hF; simp only [z05,zF,zR,and_true] at hF; obtain ⟨e13,e14⟩:=hF; dsimp only [z03,bare]; simp only [z01,Act.put,zQ]; simp only [e13,e14]
    go_wp2
    exact ⟨rfl,rfl,Below.refl _ _,hI⟩
   ·
    rintro vals xw f hf1 - - hI hF; simp only [z05,zF,zR,and_true] at hF; have e15:=hF; dsimp only [z03,bare]; simp only [z01,Act.put,zQ]; simp only [e15]; have c9:=HRX.out _ hI.1
    go_wp2
    exact ⟨rfl,rfl,Below.refl _ _,hI⟩
   ·
    rintro vals xw f hf1 - - hI hF; simp only [z05,zF,zR,and_true] at hF; obtain ⟨e12,e16⟩:=hF; dsimp only [z03,bare]; simp only [z01,Act.put,zQ]; simp only [e12,e16]; have HI:=zH hI; clear hI
    go_wp2_with fail
    refine (l6Mark_any A c n x xw hn h0 h1 x0 x1).mono ?_; rintro e wx ⟨rfl,hb9⟩; rw [HMK.out]; have HB9:=zH hb9; clear hb9
    go_wp2
    exact ⟨rfl,rfl,HB9.out,z09 HI.out.1 HB9.out,(HB9.out.block _ (lt_of_block HI.out.2)).trans HI.out.2⟩
   ·
    rintro vals xw f hf1 - - hI hF; simp only [z05,zF,zR,and_true] at hF; have e17:=hF; dsimp only [z03,bare]; simp only [z01,Act.put,zQ]; simp only [e17]
    go_wp2
    exact ⟨rfl,rfl,Below.refl _ _,hI⟩
   ·
    intro vals xw f hall hI hF; rw [show List.range _ = [0,1,2,3,4,5,6] from rfl] at hF; simp only [says,zF,zR,and_true] at hF; obtain ⟨i1,i2⟩:=hI; obtain ⟨_,_,_,_,_,_,e18⟩:=hF; have I1:=zH i1; have I2:=zH i2; clear i1 i2; simp only [z01,Act.put,zQ]; simp only [e18]; clear e18
    cases mk
    ·
     go_wp2
     go_ret
     refine ⟨z0m ?_,I1.out⟩; rw [eq_comm]; unfold z1m; have : xs.all (z07 n) = false:=by rw [List.all_eq_false]; exact ⟨x,HMEM.out,by rw [HMK.out]; simp⟩
     rw [this,Bool.and_false]
    ·
     go_wp2
     go_roundw
     case rel => exact ⟨j + 1,by omega,by go_num,I1.out,I2.out,fun m hm => by
      rw [HTK.out] at hm
      rcases List.mem_append.1 hm with hm | hm
      · exact HALL.out m hm
      · rw [List.mem_singleton.1 hm]; exact HMK.out⟩
     case measure => simp [intOf]; omega
  ·
   have hje : j = xs.length:=by omega
   subst hje; have hlt2 : ¬ ((xs.length : Nat) : Int) < xs.length:=by omega
   have HAL2 : Hid (xs.all (z07 n) = true):=zH (List.all_eq_true.2 fun m hm => HALL.out m (by rw [List.take_length]; exact hm))
   by_cases g1 : (1 : Int) <= xs.length
   ·
    by_cases g2 : (xs.length : Int) <= 4
    ·
     go_wp2
     go_ret
     exact ⟨z0m (by unfold z1m; rw [HAL2.out,decide_eq_true (by omega : 1 <= xs.length),decide_eq_true (by omega : xs.length <= 4)]; rfl),HB.out⟩
    ·
     go_wp2
     go_ret
     exact ⟨z0m (by unfold z1m; rw [decide_eq_false (by omega : ¬ xs.length <= 4)]; simp),HB.out⟩
   ·
    go_wp2
    go_ret
    exact ⟨z0m (by unfold z1m; rw [decide_eq_false (by omega : ¬ 1 <= xs.length)]; simp),HB.out⟩
def toldR (z : (N × Bool) × List Int) : N × List Int:=if z.1.2 = true then (z.1.1,z.2) else (⟨0,[]⟩,[])
set_option maxRecDepth 100000 in
set_option maxHeartbeats 2000000 in
theorem l7Told_any (A X : Option Addr) (c cx : Nat) (k : N × Bool) (xs : List Int) (w : World) (h : Lay.gate.Rd w A k.1.gs) (hA : A = none -> k.1.gs.length = 0) (hn : k.1.gs.length <= 1048576) (hX : Lay.int.Rd w X xs) (hXn : X = none -> xs.length = 0) (hlx : xs.length <= 1048576) :
  Calls Tryz.prog 41 #[.agg #[.int .i64 k.1.ins,.slice A k.1.gs.length c,.bool k.2],.slice X xs.length cx] w (RetBits (toldR (k,xs)) w):=by
 obtain ⟨n,ok⟩:=k; dsimp only at h hA hn ⊢; obtain ⟨hW,hB0,hB1,hWS⟩:=z0p w (.cells #[.int .i64 n.ins,.slice A n.gs.length c,.bool ok] 85) (.cells #[.int .i64 0,.slice none 0 0] 29); have z0:=(z00 hB0 0).1; have z1:=(z00 hB0 1).1; have z2:=(z00 hB0 2).1; have HW:=zH hW; have HB1:=zH hB1; have HWS:=zH hWS; have HX:=zH hX; have HFR:=zH (l6Fresh_any A c n _ (h.up hW) hn hA); clear hW hB0 hB1 hX h hWS
 cases ok
 ·
  go_enter Tryz.func41,Tryz.ntmps41
  go_wp2
  refine bodyPost_ret (v:=.tuple #[.agg #[.int .i64 0,.slice none 0 0],.slice (some ⟨w.heap.size + 1 + 1,0,none⟩) 0 0]) (by simp [results,Tryz.results41,go_sem]) rfl ?_; rw [show toldR ((n,false),xs) = (⟨0,[]⟩,[]) from if_neg (by simp)]; refine ⟨none,some ⟨w.heap.size + 1 + 1,0,none⟩,0,0,rfl,Nat.zero_le _,Nat.zero_le _,.nil _ _ _ _,.nil _ _ _ _,?_,z20 rfl⟩
  first
   | exact HW.out.alloc (by simp; omega) _
   | exact z0b (z0b (HW.out.alloc (by simp; omega) _) (by show w.heap.size <= w.heap.size + 1; omega) _) (by show w.heap.size <= w.heap.size + 1; omega) _
 ·
  go_enter Tryz.func41,Tryz.ntmps41
  go_wp2_with fail
  refine HFR.out.mono ?_; generalize hX0 : (w.alloc (.cells #[.int .i64 n.ins,.slice A n.gs.length c,.bool true] 85)).alloc (.cells #[.int .i64 0,.slice none 0 0] 29) = X0 at *; clear hX0; rintro e w1 ⟨A1,c1,rfl,ho1,hb1⟩; have HO1:=zH ho1; have HB2:=zH hb1; have HX1:=zH ((hb1.block _ (lt_of_block HB1.out)).trans HB1.out); clear ho1 hb1 HFR z0 z1 z2; have hal : Below w1.heap.size w1 (w1.alloc (.cells #[] 3)):=(Below.refl _ _).alloc (Nat.le_refl _) _; have HAL:=zH hal; obtain ⟨i0,hi0,hz0,hz1,hz2⟩:=info_parts int_info; have hsrc:=src_ints (HX.out.up (z09 (z09 HW.out HB2.out) hal)); have HSZ:=zH (z09 HW.out HB2.out).size; clear hal
  go_wp2_with (at_builtin; refine z0w _ (by rfl) (.tmp 14) (.tmp 15) _ (by rfl) w1.heap.size 3 i0 _ 1 8 Tryz.underlying34 hi0 hz0 hz1 hz2 (by rfl) (by omega) (.slice (some ⟨w1.heap.size,0,none⟩) 0 0) 0 [] (by rfl) (z18 rfl) X xs.length cx (xs.map (Value.int .i64)) (by rfl) hsrc (ints_one _) xs.length (by omega) (by unfold maxLen; omega) (by omega) (by simp) hXn ?_; intro X2 d2 w3 ho3 hbel3 hg3; have hv9:=(hbel3.block _ (lt_of_block HX1.out)).trans ((HAL.out.block _ (lt_of_block HX1.out)).trans HX1.out); have y0:=(z00 hv9 0).1; have y1:=(z00 hv9 1).1; have f0:=(z00 hv9 0).2; have f1:=(z00 hv9 1).2; have HV9:=zH hv9; have HO3:=zH ho3; have HB3:=zH hbel3; clear hv9 ho3 hbel3 hg3 hsrc)
  have hs1:=z04 w3 (w.heap.size + 1) 0 (.int .i64 n.ins) _ _ HV9.out; have hs2:=z04 _ (w.heap.size + 1) 1 (.slice A1 n.gs.length c1) _ _ hs1; have hgr : w3.grownBy ((w3.setCell ⟨w.heap.size + 1,0,none⟩ (.int .i64 n.ins)).setCell ⟨w.heap.size + 1,1,none⟩ (.slice A1 n.gs.length c1)) (some (w.heap.size + 1)):=z06 (z06 (World.grownBy.refl _ _) _ _) _ _; have k5:=(z00 hs2 0).1; have k6:=(z00 hs2 1).1; have kf5:=(z00 hs2 0).2; have kf6:=(z00 hs2 1).2; refine bodyPost_ret (v:=.tuple #[.agg #[.int .i64 n.ins,.slice A1 n.gs.length c1],.slice X2 xs.length d2]) (by simp [results,Tryz.results41,go_sem,k5,k6,kf5,kf6]) rfl ?_; rw [show toldR ((n,true),xs) = (n,xs) from if_pos rfl]; have hoi : OwnI w3 w1.heap.size (.slice X2 xs.length d2) xs:=HO3.out; have hlt : w.heap.size + 1 < X0.heap.size:=by rw [HWS.out]; omega
  have hge : X0.heap.size <= w1.heap.size:=HB2.out.size; have hb13 : Below w1.heap.size w1 w3:=HAL.out.trans HB3.out; exact ⟨A1,X2,c1,d2,rfl,HO1.out.sl.1,hoi.cap,z1y (z1q (HO1.out.own.own_up hb13) hgr hlt) HW.out.size,z1y (z1q hoi.own hgr (by omega)) HSZ.out,((z09 (z09 HW.out HB2.out) hb13).grown hgr (z09 (z09 HW.out HB2.out) hb13).size (fun k hk => by injection hk with hk; omega)),apart_of HO1.out.own hoi.own (fun b h1 h2 => by have:=h1.2.1; have:=h2.1; omega)⟩
theorem told_out {n : N} (p : PG (List Int)) : toldR (run opsR p (n,true)) = bitsOut (run opsP p ⟨n,none⟩):=by
 rcases run_sim p ⟨n,none⟩ (n,true) (.inl ⟨rfl,rfl⟩) with ⟨h1,h2,h3,_⟩ | ⟨h1,h2⟩
 ·
  unfold toldR bitsOut; rw [h2,if_pos rfl,if_pos h1,h3]
 ·
  unfold toldR bitsOut; rw [if_neg (by rw [h2]; simp),if_neg h1]
end Go.Proofs.YtemdmlmcidfodaaGreatDoor
namespace Go.Proofs.YtemdmlmcidfodaaGreatDoor
open Go Go.RowKit Go.ChangeShapes Go.WideShapes Go.ChangeAt Go.Deep
theorem pickN_len {n : N} {o : N × List Int} (h : z0q n = true -> o.1.gs.length <= 1048576 /\ o.2.length <= 1048576) : (pickN (z0q n) o).1.gs.length <= 1048576 /\ (pickN (z0q n) o).2.length <= 1048576:=by
 cases hk : z0q n
 · exact ⟨Nat.zero_le _,Nat.zero_le _⟩
 · exact h hk
end Go.Proofs.YtemdmlmcidfodaaGreatDoor
namespace Go.Proofs.YtemdmlmcidfodaaGreatDoor
open Go Go.RowKit
theorem yield_in {P : Program} {m l : Nat} {rec : Loop} {ps : Array Tmp} {tmps : Array Value} {assign body : Code} {args : Array Value} {W : World} {R : Ending -> World -> Prop} (hl : W.heap[l]? = some (.loop rec)) (e1 : rec.params = ps) (e2 : rec.tmps = tmps) (e3 : rec.assign = assign) (e4 : rec.body = body) (hs : args.size = ps.size)
  (h : assign.wpIn (Fence.wide.inRound l) m P (Exit.then (fun a₁ w₁ => ∃ w₂,(Instr.beginRound l).run P w₁ = .ok () w₂ /\ body.wpIn (Fence.wide.inRound l) m P (roundPost P l R) a₁ w₂) (fun _ _ _ => False)) { tmps:=(ps.zip args).foldl (fun t (p,v) => t.setIfInBounds p v) tmps,defers:=[] } W) :
  YieldAt Fence.wide m P l args W R:=by
 subst e1 e2 e3 e4; exact ⟨_,_,_,_,run_yield hl hs,roundIn_of_wpIn trivial h⟩
def loopRec (fn : FuncId) (a : Act) (ps : Array Tmp) (assign body : Code) (D : Nat) (s : LoopState) : Loop:={ state:=s,pending:=none,fn,tmps:=a.tmps,params:=ps,assign,body,defers:=D }
theorem wpIn_rangeFunc_one {P : Program} {n : Nat} {g : Operand} {ps : Array Tmp} {assign body : Code} {Q : Exit -> Act -> World -> Prop} {a : Act} {w : World} {gf : Nat} {lb : Array Value} {Fin : Loop -> World -> Prop}
  (hg : a.eval g = .func (.func gf) #[] lb) (eg : ∀ args w,(callFunc gf args).run P w = .ok (.enter gf args) w)
  (hit : ∀ fn rec,rec = loopRec fn a ps assign body w.heap.size .ready -> CallsIn Fence.wide (n - 1) P gf (#[.func (.yield (w.heap.size + 1)) #[] #[]] ++ lb) ((w.alloc (.deferred (some []))).alloc (.loop rec)) fun e W =>
   (∃ v,e = .returned v) /\ W.heap[w.heap.size + 1]? = some (.loop rec) /\ W.heap[w.heap.size]? = some (.deferred (some [])) /\ Fin rec W)
  (hfin : ∀ rec rec' W,Fin rec W -> W.heap[w.heap.size + 1]? = some (.loop rec) -> (W.putObj (w.heap.size + 1) (.loop rec')).heap[w.heap.size]? = some (.deferred (some [])) →
   Q .normal { a with defers:={ target:=.collected w.heap.size,args:=#[] } :: a.defers } (W.putObj (w.heap.size + 1) (.loop rec'))) :
  (Code.rangeFunc g ps assign body).wpIn Fence.wide n P Q a w:=by
 refine wpIn_rangeFunc fun fn _ => ?_
 obtain ⟨rec,hrec⟩ : ∃ rec,rec = loopRec fn a ps assign body w.heap.size .ready:=⟨_,rfl⟩; obtain ⟨W1,hW1⟩ : ∃ W1,(w.alloc (.deferred (some []))).alloc (.loop rec) = W1:=⟨_,rfl⟩; have hit:=hit fn rec hrec; rw [hW1] at hit; refine ⟨w.heap.size + 1,[{ target:=.collected w.heap.size,args:=#[] }],W1,{ target:=.fn (.func gf) lb,args:=#[.func (.yield (w.heap.size + 1)) #[] #[]] },W1,gf,
  #[.func (.yield (w.heap.size + 1)) #[] #[]] ++ lb,W1,?_,?_,?_,?_,(fun h => by cases h),?_⟩
 · rw [<- hW1,hrec]; exact run_enterLoop_outer _ _ _ _ _
 ·
  simp only [resolve,hg]; simp [go_sem]
 · exact fun _ _ => trivial
 · simp [invoke,go_sem,eg]
 ·
  refine hit.mono ?_; rintro e W ⟨⟨v,rfl⟩,hl,hk,hf⟩; have hlt:=(Array.getElem?_eq_some_iff.1 hl).1; have hp : rec.pending = none:=by rw [hrec]; rfl
  have he:=run_endLoop (P:=P) hl (by rw [hrec]; simp [loopRec]); rw [hp] at he; exact ⟨none,_,he,hfin rec _ W hf hl ((World.putObj_heap_other (by omega)).trans hk)⟩
theorem run_less {σ : Type} {o : Ops σ} (xs ys : List Int) (k : Nat) (x y : Int) (hx : xs[k]? = some x) (hy : ys[k]? = some y) (s : σ) (r : Int) :
  run o (lessP (xs.drop k) (ys.drop k) r) s = (let d:=o.xor s x y; let p:=run o (muxP d.2 y r) d.1; run o (lessP (xs.drop (k + 1)) (ys.drop (k + 1)) p.2) p.1):=by
 obtain ⟨hk,rfl⟩:=List.getElem?_eq_some_iff.1 hx; obtain ⟨hk',rfl⟩:=List.getElem?_eq_some_iff.1 hy; rw [List.drop_eq_getElem_cons hk,List.drop_eq_getElem_cons hk']; simp only [lessP,run,run_bind]
def GateI (a0 a1 : Addr) (lo : Nat) (W : World) (q r : Nat) (s s' : BS) (called : Bool) (x : World) : Prop:=BelB lo W x /\ Bd a0 a1 lo x q r (if called = true then s' else s)
theorem GateI.up {a0 a1 : Addr} {lo : Nat} {W : World} {q r : Nat} {s s' : BS} {called : Bool} {x x' : World} (h : GateI a0 a1 lo W q r s s' called x) (hb : Below x.heap.size x x') : GateI a0 a1 lo W q r s s' called x':=⟨h.1.trans (.of hb h.2.size),h.2.up hb⟩
set_option maxRecDepth 100000 in
set_option maxHeartbeats 4000000 in
theorem bLess_any (a0 a1 : Addr) (lo q r : Nat) (X Y : Option Addr) (cx cy : Nat) (xs ys : List Int) (s : BS) (w : World) (h : Bd a0 a1 lo w q r s) (hX : Lay.int.Pl w X xs) (hY : Lay.int.Pl w Y ys) (hxm : ∀ x ∈ xs,MB x) (hym : ∀ y ∈ ys,MB y) (hl : xs.length = ys.length) (hn : xs.length <= 1000) :
  Calls Tryz.prog 112 #[.pointer (some ⟨q,0,none⟩),.slice X xs.length cx,.slice Y ys.length cy] w (RetM a0 a1 lo w q r (run opsP (lessP xs ys (-1)) s)):=by
 obtain ⟨T,hT⟩ : ∃ T,T = run opsP (lessP xs ys (-1)) s:=⟨_,rfl⟩; rw [<- hT]; have HT:=zH hT; have HB:=zH h; have HX:=zH hX; have HY:=zH hY; have HXM:=zH hxm; have HYM:=zH hym; have HL:=zH hl; have hlo:=h.size; clear hT h hX hY hxm hym; rw [<- hl]; clear hl
 go_enter Tryz.func112,Tryz.ntmps112
 go_wp2
 go_loopw [7,12] (fun rv i wr => ∃ (k : Nat) (s1 : BS) (rr : Int),k <= xs.length /\ i = .int .i64 k /\ rv = .int .i64 rr /\ MB rr /\ BelB lo w wr /\ Bd a0 a1 lo wr q r s1 /\ Hid (run opsP (lessP (xs.drop k) (ys.drop k) rr) s1 = T)) (fun _ i _ => xs.length - (intOf i).toNat)
 case atStart => exact ⟨0,s,(-1),Nat.zero_le _,rfl,rfl,by unfold MB; omega,.refl _ _,HB.out,zH (by rw [HT.out]; rfl)⟩
 case round =>
  obtain ⟨k,s1,rr,hk,rfl,rfl,hrr,hbb,hbd,hst⟩:=hrel; have HRR:=zH hrr; have HBB:=zH hbb; have HBD:=zH hbd; clear hbb hbd hrr
  by_cases hlt : k < xs.length
  ·
   have hlt2 : (k : Int) < xs.length:=by omega
   have hlty : k < ys.length:=by rw [<- HL.out]; exact hlt
   obtain ⟨x,hx⟩ : ∃ x,xs[k]? = some x:=⟨_,List.getElem?_eq_getElem hlt⟩; obtain ⟨y,hy⟩ : ∃ y,ys[k]? = some y:=⟨_,List.getElem?_eq_getElem hlty⟩; have hxg : xs[k] = x:=(List.getElem?_eq_some_iff.1 hx).2; have hyg : ys[k] = y:=(List.getElem?_eq_some_iff.1 hy).2; have HXYM:=zH (And.intro (HXM.out x (List.mem_of_getElem? hx)) (HYM.out y (List.mem_of_getElem? hy))); obtain ⟨adx,rfl,-,-⟩:=HX.out.at_int hlt; obtain ⟨ady,rfl,-,-⟩:=HY.out.at_int hlty; obtain ⟨m,hm⟩ : ∃ m,m = opsP.xor s1 x y:=⟨_,rfl⟩; have HST:=zH ((run_less (o:=opsP) xs ys k x y hx hy s1 rr).symm.trans hst.out); have HM:=zH hm; have HMB : Hid (NB m.1.n /\ MB m.2):=zH (by rw [hm]; exact opsP_xor_mb HBD.out.nb HXYM.out.1.rb HXYM.out.2.rb); have HRX : Hid (∀ z,BelB lo w z -> z.cell? (adx.add k) = some (.int .i64 x)):=zH fun z hz => by
    obtain ⟨ad,e,_,hc⟩:=(HX.out.upB hz).at_int hlt
    injection e with e; subst e; rw [<- hxg]; exact hc
   have HRY : Hid (∀ z,BelB lo w z -> z.cell? (ady.add k) = some (.int .i64 y)):=zH fun z hz => by
    obtain ⟨ad,e,_,hc⟩:=(HY.out.upB hz).at_int hlty
    injection e with e; subst e; rw [<- hyg]; exact hc
   clear hm hx hy hxg hyg hst hlty
   go_wp2
   refine z0a [[],[],[],[(1,16),(2,17)],[(3,18)],[],[],[(5,20),(6,21)],[(7,22)],[(0,15),(4,19),(8,23)],[(9,24)]]
    (fun x9 y9 => Below x9.heap.size x9 y9)
    [(9,fun x9 y9 => BelB lo x9 y9)]
    (fun f9 x9 => GateI a0 a1 lo w q r s1 m.1 (f9 9) x9)
    [zF 0 (.pointer (some ⟨q,0,none⟩)),
  zF 1 (.slice (some adx) xs.length cx),
  zF 2 (.int .i64 (k : Int)),
  zF 3 (.pointer (some (adx.add k))),
  zF 4 (.int .i64 x),
  zF 5 (.slice (some ady) xs.length cy),
  zF 6 (.int .i64 (k : Int)),
  zF 7 (.pointer (some (ady.add k))),
  zF 8 (.int .i64 y),
  zF 9 (.int .i64 m.2),
  zF 10 (.int .i64 m.2)]
    [(0,15),(1,16),(2,17),(3,18),(4,19),(5,20),(6,21),(7,22),(8,23),(9,24),(10,9)] (by kernel_rfl) (by kernel_rfl) (by kernel_rfl) (by kernel_rfl)
    (fun _ => Below.refl _ _) ⟨fun _ => BelB.refl _ _,trivial⟩
    ⟨zU,
  zU,
  zU,
  zU,
  zU,
  zU,
  zU,
  zU,
  zU,
  ⟨.inr zG,⟨.inr (.inl rfl),trivial⟩⟩,
  zU,trivial⟩ ⟨zL,
  zL,
  zL,
  zL,
  zL,
  zL,
  zL,
  zL,
  zL,
  zL,
  zL,trivial⟩ (⟨HBB.out.trans (.of (z02 (Below.refl _ _) 1) HBD.out.size),by rw [if_neg (by simp)]; exact HBD.out.up (z02 (Below.refl _ _) 1)⟩) ⟨?_,?_,?_,?_,?_,?_,?_,?_,?_,?_,?_,trivial⟩ ?_
   iterate 3
    ·
     rintro vals xw f hf1 - - hI hF; dsimp only [z03,bare]; simp only [z01,Act.put,zQ]
     go_wp2
     exact zX hI rfl
   ·
    rintro vals xw f hf1 - - hI hF; simp only [z05,zF,zR,and_true] at hF; obtain ⟨e16,e17⟩:=hF; dsimp only [z03,bare]; simp only [z01,Act.put,zQ]; simp only [e16,e17]
    go_wp2
    exact zX hI rfl
   ·
    rintro vals xw f hf1 - - hI hF; simp only [z05,zF,zR,and_true] at hF; have e18:=hF; dsimp only [z03,bare]; simp only [z01,Act.put,zQ]; simp only [e18]; have c9:=HRX.out _ hI.1
    go_wp2
    exact zX hI rfl
   iterate 2
    ·
     rintro vals xw f hf1 - - hI hF; dsimp only [z03,bare]; simp only [z01,Act.put,zQ]
     go_wp2
     exact zX hI rfl
   ·
    rintro vals xw f hf1 - - hI hF; simp only [z05,zF,zR,and_true] at hF; obtain ⟨e20,e21⟩:=hF; dsimp only [z03,bare]; simp only [z01,Act.put,zQ]; simp only [e20,e21]
    go_wp2
    exact zX hI rfl
   ·
    rintro vals xw f hf1 - - hI hF; simp only [z05,zF,zR,and_true] at hF; have e22:=hF; dsimp only [z03,bare]; simp only [z01,Act.put,zQ]; simp only [e22]; have c9:=HRY.out _ hI.1
    go_wp2
    exact zX hI rfl
   ·
    rintro vals xw f hf1 - - hI hF; simp only [z05,zF,zR,and_true] at hF; obtain ⟨e15,e19,e23⟩:=hF; dsimp only [z03,bare]; simp only [z01,Act.put,zQ]; simp only [e15,e19,e23]; obtain ⟨i1,i2⟩:=hI; rw [hf1,if_neg (by simp)] at i2; have I1:=zH i1; have HC:=zH (bXor_any a0 a1 lo q r s1 x y xw i2 HXYM.out.1 HXYM.out.2); rw [<- HM.out] at HC; clear i1 i2
    go_wp2_with fail
    refine HC.out.mono ?_; rintro e wx ⟨rfl,hb9,hd9⟩; have HB9:=zH hb9; have HD9:=zH hd9; clear hb9 hd9 HC
    go_wp2
    exact ⟨rfl,rfl,⟨fun _ => HB9.out,fun h9 => absurd rfl h9⟩,I1.out.trans HB9.out,by rw [z0h,if_pos rfl]; exact HD9.out⟩
   ·
    rintro vals xw f hf1 - - hI hF; simp only [z05,zF,zR,and_true] at hF; have e24:=hF; dsimp only [z03,bare]; simp only [z01,Act.put,zQ]; simp only [e24]
    go_wp2
    exact zX hI rfl
   ·
    intro vals xw f hall hI hF; rw [show List.range _ = [0,1,2,3,4,5,6,7,8,9,10] from rfl] at hF; simp only [says,zF,zR,and_true] at hF; obtain ⟨i1,i2⟩:=hI; rw [hall 9 (by decide),if_pos rfl] at i2; obtain ⟨_,_,_,_,_,_,_,_,_,_,e9⟩:=hF; simp only [z01,Act.put,zQ]; simp only [e9]; clear e9; have hmn:=HMB.out.2; obtain ⟨_,hm0,hm1⟩:=hmn; have c9:=HRY.out _ i1; obtain ⟨p,hp⟩ : ∃ p,p = run opsP (muxP m.2 y rr) m.1:=⟨_,rfl⟩; have HP:=zH hp; have HC:=zH (bMux_any a0 a1 lo q r m.1 m.2 y rr xw i2 HMB.out.2 HXYM.out.2 HRR.out); rw [<- hp] at HC; have HPM : Hid (MB p.2):=zH (by rw [hp]; exact (mux_mb HMB.out.1 HMB.out.2.rb HXYM.out.2.rb HRR.out.rb).2); have I1:=zH i1; clear i1 i2 hp
    go_wp2_with fail
    refine HC.out.mono ?_; rintro e w2 ⟨rfl,hb2,hd2⟩; have HB2:=zH (I1.out.trans hb2); have HD2:=zH hd2; clear hb2 hd2 HC c9
    go_wp2
    go_roundw
    case rel => exact ⟨k + 1,p.1,p.2,by omega,by go_num,rfl,HPM.out,HB2.out,HD2.out,zH (by rw [HP.out,HM.out]; exact HST.out)⟩
    case measure => simp [intOf]; omega
  ·
   have hke : k = xs.length:=by omega
   subst hke; have hlt2 : ¬ ((xs.length : Nat) : Int) < xs.length:=by omega
   go_wp2
   go_ret
   have hd1 : xs.drop xs.length = []:=List.drop_length; have hd2 : ys.drop xs.length = []:=by rw [HL.out]; exact List.drop_length
   have hst2:=hst.out; rw [hd1,hd2] at hst2; have hT2 : T = (s1,rr):=by rw [<- hst2]; rfl
   rw [hT2]; exact ⟨rfl,HBB.out,HBD.out⟩
end Go.Proofs.YtemdmlmcidfodaaGreatDoor
