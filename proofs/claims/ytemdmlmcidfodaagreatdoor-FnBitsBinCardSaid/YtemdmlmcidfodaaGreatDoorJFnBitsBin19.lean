/- Rows that are read beside the row that is written; the reference's l7Shift. -/
import Derived.Test.YtemdmlmcidfodaaGreatDoorJFnBitsBin0
import Derived.Test.YtemdmlmcidfodaaGreatDoorJFnBitsBin17
import Derived.Test.YtemdmlmcidfodaaGreatDoorJFnBitsBin18
namespace Go.Proofs.YtemdmlmcidfodaaGreatDoor
open Go Go.RowKit
def Kept (b0 : Nat) (X z : World) : Prop:=(∀ b,b < X.heap.size -> b ≠ b0 -> z.heap[b]? = X.heap[b]?) /\ X.heap.size <= z.heap.size
theorem Kept.refl (b0 : Nat) (X : World) : Kept b0 X X:=⟨fun _ _ _ => rfl,Nat.le_refl _⟩
theorem Kept.drew (b0 : Nat) (X : World) (n : Nat) : Kept b0 X (X.drewN n):=⟨fun _ _ _ => rfl,Nat.le_refl _⟩
theorem Kept.below {b0 : Nat} {X z z' : World} (h : Kept b0 X z) (hb : Below z.heap.size z z') : Kept b0 X z':=⟨fun b h1 h2 => (hb.block b (Nat.lt_of_lt_of_le h1 h.2)).trans (h.1 b h1 h2),Nat.le_trans h.2 hb.size⟩
theorem Kept.grown {b0 : Nat} {X z z' : World} (h : Kept b0 X z) (hg : z.grownBy z' (some b0)) : Kept b0 X z':=⟨fun b h1 h2 => (hg.block b (Nat.lt_of_lt_of_le h1 h.2) (fun e => h2 (Option.some.inj e))).trans (h.1 b h1 h2),Nat.le_trans h.2 hg.size⟩
def RdI (w x : World) (S : Nat -> Prop) (A : Option Addr) (l : List Int) : Prop:=Lay.int.Sl x (fun b => w.heap.size + 2 <= b /\ b < x.heap.size /\ ¬ S b) A l
theorem RdI.kept {w X z : World} {S : Nat -> Prop} {A : Option Addr} {l : List Int} (h : RdI w X S A l) (hk : Kept w.heap.size X z) : RdI w z S A l :=
 (Lay.Sl.keep h fun b hb => hk.1 b hb.2.1 (by omega)).mono fun b hb => ⟨hb.1,Nat.lt_of_lt_of_le hb.2.1 hk.2,hb.2.2⟩
theorem RdI.up {w X z : World} {S : Nat -> Prop} {A : Option Addr} {l : List Int} (h : RdI w X S A l) (hb : Below X.heap.size X z) : RdI w z S A l:=h.kept ((Kept.refl _ _).below hb)
theorem RdI.rd {w x : World} {S : Nat -> Prop} {A : Option Addr} {l : List Int} (h : RdI w x S A l) : Lay.int.Rd x A l:=Lay.Sl.mono h fun _ hb => hb.2.1
theorem RdI.grown {w x x' : World} {v v' : Value} {A : Option Addr} {l : List Int} (h : RdI w x (fun b => v.ownBlock = some b) A l) (hg : x.grownBy x' v.ownBlock) (hbk : v'.ownBlock = v.ownBlock \/ ∃ g,v'.ownBlock = some g /\ x.heap.size <= g) : RdI w x' (fun b => v'.ownBlock = some b) A l :=
 (Lay.Sl.keep h fun b hb => hg.block b hb.2.1 fun e => hb.2.2 e.symm).mono fun b hb => ⟨hb.1,Nat.lt_of_lt_of_le hb.2.1 hg.size,fun e => by
  rcases hbk with hbk | ⟨g,hbk,hle⟩
  · rw [hbk] at e; exact hb.2.2 e
  · rw [hbk] at e; have e:=Option.some.inj e; omega⟩
theorem RdI.free {w x : World} {S : Nat -> Prop} {A : Option Addr} {l : List Int} (h : RdI w x S A l) : RdI w x (fun _ => False) A l:=Lay.Sl.mono h fun _ hb => ⟨hb.1,hb.2.1,fun e => e⟩
theorem RdI.fresh {w x : World} {S : Nat -> Prop} {A : Option Addr} {l : List Int} (h : RdI w x S A l) (c : Obj) : RdI w (x.alloc c) (fun b => (Value.slice (some ⟨x.heap.size,0,none⟩) 0 0).ownBlock = some b) A l :=
 (Lay.Sl.below h ((Below.refl x.heap.size x).alloc (Nat.le_refl _) c) fun _ hb => hb.2.1).mono fun b hb => ⟨hb.1,Nat.lt_of_lt_of_le hb.2.1 (by simp),fun e => by have e:=Option.some.inj e; dsimp only at e; omega⟩
theorem RdI.of {w x : World} {base c : Nat} {A : Option Addr} {l : List Int} (h : OwnI x base (.slice A l.length c) l) (hb : w.heap.size + 2 <= base) : RdI w x (fun _ => False) A l:=by
 obtain ⟨A',c',e,_,hs⟩:=h.form
 injection e with e1 e2 e3
 subst e1; exact Lay.Sl.mono hs fun b hb' => ⟨by omega,hb'.2,fun e => e⟩
theorem KS2.fresh {F S : Nat -> Prop} {w x : World} {k : N × Bool} {A : Option Addr} {c : Nat} (h : KS2 F w x k A c S) (hF : ∀ b,F b -> b < w.heap.size) (cl : Obj) : KS2 F w (x.alloc cl) k A c (fun b => (Value.slice (some ⟨x.heap.size,0,none⟩) 0 0).ownBlock = some b):=by
 have hb:=(Below.refl x.heap.size x).alloc (Nat.le_refl _) cl; have h9:=h.up hF hb; refine ⟨h9.bel,h9.var,h9.res,(h.row.below hb (KS2.lt h.bel hF)).mono fun b hb' => hb'.imp id fun h8 => ⟨h8.1,Nat.lt_of_lt_of_le h8.2.1 (by simp),fun e => by have e:=Option.some.inj e; dsimp only at e; omega⟩,h.nil⟩
theorem KS2.free {F S : Nat -> Prop} {w x : World} {k : N × Bool} {A : Option Addr} {c : Nat} (h : KS2 F w x k A c S) : KS2 F w x k A c (fun _ => False):=h.one2.two2
theorem OwnI.base {w : World} {b b' : Nat} {v : Value} {l : List Int} (h : OwnI w b v l) (hb : b' <= b) : OwnI w b' v l:=⟨h.1,h.2.imp id fun ⟨g,cap,cur,e,hg,r⟩ => ⟨g,cap,cur,e,Nat.le_trans hb hg,r⟩⟩
theorem z10 {Q : Exit -> Act -> World -> Prop} {ops : Array Oper} {rest : List Oper} {o : Oper} {a : Act} {w : World} {lo : Nat} {A Y : Option Addr} {c cy : Nat} {xs ys zs : List Int} (hgd : o.guard = none) (s y : Operand)
  (ho : o.op = .call { callee:=.builtin .append,args:=#[s,y],argTypes:=#[34,34] }) (hs : a.eval s = .slice A xs.length c) (hy : a.eval y = .slice Y ys.length cy)
  (hown : OwnI w lo (.slice A xs.length c) xs) (hY : Lay.int.Rd w Y ys) (hYn : Y = none -> ys.length = 0) (hn : xs.length + ys.length <= 1048576) (hlo : lo <= w.heap.size) (hzs : zs = xs ++ ys)
  (h : ∀ A' c' w',OwnI w' lo (.slice A' zs.length c') zs -> Below lo w w' -> w.grownBy w' (Value.slice A xs.length c).ownBlock -> wpList Tryz.prog ops Q rest (a.put o.dst (.slice A' zs.length c')) w') : wpList Tryz.prog ops Q (o :: rest) a w:=by
 obtain ⟨i0,hi0,hz0,hz1,hz2⟩:=info_parts int_info; have hl : zs.length = xs.length + ys.length:=by rw [hzs]; simp
 have hc : zs.map (Value.int .i64) = xs.map (Value.int .i64) ++ ys.map (Value.int .i64):=by rw [hzs]; simp
 refine z0w (P:=Tryz.prog) w hgd s y 34 ho lo 3 i0 _ 1 8 Tryz.underlying34 hi0 hz0 hz1 hz2 (by rfl) (by omega) _ xs.length (xs.map (Value.int .i64)) hs hown Y ys.length cy (ys.map (Value.int .i64)) hy (src_ints hY) (ints_one _) zs.length hl.symm (by unfold maxLen; omega) (by omega) hlo hYn ?_; intro A' c' w' h2 h4 h3; exact h A' c' w' (by unfold OwnI; rw [hc]; exact h2) h4 h3
theorem krI_up {F : Nat -> Prop} {w x x' X : World} {k : N × Bool} {m : (N × Bool) × Int} {A B : Option Addr} {c d : Nat} {l : List Int} {p q : Prop} (hF : ∀ b,F b -> b < w.heap.size)
  (h : (p -> AddI F w x k A c B d l) /\ (q -> ∃ A9 c9,AddI F w x m.1 A9 c9 B d l) /\ Below w.heap.size w x /\ Kept w.heap.size X x) (hb : Below x.heap.size x x') :
  (p -> AddI F w x' k A c B d l) /\ (q -> ∃ A9 c9,AddI F w x' m.1 A9 c9 B d l) /\ Below w.heap.size w x' /\ Kept w.heap.size X x' :=
 ⟨fun hp => (h.1 hp).up hF hb,fun hq => by obtain ⟨A9,c9,h9⟩:=h.2.1 hq; exact ⟨A9,c9,h9.up hF hb⟩,z09 h.2.2.1 hb,h.2.2.2.below hb⟩
theorem rd_nil {w : World} {A : Option Addr} {xs : List Int} (h : Lay.int.Rd w A xs) : A = none -> xs.length = 0:=fun e => by
 rcases Nat.eq_zero_or_pos xs.length with h0 | h0
 · exact h0
 ·
  obtain ⟨ad,e2,_⟩:=h.at_int h0; rw [e] at e2; cases e2
theorem run_shift {σ : Type} {o : Ops σ} (up : Bool) (fill : Int) (ys : List Int) (j : Nat) (y : Int) (s : List Int) (k : σ) (hy : ys[j]? = some y) :
  run o (z0z up fill (ys.drop j) j s) k = (fun p : σ × List Int => run o (z0z up fill (ys.drop (j + 1)) (j + 1) p.2) p.1) (run o (z0v (muxP y) (fromL up s (2 ^ j) fill) s) k):=by
 obtain ⟨hk,rfl⟩:=List.getElem?_eq_some_iff.1 hy; rw [List.drop_eq_getElem_cons hk]; simp only [z0z,run_bind]
set_option maxRecDepth 100000 in
set_option maxHeartbeats 8000000 in
theorem l7Shift_11 (F : Nat -> Prop) (A : Option Addr) (c : Nat) (k : N × Bool) (X Y : Option Addr) (cx cy : Nat) (xs ys : List Int) (w : World) (h : Lay.gate.Sl w F A k.1.gs) (hF : ∀ b,F b -> b < w.heap.size) (hA : A = none -> k.1.gs.length = 0) (hnb : NB k.1) (hX : Lay.int.Rd w X xs) (hY : Lay.int.Rd w Y ys) (hxm : ∀ x ∈ xs,RB x) (hym : ∀ y ∈ ys,RB y) (hn : xs.length <= 8) (hn' : ys.length <= 16) :
  Calls Tryz.prog 92 #[.agg #[.int .i64 k.1.ins,.slice A k.1.gs.length c,.bool k.2],.int .i64 11,.slice X xs.length cx,.slice Y ys.length cy] w (RetKL F w (run opsR (z0z true (-1) ys 0 xs) k)):=by
 obtain ⟨T,hT⟩ : ∃ T,T = run opsR (z0z true (-1) ys 0 xs) k:=⟨_,rfl⟩; rw [<- hT]; have HT:=zH hT; have K0:=KS.two (c:=c) h hF hA; have HRW:=zH (h.below K0.bel hF); have HNIL:=zH hA; have HF:=zH hF; have HNB:=zH hnb; have HXN:=zH (rd_nil hX); have HFM : Hid (RB (-1)):=zH z2d.off; have HX:=zH hX; have HY:=zH hY; have HXM:=zH hxm; have HYM:=zH hym; have K0:=zH K0; have hX0s : ((w.alloc (.cells #[.int .i64 k.1.ins,.slice A k.1.gs.length c,.bool k.2] 85)).alloc (.cells #[.int .i64 0,.slice none 0 0,.bool false] 85)).heap.size = w.heap.size + 2:=by simp
 obtain ⟨X0,hX0⟩ : ∃ X0,X0 = (w.alloc (.cells #[.int .i64 k.1.ins,.slice A k.1.gs.length c,.bool k.2] 85)).alloc (.cells #[.int .i64 0,.slice none 0 0,.bool false] 85):=⟨_,rfl⟩; have HX0:=zH hX0; rw [<- hX0] at hX0s K0; have HX0S:=zH hX0s; have hal : Below X0.heap.size X0 (X0.alloc (.cells #[] 3)):=(Below.refl _ _).alloc (Nat.le_refl _) _; have hown0 : OwnI (X0.alloc (.cells #[] 3)) (w.heap.size + 2) (.slice (some ⟨w.heap.size + 1 + 1,0,none⟩) ([] : List Int).length 0) []:=z18 hX0s; have HAL:=zH hal; have HO0:=zH hown0; rw [hX0] at hown0; have hXr:=HX.out.up (z09 K0.out.bel hal); rw [hX0] at hXr; clear h hA hnb hX hY hxm hym hT hX0 hX0s hal
 go_enter Tryz.func92,Tryz.ntmps92
 go_wp2_with (at_builtin; refine z10 (zs:=xs) (by rfl) (.tmp 16) (.tmp 17) (by rfl) (by rfl) (by rfl) hown0 hXr HXN.out (by simp; omega) (by simp) (by simp) ?_; intro X2 d2 w3 ho3 hb3 hg3; have HO3:=zH ho3; have HB3:=zH hb3; clear ho3 hb3 hg3 hown0 hXr)
 rw [<- HX0.out] at HB3; have hb03 : Below X0.heap.size X0 w3:=HAL.out.trans (by rw [HX0S.out]; exact HB3.out); have K3:=zH (K0.out.two2.up HF.out hb03); have HR3 : Hid (RdI w w3 (fun _ => False) X2 xs):=zH (RdI.of HO3.out (Nat.le_refl _)); have HC3:=zH HO3.out.cap; clear hb03 K0
 go_loopw [10,12] (fun s i wr => ∃ (j : Nat) (k1 : N × Bool) (s1 : List Int) (A1 Sp : Option Addr) (c1 sc : Nat),j <= ys.length /\ i = .int .i64 j /\ s = .slice Sp s1.length sc /\ s1.length = xs.length /\ s1.length <= sc /\ (∀ m ∈ s1,RB m) /\ KS2 F w wr k1 A1 c1 (fun _ => False) /\ RdI w wr (fun _ => False) Sp s1 /\ NB k1.1 /\ Hid (run opsR (z0z true (-1) (ys.drop j) j s1) k1 = T)) (fun _ i _ => ys.length - (intOf i).toNat)
 case atStart => exact ⟨0,k,xs,A,X2,c,d2,Nat.zero_le _,rfl,rfl,rfl,HC3.out,HXM.out,K3.out,HR3.out,HNB.out,zH (by rw [HT.out]; rfl)⟩
 case round =>
  obtain ⟨j,k1,s1,A1,Sp,c1,sc,hj,rfl,rfl,hsl,hcap,hsm,hks,hrd,hnb1,hst⟩:=hrel; have HSL:=zH hsl; have HCAP:=zH hcap; have HSM:=zH hsm; have HKS:=zH hks; have HRD:=zH hrd; have HNB1:=zH hnb1; have hsn : s1.length <= 8:=by omega
  clear hsl hcap hsm hks hrd hnb1 HX HXM HT K3 HR3 HC3 HO3 HB3 HX0 HX0S HAL HO0 HXN
  by_cases hlt : j < ys.length
  ·
   have hlt2 : (j : Int) < ys.length:=by omega
   obtain ⟨y,hy⟩ : ∃ y,ys[j]? = some y:=⟨_,List.getElem?_eq_getElem hlt⟩; have hyg : ys[j] = y:=(List.getElem?_eq_some_iff.1 hy).2; have HYR:=zH (HYM.out y (List.mem_of_getElem? hy)); obtain ⟨ady,rfl,-,-⟩:=HY.out.at_int hlt; have HRY : Hid (∀ z,Below w.heap.size w z -> z.cell? (ady.add j) = some (.int .i64 y)):=zH fun z hz => by
    obtain ⟨ad,e,_,hc⟩:=(HY.out.up hz).at_int hlt
    injection e with e; subst e; rw [<- hyg]; exact hc
   have hst2:=(run_shift (o:=opsR) true (-1) ys j y s1 k1 hy).symm.trans hst.out; obtain ⟨p,hp⟩ : ∃ p,p = 2 ^ j:=⟨_,rfl⟩; have hp2 : p <= 65536:=by rw [hp]; exact pow_small (by omega)
   have HTWO : Hid (∀ z,Calls Tryz.prog 30 #[.int .i64 (j : Int)] z (RetZ (p : Int) z)):=zH fun z => by rw [hp]; exact l1Two_any j z (by omega)
   rw [<- hp] at hst2; obtain ⟨fr,hfr⟩ : ∃ fr,fr = fromL true s1 p (-1):=⟨_,rfl⟩; rw [<- hfr] at hst2; obtain ⟨C,hC⟩ : ∃ C,C = (fun q : (N × Bool) × List Int => run opsR (z0z true (-1) (ys.drop (j + 1)) (j + 1) q.2) q.1):=⟨_,rfl⟩; rw [<- hC] at hst2; have HST:=zH hst2; have HC:=zH hC; have HFRM : Hid (∀ q : Nat,(h : q < s1.length) -> fr[q]? = some (frV true s1 p (-1) q) /\ RB (frV true s1 p (-1) q)):=zH fun q hq => by
    refine ⟨by rw [hfr]; exact fromL_at hq,?_⟩; have hg : ∀ j,j < s1.length -> RB (s1.getD j 0):=fun j hj => getD_inP HSM.out hj
    unfold frV
    split
    ·
     split
     · exact HFM.out
     · exact hg _ (Nat.lt_of_le_of_lt (Nat.sub_le _ _) hq)
    ·
     split
     · exact hg _ (by assumption)
     · exact HFM.out
   have HFRL : Hid (fr.length = s1.length):=zH (by rw [hfr]; exact z2j _ _ _ _); have K1:=zH (HKS.out.fresh HF.out (.cells #[] 3)); have HR1:=zH (HRD.out.fresh (.cells #[] 3)); have HO1 : Hid (OwnI (wr.alloc (.cells #[] 3)) (w.heap.size + 2) (.slice (some ⟨wr.heap.size,0,none⟩) 0 0) []):=zH ((show OwnI (wr.alloc (.cells #[] 3)) wr.heap.size (.slice (some ⟨wr.heap.size,0,none⟩) 0 0) [] from z18 rfl).base (by have:=lt_of_block HKS.out.res; omega)); clear hy hyg hst hst2 hC hfr hp HKS HRD
   go_wp2
   go_loopw [13,14] (fun out i wr => ∃ (q : Nat) (k2 : N × Bool) (l : List Int) (A2 B : Option Addr) (c2 d : Nat),q <= s1.length /\ i = .int .i64 q /\ out = .slice B l.length d /\ l.length = q /\ (∀ m ∈ l,RB m) /\ AddI F w wr k2 A2 c2 B d l /\ RdI w wr (fun b => (Value.slice B l.length d).ownBlock = some b) Sp s1 /\ NB k2.1 /\ Hid (C (let z:=run opsR (z0v (muxP y) (fr.drop q) (s1.drop q)) k2; (z.1,l ++ z.2)) = T)) (fun _ i _ => s1.length - (intOf i).toNat)
   case atStart => exact ⟨0,k1,[],A1,_,c1,0,Nat.zero_le _,rfl,rfl,rfl,(fun _ h => by cases h),⟨K1.out,HO1.out⟩,HR1.out,HNB1.out,HST⟩
   case round =>
    obtain ⟨q,k2,l,A2,B,c2,d,hq,rfl,rfl,hlq,hlm,hks,hrd,hnb2,hst⟩:=hrel; have HLM:=zH hlm; have HKS:=zH hks; have HRD:=zH hrd; have HLQ:=zH hlq; have HNB2:=zH hnb2; clear hlm hks hrd hlq hnb2 K1 HR1 HO1 HST
    by_cases hltq : q < s1.length
    ·
     have hltq2 : (q : Int) < s1.length:=by omega
     obtain ⟨sv,hsv⟩ : ∃ sv,s1[q]? = some sv:=⟨_,List.getElem?_eq_getElem hltq⟩; have hsg : s1[q] = sv:=(List.getElem?_eq_some_iff.1 hsv).2; obtain ⟨hf1,hf2⟩:=HFRM.out q hltq; have HFRR : Hid (∀ z,Kept w.heap.size wr z -> Calls Tryz.prog 121 #[.int .i64 11,.slice Sp s1.length sc,.int .i64 (q : Int),.int .i64 (p : Int),.int .i64 (-1)] z (RetZ (frV true s1 p (-1) q) z)):=zH fun z hz => l7From_11 s1 Sp sc q p (-1) z (HRD.out.kept hz).rd hltq hsn hp2
     generalize frV true s1 p (-1) q = fv at *; have HVB:=zH (And.intro hf2 (HSM.out sv (List.mem_of_getElem? hsv))); have HST:=zH ((congrArg C (z1v (o:=opsR) (f:=muxP y) fr s1 q fv sv hf1 hsv k2 l)).symm.trans hst.out); obtain ⟨ads,rfl,-,-⟩:=HRD.out.at_int hltq; have HRS : Hid (∀ z,Kept w.heap.size wr z -> z.cell? (ads.add q) = some (.int .i64 sv)):=zH fun z hz => by
      obtain ⟨ad,e,_,hc⟩:=(HRD.out.kept hz).at_int hltq
      injection e with e; subst e; rw [<- hsg]; exact hc
     have hll : l.length <= 1000:=by have:=HLQ.out; omega
     clear hsv hsg hf1 hf2 hst; obtain ⟨g,h9⟩ : ∃ g,g = run opsR (muxP y fv sv) k2:=⟨_,rfl⟩; have HG:=zH h9; have HGB : Hid (NB g.1.1 /\ RB g.2):=zH (by rw [h9]; exact mux_rb HNB2.out HYR.out HVB.out.1 HVB.out.2); clear h9; have HST : Hid (C (let r:=run opsR (z0v (muxP y) (fr.drop (q + 1)) (s1.drop (q + 1))) g.1; (r.1,(l ++ [g.2]) ++ r.2)) = T):=zH (by rw [HG.out]; exact HST.out); obtain ⟨l2,hl2⟩ : ∃ l2,l2 = l ++ [g.2]:=⟨_,rfl⟩; have HL2:=zH hl2; clear hl2
     go_wp2
     refine z0a [[],[],[],[(1,42),(2,43)],[(3,44)],[],[],[],[],[(8,49)],[],[(5,46),(6,47),(7,48),(9,50),(10,51)],[],[],[(12,53),(13,54)],[(14,55)],[(0,41),(4,45),(11,52),(15,56)],[(16,57)],[(17,40)],[(17,40)],[(18,58)],[(19,59)]]
      (fun x9 y9 => Below x9.heap.size x9 y9)
      [(20,fun x9 y9 => x9.grownBy y9 (some w.heap.size))]
      (fun f9 x9 => (f9 20 = false -> AddI F w x9 k2 A2 c2 B d l) /\ (f9 20 = true -> ∃ A9 c9,AddI F w x9 g.1 A9 c9 B d l) /\ Below w.heap.size w x9 /\ Kept w.heap.size wr x9)
      [zF 0 (.agg #[.int .i64 k2.1.ins,.slice A2 k2.1.gs.length c2,.bool k2.2]),
  zF 1 (.slice (some ady) ys.length cy),
  zF 2 (.int .i64 (j : Int)),
  zF 3 (.pointer (some (ady.add j))),
  zF 4 (.int .i64 y),
  zF 5 (.int .i64 11),
  zF 6 (.slice (some ads) s1.length sc),
  zF 7 (.int .i64 (q : Int)),
  zF 8 (.int .i64 (j : Int)),
  zF 9 (.int .i64 (p : Int)),
  zF 10 (.int .i64 (-1)),
  zF 11 (.int .i64 fv),
  zF 12 (.slice (some ads) s1.length sc),
  zF 13 (.int .i64 (q : Int)),
  zF 14 (.pointer (some (ads.add q))),
  zF 15 (.int .i64 sv),
  fun vs9 y9 => (fun v z => ATup F (fun b => (Value.slice B l.length d).ownBlock = some b) w g v z) (vs9 16) y9,
  fun vs9 y9 => (fun v z => ATup F (fun b => (Value.slice B l.length d).ownBlock = some b) w g v z) (vs9 17) y9,
  fun vs9 y9 => (fun v z => ANet F (fun b => (Value.slice B l.length d).ownBlock = some b) w g v z) (vs9 18) y9,
  zF 19 (.int .i64 g.2),
  fun _ _ => True,
  zF 21 (.int .i64 g.2)]
      [(0,41),(1,42),(2,43),(3,44),(4,45),(5,46),(6,47),(7,48),(8,49),(9,50),(10,51),(11,52),(12,53),(13,54),(14,55),(15,56),(16,57),(17,40),(18,58),(19,59),(21,15)] (by kernel_rfl) (by kernel_rfl) (by kernel_rfl) (by kernel_rfl)
      (fun _ => Below.refl _ _) ⟨fun _ => World.grownBy.refl _ _,trivial⟩
      ⟨zU,
  zU,
  zU,
  zU,
  zU,
  zU,
  zU,
  zU,
  zU,
  zU,
  zU,
  zU,
  zU,
  zU,
  zU,
  zU,
  ⟨.inr (zS (fun v z => ATup F (fun b => (Value.slice B l.length d).ownBlock = some b) w g v z) (fun _ _ _ h9 hR => h9.up HF.out hR)),⟨.inr (.inr (zS (fun v z => ATup F (fun b => (Value.slice B l.length d).ownBlock = some b) w g v z) (fun _ _ _ h9 hR => h9.st HF.out hR))),trivial⟩⟩,
  ⟨.inr (zS (fun v z => ATup F (fun b => (Value.slice B l.length d).ownBlock = some b) w g v z) (fun _ _ _ h9 hR => h9.up HF.out hR)),⟨.inr (.inr (zS (fun v z => ATup F (fun b => (Value.slice B l.length d).ownBlock = some b) w g v z) (fun _ _ _ h9 hR => h9.st HF.out hR))),trivial⟩⟩,
  ⟨.inr (zS (fun v z => ANet F (fun b => (Value.slice B l.length d).ownBlock = some b) w g v z) (fun _ _ _ h9 hR => h9.up HF.out hR)),⟨.inr (.inr (zS (fun v z => ANet F (fun b => (Value.slice B l.length d).ownBlock = some b) w g v z) (fun _ _ _ h9 hR => h9.st HF.out hR))),trivial⟩⟩,
  zU,
  ⟨.inr zK,⟨.inr (.inl rfl),trivial⟩⟩,
  zU,trivial⟩ ⟨zL,
  zL,
  zL,
  zL,
  zL,
  zL,
  zL,
  zL,
  zL,
  zL,
  zL,
  zL,
  zL,
  zL,
  zL,
  zL,
  fun _ _ _ h _ v => (by simpa only [<- h] using v),
  fun _ _ _ h _ v => (by simpa only [<- h] using v),
  fun _ _ _ h _ v => (by simpa only [<- h] using v),
  zL,
  fun _ _ _ _ _ _ => trivial,
  zL,trivial⟩ (⟨fun _ => HKS.out.up HF.out (z02 (Below.refl _ _) 1),(fun h => by cases h),z09 HKS.out.ks.bel (z02 (Below.refl _ _) 1),Kept.drew _ _ 1⟩) ⟨?_,?_,?_,?_,?_,?_,?_,?_,?_,?_,?_,?_,?_,?_,?_,?_,?_,?_,?_,?_,?_,?_,trivial⟩ ?_
     ·
      intro vals xw f hf1 hf2 hf3 hI hF; have k20 : f 20 = false:=hf3 20 (by kernel_rfl); clear hf2 hf3; dsimp only [z03,bare]; simp only [z01,Act.put,zQ]; have hv9:=(hI.1 k20).ks.var; have y0:=(z00 hv9 0).1; have y1:=(z00 hv9 1).1; have y2:=(z00 hv9 2).1
      go_wp2
      exact zX hI rfl
     iterate 2
      ·
       rintro vals xw f hf1 - - hI hF; dsimp only [z03,bare]; simp only [z01,Act.put,zQ]
       go_wp2
       exact zX hI rfl
     ·
      rintro vals xw f hf1 - - hI hF; simp only [z05,zF,zR,and_true] at hF; obtain ⟨e42,e43⟩:=hF; dsimp only [z03,bare]; simp only [z01,Act.put,zQ]; simp only [e42,e43]
      go_wp2
      exact zX hI rfl
     ·
      rintro vals xw f hf1 - - hI hF; simp only [z05,zF,zR,and_true] at hF; have e44:=hF; dsimp only [z03,bare]; simp only [z01,Act.put,zQ]; simp only [e44]; have c9:=HRY.out _ hI.2.2.1
      go_wp2
      exact zX hI rfl
     iterate 4
      ·
       rintro vals xw f hf1 - - hI hF; dsimp only [z03,bare]; simp only [z01,Act.put,zQ]
       go_wp2
       exact zX hI rfl
     ·
      rintro vals xw f hf1 - - hI hF; simp only [z05,zF,zR,and_true] at hF; have e49:=hF; dsimp only [z03,bare]; simp only [z01,Act.put,zQ]; simp only [e49]; have HC:=zH (HTWO.out xw); have HI:=zH hI; clear hI
      go_wp2_with fail
      refine HC.out.mono ?_; rintro e wx ⟨rfl,hb⟩; have HB:=zH hb; clear hb HC
      go_wp2
      exact ⟨rfl,rfl,⟨zN rfl,fun _ => HB.out⟩,krI_up HF.out HI.out HB.out⟩
     ·
      rintro vals xw f hf1 - - hI hF; dsimp only [z03,bare]; simp only [z01,Act.put,zQ]
      go_wp2
      exact zX hI rfl
     ·
      rintro vals xw f hf1 - - hI hF; simp only [z05,zF,zR,and_true] at hF; obtain ⟨e46,e47,e48,e50,e51⟩:=hF; dsimp only [z03,bare]; simp only [z01,Act.put,zQ]; simp only [e46,e47,e48,e50,e51]; have HC:=zH (HFRR.out xw hI.2.2.2); have HI:=zH hI; clear hI
      go_wp2_with fail
      refine HC.out.mono ?_; rintro e wx ⟨rfl,hb⟩; have HB:=zH hb; clear hb HC
      go_wp2
      exact ⟨rfl,rfl,⟨zN rfl,fun _ => HB.out⟩,krI_up HF.out HI.out HB.out⟩
     iterate 2
      ·
       rintro vals xw f hf1 - - hI hF; dsimp only [z03,bare]; simp only [z01,Act.put,zQ]
       go_wp2
       exact zX hI rfl
     ·
      rintro vals xw f hf1 - - hI hF; simp only [z05,zF,zR,and_true] at hF; obtain ⟨e53,e54⟩:=hF; dsimp only [z03,bare]; simp only [z01,Act.put,zQ]; simp only [e53,e54]
      go_wp2
      exact zX hI rfl
     ·
      rintro vals xw f hf1 - - hI hF; simp only [z05,zF,zR,and_true] at hF; have e55:=hF; dsimp only [z03,bare]; simp only [z01,Act.put,zQ]; simp only [e55]; have c9:=HRS.out _ hI.2.2.2
      go_wp2
      exact zX hI rfl
     ·
      intro vals xw f hf1 hf2 hf3 hI hF; have k20 : f 20 = false:=hf3 20 (by kernel_rfl); clear hf2 hf3; simp only [z05,zF,zR,and_true] at hF; obtain ⟨e41,e45,e52,e56⟩:=hF; dsimp only [z03,bare]; simp only [z01,Act.put,zQ]; simp only [e41,e45,e52,e56]; have HI:=zH hI; have HK:=zH (hI.1 k20); have hsz9:=hI.2.2.1.size; clear hI; have HC:=zH (l7One_any (G2 F w xw (fun b => (Value.slice B l.length d).ownBlock = some b)) A2 c2 k2 y fv sv xw HK.out.ks.row (KS2.lt HK.out.ks.bel HF.out) HK.out.ks.nil HNB2.out HYR.out HVB.out.1 HVB.out.2); rw [<- HG.out] at HC
      go_wp2_with fail
      refine HC.out.mono ?_; rintro e wx ⟨A9,c9,rfl,h2,h3,h4⟩; have H3:=zH h3; have H4:=zH h4; clear h3 h4 HC
      go_wp2
      refine ⟨rfl,⟨A9,c9,rfl,h2,H3.out.mono ?_,Nat.le_trans hsz9 H4.out.size⟩,⟨zN rfl,fun _ => H4.out⟩,krI_up HF.out HI.out H4.out⟩; intro b hb
      rcases hb with (h9 | h9) | h9
      · exact .inl h9
      · exact .inr ⟨h9.1,Nat.lt_of_lt_of_le h9.2.1 H4.out.size,h9.2.2⟩
      · exact .inr ⟨by have:=lt_of_block HK.out.ks.res; omega,h9.2,fun e => by have:=(HK.out.own.lt b e).2; omega⟩
     ·
      rintro vals xw f hf1 - - hI hF; simp only [z05,zF,zR,and_true] at hF; obtain ⟨A9,c9,e57,h2,h3,h4⟩:=hF; dsimp only [z03,bare]; simp only [z01,Act.put,zQ]; simp only [e57]
      go_wp2
      exact ⟨rfl,⟨A9,c9,rfl,h2,h3,h4⟩,⟨zN rfl,fun _ => Below.refl _ _⟩,hI⟩
     ·
      rintro vals xw f hf1 - - hI hF; simp only [z05,zF,zR,and_true] at hF; obtain ⟨A9,c9,e40,h2,h3,h4⟩:=hF; dsimp only [z03,bare]; simp only [z01,Act.put,zQ]; simp only [e40]
      go_wp2
      exact ⟨rfl,⟨A9,c9,rfl,h2,h3,h4⟩,⟨zN rfl,fun _ => Below.refl _ _⟩,hI⟩
     ·
      rintro vals xw f hf1 - - hI hF; simp only [z05,zF,zR,and_true] at hF; obtain ⟨A9,c9,e40,h2,h3,h4⟩:=hF; dsimp only [z03,bare]; simp only [z01,Act.put,zQ]; simp only [e40]
      go_wp2
      exact zX hI rfl
     ·
      rintro vals xw f hf1 - - hI hF; simp only [z05,zF,zR,and_true] at hF; obtain ⟨A9,c9,e58,h2,h3,h4⟩:=hF; dsimp only [z03,bare]; simp only [z01,Act.put,zQ]; simp only [e58]; have HI:=zH hI; have HK:=zH (hI.1 hf1); have hv9:=HK.out.ks.var; have y0:=(z00 hv9 0).1; have y1:=(z00 hv9 1).1; have y2:=(z00 hv9 2).1; have g0:=(z00 hv9 0).2; have g1:=(z00 hv9 1).2; have g2:=(z00 hv9 2).2; have H3:=zH h3; clear hI hv9 h3 h4
      go_wp2
      have hset:=HK.out.set (c':=c9) HF.out H3.out h2; have hgr : xw.grownBy (st3 xw w.heap.size (.int .i64 g.1.1.ins) (.slice A9 g.1.1.gs.length c9) (.bool g.1.2)) (some w.heap.size):=z06 (z06 (z06 (World.grownBy.refl _ _) _ _) _ _) _ _; exact ⟨rfl,trivial,⟨fun _ => hgr,fun h9 => absurd rfl h9⟩,fun h => absurd ((z0h f 20).symm.trans h) (by simp),fun _ => ⟨A9,c9,hset⟩,z0i HI.out.2.2.1 (Nat.le_refl _) _ _ _,HI.out.2.2.2.grown hgr⟩
     ·
      rintro vals xw f hf1 - - hI hF; simp only [z05,zF,zR,and_true] at hF; have e59:=hF; dsimp only [z03,bare]; simp only [z01,Act.put,zQ]; simp only [e59]
      go_wp2
      exact zX hI rfl
     ·
      intro vals xw f hall hI hF; rw [show List.range _ = [0,1,2,3,4,5,6,7,8,9,10,11,12,13,14,15,16,17,18,19,20,21] from rfl] at hF; simp only [says,zF,zR,and_true] at hF; obtain ⟨A12,c12,hk2⟩:=hI.2.1 (hall 20 (by decide)); have e9 : vals 21 = .int .i64 g.2:=by obtain ⟨_,_,_,_,_,_,_,_,_,_,_,_,_,_,_,_,_,_,_,_,_,e9⟩:=hF; exact e9
      have K12:=zH hk2; have HKP:=zH hI.2.2.2; clear hF hk2 hI; simp only [z01,Act.put,zQ]; simp only [e9]; clear e9; have hown9:=K12.out.own; have hsz9 : w.heap.size + 2 <= xw.heap.size:=by have:=lt_of_block K12.out.ks.res; omega
      go_wp2_with (at_builtin; refine z0g (ys:=l2) (by rfl) (.tmp 60) (.tmp 62) (by rfl) (by rfl) (by rfl) hown9 (by omega) hsz9 HL2.out ?_; intro B2 d2 w2 hown2 hg2 hbk2)
      have hk3:=K12.out.ks.grown (v':=.slice B2 l2.length d2) HF.out hg2 (fun g hg => (K12.out.own.lt g hg).1) hbk2; have hr3:=(HRD.out.kept HKP.out).grown (v':=.slice B2 l2.length d2) hg2 hbk2
      go_roundw
      case rel => exact ⟨q + 1,g.1,l2,A12,B2,c12,d2,by omega,by go_num,rfl,by rw [HL2.out,List.length_append,HLQ.out]; rfl,fun z hz => (List.mem_append.1 (by rw [HL2.out] at hz; exact hz)).elim (HLM.out z) (fun hz => by rw [List.mem_singleton.1 hz]; exact HGB.out.2),⟨hk3,hown2⟩,hr3,HGB.out.1,zH (by rw [HL2.out]; exact HST.out)⟩
      case measure => simp [intOf]; omega
    ·
     have hje : q = s1.length:=by omega
     subst hje; have hltq2 : ¬ ((s1.length : Nat) : Int) < s1.length:=by omega
     have hd1 : s1.drop s1.length = []:=List.drop_length; have hd2 : fr.drop s1.length = []:=by rw [<- HFRL.out]; exact List.drop_length
     have hst2:=hst.out; rw [hd1,hd2] at hst2; have hst3 : C (k2,l) = T:=by rw [<- hst2]; show _ = C (k2,l ++ []); rw [List.append_nil]
     rw [HC.out] at hst3; have HST2:=zH hst3; have HRL:=zH (RdI.of HKS.out.own (w:=w) (Nat.le_refl _)); have HLC:=zH HKS.out.own.cap; clear hst hst2 hst3 hd1 hd2
     go_wp2
     go_roundw
     case rel => exact ⟨j + 1,k2,l,A2,B,c2,d,by omega,by go_num,rfl,by rw [HLQ.out,HSL.out],HLC.out,HLM.out,HKS.out.ks.free,HRL.out,HNB2.out,HST2⟩
     case measure => simp [intOf]; omega
  ·
   have hje : j = ys.length:=by omega
   subst hje; have hlt2 : ¬ ((ys.length : Nat) : Int) < ys.length:=by omega
   have hd1 : ys.drop ys.length = []:=List.drop_length; have hst2:=hst.out; rw [hd1] at hst2; have hT2 : T = (k1,s1):=by rw [<- hst2]; rfl
   have HT2:=zH hT2; clear hst hst2 hT2 hd1; have hv9:=HKS.out.var; have y0:=(z00 hv9 0).1; have y1:=(z00 hv9 1).1; have y2:=(z00 hv9 2).1; have hr9:=HKS.out.res; have r0:=(z00 hr9 0).1; have r1:=(z00 hr9 1).1; have r2:=(z00 hr9 2).1; have rf0:=(z00 hr9 0).2; have rf1:=(z00 hr9 1).2; have rf2:=(z00 hr9 2).2; clear hv9 hr9
   go_wp2
   have hs:=z0s HKS.out.res (.int .i64 k1.1.ins) (.slice A1 k1.1.gs.length c1) (.bool k1.2); have k5:=(z00 hs 0).1; have k6:=(z00 hs 1).1; have k7:=(z00 hs 2).1; have kf5:=(z00 hs 0).2; have kf6:=(z00 hs 1).2; have kf7:=(z00 hs 2).2; refine bodyPost_ret (v:=.tuple #[.agg #[.int .i64 k1.1.ins,.slice A1 k1.1.gs.length c1,.bool k1.2],.slice Sp s1.length sc]) (by simp [results,Tryz.results92,go_sem,k5,k6,k7,kf5,kf6,kf7]) rfl ?_; rw [HT2.out]; refine ⟨A1,c1,Sp,sc,rfl,HKS.out.nil,(z1a (h:=w.heap.size + 1) HKS.out.row (fun b hb => ?_) _ _ _).mono (fun b hb => ?_),HCAP.out,(z1a (h:=w.heap.size + 1) HRD.out (fun b hb => by omega) _ _ _).mono (fun b hb => by rw [z0o]; omega),HSM.out,z0i HKS.out.bel (by omega) _ _ _⟩
   ·
    rcases hb with hb | hb
    · have:=HF.out b hb; omega
    · omega
   ·
    rw [z0o]; exact hb.imp id fun h9 => ⟨by omega,h9.2.1⟩
set_option maxRecDepth 100000 in
set_option maxHeartbeats 8000000 in
theorem l7Shift_12 (F : Nat -> Prop) (A : Option Addr) (c : Nat) (k : N × Bool) (X Y : Option Addr) (cx cy : Nat) (xs ys : List Int) (w : World) (h : Lay.gate.Sl w F A k.1.gs) (hF : ∀ b,F b -> b < w.heap.size) (hA : A = none -> k.1.gs.length = 0) (hnb : NB k.1) (hX : Lay.int.Rd w X xs) (hY : Lay.int.Rd w Y ys) (hxm : ∀ x ∈ xs,RB x) (hym : ∀ y ∈ ys,RB y) (hn : xs.length <= 8) (hn' : ys.length <= 16) :
  Calls Tryz.prog 92 #[.agg #[.int .i64 k.1.ins,.slice A k.1.gs.length c,.bool k.2],.int .i64 12,.slice X xs.length cx,.slice Y ys.length cy] w (RetKL F w (run opsR (z0z false (-1) ys 0 xs) k)):=by
 obtain ⟨T,hT⟩ : ∃ T,T = run opsR (z0z false (-1) ys 0 xs) k:=⟨_,rfl⟩; rw [<- hT]; have HT:=zH hT; have K0:=KS.two (c:=c) h hF hA; have HRW:=zH (h.below K0.bel hF); have HNIL:=zH hA; have HF:=zH hF; have HNB:=zH hnb; have HXN:=zH (rd_nil hX); have HFM : Hid (RB (-1)):=zH z2d.off; have HX:=zH hX; have HY:=zH hY; have HXM:=zH hxm; have HYM:=zH hym; have K0:=zH K0; have hX0s : ((w.alloc (.cells #[.int .i64 k.1.ins,.slice A k.1.gs.length c,.bool k.2] 85)).alloc (.cells #[.int .i64 0,.slice none 0 0,.bool false] 85)).heap.size = w.heap.size + 2:=by simp
 obtain ⟨X0,hX0⟩ : ∃ X0,X0 = (w.alloc (.cells #[.int .i64 k.1.ins,.slice A k.1.gs.length c,.bool k.2] 85)).alloc (.cells #[.int .i64 0,.slice none 0 0,.bool false] 85):=⟨_,rfl⟩; have HX0:=zH hX0; rw [<- hX0] at hX0s K0; have HX0S:=zH hX0s; have hal : Below X0.heap.size X0 (X0.alloc (.cells #[] 3)):=(Below.refl _ _).alloc (Nat.le_refl _) _; have hown0 : OwnI (X0.alloc (.cells #[] 3)) (w.heap.size + 2) (.slice (some ⟨w.heap.size + 1 + 1,0,none⟩) ([] : List Int).length 0) []:=z18 hX0s; have HAL:=zH hal; have HO0:=zH hown0; rw [hX0] at hown0; have hXr:=HX.out.up (z09 K0.out.bel hal); rw [hX0] at hXr; clear h hA hnb hX hY hxm hym hT hX0 hX0s hal
 go_enter Tryz.func92,Tryz.ntmps92
 go_wp2_with (at_builtin; refine z10 (zs:=xs) (by rfl) (.tmp 16) (.tmp 17) (by rfl) (by rfl) (by rfl) hown0 hXr HXN.out (by simp; omega) (by simp) (by simp) ?_; intro X2 d2 w3 ho3 hb3 hg3; have HO3:=zH ho3; have HB3:=zH hb3; clear ho3 hb3 hg3 hown0 hXr)
 rw [<- HX0.out] at HB3; have hb03 : Below X0.heap.size X0 w3:=HAL.out.trans (by rw [HX0S.out]; exact HB3.out); have K3:=zH (K0.out.two2.up HF.out hb03); have HR3 : Hid (RdI w w3 (fun _ => False) X2 xs):=zH (RdI.of HO3.out (Nat.le_refl _)); have HC3:=zH HO3.out.cap; clear hb03 K0
 go_loopw [10,12] (fun s i wr => ∃ (j : Nat) (k1 : N × Bool) (s1 : List Int) (A1 Sp : Option Addr) (c1 sc : Nat),j <= ys.length /\ i = .int .i64 j /\ s = .slice Sp s1.length sc /\ s1.length = xs.length /\ s1.length <= sc /\ (∀ m ∈ s1,RB m) /\ KS2 F w wr k1 A1 c1 (fun _ => False) /\ RdI w wr (fun _ => False) Sp s1 /\ NB k1.1 /\ Hid (run opsR (z0z false (-1) (ys.drop j) j s1) k1 = T)) (fun _ i _ => ys.length - (intOf i).toNat)
 case atStart => exact ⟨0,k,xs,A,X2,c,d2,Nat.zero_le _,rfl,rfl,rfl,HC3.out,HXM.out,K3.out,HR3.out,HNB.out,zH (by rw [HT.out]; rfl)⟩
 case round =>
  obtain ⟨j,k1,s1,A1,Sp,c1,sc,hj,rfl,rfl,hsl,hcap,hsm,hks,hrd,hnb1,hst⟩:=hrel; have HSL:=zH hsl; have HCAP:=zH hcap; have HSM:=zH hsm; have HKS:=zH hks; have HRD:=zH hrd; have HNB1:=zH hnb1; have hsn : s1.length <= 8:=by omega
  clear hsl hcap hsm hks hrd hnb1 HX HXM HT K3 HR3 HC3 HO3 HB3 HX0 HX0S HAL HO0 HXN
  by_cases hlt : j < ys.length
  ·
   have hlt2 : (j : Int) < ys.length:=by omega
   obtain ⟨y,hy⟩ : ∃ y,ys[j]? = some y:=⟨_,List.getElem?_eq_getElem hlt⟩; have hyg : ys[j] = y:=(List.getElem?_eq_some_iff.1 hy).2; have HYR:=zH (HYM.out y (List.mem_of_getElem? hy)); obtain ⟨ady,rfl,-,-⟩:=HY.out.at_int hlt; have HRY : Hid (∀ z,Below w.heap.size w z -> z.cell? (ady.add j) = some (.int .i64 y)):=zH fun z hz => by
    obtain ⟨ad,e,_,hc⟩:=(HY.out.up hz).at_int hlt
    injection e with e; subst e; rw [<- hyg]; exact hc
   have hst2:=(run_shift (o:=opsR) false (-1) ys j y s1 k1 hy).symm.trans hst.out; obtain ⟨p,hp⟩ : ∃ p,p = 2 ^ j:=⟨_,rfl⟩; have hp2 : p <= 65536:=by rw [hp]; exact pow_small (by omega)
   have HTWO : Hid (∀ z,Calls Tryz.prog 30 #[.int .i64 (j : Int)] z (RetZ (p : Int) z)):=zH fun z => by rw [hp]; exact l1Two_any j z (by omega)
   rw [<- hp] at hst2; obtain ⟨fr,hfr⟩ : ∃ fr,fr = fromL false s1 p (-1):=⟨_,rfl⟩; rw [<- hfr] at hst2; obtain ⟨C,hC⟩ : ∃ C,C = (fun q : (N × Bool) × List Int => run opsR (z0z false (-1) (ys.drop (j + 1)) (j + 1) q.2) q.1):=⟨_,rfl⟩; rw [<- hC] at hst2; have HST:=zH hst2; have HC:=zH hC; have HFRM : Hid (∀ q : Nat,(h : q < s1.length) -> fr[q]? = some (frV false s1 p (-1) q) /\ RB (frV false s1 p (-1) q)):=zH fun q hq => by
    refine ⟨by rw [hfr]; exact fromL_at hq,?_⟩; have hg : ∀ j,j < s1.length -> RB (s1.getD j 0):=fun j hj => getD_inP HSM.out hj
    unfold frV
    split
    ·
     split
     · exact HFM.out
     · exact hg _ (Nat.lt_of_le_of_lt (Nat.sub_le _ _) hq)
    ·
     split
     · exact hg _ (by assumption)
     · exact HFM.out
   have HFRL : Hid (fr.length = s1.length):=zH (by rw [hfr]; exact z2j _ _ _ _); have K1:=zH (HKS.out.fresh HF.out (.cells #[] 3)); have HR1:=zH (HRD.out.fresh (.cells #[] 3)); have HO1 : Hid (OwnI (wr.alloc (.cells #[] 3)) (w.heap.size + 2) (.slice (some ⟨wr.heap.size,0,none⟩) 0 0) []):=zH ((show OwnI (wr.alloc (.cells #[] 3)) wr.heap.size (.slice (some ⟨wr.heap.size,0,none⟩) 0 0) [] from z18 rfl).base (by have:=lt_of_block HKS.out.res; omega)); clear hy hyg hst hst2 hC hfr hp HKS HRD
   go_wp2
   go_loopw [13,14] (fun out i wr => ∃ (q : Nat) (k2 : N × Bool) (l : List Int) (A2 B : Option Addr) (c2 d : Nat),q <= s1.length /\ i = .int .i64 q /\ out = .slice B l.length d /\ l.length = q /\ (∀ m ∈ l,RB m) /\ AddI F w wr k2 A2 c2 B d l /\ RdI w wr (fun b => (Value.slice B l.length d).ownBlock = some b) Sp s1 /\ NB k2.1 /\ Hid (C (let z:=run opsR (z0v (muxP y) (fr.drop q) (s1.drop q)) k2; (z.1,l ++ z.2)) = T)) (fun _ i _ => s1.length - (intOf i).toNat)
   case atStart => exact ⟨0,k1,[],A1,_,c1,0,Nat.zero_le _,rfl,rfl,rfl,(fun _ h => by cases h),⟨K1.out,HO1.out⟩,HR1.out,HNB1.out,HST⟩
   case round =>
    obtain ⟨q,k2,l,A2,B,c2,d,hq,rfl,rfl,hlq,hlm,hks,hrd,hnb2,hst⟩:=hrel; have HLM:=zH hlm; have HKS:=zH hks; have HRD:=zH hrd; have HLQ:=zH hlq; have HNB2:=zH hnb2; clear hlm hks hrd hlq hnb2 K1 HR1 HO1 HST
    by_cases hltq : q < s1.length
    ·
     have hltq2 : (q : Int) < s1.length:=by omega
     obtain ⟨sv,hsv⟩ : ∃ sv,s1[q]? = some sv:=⟨_,List.getElem?_eq_getElem hltq⟩; have hsg : s1[q] = sv:=(List.getElem?_eq_some_iff.1 hsv).2; obtain ⟨hf1,hf2⟩:=HFRM.out q hltq; have HFRR : Hid (∀ z,Kept w.heap.size wr z -> Calls Tryz.prog 121 #[.int .i64 12,.slice Sp s1.length sc,.int .i64 (q : Int),.int .i64 (p : Int),.int .i64 (-1)] z (RetZ (frV false s1 p (-1) q) z)):=zH fun z hz => l7From_12 s1 Sp sc q p (-1) z (HRD.out.kept hz).rd hltq hsn hp2
     generalize frV false s1 p (-1) q = fv at *; have HVB:=zH (And.intro hf2 (HSM.out sv (List.mem_of_getElem? hsv))); have HST:=zH ((congrArg C (z1v (o:=opsR) (f:=muxP y) fr s1 q fv sv hf1 hsv k2 l)).symm.trans hst.out); obtain ⟨ads,rfl,-,-⟩:=HRD.out.at_int hltq; have HRS : Hid (∀ z,Kept w.heap.size wr z -> z.cell? (ads.add q) = some (.int .i64 sv)):=zH fun z hz => by
      obtain ⟨ad,e,_,hc⟩:=(HRD.out.kept hz).at_int hltq
      injection e with e; subst e; rw [<- hsg]; exact hc
     have hll : l.length <= 1000:=by have:=HLQ.out; omega
     clear hsv hsg hf1 hf2 hst; obtain ⟨g,h9⟩ : ∃ g,g = run opsR (muxP y fv sv) k2:=⟨_,rfl⟩; have HG:=zH h9; have HGB : Hid (NB g.1.1 /\ RB g.2):=zH (by rw [h9]; exact mux_rb HNB2.out HYR.out HVB.out.1 HVB.out.2); clear h9; have HST : Hid (C (let r:=run opsR (z0v (muxP y) (fr.drop (q + 1)) (s1.drop (q + 1))) g.1; (r.1,(l ++ [g.2]) ++ r.2)) = T):=zH (by rw [HG.out]; exact HST.out); obtain ⟨l2,hl2⟩ : ∃ l2,l2 = l ++ [g.2]:=⟨_,rfl⟩; have HL2:=zH hl2; clear hl2
     go_wp2
     refine z0a [[],[],[],[(1,42),(2,43)],[(3,44)],[],[],[],[],[(8,49)],[],[(5,46),(6,47),(7,48),(9,50),(10,51)],[],[],[(12,53),(13,54)],[(14,55)],[(0,41),(4,45),(11,52),(15,56)],[(16,57)],[(17,40)],[(17,40)],[(18,58)],[(19,59)]]
      (fun x9 y9 => Below x9.heap.size x9 y9)
      [(20,fun x9 y9 => x9.grownBy y9 (some w.heap.size))]
      (fun f9 x9 => (f9 20 = false -> AddI F w x9 k2 A2 c2 B d l) /\ (f9 20 = true -> ∃ A9 c9,AddI F w x9 g.1 A9 c9 B d l) /\ Below w.heap.size w x9 /\ Kept w.heap.size wr x9)
      [zF 0 (.agg #[.int .i64 k2.1.ins,.slice A2 k2.1.gs.length c2,.bool k2.2]),
  zF 1 (.slice (some ady) ys.length cy),
  zF 2 (.int .i64 (j : Int)),
  zF 3 (.pointer (some (ady.add j))),
  zF 4 (.int .i64 y),
  zF 5 (.int .i64 12),
  zF 6 (.slice (some ads) s1.length sc),
  zF 7 (.int .i64 (q : Int)),
  zF 8 (.int .i64 (j : Int)),
  zF 9 (.int .i64 (p : Int)),
  zF 10 (.int .i64 (-1)),
  zF 11 (.int .i64 fv),
  zF 12 (.slice (some ads) s1.length sc),
  zF 13 (.int .i64 (q : Int)),
  zF 14 (.pointer (some (ads.add q))),
  zF 15 (.int .i64 sv),
  fun vs9 y9 => (fun v z => ATup F (fun b => (Value.slice B l.length d).ownBlock = some b) w g v z) (vs9 16) y9,
  fun vs9 y9 => (fun v z => ATup F (fun b => (Value.slice B l.length d).ownBlock = some b) w g v z) (vs9 17) y9,
  fun vs9 y9 => (fun v z => ANet F (fun b => (Value.slice B l.length d).ownBlock = some b) w g v z) (vs9 18) y9,
  zF 19 (.int .i64 g.2),
  fun _ _ => True,
  zF 21 (.int .i64 g.2)]
      [(0,41),(1,42),(2,43),(3,44),(4,45),(5,46),(6,47),(7,48),(8,49),(9,50),(10,51),(11,52),(12,53),(13,54),(14,55),(15,56),(16,57),(17,40),(18,58),(19,59),(21,15)] (by kernel_rfl) (by kernel_rfl) (by kernel_rfl) (by kernel_rfl)
      (fun _ => Below.refl _ _) ⟨fun _ => World.grownBy.refl _ _,trivial⟩
      ⟨zU,
  zU,
  zU,
  zU,
  zU,
  zU,
  zU,
  zU,
  zU,
  zU,
  zU,
  zU,
  zU,
  zU,
  zU,
  zU,
  ⟨.inr (zS (fun v z => ATup F (fun b => (Value.slice B l.length d).ownBlock = some b) w g v z) (fun _ _ _ h9 hR => h9.up HF.out hR)),⟨.inr (.inr (zS (fun v z => ATup F (fun b => (Value.slice B l.length d).ownBlock = some b) w g v z) (fun _ _ _ h9 hR => h9.st HF.out hR))),trivial⟩⟩,
  ⟨.inr (zS (fun v z => ATup F (fun b => (Value.slice B l.length d).ownBlock = some b) w g v z) (fun _ _ _ h9 hR => h9.up HF.out hR)),⟨.inr (.inr (zS (fun v z => ATup F (fun b => (Value.slice B l.length d).ownBlock = some b) w g v z) (fun _ _ _ h9 hR => h9.st HF.out hR))),trivial⟩⟩,
  ⟨.inr (zS (fun v z => ANet F (fun b => (Value.slice B l.length d).ownBlock = some b) w g v z) (fun _ _ _ h9 hR => h9.up HF.out hR)),⟨.inr (.inr (zS (fun v z => ANet F (fun b => (Value.slice B l.length d).ownBlock = some b) w g v z) (fun _ _ _ h9 hR => h9.st HF.out hR))),trivial⟩⟩,
  zU,
  ⟨.inr zK,⟨.inr (.inl rfl),trivial⟩⟩,
  zU,trivial⟩ ⟨zL,
  zL,
  zL,
  zL,
  zL,
  zL,
  zL,
  zL,
  zL,
  zL,
  zL,
  zL,
  zL,
  zL,
  zL,
  zL,
  fun _ _ _ h _ v => (by simpa only [<- h] using v),
  fun _ _ _ h _ v => (by simpa only [<- h] using v),
  fun _ _ _ h _ v => (by simpa only [<- h] using v),
  zL,
  fun _ _ _ _ _ _ => trivial,
  zL,trivial⟩ (⟨fun _ => HKS.out.up HF.out (z02 (Below.refl _ _) 1),(fun h => by cases h),z09 HKS.out.ks.bel (z02 (Below.refl _ _) 1),Kept.drew _ _ 1⟩) ⟨?_,?_,?_,?_,?_,?_,?_,?_,?_,?_,?_,?_,?_,?_,?_,?_,?_,?_,?_,?_,?_,?_,trivial⟩ ?_
     ·
      intro vals xw f hf1 hf2 hf3 hI hF; have k20 : f 20 = false:=hf3 20 (by kernel_rfl); clear hf2 hf3; dsimp only [z03,bare]; simp only [z01,Act.put,zQ]; have hv9:=(hI.1 k20).ks.var; have y0:=(z00 hv9 0).1; have y1:=(z00 hv9 1).1; have y2:=(z00 hv9 2).1
      go_wp2
      exact zX hI rfl
     iterate 2
      ·
       rintro vals xw f hf1 - - hI hF; dsimp only [z03,bare]; simp only [z01,Act.put,zQ]
       go_wp2
       exact zX hI rfl
     ·
      rintro vals xw f hf1 - - hI hF; simp only [z05,zF,zR,and_true] at hF; obtain ⟨e42,e43⟩:=hF; dsimp only [z03,bare]; simp only [z01,Act.put,zQ]; simp only [e42,e43]
      go_wp2
      exact zX hI rfl
     ·
      rintro vals xw f hf1 - - hI hF; simp only [z05,zF,zR,and_true] at hF; have e44:=hF; dsimp only [z03,bare]; simp only [z01,Act.put,zQ]; simp only [e44]; have c9:=HRY.out _ hI.2.2.1
      go_wp2
      exact zX hI rfl
     iterate 4
      ·
       rintro vals xw f hf1 - - hI hF; dsimp only [z03,bare]; simp only [z01,Act.put,zQ]
       go_wp2
       exact zX hI rfl
     ·
      rintro vals xw f hf1 - - hI hF; simp only [z05,zF,zR,and_true] at hF; have e49:=hF; dsimp only [z03,bare]; simp only [z01,Act.put,zQ]; simp only [e49]; have HC:=zH (HTWO.out xw); have HI:=zH hI; clear hI
      go_wp2_with fail
      refine HC.out.mono ?_; rintro e wx ⟨rfl,hb⟩; have HB:=zH hb; clear hb HC
      go_wp2
      exact ⟨rfl,rfl,⟨zN rfl,fun _ => HB.out⟩,krI_up HF.out HI.out HB.out⟩
     ·
      rintro vals xw f hf1 - - hI hF; dsimp only [z03,bare]; simp only [z01,Act.put,zQ]
      go_wp2
      exact zX hI rfl
     ·
      rintro vals xw f hf1 - - hI hF; simp only [z05,zF,zR,and_true] at hF; obtain ⟨e46,e47,e48,e50,e51⟩:=hF; dsimp only [z03,bare]; simp only [z01,Act.put,zQ]; simp only [e46,e47,e48,e50,e51]; have HC:=zH (HFRR.out xw hI.2.2.2); have HI:=zH hI; clear hI
      go_wp2_with fail
      refine HC.out.mono ?_; rintro e wx ⟨rfl,hb⟩; have HB:=zH hb; clear hb HC
      go_wp2
      exact ⟨rfl,rfl,⟨zN rfl,fun _ => HB.out⟩,krI_up HF.out HI.out HB.out⟩
     iterate 2
      ·
       rintro vals xw f hf1 - - hI hF; dsimp only [z03,bare]; simp only [z01,Act.put,zQ]
       go_wp2
       exact zX hI rfl
     ·
      rintro vals xw f hf1 - - hI hF; simp only [z05,zF,zR,and_true] at hF; obtain ⟨e53,e54⟩:=hF; dsimp only [z03,bare]; simp only [z01,Act.put,zQ]; simp only [e53,e54]
      go_wp2
      exact zX hI rfl
     ·
      rintro vals xw f hf1 - - hI hF; simp only [z05,zF,zR,and_true] at hF; have e55:=hF; dsimp only [z03,bare]; simp only [z01,Act.put,zQ]; simp only [e55]; have c9:=HRS.out _ hI.2.2.2
      go_wp2
      exact zX hI rfl
     ·
      intro vals xw f hf1 hf2 hf3 hI hF; have k20 : f 20 = false:=hf3 20 (by kernel_rfl); clear hf2 hf3; simp only [z05,zF,zR,and_true] at hF; obtain ⟨e41,e45,e52,e56⟩:=hF; dsimp only [z03,bare]; simp only [z01,Act.put,zQ]; simp only [e41,e45,e52,e56]; have HI:=zH hI; have HK:=zH (hI.1 k20); have hsz9:=hI.2.2.1.size; clear hI; have HC:=zH (l7One_any (G2 F w xw (fun b => (Value.slice B l.length d).ownBlock = some b)) A2 c2 k2 y fv sv xw HK.out.ks.row (KS2.lt HK.out.ks.bel HF.out) HK.out.ks.nil HNB2.out HYR.out HVB.out.1 HVB.out.2); rw [<- HG.out] at HC
      go_wp2_with fail
      refine HC.out.mono ?_; rintro e wx ⟨A9,c9,rfl,h2,h3,h4⟩; have H3:=zH h3; have H4:=zH h4; clear h3 h4 HC
      go_wp2
      refine ⟨rfl,⟨A9,c9,rfl,h2,H3.out.mono ?_,Nat.le_trans hsz9 H4.out.size⟩,⟨zN rfl,fun _ => H4.out⟩,krI_up HF.out HI.out H4.out⟩; intro b hb
      rcases hb with (h9 | h9) | h9
      · exact .inl h9
      · exact .inr ⟨h9.1,Nat.lt_of_lt_of_le h9.2.1 H4.out.size,h9.2.2⟩
      · exact .inr ⟨by have:=lt_of_block HK.out.ks.res; omega,h9.2,fun e => by have:=(HK.out.own.lt b e).2; omega⟩
     ·
      rintro vals xw f hf1 - - hI hF; simp only [z05,zF,zR,and_true] at hF; obtain ⟨A9,c9,e57,h2,h3,h4⟩:=hF; dsimp only [z03,bare]; simp only [z01,Act.put,zQ]; simp only [e57]
      go_wp2
      exact ⟨rfl,⟨A9,c9,rfl,h2,h3,h4⟩,⟨zN rfl,fun _ => Below.refl _ _⟩,hI⟩
     ·
      rintro vals xw f hf1 - - hI hF; simp only [z05,zF,zR,and_true] at hF; obtain ⟨A9,c9,e40,h2,h3,h4⟩:=hF; dsimp only [z03,bare]; simp only [z01,Act.put,zQ]; simp only [e40]
      go_wp2
      exact ⟨rfl,⟨A9,c9,rfl,h2,h3,h4⟩,⟨zN rfl,fun _ => Below.refl _ _⟩,hI⟩
     ·
      rintro vals xw f hf1 - - hI hF; simp only [z05,zF,zR,and_true] at hF; obtain ⟨A9,c9,e40,h2,h3,h4⟩:=hF; dsimp only [z03,bare]; simp only [z01,Act.put,zQ]; simp only [e40]
      go_wp2
      exact zX hI rfl
     ·
      rintro vals xw f hf1 - - hI hF; simp only [z05,zF,zR,and_true] at hF; obtain ⟨A9,c9,e58,h2,h3,h4⟩:=hF; dsimp only [z03,bare]; simp only [z01,Act.put,zQ]; simp only [e58]; have HI:=zH hI; have HK:=zH (hI.1 hf1); have hv9:=HK.out.ks.var; have y0:=(z00 hv9 0).1; have y1:=(z00 hv9 1).1; have y2:=(z00 hv9 2).1; have g0:=(z00 hv9 0).2; have g1:=(z00 hv9 1).2; have g2:=(z00 hv9 2).2; have H3:=zH h3; clear hI hv9 h3 h4
      go_wp2
      have hset:=HK.out.set (c':=c9) HF.out H3.out h2; have hgr : xw.grownBy (st3 xw w.heap.size (.int .i64 g.1.1.ins) (.slice A9 g.1.1.gs.length c9) (.bool g.1.2)) (some w.heap.size):=z06 (z06 (z06 (World.grownBy.refl _ _) _ _) _ _) _ _; exact ⟨rfl,trivial,⟨fun _ => hgr,fun h9 => absurd rfl h9⟩,fun h => absurd ((z0h f 20).symm.trans h) (by simp),fun _ => ⟨A9,c9,hset⟩,z0i HI.out.2.2.1 (Nat.le_refl _) _ _ _,HI.out.2.2.2.grown hgr⟩
     ·
      rintro vals xw f hf1 - - hI hF; simp only [z05,zF,zR,and_true] at hF; have e59:=hF; dsimp only [z03,bare]; simp only [z01,Act.put,zQ]; simp only [e59]
      go_wp2
      exact zX hI rfl
     ·
      intro vals xw f hall hI hF; rw [show List.range _ = [0,1,2,3,4,5,6,7,8,9,10,11,12,13,14,15,16,17,18,19,20,21] from rfl] at hF; simp only [says,zF,zR,and_true] at hF; obtain ⟨A12,c12,hk2⟩:=hI.2.1 (hall 20 (by decide)); have e9 : vals 21 = .int .i64 g.2:=by obtain ⟨_,_,_,_,_,_,_,_,_,_,_,_,_,_,_,_,_,_,_,_,_,e9⟩:=hF; exact e9
      have K12:=zH hk2; have HKP:=zH hI.2.2.2; clear hF hk2 hI; simp only [z01,Act.put,zQ]; simp only [e9]; clear e9; have hown9:=K12.out.own; have hsz9 : w.heap.size + 2 <= xw.heap.size:=by have:=lt_of_block K12.out.ks.res; omega
      go_wp2_with (at_builtin; refine z0g (ys:=l2) (by rfl) (.tmp 60) (.tmp 62) (by rfl) (by rfl) (by rfl) hown9 (by omega) hsz9 HL2.out ?_; intro B2 d2 w2 hown2 hg2 hbk2)
      have hk3:=K12.out.ks.grown (v':=.slice B2 l2.length d2) HF.out hg2 (fun g hg => (K12.out.own.lt g hg).1) hbk2; have hr3:=(HRD.out.kept HKP.out).grown (v':=.slice B2 l2.length d2) hg2 hbk2
      go_roundw
      case rel => exact ⟨q + 1,g.1,l2,A12,B2,c12,d2,by omega,by go_num,rfl,by rw [HL2.out,List.length_append,HLQ.out]; rfl,fun z hz => (List.mem_append.1 (by rw [HL2.out] at hz; exact hz)).elim (HLM.out z) (fun hz => by rw [List.mem_singleton.1 hz]; exact HGB.out.2),⟨hk3,hown2⟩,hr3,HGB.out.1,zH (by rw [HL2.out]; exact HST.out)⟩
      case measure => simp [intOf]; omega
    ·
     have hje : q = s1.length:=by omega
     subst hje; have hltq2 : ¬ ((s1.length : Nat) : Int) < s1.length:=by omega
     have hd1 : s1.drop s1.length = []:=List.drop_length; have hd2 : fr.drop s1.length = []:=by rw [<- HFRL.out]; exact List.drop_length
     have hst2:=hst.out; rw [hd1,hd2] at hst2; have hst3 : C (k2,l) = T:=by rw [<- hst2]; show _ = C (k2,l ++ []); rw [List.append_nil]
     rw [HC.out] at hst3; have HST2:=zH hst3; have HRL:=zH (RdI.of HKS.out.own (w:=w) (Nat.le_refl _)); have HLC:=zH HKS.out.own.cap; clear hst hst2 hst3 hd1 hd2
     go_wp2
     go_roundw
     case rel => exact ⟨j + 1,k2,l,A2,B,c2,d,by omega,by go_num,rfl,by rw [HLQ.out,HSL.out],HLC.out,HLM.out,HKS.out.ks.free,HRL.out,HNB2.out,HST2⟩
     case measure => simp [intOf]; omega
  ·
   have hje : j = ys.length:=by omega
   subst hje; have hlt2 : ¬ ((ys.length : Nat) : Int) < ys.length:=by omega
   have hd1 : ys.drop ys.length = []:=List.drop_length; have hst2:=hst.out; rw [hd1] at hst2; have hT2 : T = (k1,s1):=by rw [<- hst2]; rfl
   have HT2:=zH hT2; clear hst hst2 hT2 hd1; have hv9:=HKS.out.var; have y0:=(z00 hv9 0).1; have y1:=(z00 hv9 1).1; have y2:=(z00 hv9 2).1; have hr9:=HKS.out.res; have r0:=(z00 hr9 0).1; have r1:=(z00 hr9 1).1; have r2:=(z00 hr9 2).1; have rf0:=(z00 hr9 0).2; have rf1:=(z00 hr9 1).2; have rf2:=(z00 hr9 2).2; clear hv9 hr9
   go_wp2
   have hs:=z0s HKS.out.res (.int .i64 k1.1.ins) (.slice A1 k1.1.gs.length c1) (.bool k1.2); have k5:=(z00 hs 0).1; have k6:=(z00 hs 1).1; have k7:=(z00 hs 2).1; have kf5:=(z00 hs 0).2; have kf6:=(z00 hs 1).2; have kf7:=(z00 hs 2).2; refine bodyPost_ret (v:=.tuple #[.agg #[.int .i64 k1.1.ins,.slice A1 k1.1.gs.length c1,.bool k1.2],.slice Sp s1.length sc]) (by simp [results,Tryz.results92,go_sem,k5,k6,k7,kf5,kf6,kf7]) rfl ?_; rw [HT2.out]; refine ⟨A1,c1,Sp,sc,rfl,HKS.out.nil,(z1a (h:=w.heap.size + 1) HKS.out.row (fun b hb => ?_) _ _ _).mono (fun b hb => ?_),HCAP.out,(z1a (h:=w.heap.size + 1) HRD.out (fun b hb => by omega) _ _ _).mono (fun b hb => by rw [z0o]; omega),HSM.out,z0i HKS.out.bel (by omega) _ _ _⟩
   ·
    rcases hb with hb | hb
    · have:=HF.out b hb; omega
    · omega
   ·
    rw [z0o]; exact hb.imp id fun h9 => ⟨by omega,h9.2.1⟩
set_option maxRecDepth 100000 in
set_option maxHeartbeats 8000000 in
theorem l7Shift_13 (F : Nat -> Prop) (A : Option Addr) (c : Nat) (k : N × Bool) (X Y : Option Addr) (cx cy : Nat) (xs ys : List Int) (fl : Int) (hfl : xs[xs.length - 1]? = some fl) (w : World) (h : Lay.gate.Sl w F A k.1.gs) (hF : ∀ b,F b -> b < w.heap.size) (hA : A = none -> k.1.gs.length = 0) (hnb : NB k.1) (hX : Lay.int.Rd w X xs) (hY : Lay.int.Rd w Y ys) (hxm : ∀ x ∈ xs,RB x) (hym : ∀ y ∈ ys,RB y) (hn : xs.length <= 8) (hn' : ys.length <= 16) :
  Calls Tryz.prog 92 #[.agg #[.int .i64 k.1.ins,.slice A k.1.gs.length c,.bool k.2],.int .i64 13,.slice X xs.length cx,.slice Y ys.length cy] w (RetKL F w (run opsR (z0z false fl ys 0 xs) k)):=by
 obtain ⟨T,hT⟩ : ∃ T,T = run opsR (z0z false fl ys 0 xs) k:=⟨_,rfl⟩; rw [<- hT]; have HT:=zH hT; have K0:=KS.two (c:=c) h hF hA; have HRW:=zH (h.below K0.bel hF); have HNIL:=zH hA; have HF:=zH hF; have HNB:=zH hnb; have HXN:=zH (rd_nil hX); have hle : xs.length - 1 < xs.length:=(List.getElem?_eq_some_iff.1 hfl).1; have hfg : xs[xs.length - 1] = fl:=(List.getElem?_eq_some_iff.1 hfl).2; have HFM : Hid (RB fl):=zH (hxm fl (List.mem_of_getElem? hfl)); obtain ⟨e0,he0⟩ : ∃ e0,e0 = xs.length - 1:=⟨_,rfl⟩; have h1 : (xs.length : Int) - 1 = (e0 : Int):=by omega
 obtain ⟨adX,rfl,-,-⟩:=hX.at_int hle; have HCF : Hid (∀ z,Below w.heap.size w z -> z.cell? (adX.add e0) = some (.int .i64 fl)):=zH fun z hz => by
  obtain ⟨ad,e,_,hc⟩:=(hX.up hz).at_int hle
  injection e with e; subst e; rw [<- hfg,he0]; exact hc
 have hle0 : e0 < xs.length:=by omega
 clear hfl hfg hle he0; have HX:=zH hX; have HY:=zH hY; have HXM:=zH hxm; have HYM:=zH hym; have K0:=zH K0; have hX0s : ((w.alloc (.cells #[.int .i64 k.1.ins,.slice A k.1.gs.length c,.bool k.2] 85)).alloc (.cells #[.int .i64 0,.slice none 0 0,.bool false] 85)).heap.size = w.heap.size + 2:=by simp
 obtain ⟨X0,hX0⟩ : ∃ X0,X0 = (w.alloc (.cells #[.int .i64 k.1.ins,.slice A k.1.gs.length c,.bool k.2] 85)).alloc (.cells #[.int .i64 0,.slice none 0 0,.bool false] 85):=⟨_,rfl⟩; have HX0:=zH hX0; rw [<- hX0] at hX0s K0; have HX0S:=zH hX0s; have hal : Below X0.heap.size X0 (X0.alloc (.cells #[] 3)):=(Below.refl _ _).alloc (Nat.le_refl _) _; have hown0 : OwnI (X0.alloc (.cells #[] 3)) (w.heap.size + 2) (.slice (some ⟨w.heap.size + 1 + 1,0,none⟩) ([] : List Int).length 0) []:=z18 hX0s; have HAL:=zH hal; have HO0:=zH hown0; rw [hX0] at hown0; have hXr:=HX.out.up (z09 K0.out.bel hal); rw [hX0] at hXr; clear h hA hnb hX hY hxm hym hT hX0 hX0s hal
 go_enter Tryz.func92,Tryz.ntmps92
 go_wp2_with (at_builtin; refine z10 (zs:=xs) (by rfl) (.tmp 16) (.tmp 17) (by rfl) (by rfl) (by rfl) hown0 hXr HXN.out (by simp; omega) (by simp) (by simp) ?_; intro X2 d2 w3 ho3 hb3 hg3; have HO3:=zH ho3; have HB3:=zH hb3; clear ho3 hb3 hg3 hown0 hXr; have c9:=HCF.out _ (z09 K0.out.bel (HAL.out.trans (by rw [HX0S.out]; rw [HX0.out]; exact HB3.out))))
 rw [<- HX0.out] at HB3; have hb03 : Below X0.heap.size X0 w3:=HAL.out.trans (by rw [HX0S.out]; exact HB3.out); have K3:=zH (K0.out.two2.up HF.out hb03); have HR3 : Hid (RdI w w3 (fun _ => False) X2 xs):=zH (RdI.of HO3.out (Nat.le_refl _)); have HC3:=zH HO3.out.cap; clear hb03 K0
 go_loopw [10,12] (fun s i wr => ∃ (j : Nat) (k1 : N × Bool) (s1 : List Int) (A1 Sp : Option Addr) (c1 sc : Nat),j <= ys.length /\ i = .int .i64 j /\ s = .slice Sp s1.length sc /\ s1.length = xs.length /\ s1.length <= sc /\ (∀ m ∈ s1,RB m) /\ KS2 F w wr k1 A1 c1 (fun _ => False) /\ RdI w wr (fun _ => False) Sp s1 /\ NB k1.1 /\ Hid (run opsR (z0z false fl (ys.drop j) j s1) k1 = T)) (fun _ i _ => ys.length - (intOf i).toNat)
 case atStart => exact ⟨0,k,xs,A,X2,c,d2,Nat.zero_le _,rfl,rfl,rfl,HC3.out,HXM.out,K3.out,HR3.out,HNB.out,zH (by rw [HT.out]; rfl)⟩
 case round =>
  obtain ⟨j,k1,s1,A1,Sp,c1,sc,hj,rfl,rfl,hsl,hcap,hsm,hks,hrd,hnb1,hst⟩:=hrel; have HSL:=zH hsl; have HCAP:=zH hcap; have HSM:=zH hsm; have HKS:=zH hks; have HRD:=zH hrd; have HNB1:=zH hnb1; have hsn : s1.length <= 8:=by omega
  clear hsl hcap hsm hks hrd hnb1 HX HXM HT K3 HR3 HC3 HO3 HB3 HX0 HX0S HAL HO0 HXN
  by_cases hlt : j < ys.length
  ·
   have hlt2 : (j : Int) < ys.length:=by omega
   obtain ⟨y,hy⟩ : ∃ y,ys[j]? = some y:=⟨_,List.getElem?_eq_getElem hlt⟩; have hyg : ys[j] = y:=(List.getElem?_eq_some_iff.1 hy).2; have HYR:=zH (HYM.out y (List.mem_of_getElem? hy)); obtain ⟨ady,rfl,-,-⟩:=HY.out.at_int hlt; have HRY : Hid (∀ z,Below w.heap.size w z -> z.cell? (ady.add j) = some (.int .i64 y)):=zH fun z hz => by
    obtain ⟨ad,e,_,hc⟩:=(HY.out.up hz).at_int hlt
    injection e with e; subst e; rw [<- hyg]; exact hc
   have hst2:=(run_shift (o:=opsR) false fl ys j y s1 k1 hy).symm.trans hst.out; obtain ⟨p,hp⟩ : ∃ p,p = 2 ^ j:=⟨_,rfl⟩; have hp2 : p <= 65536:=by rw [hp]; exact pow_small (by omega)
   have HTWO : Hid (∀ z,Calls Tryz.prog 30 #[.int .i64 (j : Int)] z (RetZ (p : Int) z)):=zH fun z => by rw [hp]; exact l1Two_any j z (by omega)
   rw [<- hp] at hst2; obtain ⟨fr,hfr⟩ : ∃ fr,fr = fromL false s1 p fl:=⟨_,rfl⟩; rw [<- hfr] at hst2; obtain ⟨C,hC⟩ : ∃ C,C = (fun q : (N × Bool) × List Int => run opsR (z0z false fl (ys.drop (j + 1)) (j + 1) q.2) q.1):=⟨_,rfl⟩; rw [<- hC] at hst2; have HST:=zH hst2; have HC:=zH hC; have HFRM : Hid (∀ q : Nat,(h : q < s1.length) -> fr[q]? = some (frV false s1 p fl q) /\ RB (frV false s1 p fl q)):=zH fun q hq => by
    refine ⟨by rw [hfr]; exact fromL_at hq,?_⟩; have hg : ∀ j,j < s1.length -> RB (s1.getD j 0):=fun j hj => getD_inP HSM.out hj
    unfold frV
    split
    ·
     split
     · exact HFM.out
     · exact hg _ (Nat.lt_of_le_of_lt (Nat.sub_le _ _) hq)
    ·
     split
     · exact hg _ (by assumption)
     · exact HFM.out
   have HFRL : Hid (fr.length = s1.length):=zH (by rw [hfr]; exact z2j _ _ _ _); have K1:=zH (HKS.out.fresh HF.out (.cells #[] 3)); have HR1:=zH (HRD.out.fresh (.cells #[] 3)); have HO1 : Hid (OwnI (wr.alloc (.cells #[] 3)) (w.heap.size + 2) (.slice (some ⟨wr.heap.size,0,none⟩) 0 0) []):=zH ((show OwnI (wr.alloc (.cells #[] 3)) wr.heap.size (.slice (some ⟨wr.heap.size,0,none⟩) 0 0) [] from z18 rfl).base (by have:=lt_of_block HKS.out.res; omega)); clear hy hyg hst hst2 hC hfr hp HKS HRD
   go_wp2
   go_loopw [13,14] (fun out i wr => ∃ (q : Nat) (k2 : N × Bool) (l : List Int) (A2 B : Option Addr) (c2 d : Nat),q <= s1.length /\ i = .int .i64 q /\ out = .slice B l.length d /\ l.length = q /\ (∀ m ∈ l,RB m) /\ AddI F w wr k2 A2 c2 B d l /\ RdI w wr (fun b => (Value.slice B l.length d).ownBlock = some b) Sp s1 /\ NB k2.1 /\ Hid (C (let z:=run opsR (z0v (muxP y) (fr.drop q) (s1.drop q)) k2; (z.1,l ++ z.2)) = T)) (fun _ i _ => s1.length - (intOf i).toNat)
   case atStart => exact ⟨0,k1,[],A1,_,c1,0,Nat.zero_le _,rfl,rfl,rfl,(fun _ h => by cases h),⟨K1.out,HO1.out⟩,HR1.out,HNB1.out,HST⟩
   case round =>
    obtain ⟨q,k2,l,A2,B,c2,d,hq,rfl,rfl,hlq,hlm,hks,hrd,hnb2,hst⟩:=hrel; have HLM:=zH hlm; have HKS:=zH hks; have HRD:=zH hrd; have HLQ:=zH hlq; have HNB2:=zH hnb2; clear hlm hks hrd hlq hnb2 K1 HR1 HO1 HST
    by_cases hltq : q < s1.length
    ·
     have hltq2 : (q : Int) < s1.length:=by omega
     obtain ⟨sv,hsv⟩ : ∃ sv,s1[q]? = some sv:=⟨_,List.getElem?_eq_getElem hltq⟩; have hsg : s1[q] = sv:=(List.getElem?_eq_some_iff.1 hsv).2; obtain ⟨hf1,hf2⟩:=HFRM.out q hltq; have HFRR : Hid (∀ z,Kept w.heap.size wr z -> Calls Tryz.prog 121 #[.int .i64 13,.slice Sp s1.length sc,.int .i64 (q : Int),.int .i64 (p : Int),.int .i64 fl] z (RetZ (frV false s1 p fl q) z)):=zH fun z hz => l7From_13 s1 Sp sc q p fl z (HRD.out.kept hz).rd hltq hsn hp2
     generalize frV false s1 p fl q = fv at *; have HVB:=zH (And.intro hf2 (HSM.out sv (List.mem_of_getElem? hsv))); have HST:=zH ((congrArg C (z1v (o:=opsR) (f:=muxP y) fr s1 q fv sv hf1 hsv k2 l)).symm.trans hst.out); obtain ⟨ads,rfl,-,-⟩:=HRD.out.at_int hltq; have HRS : Hid (∀ z,Kept w.heap.size wr z -> z.cell? (ads.add q) = some (.int .i64 sv)):=zH fun z hz => by
      obtain ⟨ad,e,_,hc⟩:=(HRD.out.kept hz).at_int hltq
      injection e with e; subst e; rw [<- hsg]; exact hc
     have hll : l.length <= 1000:=by have:=HLQ.out; omega
     clear hsv hsg hf1 hf2 hst; obtain ⟨g,h9⟩ : ∃ g,g = run opsR (muxP y fv sv) k2:=⟨_,rfl⟩; have HG:=zH h9; have HGB : Hid (NB g.1.1 /\ RB g.2):=zH (by rw [h9]; exact mux_rb HNB2.out HYR.out HVB.out.1 HVB.out.2); clear h9; have HST : Hid (C (let r:=run opsR (z0v (muxP y) (fr.drop (q + 1)) (s1.drop (q + 1))) g.1; (r.1,(l ++ [g.2]) ++ r.2)) = T):=zH (by rw [HG.out]; exact HST.out); obtain ⟨l2,hl2⟩ : ∃ l2,l2 = l ++ [g.2]:=⟨_,rfl⟩; have HL2:=zH hl2; clear hl2
     go_wp2
     refine z0a [[],[],[],[(1,42),(2,43)],[(3,44)],[],[],[],[],[(8,49)],[],[(5,46),(6,47),(7,48),(9,50),(10,51)],[],[],[(12,53),(13,54)],[(14,55)],[(0,41),(4,45),(11,52),(15,56)],[(16,57)],[(17,40)],[(17,40)],[(18,58)],[(19,59)]]
      (fun x9 y9 => Below x9.heap.size x9 y9)
      [(20,fun x9 y9 => x9.grownBy y9 (some w.heap.size))]
      (fun f9 x9 => (f9 20 = false -> AddI F w x9 k2 A2 c2 B d l) /\ (f9 20 = true -> ∃ A9 c9,AddI F w x9 g.1 A9 c9 B d l) /\ Below w.heap.size w x9 /\ Kept w.heap.size wr x9)
      [zF 0 (.agg #[.int .i64 k2.1.ins,.slice A2 k2.1.gs.length c2,.bool k2.2]),
  zF 1 (.slice (some ady) ys.length cy),
  zF 2 (.int .i64 (j : Int)),
  zF 3 (.pointer (some (ady.add j))),
  zF 4 (.int .i64 y),
  zF 5 (.int .i64 13),
  zF 6 (.slice (some ads) s1.length sc),
  zF 7 (.int .i64 (q : Int)),
  zF 8 (.int .i64 (j : Int)),
  zF 9 (.int .i64 (p : Int)),
  zF 10 (.int .i64 fl),
  zF 11 (.int .i64 fv),
  zF 12 (.slice (some ads) s1.length sc),
  zF 13 (.int .i64 (q : Int)),
  zF 14 (.pointer (some (ads.add q))),
  zF 15 (.int .i64 sv),
  fun vs9 y9 => (fun v z => ATup F (fun b => (Value.slice B l.length d).ownBlock = some b) w g v z) (vs9 16) y9,
  fun vs9 y9 => (fun v z => ATup F (fun b => (Value.slice B l.length d).ownBlock = some b) w g v z) (vs9 17) y9,
  fun vs9 y9 => (fun v z => ANet F (fun b => (Value.slice B l.length d).ownBlock = some b) w g v z) (vs9 18) y9,
  zF 19 (.int .i64 g.2),
  fun _ _ => True,
  zF 21 (.int .i64 g.2)]
      [(0,41),(1,42),(2,43),(3,44),(4,45),(5,46),(6,47),(7,48),(8,49),(9,50),(10,51),(11,52),(12,53),(13,54),(14,55),(15,56),(16,57),(17,40),(18,58),(19,59),(21,15)] (by kernel_rfl) (by kernel_rfl) (by kernel_rfl) (by kernel_rfl)
      (fun _ => Below.refl _ _) ⟨fun _ => World.grownBy.refl _ _,trivial⟩
      ⟨zU,
  zU,
  zU,
  zU,
  zU,
  zU,
  zU,
  zU,
  zU,
  zU,
  zU,
  zU,
  zU,
  zU,
  zU,
  zU,
  ⟨.inr (zS (fun v z => ATup F (fun b => (Value.slice B l.length d).ownBlock = some b) w g v z) (fun _ _ _ h9 hR => h9.up HF.out hR)),⟨.inr (.inr (zS (fun v z => ATup F (fun b => (Value.slice B l.length d).ownBlock = some b) w g v z) (fun _ _ _ h9 hR => h9.st HF.out hR))),trivial⟩⟩,
  ⟨.inr (zS (fun v z => ATup F (fun b => (Value.slice B l.length d).ownBlock = some b) w g v z) (fun _ _ _ h9 hR => h9.up HF.out hR)),⟨.inr (.inr (zS (fun v z => ATup F (fun b => (Value.slice B l.length d).ownBlock = some b) w g v z) (fun _ _ _ h9 hR => h9.st HF.out hR))),trivial⟩⟩,
  ⟨.inr (zS (fun v z => ANet F (fun b => (Value.slice B l.length d).ownBlock = some b) w g v z) (fun _ _ _ h9 hR => h9.up HF.out hR)),⟨.inr (.inr (zS (fun v z => ANet F (fun b => (Value.slice B l.length d).ownBlock = some b) w g v z) (fun _ _ _ h9 hR => h9.st HF.out hR))),trivial⟩⟩,
  zU,
  ⟨.inr zK,⟨.inr (.inl rfl),trivial⟩⟩,
  zU,trivial⟩ ⟨zL,
  zL,
  zL,
  zL,
  zL,
  zL,
  zL,
  zL,
  zL,
  zL,
  zL,
  zL,
  zL,
  zL,
  zL,
  zL,
  fun _ _ _ h _ v => (by simpa only [<- h] using v),
  fun _ _ _ h _ v => (by simpa only [<- h] using v),
  fun _ _ _ h _ v => (by simpa only [<- h] using v),
  zL,
  fun _ _ _ _ _ _ => trivial,
  zL,trivial⟩ (⟨fun _ => HKS.out.up HF.out (z02 (Below.refl _ _) 1),(fun h => by cases h),z09 HKS.out.ks.bel (z02 (Below.refl _ _) 1),Kept.drew _ _ 1⟩) ⟨?_,?_,?_,?_,?_,?_,?_,?_,?_,?_,?_,?_,?_,?_,?_,?_,?_,?_,?_,?_,?_,?_,trivial⟩ ?_
     ·
      intro vals xw f hf1 hf2 hf3 hI hF; have k20 : f 20 = false:=hf3 20 (by kernel_rfl); clear hf2 hf3; dsimp only [z03,bare]; simp only [z01,Act.put,zQ]; have hv9:=(hI.1 k20).ks.var; have y0:=(z00 hv9 0).1; have y1:=(z00 hv9 1).1; have y2:=(z00 hv9 2).1
      go_wp2
      exact zX hI rfl
     iterate 2
      ·
       rintro vals xw f hf1 - - hI hF; dsimp only [z03,bare]; simp only [z01,Act.put,zQ]
       go_wp2
       exact zX hI rfl
     ·
      rintro vals xw f hf1 - - hI hF; simp only [z05,zF,zR,and_true] at hF; obtain ⟨e42,e43⟩:=hF; dsimp only [z03,bare]; simp only [z01,Act.put,zQ]; simp only [e42,e43]
      go_wp2
      exact zX hI rfl
     ·
      rintro vals xw f hf1 - - hI hF; simp only [z05,zF,zR,and_true] at hF; have e44:=hF; dsimp only [z03,bare]; simp only [z01,Act.put,zQ]; simp only [e44]; have c9:=HRY.out _ hI.2.2.1
      go_wp2
      exact zX hI rfl
     iterate 4
      ·
       rintro vals xw f hf1 - - hI hF; dsimp only [z03,bare]; simp only [z01,Act.put,zQ]
       go_wp2
       exact zX hI rfl
     ·
      rintro vals xw f hf1 - - hI hF; simp only [z05,zF,zR,and_true] at hF; have e49:=hF; dsimp only [z03,bare]; simp only [z01,Act.put,zQ]; simp only [e49]; have HC:=zH (HTWO.out xw); have HI:=zH hI; clear hI
      go_wp2_with fail
      refine HC.out.mono ?_; rintro e wx ⟨rfl,hb⟩; have HB:=zH hb; clear hb HC
      go_wp2
      exact ⟨rfl,rfl,⟨zN rfl,fun _ => HB.out⟩,krI_up HF.out HI.out HB.out⟩
     ·
      rintro vals xw f hf1 - - hI hF; dsimp only [z03,bare]; simp only [z01,Act.put,zQ]
      go_wp2
      exact zX hI rfl
     ·
      rintro vals xw f hf1 - - hI hF; simp only [z05,zF,zR,and_true] at hF; obtain ⟨e46,e47,e48,e50,e51⟩:=hF; dsimp only [z03,bare]; simp only [z01,Act.put,zQ]; simp only [e46,e47,e48,e50,e51]; have HC:=zH (HFRR.out xw hI.2.2.2); have HI:=zH hI; clear hI
      go_wp2_with fail
      refine HC.out.mono ?_; rintro e wx ⟨rfl,hb⟩; have HB:=zH hb; clear hb HC
      go_wp2
      exact ⟨rfl,rfl,⟨zN rfl,fun _ => HB.out⟩,krI_up HF.out HI.out HB.out⟩
     iterate 2
      ·
       rintro vals xw f hf1 - - hI hF; dsimp only [z03,bare]; simp only [z01,Act.put,zQ]
       go_wp2
       exact zX hI rfl
     ·
      rintro vals xw f hf1 - - hI hF; simp only [z05,zF,zR,and_true] at hF; obtain ⟨e53,e54⟩:=hF; dsimp only [z03,bare]; simp only [z01,Act.put,zQ]; simp only [e53,e54]
      go_wp2
      exact zX hI rfl
     ·
      rintro vals xw f hf1 - - hI hF; simp only [z05,zF,zR,and_true] at hF; have e55:=hF; dsimp only [z03,bare]; simp only [z01,Act.put,zQ]; simp only [e55]; have c9:=HRS.out _ hI.2.2.2
      go_wp2
      exact zX hI rfl
     ·
      intro vals xw f hf1 hf2 hf3 hI hF; have k20 : f 20 = false:=hf3 20 (by kernel_rfl); clear hf2 hf3; simp only [z05,zF,zR,and_true] at hF; obtain ⟨e41,e45,e52,e56⟩:=hF; dsimp only [z03,bare]; simp only [z01,Act.put,zQ]; simp only [e41,e45,e52,e56]; have HI:=zH hI; have HK:=zH (hI.1 k20); have hsz9:=hI.2.2.1.size; clear hI; have HC:=zH (l7One_any (G2 F w xw (fun b => (Value.slice B l.length d).ownBlock = some b)) A2 c2 k2 y fv sv xw HK.out.ks.row (KS2.lt HK.out.ks.bel HF.out) HK.out.ks.nil HNB2.out HYR.out HVB.out.1 HVB.out.2); rw [<- HG.out] at HC
      go_wp2_with fail
      refine HC.out.mono ?_; rintro e wx ⟨A9,c9,rfl,h2,h3,h4⟩; have H3:=zH h3; have H4:=zH h4; clear h3 h4 HC
      go_wp2
      refine ⟨rfl,⟨A9,c9,rfl,h2,H3.out.mono ?_,Nat.le_trans hsz9 H4.out.size⟩,⟨zN rfl,fun _ => H4.out⟩,krI_up HF.out HI.out H4.out⟩; intro b hb
      rcases hb with (h9 | h9) | h9
      · exact .inl h9
      · exact .inr ⟨h9.1,Nat.lt_of_lt_of_le h9.2.1 H4.out.size,h9.2.2⟩
      · exact .inr ⟨by have:=lt_of_block HK.out.ks.res; omega,h9.2,fun e => by have:=(HK.out.own.lt b e).2; omega⟩
     ·
      rintro vals xw f hf1 - - hI hF; simp only [z05,zF,zR,and_true] at hF; obtain ⟨A9,c9,e57,h2,h3,h4⟩:=hF; dsimp only [z03,bare]; simp only [z01,Act.put,zQ]; simp only [e57]
      go_wp2
      exact ⟨rfl,⟨A9,c9,rfl,h2,h3,h4⟩,⟨zN rfl,fun _ => Below.refl _ _⟩,hI⟩
     ·
      rintro vals xw f hf1 - - hI hF; simp only [z05,zF,zR,and_true] at hF; obtain ⟨A9,c9,e40,h2,h3,h4⟩:=hF; dsimp only [z03,bare]; simp only [z01,Act.put,zQ]; simp only [e40]
      go_wp2
      exact ⟨rfl,⟨A9,c9,rfl,h2,h3,h4⟩,⟨zN rfl,fun _ => Below.refl _ _⟩,hI⟩
     ·
      rintro vals xw f hf1 - - hI hF; simp only [z05,zF,zR,and_true] at hF; obtain ⟨A9,c9,e40,h2,h3,h4⟩:=hF; dsimp only [z03,bare]; simp only [z01,Act.put,zQ]; simp only [e40]
      go_wp2
      exact zX hI rfl
     ·
      rintro vals xw f hf1 - - hI hF; simp only [z05,zF,zR,and_true] at hF; obtain ⟨A9,c9,e58,h2,h3,h4⟩:=hF; dsimp only [z03,bare]; simp only [z01,Act.put,zQ]; simp only [e58]; have HI:=zH hI; have HK:=zH (hI.1 hf1); have hv9:=HK.out.ks.var; have y0:=(z00 hv9 0).1; have y1:=(z00 hv9 1).1; have y2:=(z00 hv9 2).1; have g0:=(z00 hv9 0).2; have g1:=(z00 hv9 1).2; have g2:=(z00 hv9 2).2; have H3:=zH h3; clear hI hv9 h3 h4
      go_wp2
      have hset:=HK.out.set (c':=c9) HF.out H3.out h2; have hgr : xw.grownBy (st3 xw w.heap.size (.int .i64 g.1.1.ins) (.slice A9 g.1.1.gs.length c9) (.bool g.1.2)) (some w.heap.size):=z06 (z06 (z06 (World.grownBy.refl _ _) _ _) _ _) _ _; exact ⟨rfl,trivial,⟨fun _ => hgr,fun h9 => absurd rfl h9⟩,fun h => absurd ((z0h f 20).symm.trans h) (by simp),fun _ => ⟨A9,c9,hset⟩,z0i HI.out.2.2.1 (Nat.le_refl _) _ _ _,HI.out.2.2.2.grown hgr⟩
     ·
      rintro vals xw f hf1 - - hI hF; simp only [z05,zF,zR,and_true] at hF; have e59:=hF; dsimp only [z03,bare]; simp only [z01,Act.put,zQ]; simp only [e59]
      go_wp2
      exact zX hI rfl
     ·
      intro vals xw f hall hI hF; rw [show List.range _ = [0,1,2,3,4,5,6,7,8,9,10,11,12,13,14,15,16,17,18,19,20,21] from rfl] at hF; simp only [says,zF,zR,and_true] at hF; obtain ⟨A12,c12,hk2⟩:=hI.2.1 (hall 20 (by decide)); have e9 : vals 21 = .int .i64 g.2:=by obtain ⟨_,_,_,_,_,_,_,_,_,_,_,_,_,_,_,_,_,_,_,_,_,e9⟩:=hF; exact e9
      have K12:=zH hk2; have HKP:=zH hI.2.2.2; clear hF hk2 hI; simp only [z01,Act.put,zQ]; simp only [e9]; clear e9; have hown9:=K12.out.own; have hsz9 : w.heap.size + 2 <= xw.heap.size:=by have:=lt_of_block K12.out.ks.res; omega
      go_wp2_with (at_builtin; refine z0g (ys:=l2) (by rfl) (.tmp 60) (.tmp 62) (by rfl) (by rfl) (by rfl) hown9 (by omega) hsz9 HL2.out ?_; intro B2 d2 w2 hown2 hg2 hbk2)
      have hk3:=K12.out.ks.grown (v':=.slice B2 l2.length d2) HF.out hg2 (fun g hg => (K12.out.own.lt g hg).1) hbk2; have hr3:=(HRD.out.kept HKP.out).grown (v':=.slice B2 l2.length d2) hg2 hbk2
      go_roundw
      case rel => exact ⟨q + 1,g.1,l2,A12,B2,c12,d2,by omega,by go_num,rfl,by rw [HL2.out,List.length_append,HLQ.out]; rfl,fun z hz => (List.mem_append.1 (by rw [HL2.out] at hz; exact hz)).elim (HLM.out z) (fun hz => by rw [List.mem_singleton.1 hz]; exact HGB.out.2),⟨hk3,hown2⟩,hr3,HGB.out.1,zH (by rw [HL2.out]; exact HST.out)⟩
      case measure => simp [intOf]; omega
    ·
     have hje : q = s1.length:=by omega
     subst hje; have hltq2 : ¬ ((s1.length : Nat) : Int) < s1.length:=by omega
     have hd1 : s1.drop s1.length = []:=List.drop_length; have hd2 : fr.drop s1.length = []:=by rw [<- HFRL.out]; exact List.drop_length
     have hst2:=hst.out; rw [hd1,hd2] at hst2; have hst3 : C (k2,l) = T:=by rw [<- hst2]; show _ = C (k2,l ++ []); rw [List.append_nil]
     rw [HC.out] at hst3; have HST2:=zH hst3; have HRL:=zH (RdI.of HKS.out.own (w:=w) (Nat.le_refl _)); have HLC:=zH HKS.out.own.cap; clear hst hst2 hst3 hd1 hd2
     go_wp2
     go_roundw
     case rel => exact ⟨j + 1,k2,l,A2,B,c2,d,by omega,by go_num,rfl,by rw [HLQ.out,HSL.out],HLC.out,HLM.out,HKS.out.ks.free,HRL.out,HNB2.out,HST2⟩
     case measure => simp [intOf]; omega
  ·
   have hje : j = ys.length:=by omega
   subst hje; have hlt2 : ¬ ((ys.length : Nat) : Int) < ys.length:=by omega
   have hd1 : ys.drop ys.length = []:=List.drop_length; have hst2:=hst.out; rw [hd1] at hst2; have hT2 : T = (k1,s1):=by rw [<- hst2]; rfl
   have HT2:=zH hT2; clear hst hst2 hT2 hd1; have hv9:=HKS.out.var; have y0:=(z00 hv9 0).1; have y1:=(z00 hv9 1).1; have y2:=(z00 hv9 2).1; have hr9:=HKS.out.res; have r0:=(z00 hr9 0).1; have r1:=(z00 hr9 1).1; have r2:=(z00 hr9 2).1; have rf0:=(z00 hr9 0).2; have rf1:=(z00 hr9 1).2; have rf2:=(z00 hr9 2).2; clear hv9 hr9
   go_wp2
   have hs:=z0s HKS.out.res (.int .i64 k1.1.ins) (.slice A1 k1.1.gs.length c1) (.bool k1.2); have k5:=(z00 hs 0).1; have k6:=(z00 hs 1).1; have k7:=(z00 hs 2).1; have kf5:=(z00 hs 0).2; have kf6:=(z00 hs 1).2; have kf7:=(z00 hs 2).2; refine bodyPost_ret (v:=.tuple #[.agg #[.int .i64 k1.1.ins,.slice A1 k1.1.gs.length c1,.bool k1.2],.slice Sp s1.length sc]) (by simp [results,Tryz.results92,go_sem,k5,k6,k7,kf5,kf6,kf7]) rfl ?_; rw [HT2.out]; refine ⟨A1,c1,Sp,sc,rfl,HKS.out.nil,(z1a (h:=w.heap.size + 1) HKS.out.row (fun b hb => ?_) _ _ _).mono (fun b hb => ?_),HCAP.out,(z1a (h:=w.heap.size + 1) HRD.out (fun b hb => by omega) _ _ _).mono (fun b hb => by rw [z0o]; omega),HSM.out,z0i HKS.out.bel (by omega) _ _ _⟩
   ·
    rcases hb with hb | hb
    · have:=HF.out b hb; omega
    · omega
   ·
    rw [z0o]; exact hb.imp id fun h9 => ⟨by omega,h9.2.1⟩
end Go.Proofs.YtemdmlmcidfodaaGreatDoor
