/- The program's products: mul. -/
import Derived.RangeFuncNested
import Derived.RangeFuncBound
import Derived.RangeFuncCalls
import Derived.RangeFuncLeaves
import Derived.Shelf.Abstract
import Derived.Shelf.RegionOpen
import Derived.OwnWalkIn
import Derived.TacticsInMore
import Derived.LoopNIn
import Derived.LoopIn
import Derived.Test.YtemdmlmcidfodaaGreatDoorJFnBitsBin0
import Derived.Test.YtemdmlmcidfodaaGreatDoorJFnBitsBin12
import Derived.Test.YtemdmlmcidfodaaGreatDoorJFnBitsBin24
namespace Go.Proofs.YtemdmlmcidfodaaGreatDoor
open Go Go.RowKit Go.Shelf
attribute [local go_sem] Oper.semAt_some
theorem run_mul9 {σ : Type} {o : Ops σ} (xs ys : List Int) (i : Nat) (y : Int) (hy : ys[i]? = some y) (s : σ) (acc : List Int) :
  run o (mulP xs (ys.drop i) i acc) s = (let row:=run o (rowP xs i y) s; let z:=run o (sumP acc row.2 (-1)) row.1; run o (mulP xs (ys.drop (i + 1)) (i + 1) z.2) z.1):=by
 obtain ⟨hk,rfl⟩:=List.getElem?_eq_some_iff.1 hy; rw [List.drop_eq_getElem_cons hk]; simp only [mulP,run_bind]
theorem run_row {σ : Type} {o : Ops σ} (xs : List Int) (i : Nat) (y : Int) (s : σ) : run o (rowP xs i y) s = (let r:=run o (mapP (andP y) (xs.take (xs.length - i))) s; (r.1,List.replicate i (-1) ++ r.2)):=by
 simp only [rowP,run_bind,run]
def RowI (a0 a1 : Addr) (lo : Nat) (W : World) (q r : Nat) (s s' : BS) (A : Option Addr) (c : Nat) (l : List Int) (called done : Bool) (x : World) : Prop :=
 BelB lo W x /\ Bd a0 a1 lo x q r (if called = true then s' else s) /\ (done = false -> z0u x W.heap.size (.slice A l.length c) l)
theorem RowI.up {a0 a1 : Addr} {lo : Nat} {W : World} {q r : Nat} {s s' : BS} {A : Option Addr} {c : Nat} {l : List Int} {called done : Bool} {x x' : World} (h : RowI a0 a1 lo W q r s s' A c l called done x) (hb : Below x.heap.size x x') : RowI a0 a1 lo W q r s s' A c l called done x' :=
 ⟨h.1.trans (.of hb h.2.1.size),h.2.1.up hb,fun hd => z0e (h.2.2 hd) hb (Nat.le_refl _)⟩
theorem box_nck {cs : Array Value} {fr : Nat × Nat} {w w' : World} {lo b : Nat} {t : TypeId} (h : w.heap[b]? = some (.cells cs t fr)) (hb : BelB lo w w') (h1 : t ≠ 106) (h2 : t ≠ 78) (h3 : t ≠ 73) : w'.heap[b]? = some (.cells cs t fr):=hb.kd b _ h (nck_of h1 h2 h3).1 (nck_of h1 h2 h3).2
set_option maxRecDepth 100000 in
set_option maxHeartbeats 16000000 in
theorem rows1_any (a0 a1 : Addr) (lo q r l bx by_ bb n : Nat) (X Y : Option Addr) (cx cy : Nat) (xs ys : List Int) (w : World) (hX : Lay.int.Pl w X xs) (hY : Lay.int.Pl w Y ys) (hxm : ∀ x ∈ xs,MB x) (hym : ∀ y ∈ ys,MB y) (hl : xs.length = ys.length) (hn : xs.length <= 8)
  (J : Nat -> BS -> List Int -> World -> Prop)
  (hJ1 : ∀ i k acc W,J i k acc W -> Bd a0 a1 lo W q r k /\ BelB lo w W /\ W.heap[by_]? = some (.cells #[.slice Y ys.length cy] 67 (0,0)) /\ W.heap[bx]? = some (.cells #[.slice X xs.length cx] 67 (0,0)) /\ W.heap[bb]? = some (.cells #[.pointer (some ⟨q,0,none⟩)] 66 (0,0)))
  (hJ2 : ∀ i k k' acc W W',J i k acc W -> BelB lo W W' -> Bd a0 a1 lo W' q r k' -> J i k' acc W')
  (hYd : ∀ i k acc W A c row,J i k acc W -> row.length = xs.length -> (∀ m ∈ row,MB m) -> row.length <= c -> Lay.int.Pl W A row -> YieldAt Fence.wide (n - 1) Tryz.prog l #[.slice A row.length c] W fun e W' => e = .returned (.bool true) /\ J (i + 1) (run opsP (sumP acc row (-1)) k).1 (run opsP (sumP acc row (-1)) k).2 W')
  (k : BS) (acc : List Int) (W : World) (h0 : J 0 k acc W) :
  CallsIn Fence.wide n Tryz.prog 125 #[.func (.yield l) #[] #[],.pointer (some ⟨by_,0,none⟩),.pointer (some ⟨bx,0,none⟩),.pointer (some ⟨bb,0,none⟩)] W fun e W' => (∃ v,e = .returned v) /\ J ys.length (run opsP (mulP xs ys 0 acc) k).1 (run opsP (mulP xs ys 0 acc) k).2 W':=by
 obtain ⟨T,hT⟩ : ∃ T,T = run opsP (mulP xs ys 0 acc) k:=⟨_,rfl⟩; rw [<- hT]; have HT:=zH hT; have HX:=zH hX; have HY:=zH hY; have HXM:=zH hxm; have HYM:=zH hym; have HL:=zH hl; have HJ1:=zH hJ1; have HJ2:=zH hJ2; have HYD:=zH hYd; have H0:=zH h0; obtain ⟨j0,j1,j2,j3,j4⟩:=hJ1 _ _ _ _ h0; have yc:=(z00 j2 0).1; have hly : ys.length <= 8:=by omega
 clear hT hX hY hxm hym hl hJ1 hJ2 hYd h0 j0 j1 j2 j3 j4; refine callsIn_of_wp Tryz.func125 rfl trivial ?_ rfl; simp only [Tryz.ntmps125,List.size_toArray,List.length_cons,List.length_nil,Nat.reduceAdd,Nat.reduceSub,Array.replicate_succ,Array.replicate_zero,List.push_toArray,List.append_toArray,List.nil_append,List.cons_append]
 gi_wp2
 gi_loopw [11] (fun i wr => ∃ (a : Nat) (k1 : BS) (acc1 : List Int),a <= ys.length /\ i = .int .i64 a /\ J a k1 acc1 wr /\ Hid (run opsP (mulP xs (ys.drop a) a acc1) k1 = T)) (fun i _ => ys.length - (intOf i).toNat)
 case atStart => exact ⟨0,k,acc,Nat.zero_le _,rfl,H0.out,zH (by rw [HT.out]; rfl)⟩
 case round =>
  obtain ⟨a,k1,acc1,ha,rfl,hj,hst⟩:=hrel; obtain ⟨wo,hwo⟩ : ∃ wo,wo = wr:=⟨_,rfl⟩; subst hwo; have HJ:=zH hj; obtain ⟨j0,j1,j2,j3,j4⟩:=HJ1.out _ _ _ _ hj; have HBD:=zH j0; have HBB:=zH j1; have HJX:=zH j3; have HJB:=zH j4; have hlo2:=j0.size; clear hj j0 j1 j2 j3 j4 H0 HT yc
  by_cases hlt : a < ys.length
  ·
   have hlt2 : (a : Int) < ys.length:=by omega
   have hax : a <= xs.length:=by have:=HL.out; omega
   have ha8 : a <= 8:=by omega
   obtain ⟨y,hy⟩ : ∃ y,ys[a]? = some y:=⟨_,List.getElem?_eq_getElem hlt⟩; have hyg : ys[a] = y:=(List.getElem?_eq_some_iff.1 hy).2; have HYR:=zH (HYM.out y (List.mem_of_getElem? hy)); obtain ⟨ady,rfl,-,-⟩:=HY.out.at_int hlt; have cy9 : wo.cell? (ady.add a) = some (.int .i64 y):=by
    obtain ⟨ad,e,_,hc⟩:=(HY.out.upB HBB.out).at_int hlt
    injection e with e; subst e; rw [<- hyg]; exact hc
   have HST:=zH ((run_mul9 (o:=opsP) xs ys a y hy k1 acc1).symm.trans hst.out); obtain ⟨row,hrow⟩ : ∃ row,row = run opsP (rowP xs a y) k1:=⟨_,rfl⟩; rw [<- hrow] at HST; have HROW:=zH hrow; obtain ⟨tn,htn⟩ : ∃ tn,tn = xs.take (xs.length - a):=⟨_,rfl⟩; have HTN:=zH htn; have HTNL : Hid (tn.length = xs.length - a):=zH (by rw [htn,List.length_take]; omega); have HRW : Hid ((let r:=run opsP (mapP (andP y) tn) k1; (r.1,List.replicate a (-1) ++ r.2)) = row):=zH (by rw [hrow,run_row,htn]); have HRB : Hid ((∀ m ∈ row.2,MB m) /\ row.2.length = xs.length):=zH (by
    rw [hrow]; exact (bd_runP (Φ:=fun l9 => (∀ m ∈ l9,MB m) /\ l9.length = xs.length) _ _ (row_bd bok_mb hax HXM.out HYR.out fun l9 h1 h2 => ⟨h1,h2⟩) HBD.out.nb).2)
   have HOF:=zH (offs_any a wo (by omega)); obtain ⟨os,hos⟩ : ∃ os,os = List.replicate a (-1 : Int):=⟨_,rfl⟩; have HOS:=zH hos; have HOL : Hid (os.length = a):=zH (by rw [hos]; simp); rw [<- hos] at HOF HRW; clear hy hyg hst hrow htn hos
   gi_wp2_with fail
   refine ⟨trivial,(fun h => by cases h),(callsIn_wide.2 HOF.out).mono ?_⟩; rintro e w1 ⟨A1,c1,rfl,ho1,hb1⟩; have HO1:=zH ho1; have HB1:=zH hb1; clear ho1 hb1 HOF cy9
   gi_wp2
   have HOM : Hid (∀ m ∈ os,MB m):=zH fun m hm => by rw [HOS.out] at hm; rw [List.eq_of_mem_replicate hm]; exact bok_mb.off
   refine wpIn_wide.2 ?_
   go_loopw [7,8] (fun rv kv z => ∃ (kk j : Nat) (s2 : BS) (l9 : List Int) (A : Option Addr) (c : Nat),kk <= xs.length /\ Hid (kk = a + j) /\ kv = .int .i64 (kk : Int) /\ rv = .slice A l9.length c /\ Hid (l9.length = kk) /\ (∀ m ∈ l9,MB m) /\ BelB lo wo z /\ Bd a0 a1 lo z q r s2 /\ z0u z wo.heap.size (.slice A l9.length c) l9 /\ Hid ((let r:=run opsP (mapP (andP y) (tn.drop j)) s2; (r.1,l9 ++ r.2)) = row)) (fun _ kv _ => xs.length - (intOf kv).toNat)
   case atStart => exact ⟨a,0,k1,os,A1,c1,hax,zH rfl,rfl,rfl,zH HOL.out,HOM.out,BelB.of HB1.out hlo2,HBD.out.up HB1.out,HO1.out,HRW⟩
   case round =>
    obtain ⟨kk,j,s2,l9,A,c,hk,hkj,rfl,rfl,hlk,hlm,hbz,hdz,hoz,hst⟩:=hrel; have HLM:=zH hlm; have HBZ:=zH hbz; have HDZ:=zH hdz; have HOZ:=zH hoz; have hsz:=hbz.bel.size; clear hlm hbz hdz hoz HO1 HB1 HOM HRW
    by_cases hltk : kk < xs.length
    ·
     have hltk2 : (kk : Int) < xs.length:=by omega
     have hjk : (kk : Int) - (a : Int) = (j : Int):=by have:=hkj.out; omega
     have hjx : j < xs.length:=by have:=hkj.out; omega
     have hjx2 : (j : Int) < xs.length:=by omega
     obtain ⟨x,hx⟩ : ∃ x,xs[j]? = some x:=⟨_,List.getElem?_eq_getElem hjx⟩; have hxg : xs[j] = x:=(List.getElem?_eq_some_iff.1 hx).2; have htx : tn[j]? = some x:=by rw [HTN.out,List.getElem?_take_of_lt (by have:=hkj.out; omega)]; exact hx
     have HXR:=zH (HXM.out x (List.mem_of_getElem? hx)); obtain ⟨adx,rfl,-,-⟩:=HX.out.at_int hjx; have HRX : Hid (∀ z,BelB lo wo z -> z.cell? (adx.add j) = some (.int .i64 x)):=zH fun z hz => by
      obtain ⟨ad,e,_,hc⟩:=(HX.out.upB (HBB.out.trans hz)).at_int hjx
      injection e with e; subst e; rw [<- hxg]; exact hc
     obtain ⟨m,hm⟩ : ∃ m,m = opsP.and s2 x y:=⟨_,rfl⟩; have HM:=zH hm; have HMB : Hid (MB m.2):=zH (by rw [hm]; exact (z1e HDZ.out.nb HXR.out.rb HYR.out.rb).2); obtain ⟨l2,hl2⟩ : ∃ l2,l2 = l9 ++ [m.2]:=⟨_,rfl⟩; have HL2:=zH hl2; have HST2 : Hid ((let r9:=run opsP (mapP (andP y) (tn.drop (j + 1))) m.1; (r9.1,l2 ++ r9.2)) = row):=zH (by
      rw [hl2,hm,<- hst.out]; exact (run_map (o:=opsP) (f:=andP y) tn j x htx s2 l9).symm)
     have HRB9 : Hid (∀ z,BelB lo wo z -> z.cell? ⟨bb,0,none⟩ = some (.pointer (some ⟨q,0,none⟩))):=zH fun z hz => (z00 (box_nck HJB.out hz (by decide) (by decide) (by decide)) 0).1
     have HRX9 : Hid (∀ z,BelB lo wo z -> z.cell? ⟨bx,0,none⟩ = some (.slice (some adx) xs.length cx)):=zH fun z hz => (z00 (box_nck HJX.out hz (by decide) (by decide) (by decide)) 0).1
     have cx9:=HRX9.out _ HBZ.out; clear hx hxg htx hm hl2 hst
     go_wp2
     clear cx9; refine z0a [[],[],[],[],[],[(3,28),(4,29)],[(2,27),(5,30)],[(6,31)],[],[(1,26),(7,32),(8,33)],[(9,34)],[(0,25),(10,35)],[(11,36)]]
      (fun x9 y9 => Below x9.heap.size x9 y9)
      [(9,fun x9 y9 => BelB lo x9 y9),(11,fun x9 y9 => x9.grownBy y9 (Value.slice A l9.length c).ownBlock)]
      (fun f9 x9 => RowI a0 a1 lo wo q r s2 m.1 A c l9 (f9 9) (f9 11) x9)
      [zF 0 (.slice A l9.length c),
  zF 1 (.pointer (some ⟨q,0,none⟩)),
  zF 2 (.slice (some adx) xs.length cx),
  zF 3 (.int .i64 (kk : Int)),
  zF 4 (.int .i64 (a : Int)),
  zF 5 (.int .i64 (j : Int)),
  zF 6 (.pointer (some (adx.add j))),
  zF 7 (.int .i64 x),
  zF 8 (.int .i64 y),
  zF 9 (.int .i64 m.2),
  fun vs9 y9 => (fun v z => ∃ b : Nat,v = .slice (some ⟨b,0,none⟩) 1 1 /\ z.heap[b]? = some (.cells #[.int .i64 m.2] 110 (0,0)) /\ some b ≠ (Value.slice A l9.length c).ownBlock) (vs9 10) y9,
  fun vs9 y9 => (fun v z => ∃ A' c',v = .slice A' l2.length c' /\ z0u z wo.heap.size (.slice A' l2.length c') l2) (vs9 11) y9,
  fun vs9 _ => vs9 12 = vs9 11]
      [(0,25),(1,26),(2,27),(3,28),(4,29),(5,30),(6,31),(7,32),(8,33),(9,34),(10,35),(11,36),(12,7)] (by kernel_rfl) (by kernel_rfl) (by kernel_rfl) (by kernel_rfl)
      (fun _ => Below.refl _ _) ⟨fun _ => BelB.refl _ _,fun _ => World.grownBy.refl _ _,trivial⟩
      ⟨⟨.inr zG,⟨.inr (.inr zG),.inr (.inr zG),trivial⟩⟩,
  ⟨.inr zG,⟨.inr (.inr zG),.inr (.inr zG),trivial⟩⟩,
  ⟨.inr zG,⟨.inr (.inr zG),.inr (.inr zG),trivial⟩⟩,
  ⟨.inr zG,⟨.inr (.inr zG),.inr (.inr zG),trivial⟩⟩,
  ⟨.inr zG,⟨.inr (.inr zG),.inr (.inr zG),trivial⟩⟩,
  ⟨.inr zG,⟨.inr (.inr zG),.inr (.inr zG),trivial⟩⟩,
  ⟨.inr zG,⟨.inr (.inr zG),.inr (.inr zG),trivial⟩⟩,
  ⟨.inr zG,⟨.inr (.inr zG),.inr (.inr zG),trivial⟩⟩,
  ⟨.inr zG,⟨.inr (.inr zG),.inr (.inr zG),trivial⟩⟩,
  ⟨.inr zG,⟨.inr (.inl rfl),.inr (.inr zG),trivial⟩⟩,
  ⟨.inr (zS (fun v z => ∃ b : Nat,v = .slice (some ⟨b,0,none⟩) 1 1 /\ z.heap[b]? = some (.cells #[.int .i64 m.2] 110 (0,0)) /\ some b ≠ (Value.slice A l9.length c).ownBlock) (fun _ _ _ ⟨b,h1,h2,h3⟩ hR => ⟨b,h1,(hR.block b (lt_of_block h2)).trans h2,h3⟩)),⟨.inl (by kernel_rfl),.inr (.inr (zS (fun v z => ∃ b : Nat,v = .slice (some ⟨b,0,none⟩) 1 1 /\ z.heap[b]? = some (.cells #[.int .i64 m.2] 110 (0,0)) /\ some b ≠ (Value.slice A l9.length c).ownBlock) (fun _ _ _ ⟨b,h1,h2,h3⟩ hR => ⟨b,h1,(hR.block b (lt_of_block h2) h3).trans h2,h3⟩))),trivial⟩⟩,
  ⟨.inr (zS (fun v z => ∃ A' c',v = .slice A' l2.length c' /\ z0u z wo.heap.size (.slice A' l2.length c') l2) (fun _ _ _ ⟨A',c',h1,h2⟩ hR => ⟨A',c',h1,z0e h2 hR (Nat.le_refl _)⟩)),⟨.inl (by kernel_rfl),.inr (.inl rfl),trivial⟩⟩,
  ⟨.inr zK,⟨.inr (.inr zK),.inr (.inr zK),trivial⟩⟩,trivial⟩ ⟨zL,
  zL,
  zL,
  zL,
  zL,
  zL,
  zL,
  zL,
  zL,
  zL,
  fun _ _ _ h _ v => (by simpa only [<- h] using v),
  fun _ _ _ h _ v => (by simpa only [<- h] using v),
  fun vs vs' x h hd hv => (by have h2:=hd 11 (by decide); show vs' 12 = vs' 11; exact h.symm.trans (Eq.trans hv h2)),trivial⟩ ((show RowI a0 a1 lo wo q r s2 m.1 A c l9 false false _ from RowI.up ⟨HBZ.out,by rw [if_neg (by simp)]; exact HDZ.out,fun _ => HOZ.out⟩ (z02 (Below.refl _ _) 1))) ⟨?_,?_,?_,?_,?_,?_,?_,?_,?_,?_,?_,?_,?_,trivial⟩ ?_
     ·
      rintro vals xw f hf1 - - hI hF; dsimp only [z03,bare]; simp only [z01,Act.put,zQ]
      go_wp2
      exact zY hI rfl rfl
     ·
      rintro vals xw f hf1 - - hI hF; dsimp only [z03,bare]; simp only [z01,Act.put,zQ]; have c9:=HRB9.out _ hI.1
      go_wp2
      exact zY hI rfl rfl
     ·
      rintro vals xw f hf1 - - hI hF; dsimp only [z03,bare]; simp only [z01,Act.put,zQ]; have c9:=HRX9.out _ hI.1
      go_wp2
      exact zY hI rfl rfl
     iterate 2
      ·
       rintro vals xw f hf1 - - hI hF; dsimp only [z03,bare]; simp only [z01,Act.put,zQ]
       go_wp2
       exact zY hI rfl rfl
     iterate 2
      ·
       rintro vals xw f hf1 - - hI hF; simp only [z05,zF,zR,and_true] at hF; obtain ⟨e1,e2⟩:=hF; dsimp only [z03,bare]; simp only [z01,Act.put,zQ]; simp only [e1,e2]
       go_wp2
       exact zY hI rfl rfl
     ·
      rintro vals xw f hf1 - - hI hF; simp only [z05,zF,zR,and_true] at hF; have e1:=hF; dsimp only [z03,bare]; simp only [z01,Act.put,zQ]; simp only [e1]; have c9:=HRX.out _ hI.1
      go_wp2
      exact zY hI rfl rfl
     ·
      rintro vals xw f hf1 - - hI hF; dsimp only [z03,bare]; simp only [z01,Act.put,zQ]
      go_wp2
      exact zY hI rfl rfl
     ·
      intro vals xw f hf1 hf2 hf3 hI hF; have k11 : f 11 = false:=hf3 11 (by kernel_rfl); clear hf2 hf3; simp only [z05,zF,zR,and_true] at hF; obtain ⟨e1,e2,e3⟩:=hF; dsimp only [z03,bare]; simp only [z01,Act.put,zQ]; simp only [e1,e2,e3]; obtain ⟨i1,i2,i3⟩:=hI; rw [hf1,if_neg (by simp)] at i2; have I3:=zH (i3 k11); have I1:=zH i1; have HC:=zH (bAnd_any a0 a1 lo q r s2 x y xw i2 HXR.out HYR.out); rw [<- HM.out] at HC; clear i1 i2 i3
      go_wp2_with fail
      refine HC.out.mono ?_; rintro e wx ⟨rfl,hb9,hd9⟩; have HB9:=zH hb9; have HD9:=zH hd9; clear hb9 hd9 HC
      go_wp2
      exact ⟨rfl,rfl,⟨fun _ => HB9.out,fun h9 => absurd rfl h9⟩,I1.out.trans HB9.out,by rw [z0h,if_pos rfl]; exact HD9.out,fun _ => I3.out.upB HB9.out⟩
     ·
      intro vals xw f hf1 hf2 hf3 hI hF; have k11 : f 11 = false:=hf3 11 (by kernel_rfl); clear hf2 hf3; simp only [z05,zF,zR,and_true] at hF; have e24:=hF; dsimp only [z03,bare]; simp only [z01,Act.put,zQ]; simp only [e24]; have k9:=hI.2.2 k11; have h9 : some xw.heap.size ≠ (Value.slice A l9.length c).ownBlock:=fun e => by have:=(k9.lt _ e.symm).2; omega
      have H9:=zH h9; have hal : Below xw.heap.size xw (xw.alloc (.cells #[.int .i64 m.2] 110)):=(Below.refl _ _).alloc (Nat.le_refl _) _; have HI:=zH hI; have HAL:=zH hal; clear k9 h9 hal hI
      go_wp2
      exact ⟨rfl,⟨_,rfl,heap_alloc_new _ _,H9.out⟩,⟨zN rfl,fun _ => ⟨zN rfl,fun _ => HAL.out⟩⟩,HI.out.up HAL.out⟩
     ·
      rintro vals xw f hf1 - - hI hF; simp only [z05,zF,zR,and_true] at hF; obtain ⟨e14,b9,e25,hb9,_⟩:=hF; dsimp only [z03,bare]; simp only [z01,Act.put,zQ]; simp only [e14,e25]; obtain ⟨i1,i2,i3⟩:=hI; have hsz9:=i1.bel.size; have hll : l9.length <= 1048576:=by have:=hlk.out; omega
      have I1:=zH i1; have I2:=zH i2; have I3:=zH (i3 hf1); clear i1 i2 i3
      at_builtin; refine z0y (ys:=l2) (by rfl) (.tmp 25) (.tmp 35) (by rfl) (by rfl) (by rfl) I3.out hb9 hll hsz9 HL2.out ?_; intro A9 c9 w9 hown9 hg9
      obtain ⟨hs9,hb8⟩:=I3.out.grown hg9 hsz9 hlo2
      go_wp2
      exact ⟨rfl,⟨A9,c9,rfl,hown9⟩,⟨zN rfl,fun _ => ⟨fun _ => hg9,fun h9 => absurd rfl h9⟩⟩,I1.out.then hb8 hlo2,I2.out.upS hs9,fun h => absurd ((z0h f 11).symm.trans h) (by simp)⟩
     ·
      rintro vals xw f hf1 - - hI hF; simp only [z05,zF,zR,and_true] at hF; obtain ⟨A8,c8,e26,_⟩:=hF; dsimp only [z03,bare]; simp only [z01,Act.put,zQ]; simp only [e26]
      go_wp2
      exact ⟨rfl,e26.symm,⟨zN rfl,fun _ => ⟨zN rfl,fun _ => Below.refl _ _⟩⟩,hI⟩
     ·
      intro vals xw f hall hI hF; rw [show List.range _ = [0,1,2,3,4,5,6,7,8,9,10,11,12] from rfl] at hF; simp only [says,zF,zR,and_true] at hF; obtain ⟨i1,i2,_⟩:=hI; rw [hall 9 (by decide),if_pos rfl] at i2; obtain ⟨_,_,_,_,_,_,_,_,_,_,_,⟨A8,c8,e26,o26⟩,e7⟩:=hF; rw [e26] at e7; simp only [z01,Act.put,zQ]; simp only [e7]; have I1:=zH i1; have I2:=zH i2; have O26:=zH o26; clear i1 i2 o26 e26 e7
      go_wp2
      go_roundw
      case rel => exact ⟨kk + 1,j + 1,m.1,l2,A8,c8,by omega,zH (by have:=hkj.out; omega),by go_num,rfl,zH (by rw [HL2.out,List.length_append,hlk.out]; rfl),fun z hz => (List.mem_append.1 (by rw [HL2.out] at hz; exact hz)).elim (HLM.out z) (fun hz => by rw [List.mem_singleton.1 hz]; exact HMB.out),I1.out,I2.out,O26.out,HST2⟩
      case measure => simp [intOf]; omega
    ·
     have hke : kk = xs.length:=by omega
     subst hke; have hltk2 : ¬ ((xs.length : Nat) : Int) < xs.length:=by omega
     have hd1 : tn.drop j = []:=List.drop_eq_nil_of_le (by rw [HTNL.out]; have:=hkj.out; omega); have hst2:=hst.out; rw [hd1] at hst2; have hrow : row = (s2,l9):=by rw [<- hst2]; show (s2,l9 ++ []) = _; rw [List.append_nil]
     have HST:=zH (show run opsP (mulP xs (ys.drop (a + 1)) (a + 1) (run opsP (sumP acc1 l9 (-1)) s2).2) (run opsP (sumP acc1 l9 (-1)) s2).1 = T by have h9:=HST.out; rw [hrow] at h9; exact h9); have HY9:=zH (HYD.out a s2 acc1 wr A c l9 (HJ2.out _ _ _ _ _ _ HJ.out HBZ.out HDZ.out) hlk.out HLM.out HOZ.out.pl.1 HOZ.out.pl.2); have cx9 : wr.cell? ⟨bx,0,none⟩ = some (.slice X xs.length cx):=(z00 (box_nck HJX.out HBZ.out (by decide) (by decide) (by decide)) 0).1; clear hst hst2 hd1 hrow
     go_wp2
     obtain ⟨fn,tmps,assign,body,hy,hR⟩:=HY9.out; have HR:=zH hR; clear hR cx9
     gi_wp2
     refine ⟨(fun h => by cases h),HR.out.mono ?_⟩; rintro e W3 ⟨rfl,hj3⟩; have HJ3:=zH hj3; clear hj3 hy
     gi_wp2
     go_roundw
     case rel => exact ⟨a + 1,_,_,by omega,by go_num,HJ3.out,HST⟩
     case measure => simp [intOf]; omega
  ·
   have hae : a = ys.length:=by omega
   subst hae; have hlt2 : ¬ ((ys.length : Nat) : Int) < ys.length:=by omega
   have hd1 : ys.drop ys.length = []:=List.drop_length; have hst2:=hst.out; rw [hd1] at hst2; have HT2:=zH (show T = (k1,acc1) by rw [<- hst2]; rfl); clear hst hst2 hd1
   gi_wp2
   go_end0
   rw [HT2.out]; exact ⟨⟨_,rfl⟩,HJ.out⟩
theorem put_kept {W : World} {g b : Nat} {o o' ob : Obj} (hg : W.heap[g]? = some o) (ho : ∀ cs t fr,o ≠ .cells cs t fr) (hb : W.heap[b]? = some ob) (hob : ∃ cs t fr,ob = .cells cs t fr) : (W.putObj g o').heap[b]? = some ob:=by
 refine (World.putObj_heap_other fun e => ?_).trans hb; subst e; obtain ⟨cs,t,fr,rfl⟩:=hob; rw [hg] at hb; injection hb with hb; exact ho _ _ _ hb
theorem put_bels {W : World} {lo g : Nat} {o o' : Obj} (hg : W.heap[g]? = some o) (ho : ¬ CK o /\ ¬ BK o) (hl : lo <= g) : BelS lo W (W.putObj g o'):=by
 have hlt:=lt_of_block hg; have hk : ∀ (i : Nat) (o2 : Obj),W.heap[i]? = some o2 -> (CK o2 \/ BK o2) -> (W.putObj g o').heap[i]? = some o2:=fun i o2 hi hc => by
  refine (World.putObj_heap_other fun e => ?_).trans hi; subst e; rw [hg] at hi; injection hi with hi; subst hi; exact hc.elim ho.1 ho.2
 exact ⟨(Below.refl lo W).grown (grownBy_putObj' W g o') (by omega) (fun k e => by cases e; exact hl),fun i o2 hi hc => hk i o2 hi (.inl hc),fun i o2 hi hc => hk i o2 hi (.inr hc)⟩
theorem loop_nck (r : Loop) : (¬ CK (.loop r) /\ ¬ BK (.loop r)) /\ ∀ cs t fr,Obj.loop r ≠ .cells cs t fr:=by
 refine ⟨⟨?_,?_⟩,fun _ _ _ e => by cases e⟩
 · rintro (⟨_,_,e⟩ | ⟨_,_,e⟩ | ⟨_,_,e⟩) <;> cases e
 · rintro ⟨_,_,e⟩; cases e
theorem defer_nck (r : Option (List Deferred)) : (¬ CK (.deferred r) /\ ¬ BK (.deferred r)) /\ ∀ cs t fr,Obj.deferred r ≠ .cells cs t fr:=by
 refine ⟨⟨?_,?_⟩,fun _ _ _ e => by cases e⟩
 · rintro (⟨_,_,e⟩ | ⟨_,_,e⟩ | ⟨_,_,e⟩) <;> cases e
 · rintro ⟨_,_,e⟩; cases e
theorem Lay.Sl.putO {α : Type} {L : Lay α} {W : World} {g : Nat} {o o' : Obj} {A : Option Addr} {xs : List α} (h : L.Pl W A xs) (hg : W.heap[g]? = some o) (ho : ∀ cs t fr,o ≠ .cells cs t fr) : L.Pl (W.putObj g o') A xs :=
 (h.keep fun b ⟨cs,fr,hb⟩ => (put_kept hg ho hb ⟨_,_,_,rfl⟩).trans hb.symm).mono fun b ⟨cs,fr,hb⟩ => ⟨cs,fr,put_kept hg ho hb ⟨_,_,_,rfl⟩⟩
structure MulJ (a0 a1 : Addr) (lo q r : Nat) (w : World) (L : Nat) (rec : Loop) (by_ bx bb b0 bs n : Nat) (vY vX : Value) (k : BS) (acc : List Int) (W : World) : Prop where
 bd : Bd a0 a1 lo W q r k
 bel : BelB lo w W
 l : W.heap[L]? = some (.loop rec)
 d : ∃ D,D + 1 = L /\ w.heap.size <= D /\ W.heap[D]? = some (.deferred (some []))
 y : W.heap[by_]? = some (.cells #[vY] 67 (0,0))
 x : W.heap[bx]? = some (.cells #[vX] 67 (0,0))
 b : W.heap[bb]? = some (.cells #[.pointer (some ⟨q,0,none⟩)] 66 (0,0))
 c : W.heap[b0]? = some (.cells #[.pointer (some ⟨q,0,none⟩)] 66 (0,0))
 s : ∃ A c,acc.length <= c /\ W.heap[bs]? = some (.cells #[.slice A acc.length c] 67 (0,0)) /\ Lay.int.Pl W A acc
 n : acc.length = n
 m : ∀ m ∈ acc,MB m
theorem MulJ.up {a0 a1 : Addr} {lo q r : Nat} {w : World} {L : Nat} {rec : Loop} {by_ bx bb b0 bs n : Nat} {vY vX : Value} {k k' : BS} {acc : List Int} {W W' : World} (h : MulJ a0 a1 lo q r w L rec by_ bx bb b0 bs n vY vX k acc W) (hb : BelB lo W W') (hd : Bd a0 a1 lo W' q r k') : MulJ a0 a1 lo q r w L rec by_ bx bb b0 bs n vY vX k' acc W':=by
 obtain ⟨D,h1,h2,h3⟩:=h.d; obtain ⟨A,c,h4,h5,h6⟩:=h.s; exact ⟨hd,h.bel.trans hb,hb.kd _ _ h.l (loop_nck _).1.1 (loop_nck _).1.2,⟨D,h1,h2,hb.kd _ _ h3 (defer_nck _).1.1 (defer_nck _).1.2⟩,box_nck h.y hb (by decide) (by decide) (by decide),box_nck h.x hb (by decide) (by decide) (by decide),box_nck h.b hb (by decide) (by decide) (by decide),box_nck h.c hb (by decide) (by decide) (by decide),⟨A,c,h4,box_nck h5 hb (by decide) (by decide) (by decide),h6.upB hb⟩,h.n,h.m⟩
theorem MulJ.put {a0 a1 : Addr} {lo q r : Nat} {w : World} {L : Nat} {rec rec' : Loop} {by_ bx bb b0 bs n : Nat} {vY vX : Value} {k : BS} {acc : List Int} {W : World} (h : MulJ a0 a1 lo q r w L rec by_ bx bb b0 bs n vY vX k acc W) (hlo : lo <= w.heap.size) : MulJ a0 a1 lo q r w L rec' by_ bx bb b0 bs n vY vX k acc (W.putObj L (.loop rec')):=by
 obtain ⟨D,h1,h2,h3⟩:=h.d; obtain ⟨A,c,h4,h5,h6⟩:=h.s; have hc:=(loop_nck rec).2; have pk : ∀ {b : Nat} {cs : Array Value} {t : TypeId} {fr : Nat × Nat},W.heap[b]? = some (.cells cs t fr) -> (W.putObj L (.loop rec')).heap[b]? = some (.cells cs t fr):=fun hb => put_kept h.l hc hb ⟨_,_,_,rfl⟩
 have hS:=put_bels (o':=.loop rec') h.l (loop_nck rec).1 (show lo <= L by omega); exact ⟨h.bd.upS hS,h.bel.then ((Below.refl _ W).grown (grownBy_putObj' W L _) h.bel.bel.size (fun k e => by cases e; omega)) hlo,World.putObj_heap_same (lt_of_block h.l),⟨D,h1,h2,(World.putObj_heap_other (by omega)).trans h3⟩,pk h.y,pk h.x,pk h.b,pk h.c,⟨A,c,h4,pk h5,h6.putO h.l hc⟩,h.n,h.m⟩
theorem MulJ.st {a0 a1 : Addr} {lo q r : Nat} {w : World} {L : Nat} {rec : Loop} {by_ bx bb b0 bs n : Nat} {vY vX : Value} {k : BS} {acc acc' : List Int} {W : World} {A : Option Addr} {c : Nat} (h : MulJ a0 a1 lo q r w L rec by_ bx bb b0 bs n vY vX k acc W) (hlo : lo <= w.heap.size) (hbs : w.heap.size <= bs) (h1 : by_ ≠ bs) (h2 : bx ≠ bs) (h3 : bb ≠ bs) (h4 : b0 ≠ bs) (hA : Lay.int.Pl W A acc') (hc : acc'.length <= c) (hn : acc'.length = n) (hm : ∀ m ∈ acc',MB m) :
  MulJ a0 a1 lo q r w L rec by_ bx bb b0 bs n vY vX k acc' (W.setCell ⟨bs,0,none⟩ (.slice A acc'.length c)):=by
 obtain ⟨D,d1,d2,d3⟩:=h.d; obtain ⟨A',c',_,h5,_⟩:=h.s; have hbx:=z04 W bs 0 (.slice A acc'.length c) _ _ h5; have oth : ∀ {b : Nat} {o : Obj},W.heap[b]? = some o -> b ≠ bs -> (W.setCell ⟨bs,0,none⟩ (.slice A acc'.length c)).heap[b]? = some o:=fun hb hne => (heap_setCell_other _ _ _ _ hne).trans hb
 have hL : L ≠ bs:=fun e => by have:=h.l; rw [e,h5] at this; cases this
 have hD : D ≠ bs:=fun e => by rw [e,h5] at d3; cases d3
 have hS : BelS lo W (W.setCell ⟨bs,0,none⟩ (.slice A acc'.length c)):=by
  have ht:=nck_of (cs:=#[.slice A' acc.length c']) (t:=67) (fr:=(0,0)) (by decide) (by decide) (by decide); exact ⟨(below_at _ _ _ _).mono (by omega),fun i o hi hc => by
   by_cases e : i = bs
   · subst e; rw [h5] at hi; injection hi with hi; subst hi; exact absurd hc ht.1
   · exact oth hi e,fun i o hi hc => by
   by_cases e : i = bs
   · subst e; rw [h5] at hi; injection hi with hi; subst hi; exact absurd hc ht.2
   · exact oth hi e⟩
 refine ⟨h.bd.upS hS,h.bel.then ((below_at _ _ _ _).mono hbs) hlo,oth h.l hL,⟨D,d1,d2,oth d3 hD⟩,oth h.y h1,oth h.x h2,oth h.b h3,oth h.c h4,⟨A,c,hc,hbx,?_⟩,hn,hm⟩; have hne : ∀ b,PL W b -> b ≠ bs:=fun b ⟨cs,fr,hb⟩ e => by subst e; rw [h5] at hb; injection hb with hb; injection hb with _ hb; exact absurd hb (by decide)
 exact (hA.keep fun b hb => heap_setCell_other _ _ _ _ (hne b hb)).mono fun b hb => by obtain ⟨cs,fr,h9⟩:=hb; exact ⟨cs,fr,oth h9 (hne b ⟨cs,fr,h9⟩)⟩
end Go.Proofs.YtemdmlmcidfodaaGreatDoor
namespace Go.Proofs.YtemdmlmcidfodaaGreatDoor
open Go Go.RowKit Go.Shelf
attribute [local go_sem] Oper.semAt_some
theorem boxes3 (w : World) (o o' o'' : Obj) : Below w.heap.size w (((w.alloc o).alloc o').alloc o'') /\ (((w.alloc o).alloc o').alloc o'').heap[w.heap.size]? = some o /\ (((w.alloc o).alloc o').alloc o'').heap[w.heap.size + 1]? = some o' ∧
  (((w.alloc o).alloc o').alloc o'').heap[w.heap.size + 1 + 1]? = some o'' /\ (((w.alloc o).alloc o').alloc o'').heap.size = w.heap.size + 1 + 1 + 1:=by
 obtain ⟨h1,h2,h3,h4⟩:=z0p w o o'; have h5:=heap_alloc_new ((w.alloc o).alloc o') o''; have hb : Below ((w.alloc o).alloc o').heap.size ((w.alloc o).alloc o') (((w.alloc o).alloc o').alloc o''):=(Below.refl _ _).alloc (Nat.le_refl _) _; exact ⟨z09 h1 hb,(hb.block _ (by omega)).trans h2,(hb.block _ (by omega)).trans h3,by rw [<- h4]; exact h5,by simp⟩
set_option maxHeartbeats 1000000 in
theorem bRows_any (q : Nat) (X Y : Option Addr) (cx cy : Nat) (xs ys : List Int) (w : World) : Calls Tryz.prog 110 #[.pointer (some ⟨q,0,none⟩),.slice X xs.length cx,.slice Y ys.length cy] w fun e w' => e = .returned (.func (.func 125) #[] #[.pointer (some ⟨w.heap.size + 1 + 1,0,none⟩),.pointer (some ⟨w.heap.size + 1,0,none⟩),.pointer (some ⟨w.heap.size,0,none⟩)]) /\ w' = ((w.alloc (.cells #[.pointer (some ⟨q,0,none⟩)] 66)).alloc (.cells #[.slice X xs.length cx] 67)).alloc (.cells #[.slice Y ys.length cy] 67):=by
 go_enter Tryz.func110,Tryz.ntmps110
 go_wp2
 go_ret
 exact ⟨rfl,rfl⟩
set_option maxRecDepth 100000 in
set_option maxHeartbeats 16000000 in
theorem bMul_any (a0 a1 : Addr) (lo q r : Nat) (X Y : Option Addr) (cx cy : Nat) (xs ys : List Int) (s : BS) (w : World) (h : Bd a0 a1 lo w q r s) (hX : Lay.int.Pl w X xs) (hY : Lay.int.Pl w Y ys) (hxm : ∀ x ∈ xs,MB x) (hym : ∀ y ∈ ys,MB y) (hl : xs.length = ys.length) (hn : xs.length <= 8) :
  Calls Tryz.prog 82 #[.pointer (some ⟨q,0,none⟩),.slice X xs.length cx,.slice Y ys.length cy] w (RetL a0 a1 lo w q r (run opsP (mulP xs ys 0 (List.replicate xs.length (-1))) s)):=by
 obtain ⟨rs,hrs⟩ : ∃ rs,rs = List.replicate xs.length (-1 : Int):=⟨_,rfl⟩; rw [<- hrs]; have HRL : Hid (rs.length = xs.length):=zH (by rw [hrs]; simp); have HRM : Hid (∀ m ∈ rs,MB m):=zH fun m hm => by rw [hrs] at hm; rw [List.eq_of_mem_replicate hm]; exact bok_mb.off
 obtain ⟨T,hT⟩ : ∃ T,T = run opsP (mulP xs ys 0 rs) s:=⟨_,rfl⟩; rw [<- hT]; have HT:=zH hT; have HB:=zH h; have HX:=zH hX; have HY:=zH hY; have HXM:=zH hxm; have HYM:=zH hym; have HL:=zH hl; have hlo:=h.size; have HOF : Hid (∀ z,Calls Tryz.prog 109 #[.int .i64 (xs.length : Int)] z (RetOw rs z)):=zH fun z => by rw [hrs]; exact offs_any xs.length z (by omega)
 have hal : Below w.heap.size w (w.alloc (.cells #[.pointer (some ⟨q,0,none⟩)] 66)):=(Below.refl _ _).alloc (Nat.le_refl _) _; have HB0:=zH (heap_alloc_new w (.cells #[.pointer (some ⟨q,0,none⟩)] 66)); have HAL:=zH hal; clear h hX hY hxm hym hT hl hrs hal; refine (callsIn_wide (n:=5)).1 ?_; refine callsIn_of_wp_marks Tryz.func82 rfl trivial ?_ rfl; simp only [Tryz.ntmps82,List.size_toArray,List.length_cons,List.length_nil,Nat.reduceAdd,Nat.reduceSub,Array.replicate_succ,Array.replicate_zero,List.push_toArray,List.append_toArray,List.nil_append,List.cons_append]
 gi_wp2_with fail
 refine ⟨trivial,(callsIn_wide.2 (HOF.out _)).mono ?_⟩; rintro e w1 ⟨A1,c1,rfl,ho1,hb1⟩; have hsz0 : w.heap.size < w1.heap.size:=by have:=hb1.size; simp at this; omega
 have HO1:=zH ho1.pl; have h2 : Below w1.heap.size w1 (w1.alloc (.cells #[.slice A1 rs.length c1] 67)):=(Below.refl _ _).alloc (Nat.le_refl _) _; have HS2:=zH (show (w1.alloc (.cells #[.slice A1 rs.length c1] 67)).heap.size = w1.heap.size + 1 by simp); have HB02:=zH ((h2.block _ hsz0).trans ((hb1.block _ (by simp)).trans HB0.out)); have HBS2:=zH (heap_alloc_new w1 (.cells #[.slice A1 rs.length c1] 67)); have HBW2:=zH (z09 (z09 HAL.out hb1) h2); have HP2:=zH (ho1.pl.2.upP h2); have z0 : w1.cell? ⟨w.heap.size,0,none⟩ = some (.pointer (some ⟨q,0,none⟩)):=(z00 ((hb1.block _ (by simp)).trans HB0.out) 0).1; clear ho1 hb1 HOF HB0 HAL h2
 gi_wp2_with fail
 clear z0; generalize hw2 : w1.alloc (.cells #[.slice A1 rs.length c1] 67) = w2 at *; clear hw2; refine ⟨trivial,(callsIn_wide.2 (bRows_any q X Y cx cy xs ys w2)).mono ?_⟩; rintro e w3 ⟨rfl,hw3⟩; obtain ⟨h3,hx0,hx1,hx2,hx3⟩:=boxes3 w2 (.cells #[.pointer (some ⟨q,0,none⟩)] 66) (.cells #[.slice X xs.length cx] 67) (.cells #[.slice Y ys.length cy] 67); rw [<- hw3] at h3 hx0 hx1 hx2 hx3; have HB03:=zH ((h3.block _ (lt_of_block HB02.out)).trans HB02.out); have HBS3:=zH ((h3.block _ (lt_of_block HBS2.out)).trans HBS2.out); have HBW3:=zH (z09 HBW2.out h3); have HP3:=zH (HP2.out.upP h3); have HX0:=zH hx0; have HX1:=zH hx1; have HX2:=zH hx2; have HX3:=zH hx3; have HSW1:=zH (show w.heap.size < w1.heap.size from hsz0); clear hw3 h3 hx0 hx1 hx2 hx3 HBW2 HP2 HB02 HBS2
 gi_wp2
 refine wpIn_rangeFunc_one (gf:=125) (lb:=#[.pointer (some ⟨w2.heap.size + 1 + 1,0,none⟩),.pointer (some ⟨w2.heap.size + 1,0,none⟩),.pointer (some ⟨w2.heap.size,0,none⟩)]) (Fin:=fun rec W => MulJ a0 a1 lo q r w (w3.heap.size + 1) rec (w2.heap.size + 1 + 1) (w2.heap.size + 1) w2.heap.size w.heap.size w1.heap.size xs.length (.slice Y ys.length cy) (.slice X xs.length cx) T.1 T.2 W) rfl (enters_of Tryz.func125 (by kernel_rfl) rfl) ?hit ?hfin
 case hit =>
  intro fn rec hrec; have hBL : Below w3.heap.size w3 ((w3.alloc (.deferred (some []))).alloc (.loop rec)):=((Below.refl _ _).alloc (Nat.le_refl _) _).alloc (by simp) _; have hl9:=heap_alloc_new (w3.alloc (.deferred (some []))) (.loop rec); have hd9 : ((w3.alloc (.deferred (some []))).alloc (.loop rec)).heap[w3.heap.size]? = some (.deferred (some [])):=(Below.heap_alloc _ _ _ (by simp)).trans (heap_alloc_new w3 _); rw [show (w3.alloc (.deferred (some []))).heap.size = w3.heap.size + 1 by simp] at hl9; have up9 : ∀ {b : Nat} {o : Obj},w3.heap[b]? = some o -> ((w3.alloc (.deferred (some []))).alloc (.loop rec)).heap[b]? = some o:=fun hb => (hBL.block _ (lt_of_block hb)).trans hb
  have HJ0 : MulJ a0 a1 lo q r w (w3.heap.size + 1) rec (w2.heap.size + 1 + 1) (w2.heap.size + 1) w2.heap.size w.heap.size w1.heap.size xs.length (.slice Y ys.length cy) (.slice X xs.length cx) s rs ((w3.alloc (.deferred (some []))).alloc (.loop rec)) :=
   ⟨HB.out.up (z09 HBW3.out hBL),BelB.of (z09 HBW3.out hBL) hlo,hl9,⟨w3.heap.size,rfl,HBW3.out.size,hd9⟩,up9 HX2.out,up9 HX1.out,up9 HX0.out,up9 HB03.out,⟨A1,c1,HO1.out.1,up9 HBS3.out,HP3.out.upP hBL⟩,HRL.out,HRM.out⟩
  refine (rows1_any a0 a1 lo q r (w3.heap.size + 1) (w2.heap.size + 1) (w2.heap.size + 1 + 1) w2.heap.size _ X Y cx cy xs ys w HX.out HY.out HXM.out HYM.out HL.out hn
   (fun _ k acc W => MulJ a0 a1 lo q r w (w3.heap.size + 1) rec (w2.heap.size + 1 + 1) (w2.heap.size + 1) w2.heap.size w.heap.size w1.heap.size xs.length (.slice Y ys.length cy) (.slice X xs.length cx) k acc W) (fun i k acc W hj => ⟨hj.bd,hj.bel,hj.y,hj.x,hj.b⟩) (fun i k k' acc W W' hj hb hd => hj.up hb hd) ?_ s rs _ HJ0).mono ?_
  ·
   intro i k acc W A c row hj hrl hrm hrc hrp; have HJ:=zH hj; have HRM:=zH hrm; have HRL:=zH hrl; have HRP:=zH hrp; obtain ⟨A5,c5,hc5,hs5,hp5⟩:=hj.s; have HU : Hid ((run opsP (sumP acc row (-1)) k).2.length = xs.length /\ ∀ m ∈ (run opsP (sumP acc row (-1)) k).2,MB m):=zH (by
    have h9:=bd_runP (Φ:=fun l9 => l9.length = xs.length /\ ∀ m ∈ l9,MB m) _ k (sum_bd bok_mb acc row (-1) _ bok_mb.off hj.m hrm fun l9 h1 h2 => ⟨(h2 (by rw [hj.n,hrl])).trans hj.n,h1⟩) hj.bd.nb; exact h9.2)
   have HS9:=zH (put_kept (o':=.loop { rec with state:=.busy }) hj.l (loop_nck _).2 hs5 ⟨_,_,_,rfl⟩); have HPUT:=zH (hj.put (rec':={ rec with state:=.busy }) hlo); have HC:=zH (bSum_any a0 a1 lo q r (-1) A5 A c5 c acc row k (W.putObj (w3.heap.size + 1) (.loop { rec with state:=.busy })) HPUT.out.bd bok_mb.off (hp5.putO hj.l (loop_nck _).2) (hrp.putO hj.l (loop_nck _).2) hj.m hrm (by rw [hj.n,hrl]) (by rw [hj.n]; omega)); generalize run opsP (sumP acc row (-1)) k = u at *; have hst9 : rec.state = .ready:=by rw [hrec]; rfl
   have hpe9 : rec.pending = none:=by rw [hrec]; rfl
   have HST:=zH hst9; have HPE:=zH hpe9; refine yield_in hj.l (congrArg Loop.params hrec) (congrArg Loop.tmps hrec) (congrArg Loop.assign hrec) (congrArg Loop.body hrec) rfl ?_; have HREC:=zH hrec; dsimp only [loopRec]; clear hrec hst9 hpe9 hrm hrl hrp hp5
   gi_wp2
   refine ⟨_,run_beginRound HJ.out.l HST.out,?_⟩; generalize hW2 : W.putObj (w3.heap.size + 1) (.loop { rec with state:=.busy }) = W2 at *; clear hW2; have z0:=(z00 HPUT.out.c 0).1; have z1:=(z00 HS9.out 0).1
   gi_wp2_with fail
   refine ⟨trivial,(CallsIn.inRound _ (callsIn_wide.2 HC.out)).mono ?_⟩; rintro e z ⟨A9,c9,rfl,h1,h2,h3,h4,h5⟩; have HJZ:=zH (HPUT.out.up h4 h5); have HS9:=zH (box_nck HS9.out h4 (by decide) (by decide) (by decide)); have y1:=(z00 HS9.out 0).1; have y2:=(z00 HS9.out 0).2; have HP9:=zH h2; have hsw1:=HSW1.out; have HJS:=zH (HJZ.out.st hlo (Nat.le_of_lt hsw1) (by have:=HS2.out; omega) (by have:=HS2.out; omega) (by have:=HS2.out; omega) (by omega) h2 h1 HU.out.1 HU.out.2); clear z0 z1 h1 h2 h3 h4 h5 HC hsw1
   gi_wp2
   have e9 : ({ { rec with state:=.busy } with state:=if (none : Option Code).isNone then LoopState.ready else .done,pending:=none } : Loop) = rec:=by
    have a9:=HST.out; have b9:=HPE.out
    revert a9 b9
    generalize rec = rc; intro a9 b9
    cases rc
    dsimp only at a9 b9; subst a9 b9
    rfl
   refine ⟨_,_,run_endRound none HJS.out.l,rfl,?_⟩; rw [e9]; exact HJS.out.put hlo
  ·
   rintro e W ⟨hv,hj⟩; rw [<- HT.out] at hj; exact ⟨hv,hj.l,(by obtain ⟨D,h1,h2,h3⟩:=hj.d; obtain rfl : D = w3.heap.size:=(by omega); exact h3),hj⟩
 case hfin =>
  intro rec rec' W hj hl hk; have hjp:=hj.put (rec':=rec') hlo; obtain ⟨A9,c9,hc9,hs9,hp9⟩:=hjp.s; have HK:=zH hk; have HJP:=zH hjp; have HP9:=zH hp9; have z1:=(z00 hs9 0).1; have hsz3:=HBW3.out.size; clear hj hl hk hjp hs9 hp9; generalize W.putObj (w3.heap.size + 1) (.loop rec') = W2 at *
  gi_wp2
  refine ⟨by simp,.inl ⟨_,_,rfl,run_takeDeferred HK.out,?_⟩⟩; have hsz4:=lt_of_block HK.out; have hsz5:=HJP.out.bel.bel.size; exact ⟨_,results_tmp rfl _ _ _,A9,c9,rfl,hc9,HP9.out.putO HK.out (defer_nck _).2,HJP.out.m,HJP.out.bel.then ((Below.refl _ W2).grown (grownBy_putObj' W2 w3.heap.size _) hsz5 (fun k e => by cases e; exact hsz3)) hlo,HJP.out.bd.upS (put_bels HK.out (defer_nck _).1 (by omega))⟩
end Go.Proofs.YtemdmlmcidfodaaGreatDoor
