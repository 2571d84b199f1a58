/- The law of the operations on one number, plain: what BitsUn answers is right. -/
import Derived.Test.YtemdmlmcidfodaaGreatDoorJFnBitsBin0
import Derived.Test.YtemdmlmcidfodaaGreatDoorJFnBitsBin2
import Derived.Test.YtemdmlmcidfodaaGreatDoorJFnBitsBin7
import Derived.Test.YtemdmlmcidfodaaGreatDoorJFnBitsBin8
import Derived.Test.YtemdmlmcidfodaaGreatDoorJFnBitsBin10
import Derived.Test.YtemdmlmcidfodaaGreatDoorJFnBitsBin12
import Derived.Test.YtemdmlmcidfodaaGreatDoorJFnBitsBin28
import Derived.Test.YtemdmlmcidfodaaGreatDoorJFnBitsBin31
namespace Go.Proofs.YtemdmlmcidfodaaGreatDoor
open Go Go.RowKit
def RetIns (m : Int) (w : World) (e : Ending) (w' : World) : Prop :=
 ∃ (bs : List Bool) (A : Option Addr) (c : Nat),e = .returned (.slice A bs.length c) /\ bs.length <= 100 /\ (0 <= m -> (bs.length : Int) = m) /\ Lay.bool.Rd w' A bs /\ Below w.heap.size w w'
set_option maxRecDepth 100000 in
set_option maxHeartbeats 2000000 in
theorem wpIns_any (n : N) (A : Option Addr) (c : Nat) (k : Int) (w : World) (k0 : 0 <= k) (k1 : k <= 9223372036854775807) (n1 : n.ins <= 100) :
  Calls Tryz.prog 18 #[.agg #[.int .i64 n.ins,.slice A n.gs.length c],.int .i64 k] w (RetIns n.ins w):=by
 have hw : Below w.heap.size w (w.alloc (.cells #[.int .i64 n.ins,.slice A n.gs.length c] 29)):=(Below.refl _ _).alloc (Nat.le_refl _) _; have HB0:=zH (heap_alloc_new w (.cells #[.int .i64 n.ins,.slice A n.gs.length c] 29)); have HW:=zH hw; have HWS:=zH (show (w.alloc (.cells #[.int .i64 n.ins,.slice A n.gs.length c] 29)).heap.size = w.heap.size + 1 by simp); obtain ⟨M,hM⟩ : ∃ M : Nat,M = n.ins.toNat:=⟨_,rfl⟩; have HM : Hid (∀ j : Nat,(j < M -> (j : Int) < n.ins) /\ (M <= j -> ¬ (j : Int) < n.ins)):=zH fun j => ⟨fun h => by omega,fun h => by omega⟩
 have HM2 : Hid (0 <= n.ins -> (M : Int) = n.ins):=zH fun h => by omega
 have hM8 : M <= 100:=by omega
 clear hw hM
 go_enter Tryz.func18,Tryz.ntmps18
 go_wp2
 generalize w.alloc (.cells #[.int .i64 n.ins,.slice A n.gs.length c] 29) = W at *; have hal : Below W.heap.size W (W.alloc (.cells #[] 4)):=(Below.refl _ _).alloc (Nat.le_refl _) _; have hol : OwnB (W.alloc (.cells #[] 4)) W.heap.size (.slice (some ⟨w.heap.size + 1,0,none⟩) ([] : List Bool).length 0) []:=by
  rw [<- HWS.out]; exact z18 rfl
 have hs0:=HWS.out; clear HWS
 go_loopw [5,6,1] (fun s i kk wr => ∃ (j : Nat) (q : Int) (bs : List Bool) (A8 : Option Addr) (c8 : Nat),j <= M /\ i = .int .i64 j /\ kk = .int .i64 q /\ 0 <= q /\ q <= 9223372036854775807 /\ s = .slice A8 bs.length c8 /\ bs.length = j /\ OwnB wr W.heap.size (.slice A8 bs.length c8) bs /\ Below W.heap.size W wr) (fun _ i _ _ => M - (intOf i).toNat)
 case atStart => exact ⟨0,k,[],_,_,Nat.zero_le _,rfl,rfl,k0,k1,rfl,rfl,hol,hal⟩
 case round =>
  obtain ⟨j,q,bs,A8,c8,hj,rfl,rfl,q0,q1,rfl,hbl,hown,hbr⟩:=hrel; have HBL:=zH hbl; have HBOX:=zH ((hbr.block _ (lt_of_block HB0.out)).trans HB0.out); have v0 : wr.cell? ⟨w.heap.size,0,none⟩ = some (.int .i64 n.ins):=(z00 HBOX.out 0).1
  by_cases hlt : j < M
  ·
   have hlt1 : (j : Int) < n.ins:=(HM.out j).1 hlt; obtain ⟨ps,hps⟩ : ∃ ps,ps = bs ++ [(q % 2 == 1)]:=⟨_,rfl⟩; have HPS:=zH hps; have HPL:=zH (show ps.length = bs.length + 1 by rw [hps]; simp); have hsz:=hbr.size; have hbsz : bs.length <= 100:=by omega
   clear hps hbl
   go_wp2_with (at_builtin; refine z2f (ys:=ps) (by rfl) (.tmp 14) (.tmp 18) (by rfl) (by rfl) (by rfl) hown (by omega) hsz HPS.out ?_; intro A9 c9 w9 hown9 hb9)
   have hbq:=hbr.trans hb9
   go_roundw
   case rel => exact ⟨j + 1,q / 2,ps,A9,c9,by omega,by go_num,rfl,by omega,by omega,rfl,by rw [HPL.out,HBL.out],hown9,hbq⟩
   case measure => simp [intOf]; omega
  ·
   have hlt1 : ¬ (j : Int) < n.ins:=by have:=(HM.out j).2 (by omega); omega
   clear hbl
   go_wp2
   go_ret
   refine ⟨bs,A8,c8,rfl,by have:=HBL.out; omega,fun h => ?_,hown.rd,z09 HW.out hbr⟩; have:=HM2.out h; have:=HBL.out; omega
def RetK9 (w : World) (e : Ending) (w' : World) : Prop:=∃ k : Int,e = .returned (.int .i64 k) /\ 0 <= k /\ k <= 1048576 /\ Below w.heap.size w w'
set_option maxHeartbeats 2000000 in
theorem wpHash_any (A : Option Addr) (c : Nat) (bs : List UInt8) (w : World) (h : Lay.byte.Rd w A bs) (hn : bs.length <= 1048576) :
  Calls Tryz.prog 19 #[.slice A bs.length c] w (RetK9 w):=by
 go_enter Tryz.func19,Tryz.ntmps19
 go_wp2
 go_loop [3,4] (fun s i => ∃ (j : Nat) (q : Int),j <= bs.length /\ i = .int .i64 j /\ s = .int .i64 q /\ 0 <= q /\ q <= 1048576) (fun _ i => bs.length - (intOf i).toNat)
 case atStart => exact ⟨0,bs.length,Nat.zero_le _,rfl,rfl,by omega,by omega⟩
 case round =>
  obtain ⟨j,q,hj,rfl,rfl,q0,q1⟩:=hrel
  by_cases hlt : j < bs.length
  ·
   have hlt2 : (j : Int) < bs.length:=by omega
   by_cases h40 : (j : Int) < 40
   ·
    obtain ⟨ad,rfl,-,c1⟩:=h.at_byte hlt; obtain ⟨z,hz⟩ : ∃ z : Int,z = (bs[j].toNat : Int):=⟨_,rfl⟩; have hz1 : 0 <= z:=by omega
    have hz2 : z <= 255:=by have:=UInt8.toNat_lt bs[j]; omega
    rw [<- hz] at c1; clear hz
    go_wp2
    go_round
    case rel => exact ⟨j + 1,(q * 7 + z) % 4096,by omega,by go_num,rfl,by omega,by omega⟩
    case measure => simp [intOf]; omega
   ·
    go_wp2
    go_ret
    exact ⟨q,rfl,q0,q1,Below.refl _ _⟩
  ·
   have hlt2 : ¬ (j : Int) < bs.length:=by omega
   go_wp2
   go_ret
   exact ⟨q,rfl,q0,q1,Below.refl _ _⟩
set_option maxRecDepth 100000 in
set_option maxHeartbeats 2000000 in
theorem wpGrown_any (n x : N) (A B : Option Addr) (c d : Nat) (w : World) (h : Lay.gate.Rd w A n.gs) (hn : n.gs.length <= 1048576) (h' : Lay.gate.Rd w B x.gs) (hn' : x.gs.length <= 1048576) (hd : x.gs.length <= d) (hi' : okInts x) (hok : z0q x = true) (hins : x.ins = n.ins) (hgs : ∃ t,x.gs = n.gs ++ t) :
  Calls Tryz.prog 16 #[.agg #[.int .i64 n.ins,.slice A n.gs.length c],.agg #[.int .i64 x.ins,.slice B x.gs.length d]] w (RetB w true):=by
 obtain ⟨hw,hB0,hB1,hWS⟩:=z0p w (.cells #[.int .i64 n.ins,.slice A n.gs.length c] 29) (.cells #[.int .i64 x.ins,.slice B x.gs.length d] 29); have hle : n.gs.length <= x.gs.length:=by obtain ⟨t,ht⟩:=hgs; rw [ht]; simp
 have htk : x.gs.take n.gs.length = n.gs:=by obtain ⟨t,ht⟩:=hgs; rw [ht]; simp
 have hle2 : ¬ (x.gs.length : Int) < n.gs.length:=by omega
 have hne : (x.ins != n.ins) = false:=by rw [hins]; simp
 have HB0:=zH hB0; have HB1:=zH hB1; have HW:=zH hw; have HWS:=zH hWS; have HTK:=zH htk; have HOK:=zH (netOk_any x B d _ (h'.up hw) hn' hi'); rw [hok] at HOK; have HN:=zH (h.up hw); have HX : Hid (Lay.gate.Rd ((w.alloc (.cells #[.int .i64 n.ins,.slice A n.gs.length c] 29)).alloc (.cells #[.int .i64 x.ins,.slice B x.gs.length d] 29)) B n.gs):=zH (by have:=(h'.up hw).take n.gs.length; rw [htk] at this; exact this); have HI:=zH hins; have v0:=(z00 hB0 0).1; have v1:=(z00 hB0 1).1; have u0:=(z00 hB1 0).1; have u1:=(z00 hB1 1).1; clear hB0 hB1 hw hWS htk h h' hok hins hi' hgs
 go_enter Tryz.func16,Tryz.ntmps16
 go_wp2_with fail
 clear v0 v1 u0 u1; refine HOK.out.mono ?_; generalize (w.alloc (.cells #[.int .i64 n.ins,.slice A n.gs.length c] 29)).alloc (.cells #[.int .i64 x.ins,.slice B x.gs.length d] 29) = W at *; rintro e w1 ⟨rfl,hb9⟩; have HB0:=zH ((hb9.block _ (lt_of_block HB0.out)).trans HB0.out); have HB1:=zH ((hb9.block _ (lt_of_block HB1.out)).trans HB1.out); have HN:=zH (HN.out.up hb9); have HX:=zH (HX.out.up hb9); have hb:=z09 HW.out hb9; clear hb9 HOK HW HWS; have d0:=z0f.cell (z00 HB0.out 0).1; have d1:=z0f.cell (z00 HB0.out 1).1; have g0:=z0f.cell (z00 HB1.out 0).1; have g1:=z0f.cell (z00 HB1.out 1).1
 go_wp2
 refine z0d [[],[],[(1,25)],[],[(3,27)],[],[(5,29)],[(6,30)],[(4,28),(7,31)],[(2,26),(8,32)],[(0,24),(9,33)],[(10,34)]]
  [.eq (.agg #[.int .i64 n.ins,.slice A n.gs.length c]),.eq (.pointer (some ⟨w.heap.size + 1,0,none⟩)),.eq (.int .i64 x.ins),.eq (.pointer (some ⟨w.heap.size + 1,1,none⟩)),.eq (.slice B x.gs.length d),.eq (.pointer (some ⟨w.heap.size,1,none⟩)),.eq (.slice A n.gs.length c),.eq (.int .i64 (n.gs.length : Int)),.eq (.slice B n.gs.length d),.eq (.agg #[.int .i64 x.ins,.slice B n.gs.length d]),Fact.boolC w1 true,Fact.boolC w1 true]
  [] [] [] [11] [(0,24),(1,25),(2,26),(3,27),(4,28),(5,29),(6,30),(7,31),(8,32),(9,33),(10,34),(11,4)] (by kernel_rfl) (by kernel_rfl) (by kernel_rfl) (by kernel_rfl)
  ⟨?_,?_,?_,?_,?_,?_,?_,?_,?_,?_,?_,?_,trivial⟩ ?_
 ·
  intro vals x9 hC hF; have hC:=hC.resolve_left (by simp); have hsz:=hC.size; have e1 : x9.cell? _ = _:=d0 ⟨x9,hC⟩; have e2 : x9.cell? _ = _:=d1 ⟨x9,hC⟩; simp only [z01,Act.put,zQ]
  go_wp2
  exact ⟨rfl,rfl,.inr (Below.refl _ _),.inr (.inl (by simp))⟩
 ·
  intro vals x9 hC hF; simp only [z01,Act.put,zQ]
  go_wp2
  exact ⟨rfl,rfl,.inr (Below.refl _ _),.inr (.inl (by simp))⟩
 ·
  intro vals x9 hC hF; have hC:=hC.resolve_left (by simp); have hsz:=hC.size; have e1 : x9.cell? _ = _:=g0 ⟨x9,hC⟩; simp only [z0c,zR,Fact.eq,Fact.row,Fact.lit,Fact.lit0,Fact.of,and_true,Fact.boolC] at hF; simp only [z01,Act.put,zQ]; simp only [hF]
  go_wp2
  exact ⟨rfl,rfl,.inr (Below.refl _ _),.inr (.inl (by simp))⟩
 ·
  intro vals x9 hC hF; simp only [z01,Act.put,zQ]
  go_wp2
  exact ⟨rfl,rfl,.inr (Below.refl _ _),.inr (.inl (by simp))⟩
 ·
  intro vals x9 hC hF; have hC:=hC.resolve_left (by simp); have hsz:=hC.size; have e1 : x9.cell? _ = _:=g1 ⟨x9,hC⟩; simp only [z0c,zR,Fact.eq,Fact.row,Fact.lit,Fact.lit0,Fact.of,and_true,Fact.boolC] at hF; simp only [z01,Act.put,zQ]; simp only [hF]
  go_wp2
  exact ⟨rfl,rfl,.inr (Below.refl _ _),.inr (.inl (by simp))⟩
 ·
  intro vals x9 hC hF; simp only [z01,Act.put,zQ]
  go_wp2
  exact ⟨rfl,rfl,.inr (Below.refl _ _),.inr (.inl (by simp))⟩
 ·
  intro vals x9 hC hF; have hC:=hC.resolve_left (by simp); have hsz:=hC.size; have e1 : x9.cell? _ = _:=d1 ⟨x9,hC⟩; simp only [z0c,zR,Fact.eq,Fact.row,Fact.lit,Fact.lit0,Fact.of,and_true,Fact.boolC] at hF; simp only [z01,Act.put,zQ]; simp only [hF]
  go_wp2
  exact ⟨rfl,rfl,.inr (Below.refl _ _),.inr (.inl (by simp))⟩
 iterate 3
  ·
   intro vals x9 hC hF; simp only [z0c,zR,Fact.eq,Fact.row,Fact.lit,Fact.lit0,Fact.of,and_true,Fact.boolC] at hF; simp only [z01,Act.put,zQ]; simp only [hF]
   go_wp2
   exact ⟨rfl,rfl,.inr (Below.refl _ _),.inr (.inl (by simp))⟩
 ·
  intro vals x9 hC hF; have hC:=hC.resolve_left (by simp); have hsz:=hC.size; simp only [z0c,zR,Fact.eq,Fact.row,Fact.lit,Fact.lit0,Fact.of,and_true,Fact.boolC] at hF; obtain ⟨e24,e33⟩:=hF; simp only [z01,Act.put,zQ]; simp only [e24,e33]
  go_wp2_with fail
  refine (netSame_any n ⟨x.ins,n.gs⟩ A B c d x9 (HN.out.up hC) (HX.out.up hC) hn hn).mono ?_; rw [show decide (n = (⟨x.ins,n.gs⟩ : N)) = true by rw [HI.out]; simp]; rintro e wx ⟨rfl,hb9⟩
  go_wp2
  exact ⟨rfl,⟨rfl,z09 hC hb9⟩,.inr hb9,.inr (.inl (by simp))⟩
 ·
  intro vals x9 hC hF; have hC:=hC.resolve_left (by simp); have hsz:=hC.size; simp only [z0c,zR,Fact.eq,Fact.row,Fact.lit,Fact.lit0,Fact.of,and_true,Fact.boolC] at hF; obtain ⟨e34,hb34⟩:=hF; simp only [z01,Act.put,zQ]; simp only [e34]
  go_wp2
  exact ⟨rfl,⟨rfl,hb34⟩,.inr (Below.refl _ _),.inr (.inl (by simp))⟩
 ·
  intro vals x9 hF; simp only [facts,zR,Fact.eq,Fact.row,Fact.lit,Fact.lit0,Fact.of,and_true,Fact.boolC] at hF; obtain ⟨e4,hb4⟩:=hF; simp only [z01,Act.put,zQ]; simp only [e4]
  go_wp2
  go_ret
  exact ⟨rfl,z09 hb hb4⟩
structure Ext (n x : N) : Prop where
 ok : z0q x = true
 ins : x.ins = n.ins
 ext : ∃ t,x.gs = n.gs ++ t
theorem Ext.refl {n : N} (h : z0q n = true) : Ext n n:=⟨h,rfl,[],by simp⟩
theorem Ext.trans {n x y : N} (h : Ext n x) (k : Ext x y) : Ext n y:=by
 obtain ⟨t,ht⟩:=h.ext; obtain ⟨u,hu⟩:=k.ext; exact ⟨k.ok,k.ins.trans h.ins,t ++ u,by rw [hu,ht,List.append_assoc]⟩
theorem Ext.has {n x : N} (h : Ext n x) {m : Int} (hm : z07 n m = true) : z07 x m = true:=by
 obtain ⟨t,ht⟩:=h.ext; have:=z0j.1 hm; have hl : x.gs.length = n.gs.length + t.length:=by rw [ht]; simp
 exact z0j.2 (by have:=h.ins; omega)
theorem Ext.obeys {n x : N} (h : Ext n x) {w : List Bool} (hw : z21 x w) : z21 n w:=by
 obtain ⟨t,ht⟩:=h.ext; obtain ⟨u,hu⟩ : ∃ u : List G,u = []:=⟨_,rfl⟩; refine ⟨?_,hw.one,fun k g hk j hj => hw.gate k g ?_ j (by rw [h.ins]; exact hj)⟩
 · have:=hw.len; rw [h.ins,ht] at this; simp at this; omega
 · rw [ht]; exact (List.getElem?_append_left (List.getElem?_eq_some_iff.1 hk).1).trans hk
theorem Grows.to {n : N} {r : N × Int} (h : Grows n r) : Ext n r.1:=by
 obtain ⟨t,ht,_⟩:=h.ext; exact ⟨h.ok,h.ins,t,ht⟩
theorem z1j {n : N} {m : Int} (h : z07 n m = true) : z07 n (-m) = true:=by
 have:=z0j.1 h; exact z0j.2 (by omega)
def PG.all {α : Type} (w : List Bool) (Φ : α -> N -> Prop) : PG α -> N -> Prop
 | .ret a,n => Φ a n
 | .and x y k,n => (z07 n x = true /\ z07 n y = true) /\ ∀ m n',Ext n n' -> z07 n' m = true -> (z21 n' w -> z08 w m = (z08 w x && z08 w y)) -> (k m).all w Φ n'
 | .xor x y k,n => (z07 n x = true /\ z07 n y = true) /\ ∀ m n',Ext n n' -> z07 n' m = true -> (z21 n' w -> z08 w m = (z08 w x != z08 w y)) -> (k m).all w Φ n'
theorem step_none {n : N} {r : N × Int} (h : (z16 ⟨n,none⟩ r).1.e = none) : r.2 ≠ 0 /\ z16 ⟨n,none⟩ r = (⟨r.1,none⟩,r.2):=by
 unfold z16 at h ⊢; rw [if_neg (by simp)] at h ⊢
 by_cases hz : r.2 = 0
 · rw [if_pos hz] at h; cases h
 · rw [if_neg hz]; exact ⟨hz,rfl⟩
theorem all_run {α : Type} {w : List Bool} {Φ : α -> N -> Prop} : ∀ (p : PG α) (n : N),p.all w Φ n -> z0q n = true -> (run opsP p ⟨n,none⟩).1.e = none -> Φ (run opsP p ⟨n,none⟩).2 (run opsP p ⟨n,none⟩).1.n /\ Ext n (run opsP p ⟨n,none⟩).1.n
 | .ret a,n,h,hn,_ => ⟨h,.refl hn⟩
 | .and x y k,n,h,hn,he => by
  obtain ⟨⟨hx,hy⟩,hk⟩:=h
  by_cases hs : (z16 ⟨n,none⟩ (and1 n x y)).1.e = none
  ·
   obtain ⟨hz,e⟩:=step_none hs; obtain ⟨hg,hv⟩:=and1_says hn hx hy hz; have e1 : run opsP (.and x y k) ⟨n,none⟩ = run opsP (k (and1 n x y).2) ⟨(and1 n x y).1,none⟩:=by
    show run opsP (k (z16 ⟨n,none⟩ (and1 n x y)).2) (z16 ⟨n,none⟩ (and1 n x y)).1 = _
    rw [e]
   rw [e1] at he ⊢; obtain ⟨h1,h2⟩:=all_run (k _) _ (hk _ _ hg.to hg.mark (hv w)) hg.ok he; exact ⟨h1,hg.to.trans h2⟩
  · exact absurd he (run_failP (k (z16 ⟨n,none⟩ (and1 n x y)).2) _ hs)
 | .xor x y k,n,h,hn,he => by
  obtain ⟨⟨hx,hy⟩,hk⟩:=h
  by_cases hs : (z16 ⟨n,none⟩ (xor1 n x y)).1.e = none
  ·
   obtain ⟨hz,e⟩:=step_none hs; obtain ⟨hg,hv⟩:=xor1_says hn hx hy hz; have e1 : run opsP (.xor x y k) ⟨n,none⟩ = run opsP (k (xor1 n x y).2) ⟨(xor1 n x y).1,none⟩:=by
    show run opsP (k (z16 ⟨n,none⟩ (xor1 n x y)).2) (z16 ⟨n,none⟩ (xor1 n x y)).1 = _
    rw [e]
   rw [e1] at he ⊢; obtain ⟨h1,h2⟩:=all_run (k _) _ (hk _ _ hg.to hg.mark (hv w)) hg.ok he; exact ⟨h1,hg.to.trans h2⟩
  · exact absurd he (run_failP (k (z16 ⟨n,none⟩ (xor1 n x y)).2) _ hs)
theorem z1f {α β : Type} {w : List Bool} {Φ : β -> N -> Prop} (f : α -> PG β) : ∀ (p : PG α) (n : N),p.all w (fun a n' => (f a).all w Φ n') n -> (p.bind f).all w Φ n
 | .ret _,_,h => h
 | .and x y k,n,h => ⟨h.1,fun m n' h1 h2 h3 => z1f f (k m) n' (h.2 m n' h1 h2 h3)⟩
 | .xor x y k,n,h => ⟨h.1,fun m n' h1 h2 h3 => z1f f (k m) n' (h.2 m n' h1 h2 h3)⟩
theorem all_or {w : List Bool} {Φ : Int -> N -> Prop} {n : N} {x y : Int} (hx : z07 n x = true) (hy : z07 n y = true)
  (h : ∀ m n',Ext n n' -> z07 n' m = true -> (z21 n' w -> z08 w m = (z08 w x || z08 w y)) -> Φ m n') : (orP x y).all w Φ n:=by
 refine ⟨⟨z1j hx,z1j hy⟩,fun m n' he hm hv => h _ _ he (z1j hm) fun hw => ?_⟩; have:=hv hw; rw [z11 ((he.obeys hw).sig hx),z11 ((he.obeys hw).sig hy)] at this; rw [z11 (hw.sig hm),this]
 cases z08 w x <;> cases z08 w y <;> rfl
theorem all_mux {w : List Bool} {Φ : Int -> N -> Prop} {n : N} {c x y : Int} (hc : z07 n c = true) (hx : z07 n x = true) (hy : z07 n y = true)
  (h : ∀ m n',Ext n n' -> z07 n' m = true -> (z21 n' w -> z08 w m = if z08 w c then z08 w x else z08 w y) -> Φ m n') : (muxP c x y).all w Φ n:=by
 refine ⟨⟨hc,hx⟩,fun p n1 e1 m1 v1 => ⟨⟨z1j (e1.has hc),e1.has hy⟩,fun q n2 e2 m2 v2 => all_or (e2.has m1) m2 fun m n3 e3 m3 v3 => h m n3 (e1.trans (e2.trans e3)) m3 fun hw => ?_⟩⟩; have w2:=e3.obeys hw; have w1:=e2.obeys w2; rw [v3 hw,v1 w1,v2 w2,z11 ((e1.obeys w1).sig hc)]
 cases z08 w c <;> cases z08 w x <;> cases z08 w y <;> rfl
theorem all_each {w : List Bool} {f : Int -> Int -> PG Int} {op : Bool -> Bool -> Bool} {n0 : N}
  (hf : ∀ (Ψ : Int -> N -> Prop) (n : N) (x y : Int),Ext n0 n -> z07 n x = true -> z07 n y = true -> (∀ m n',Ext n n' -> z07 n' m = true -> (z21 n' w -> z08 w m = op (z08 w x) (z08 w y)) -> Ψ m n') -> (f x y).all w Ψ n) :
  ∀ (xs ys : List Int) (Φ : List Int -> N -> Prop) (n : N),xs.length = ys.length -> Ext n0 n -> (∀ x ∈ xs,z07 n x = true) -> (∀ y ∈ ys,z07 n y = true) →
   (∀ ms n',Ext n n' -> ms.length = xs.length -> (∀ m ∈ ms,z07 n' m = true) -> (z21 n' w -> ms.map (z08 w) = List.zipWith (fun x y => op (z08 w x) (z08 w y)) xs ys) -> Φ ms n') -> (z0v f xs ys).all w Φ n
 | [],[],Φ,n,_,h0,_,_,h => h [] n (.refl h0.ok) rfl (fun _ h => by cases h) fun _ => rfl
 | x :: xs,y :: ys,Φ,n,hl,h0,hx,hy,h => by
  refine z1f _ _ _ (hf _ _ _ _ h0 (hx _ (.head _)) (hy _ (.head _)) fun m n1 e1 m1 v1 => z1f _ _ _ (all_each hf xs ys _ n1 (by simpa using hl) (h0.trans e1) (fun z hz => e1.has (hx z (.tail _ hz))) (fun z hz => e1.has (hy z (.tail _ hz))) fun ms n2 e2 l2 m2 v2 => ?_)); refine h (m :: ms) n2 (e1.trans e2) (by simp [l2]) (fun z hz => ?_) fun hw => ?_
  ·
   rcases List.mem_cons.1 hz with rfl | hz
   · exact e2.has m1
   · exact m2 z hz
  · rw [List.map_cons,v2 hw,v1 (e2.obeys hw)]; rfl
 | [],_ :: _,_,_,hl,_,_,_,_ => by simp at hl
 | _ :: _,[],_,_,hl,_,_,_,_ => by simp at hl
theorem put_in {n y : N} {g : G} (hm : (put n g).2 ≠ 0) (hi : y.ins = (put n g).1.ins) {t : List G} (hg : y.gs = (put n g).1.gs ++ t) : put y g = (y,(put n g).2):=by
 by_cases hin : g ∈ n.gs
 ·
  rw [put_mem hin] at hi hg ⊢; rw [put_mem (show g ∈ y.gs by rw [hg]; exact List.mem_append_left _ hin)]; rw [hg,List.idxOf_append,if_pos hin,hi]
 by_cases h6 : 600 <= n.gs.length
 · rw [put_full hin h6] at hm; exact absurd rfl hm
 rw [put_new hin h6] at hi hg ⊢; have hin2 : g ∈ n.gs ++ [g]:=by simp
 rw [put_mem (show g ∈ y.gs by rw [hg]; exact List.mem_append_left _ hin2)]; dsimp only at hi hg ⊢; rw [hg,List.idxOf_append,if_pos hin2,List.idxOf_append,if_neg hin,hi]; simp
theorem and1_in {n y : N} {a b : Int} (hm : (and1 n a b).2 ≠ 0) (hi : y.ins = (and1 n a b).1.ins) {t : List G} (hg : y.gs = (and1 n a b).1.gs ++ t) : and1 y a b = (y,(and1 n a b).2):=by
 by_cases c1 : a = -1 \/ b = -1 \/ a = -b
 · unfold and1; rw [if_pos c1,if_pos c1]
 by_cases c2 : a = 1 \/ a = b
 · unfold and1; rw [if_neg c1,if_pos c2,if_neg c1,if_pos c2]
 by_cases c3 : b = 1
 · unfold and1; rw [if_neg c1,if_neg c2,if_pos c3,if_neg c1,if_neg c2,if_pos c3]
 have e : ∀ m : N,and1 m a b = if b.natAbs < a.natAbs then put m ⟨false,b,a⟩ else put m ⟨false,a,b⟩:=fun m => by unfold and1; rw [if_neg c1,if_neg c2,if_neg c3]
 rw [e] at hm hi hg ⊢; rw [e]
 by_cases hs : b.natAbs < a.natAbs
 · rw [if_pos hs] at hm hi hg ⊢; rw [if_pos hs]; exact put_in hm hi hg
 · rw [if_neg hs] at hm hi hg ⊢; rw [if_neg hs]; exact put_in hm hi hg
theorem xor1_in {n y : N} {a b : Int} (hm : (xor1 n a b).2 ≠ 0) (hi : y.ins = (xor1 n a b).1.ins) {t : List G} (hg : y.gs = (xor1 n a b).1.gs ++ t) : xor1 y a b = (y,(xor1 n a b).2):=by
 by_cases c1 : a = 1 \/ a = -1
 · rw [xor1_1 c1,xor1_1 c1]
 by_cases c2 : b = 1 \/ b = -1
 · rw [xor1_2 c1 c2,xor1_2 c1 c2]
 by_cases c3 : a = b
 · rw [xor1_3 c1 c2 c3,xor1_3 c1 c2 c3]
 by_cases c4 : a = -b
 · rw [xor1_4 c1 c2 c3 c4,xor1_4 c1 c2 c3 c4]
 rw [xor1_5 c1 c2 c3 c4] at hm hi hg ⊢; rw [xor1_5 c1 c2 c3 c4]; have hz : (put n (sortG ⟨true,a.natAbs,b.natAbs⟩)).2 ≠ 0:=by
  intro h
  apply hm
  dsimp only
  split <;> omega
 rw [put_in hz hi hg]
def addB : List Bool -> List Bool -> Bool -> List Bool
 | x :: xs,y :: ys,c => ((x != y) != c) :: addB xs ys ((x && y) || ((x != y) && c))
 | _,_,_ => []
def lessB : List Bool -> List Bool -> Bool -> Bool
 | x :: xs,y :: ys,r => lessB xs ys (if x != y then y else r)
 | _,_,r => r
theorem all_sum {w : List Bool} : ∀ (xs ys : List Int) (c : Int) (Φ : List Int -> N -> Prop) (n : N),xs.length = ys.length -> z0q n = true -> (∀ x ∈ xs,z07 n x = true) -> (∀ y ∈ ys,z07 n y = true) -> z07 n c = true →
  (∀ ms n',Ext n n' -> ms.length = xs.length -> (∀ m ∈ ms,z07 n' m = true) -> (z21 n' w -> ms.map (z08 w) = addB (xs.map (z08 w)) (ys.map (z08 w)) (z08 w c)) -> Φ ms n') -> (sumP xs ys c).all w Φ n
 | [],[],_,_,n,_,h0,_,_,_,h => h [] n (.refl h0) rfl (fun _ h => by cases h) fun _ => rfl
 | x :: xs,y :: ys,c,Φ,n,hl,h0,hx,hy,hc,h => by
  have x0:=hx _ (.head _); have y0:=hy _ (.head _); refine ⟨⟨x0,y0⟩,fun d n1 e1 m1 v1 => ⟨⟨m1,e1.has hc⟩,fun s n2 e2 m2 v2 => ⟨⟨e2.has (e1.has x0),e2.has (e1.has y0)⟩,fun p n3 e3 m3 v3 => ⟨⟨e3.has (e2.has m1),e3.has (e2.has (e1.has hc))⟩,fun q n4 e4 m4 v4 => ?_⟩⟩⟩⟩; refine z1f _ _ _ (all_or (e4.has m3) m4 fun c' n5 e5 m5 v5 => ?_); have e15:=e1.trans (e2.trans (e3.trans (e4.trans e5))); refine z1f _ _ _ (all_sum xs ys c' _ n5 (by simpa using hl) e5.ok (fun z hz => e15.has (hx z (.tail _ hz))) (fun z hz => e15.has (hy z (.tail _ hz))) m5 fun ms n6 e6 l6 m6 v6 => ?_); refine h (s :: ms) n6 (e15.trans e6) (by simp [l6]) (fun z hz => ?_) fun hw => ?_
  ·
   rcases List.mem_cons.1 hz with rfl | hz
   · exact e6.has (e5.has (e4.has (e3.has m2)))
   · exact m6 z hz
  ·
   have w5:=e6.obeys hw; have w4:=e5.obeys w5; have w3:=e4.obeys w4; have w2:=e3.obeys w3; have w1:=e2.obeys w2; rw [List.map_cons,v6 hw,v5 w5,v4 w4,v3 w3,v2 w2,v1 w1]
   rfl
 | [],_ :: _,_,_,_,hl,_,_,_,_,_ => by simp at hl
 | _ :: _,[],_,_,_,hl,_,_,_,_,_ => by simp at hl
theorem all_less {w : List Bool} : ∀ (xs ys : List Int) (r : Int) (Φ : Int -> N -> Prop) (n : N),xs.length = ys.length -> z0q n = true -> (∀ x ∈ xs,z07 n x = true) -> (∀ y ∈ ys,z07 n y = true) -> z07 n r = true →
  (∀ m n',Ext n n' -> z07 n' m = true -> (z21 n' w -> z08 w m = lessB (xs.map (z08 w)) (ys.map (z08 w)) (z08 w r)) -> Φ m n') -> (lessP xs ys r).all w Φ n
 | [],[],r,_,n,_,h0,_,_,hr,h => h r n (.refl h0) hr fun _ => rfl
 | x :: xs,y :: ys,r,Φ,n,hl,h0,hx,hy,hr,h => by
  have x0:=hx _ (.head _); have y0:=hy _ (.head _); refine ⟨⟨x0,y0⟩,fun d n1 e1 m1 v1 => z1f _ _ _ (all_mux m1 (e1.has y0) (e1.has hr) fun r' n2 e2 m2 v2 => ?_)⟩; have e12:=e1.trans e2; refine all_less xs ys r' Φ n2 (by simpa using hl) e2.ok (fun z hz => e12.has (hx z (.tail _ hz))) (fun z hz => e12.has (hy z (.tail _ hz))) m2 fun m n3 e3 m3 v3 => h m n3 (e12.trans e3) m3 fun hw => ?_
  have w2:=e3.obeys hw; rw [v3 hw,v2 w2,v1 (e2.obeys w2)]
  rfl
 | [],_ :: _,_,_,_,hl,_,_,_,_,_ => by simp at hl
 | _ :: _,[],_,_,_,hl,_,_,_,_,_ => by simp at hl
def bitsB : List Bool -> Int
 | [] => 0
 | b :: bs => (if b then 1 else 0) + 2 * bitsB bs
theorem bitsB_cons (b : Bool) (bs : List Bool) : bitsB (b :: bs) = (if b then 1 else 0) + 2 * bitsB bs:=rfl
theorem bitsOf_map (f : Int -> Bool) : ∀ a : List Int,bitsOf f a = bitsB (a.map f)
 | [] => rfl
 | m :: ms => by rw [List.map_cons]; unfold bitsOf bitsB; rw [bitsOf_map f ms]
theorem bitsOk_yes {n : N} {b : Bool} {p : PG (List Int)} {r : N × List Int} (hr : r = pickN (z0q n) (bitsOk n b p)) (h : r.2 ≠ []) : z0q n = true /\ b = true /\ (run opsP p ⟨n,none⟩).1.e = none /\ r = ((run opsP p ⟨n,none⟩).1.n,(run opsP p ⟨n,none⟩).2):=by
 cases hk : z0q n
 · rw [hr,hk] at h; exact absurd rfl h
 ·
  rw [hk] at hr; unfold pickN bitsOk at hr
  cases b
  · rw [hr] at h; exact absurd rfl h
  ·
   simp only [if_true] at hr; unfold bitsOut at hr
   split at hr
   · rename_i he; exact ⟨rfl,rfl,he,hr⟩
   · rw [hr] at h; exact absurd rfl h
theorem okInts_of {n : N} (h : z0q n = true) : okInts n:=fun g hg => by
 obtain ⟨h0,h1,h2,h3⟩:=z1z.1 h; obtain ⟨k,hk,rfl⟩:=List.getElem_of_mem hg; have h4:=(h3 k _ (List.getElem?_eq_getElem hk)).1; unfold okG at h4; simp only [Bool.and_eq_true,decide_eq_true_eq] at h4; have : k <= 600:=by omega
 refine ⟨⟨?_,?_⟩,?_,?_⟩ <;> omega
theorem one_mark9 {n : N} (h : z0q n = true) : z07 n 1 = true:=z0j.2 (by have:=(z1z.1 h).1; omega)
theorem off_lit {n : N} {w : List Bool} (h : z0q n = true) (hw : z21 n w) : z08 w (-1) = false:=by
 rw [z11 (hw.sig (one_mark9 h)),z24 hw.one]; rfl
end Go.Proofs.YtemdmlmcidfodaaGreatDoor
