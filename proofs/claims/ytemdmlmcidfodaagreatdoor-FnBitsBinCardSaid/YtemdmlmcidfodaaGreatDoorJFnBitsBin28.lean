/- The reference's BitsUn. -/
import Derived.Test.YtemdmlmcidfodaaGreatDoorJFnBitsBin0
import Derived.Test.YtemdmlmcidfodaaGreatDoorJFnBitsBin17
import Derived.Test.YtemdmlmcidfodaaGreatDoorJFnBitsBin23
import Derived.Test.YtemdmlmcidfodaaGreatDoorJFnBitsBin26
import Derived.Test.YtemdmlmcidfodaaGreatDoorJFnBitsBin27
namespace Go.Proofs.YtemdmlmcidfodaaGreatDoor
open Go Go.RowKit
theorem KS.outL {F : Nat -> Prop} {w x x' : World} {k k' : N × Bool} {A A' B : Option Addr} {c c' d : Nat} {l : List Int} (h : KS F w x k A c) (hF : ∀ b,F b -> b < w.heap.size) (hs : Lay.gate.Sl x' (fun b => (fun b => F b \/ (w.heap.size + 2 <= b /\ b < x.heap.size)) b \/ (x.heap.size <= b /\ b < x'.heap.size)) A' k'.1.gs) (hb : Below x.heap.size x x') (hn : A' = none -> k'.1.gs.length = 0) (hd : l.length <= d) (hl : Lay.int.Sl x' (fun b => x.heap.size <= b /\ b < x'.heap.size) B l) (hm : ∀ m ∈ l,RB m) :
  RetKL F w (k',l) (.returned (.tuple #[.agg #[.int .i64 k'.1.ins,.slice A' k'.1.gs.length c',.bool k'.2],.slice B l.length d])) (st3 x' (w.heap.size + 1) (.int .i64 k'.1.ins) (.slice A' k'.1.gs.length c') (.bool k'.2)):=by
 have hx:=lt_of_block h.res; refine ⟨A',c',B,d,rfl,hn,(z1a (h:=w.heap.size + 1) hs (fun b hb' => ?_) _ _ _).mono (fun b hb' => ?_),hd,(z1a (h:=w.heap.size + 1) hl (fun b hb' => by omega) _ _ _).mono (fun b hb' => ?_),hm,z0i (z09 h.bel hb) (by omega) _ _ _⟩
 ·
  rcases hb' with (hb' | hb') | hb'
  · have:=hF b hb'; omega
  · omega
  · omega
 ·
  rw [z0o]; have hsz:=hb.size
  rcases hb' with (hb' | hb') | hb'
  · exact .inl hb'
  · exact .inr ⟨by omega,by omega⟩
  · exact .inr ⟨by omega,hb'.2⟩
 · rw [z0o]; omega
theorem RetKL.up {F : Nat -> Prop} {w x x' : World} {res : (N × Bool) × List Int} {e : Ending} (h : RetKL F w res e x) (hF : ∀ b,F b -> b < w.heap.size) (hb : Below x.heap.size x x') : RetKL F w res e x':=by
 obtain ⟨A,c,B,d,h1,h2,h3,h4,h5,h6,h7⟩:=h; exact ⟨A,c,B,d,h1,h2,(h3.below hb (fun b h9 => h9.elim (fun h => Nat.lt_of_lt_of_le (hF b h) h7.size) (fun h => h.2))).mono fun b h9 => h9.imp id fun h => ⟨h.1,Nat.lt_of_lt_of_le h.2 hb.size⟩,h4,(h5.below hb (fun b h9 => h9.2)).mono fun b h9 => ⟨h9.1,Nat.lt_of_lt_of_le h9.2 hb.size⟩,h6,z09 h7 hb⟩
def CatI (F : Nat -> Prop) (w X0 : World) (k : N × Bool) (A : Option Addr) (c : Nat) (done : Bool) (x : World) : Prop :=
 Below w.heap.size w x /\ x.heap[w.heap.size]? = some (.cells #[.int .i64 k.1.ins,.slice A k.1.gs.length c,.bool k.2] 85 (0,0)) /\ (done = false -> x.heap[w.heap.size + 1]? = some (.cells #[.int .i64 0,.slice none 0 0,.bool false] 85 (0,0))) /\ (done = true -> x.heap[w.heap.size + 1]? = some (.cells #[.int .i64 k.1.ins,.slice A k.1.gs.length c,.bool k.2] 85 (0,0))) /\ Lay.gate.Sl x F A k.1.gs /\ X0.heap.size <= x.heap.size
theorem CatI.up {F : Nat -> Prop} {w X0 x y : World} {k : N × Bool} {A : Option Addr} {c : Nat} {done : Bool} (hF : ∀ b,F b -> b < w.heap.size) (hX : w.heap.size + 1 < X0.heap.size) (h : CatI F w X0 k A c done x) (hb : Below X0.heap.size x y) : CatI F w X0 k A c done y:=by
 obtain ⟨h1,h2,h3,h4,h5,h6⟩:=h; exact ⟨h1.trans (hb.mono (by omega)),(hb.block _ (by omega)).trans h2,fun hd => (hb.block _ hX).trans (h3 hd),fun hd => (hb.block _ hX).trans (h4 hd),h5.below hb (fun b h9 => by have:=hF b h9; omega),Nat.le_trans h6 hb.size⟩
def CatL (X0 : World) (v : Value) (z : World) : Prop:=∃ A,v = .slice A 0 0 /\ OwnI z X0.heap.size (.slice A ([] : List Int).length 0) []
def CatR (X0 : World) (l : List Int) (v : Value) (z : World) : Prop:=∃ A c,v = .slice A l.length c /\ OwnI z X0.heap.size (.slice A l.length c) l
theorem CatL.up {X0 x y : World} {v : Value} (h : CatL X0 v x) (hb : Below x.heap.size x y) : CatL X0 v y:=by
 obtain ⟨A,h1,h2⟩:=h; exact ⟨A,h1,h2.up hb⟩
theorem CatR.up {X0 x y : World} {l : List Int} {v : Value} (h : CatR X0 l v x) (hb : Below x.heap.size x y) : CatR X0 l v y:=by
 obtain ⟨A,c,h1,h2⟩:=h; exact ⟨A,c,h1,h2.up hb⟩
theorem CatL.st {X0 x y : World} {v : Value} {g : Nat} (h : CatL X0 v x) (hg : x.grownBy y (some g)) (h1 : g < X0.heap.size) : CatL X0 v y:=by
 obtain ⟨A,h2,h3⟩:=h; exact ⟨A,h2,own_kept_lt h3 hg h1⟩
theorem CatR.st {X0 x y : World} {l : List Int} {v : Value} {g : Nat} (h : CatR X0 l v x) (hg : x.grownBy y (some g)) (h1 : g < X0.heap.size) : CatR X0 l v y:=by
 obtain ⟨A,c,h2,h3⟩:=h; exact ⟨A,c,h2,own_kept_lt h3 hg h1⟩
set_option maxRecDepth 100000 in
set_option maxHeartbeats 16000000 in
theorem l7Bin_any (F : Nat -> Prop) (A : Option Addr) (c : Nat) (k : N × Bool) (op : Int) (X Y : Option Addr) (cx cy : Nat) (xs ys : List Int) (w : World) (h : Lay.gate.Sl w F A k.1.gs) (hF : ∀ b,F b -> b < w.heap.size) (hA : A = none -> k.1.gs.length = 0) (hnb : NB k.1) (hop : 3 <= op /\ op <= 14) (hX : Lay.int.Rd w X xs) (hY : Lay.int.Rd w Y ys) (hxm : ∀ x ∈ xs,RB x) (hym : ∀ y ∈ ys,RB y) (hl : op ≠ 14 -> xs.length = ys.length) (h0 : 0 < xs.length) (hn : xs.length <= 8) (hn' : ys.length <= 8) :
  Calls Tryz.prog 42 #[.agg #[.int .i64 k.1.ins,.slice A k.1.gs.length c,.bool k.2],.int .i64 op,.slice X xs.length cx,.slice Y ys.length cy] w (RetKL F w (run opsR (binP op xs ys) k)):=by
 have hk0:=KS.two (c:=c) h hF hA; have K0:=zH hk0; have HF:=zH hF; have HNB:=zH hnb; have HX:=zH (hX.up hk0.bel); have HY:=zH (hY.up hk0.bel); have HXB : Hid (∀ x,Below w.heap.size w x -> Lay.int.Rd x X xs /\ Lay.int.Rd x Y ys):=zH fun x hx => ⟨hX.up hx,hY.up hx⟩
 have y0:=(z00 hk0.var 0).1; have y1:=(z00 hk0.var 1).1; have y2:=(z00 hk0.var 2).1; have HL:=zH hl; have HXM:=zH hxm; have HYM:=zH hym; have HG:=zH h; have HNIL:=zH hA; clear h hF hA hnb hX hY hxm hym hl hk0; obtain ⟨op0,op1⟩:=hop; have hops : op = 3 \/ op = 4 \/ op = 5 \/ op = 6 \/ op = 7 \/ op = 8 \/ op = 9 \/ op = 10 \/ op = 11 \/ op = 12 \/ op = 13 \/ op = 14:=by omega
 clear op0 op1
 rcases hops with rfl | rfl | rfl | rfl | rfl | rfl | rfl | rfl | rfl | rfl | rfl | rfl
 ·
  have HC:=zH (l7Plain_3 _ A c k X Y cx cy xs ys _ K0.out.row (K0.out.lt HF.out) K0.out.nil HNB.out HX.out HY.out HXM.out HYM.out (HL.out (by decide)) (by omega)); rw [show binP 3 xs ys = z0v (fun x y => .and x y .ret) xs ys from rfl]; generalize run opsR (z0v (fun x y => .and x y .ret) xs ys) k = T at *
  go_enter Tryz.func42,Tryz.ntmps42
  go_wp2_with fail
  refine HC.out.mono ?_; rintro e z9 ⟨A9,c9,B9,d9,rfl,hn9,hs9,hd9,hl9,hm9,hb9⟩; have hr9:=(hb9.block _ (lt_of_block K0.out.res)).trans K0.out.res; clear y0 y1 y2 HC; have r0:=(z00 hr9 0).1; have rf0:=(z00 hr9 0).2; have r1:=(z00 hr9 1).1; have rf1:=(z00 hr9 1).2; have r2:=(z00 hr9 2).1; have rf2:=(z00 hr9 2).2; have HS9:=zH hs9; have HB9:=zH hb9; have HR9:=zH hr9; have HL9:=zH hl9; have HM9:=zH hm9; have HN9:=zH hn9; clear hs9 hb9 hr9 hl9 hm9 hn9
  go_wp2
  have hs:=z0s HR9.out (.int .i64 T.1.1.ins) (.slice A9 T.1.1.gs.length c9) (.bool T.1.2); have k5:=(z00 hs 0).1; have kf5:=(z00 hs 0).2; have k6:=(z00 hs 1).1; have kf6:=(z00 hs 1).2; have k7:=(z00 hs 2).1; have kf7:=(z00 hs 2).2; refine bodyPost_ret (v:=.tuple #[.agg #[.int .i64 T.1.1.ins,.slice A9 T.1.1.gs.length c9,.bool T.1.2],.slice B9 T.2.length d9]) (by simp [results,Tryz.results42,go_sem,k5,k6,k7,kf5,kf6,kf7]) rfl ?_; exact K0.out.outL HF.out HS9.out HB9.out HN9.out hd9 HL9.out HM9.out
 ·
  have HC:=zH (l7Plain_4 _ A c k X Y cx cy xs ys _ K0.out.row (K0.out.lt HF.out) K0.out.nil HNB.out HX.out HY.out HXM.out HYM.out (HL.out (by decide)) (by omega)); rw [show binP 4 xs ys = z0v orP xs ys from rfl]; generalize run opsR (z0v orP xs ys) k = T at *
  go_enter Tryz.func42,Tryz.ntmps42
  go_wp2_with fail
  refine HC.out.mono ?_; rintro e z9 ⟨A9,c9,B9,d9,rfl,hn9,hs9,hd9,hl9,hm9,hb9⟩; have hr9:=(hb9.block _ (lt_of_block K0.out.res)).trans K0.out.res; clear y0 y1 y2 HC; have r0:=(z00 hr9 0).1; have rf0:=(z00 hr9 0).2; have r1:=(z00 hr9 1).1; have rf1:=(z00 hr9 1).2; have r2:=(z00 hr9 2).1; have rf2:=(z00 hr9 2).2; have HS9:=zH hs9; have HB9:=zH hb9; have HR9:=zH hr9; have HL9:=zH hl9; have HM9:=zH hm9; have HN9:=zH hn9; clear hs9 hb9 hr9 hl9 hm9 hn9
  go_wp2
  have hs:=z0s HR9.out (.int .i64 T.1.1.ins) (.slice A9 T.1.1.gs.length c9) (.bool T.1.2); have k5:=(z00 hs 0).1; have kf5:=(z00 hs 0).2; have k6:=(z00 hs 1).1; have kf6:=(z00 hs 1).2; have k7:=(z00 hs 2).1; have kf7:=(z00 hs 2).2; refine bodyPost_ret (v:=.tuple #[.agg #[.int .i64 T.1.1.ins,.slice A9 T.1.1.gs.length c9,.bool T.1.2],.slice B9 T.2.length d9]) (by simp [results,Tryz.results42,go_sem,k5,k6,k7,kf5,kf6,kf7]) rfl ?_; exact K0.out.outL HF.out HS9.out HB9.out HN9.out hd9 HL9.out HM9.out
 ·
  have HC:=zH (l7Plain_5 _ A c k X Y cx cy xs ys _ K0.out.row (K0.out.lt HF.out) K0.out.nil HNB.out HX.out HY.out HXM.out HYM.out (HL.out (by decide)) (by omega)); rw [show binP 5 xs ys = z0v (fun x y => .xor x y .ret) xs ys from rfl]; generalize run opsR (z0v (fun x y => .xor x y .ret) xs ys) k = T at *
  go_enter Tryz.func42,Tryz.ntmps42
  go_wp2_with fail
  refine HC.out.mono ?_; rintro e z9 ⟨A9,c9,B9,d9,rfl,hn9,hs9,hd9,hl9,hm9,hb9⟩; have hr9:=(hb9.block _ (lt_of_block K0.out.res)).trans K0.out.res; clear y0 y1 y2 HC; have r0:=(z00 hr9 0).1; have rf0:=(z00 hr9 0).2; have r1:=(z00 hr9 1).1; have rf1:=(z00 hr9 1).2; have r2:=(z00 hr9 2).1; have rf2:=(z00 hr9 2).2; have HS9:=zH hs9; have HB9:=zH hb9; have HR9:=zH hr9; have HL9:=zH hl9; have HM9:=zH hm9; have HN9:=zH hn9; clear hs9 hb9 hr9 hl9 hm9 hn9
  go_wp2
  have hs:=z0s HR9.out (.int .i64 T.1.1.ins) (.slice A9 T.1.1.gs.length c9) (.bool T.1.2); have k5:=(z00 hs 0).1; have kf5:=(z00 hs 0).2; have k6:=(z00 hs 1).1; have kf6:=(z00 hs 1).2; have k7:=(z00 hs 2).1; have kf7:=(z00 hs 2).2; refine bodyPost_ret (v:=.tuple #[.agg #[.int .i64 T.1.1.ins,.slice A9 T.1.1.gs.length c9,.bool T.1.2],.slice B9 T.2.length d9]) (by simp [results,Tryz.results42,go_sem,k5,k6,k7,kf5,kf6,kf7]) rfl ?_; exact K0.out.outL HF.out HS9.out HB9.out HN9.out hd9 HL9.out HM9.out
 ·
  have HC:=zH (l7Add_any _ A c k (-1) X Y cx cy xs ys _ K0.out.row (K0.out.lt HF.out) K0.out.nil HNB.out z2d.off HX.out HY.out HXM.out HYM.out (HL.out (by decide)) (by omega)); rw [show binP 6 xs ys = sumP xs ys (-1) from rfl]; generalize run opsR (sumP xs ys (-1)) k = T at *
  go_enter Tryz.func42,Tryz.ntmps42
  go_wp2_with fail
  refine HC.out.mono ?_; rintro e z9 ⟨A9,c9,B9,d9,rfl,hn9,hs9,hd9,hl9,hm9,hb9⟩; have hr9:=(hb9.block _ (lt_of_block K0.out.res)).trans K0.out.res; clear y0 y1 y2 HC; have r0:=(z00 hr9 0).1; have rf0:=(z00 hr9 0).2; have r1:=(z00 hr9 1).1; have rf1:=(z00 hr9 1).2; have r2:=(z00 hr9 2).1; have rf2:=(z00 hr9 2).2; have HS9:=zH hs9; have HB9:=zH hb9; have HR9:=zH hr9; have HL9:=zH hl9; have HM9:=zH hm9; have HN9:=zH hn9; clear hs9 hb9 hr9 hl9 hm9 hn9
  go_wp2
  have hs:=z0s HR9.out (.int .i64 T.1.1.ins) (.slice A9 T.1.1.gs.length c9) (.bool T.1.2); have k5:=(z00 hs 0).1; have kf5:=(z00 hs 0).2; have k6:=(z00 hs 1).1; have kf6:=(z00 hs 1).2; have k7:=(z00 hs 2).1; have kf7:=(z00 hs 2).2; refine bodyPost_ret (v:=.tuple #[.agg #[.int .i64 T.1.1.ins,.slice A9 T.1.1.gs.length c9,.bool T.1.2],.slice B9 T.2.length d9]) (by simp [results,Tryz.results42,go_sem,k5,k6,k7,kf5,kf6,kf7]) rfl ?_; exact K0.out.outL HF.out HS9.out HB9.out HN9.out hd9 HL9.out HM9.out
 ·
  obtain ⟨ns,hns⟩ : ∃ ns,ns = ys.map Neg.neg:=⟨_,rfl⟩; have HNR : Hid (∀ m ∈ ns,RB m):=zH fun m hm => by
   rw [hns] at hm; obtain ⟨x,hx,rfl⟩:=List.mem_map.1 hm; exact (HYM.out x hx).neg
  have HNSL : Hid (xs.length = ns.length):=zH (by rw [hns,List.length_map]; exact HL.out (by decide)); have HTU:=zH (fun (x9 : World) (h9 : Lay.int.Rd x9 Y ys) => l7Turn_any Y cy ys x9 h9 HYM.out (by omega)); rw [<- hns] at HTU; rw [show binP 7 xs ys = sumP xs (ys.map Neg.neg) 1 from rfl,<- hns]; have HADD:=zH (fun (Y9 : Option Addr) (cy9 : Nat) (x9 : World) (h1 : Lay.gate.Sl x9 F A k.1.gs) (h2 : ∀ b,F b -> b < x9.heap.size) (h4 : Lay.int.Rd x9 X xs) (h5 : Lay.int.Rd x9 Y9 ns) => l7Add_any F A c k 1 X Y9 cx cy9 xs ns x9 h1 h2 HNIL.out HNB.out z2d.one h4 h5 HXM.out HNR.out HNSL.out (by omega)); generalize hT : run opsR (sumP xs ns 1) k = T at *; clear hT hns; have HUN:=zH (show UnI F w ((w.alloc (.cells #[.int .i64 k.1.ins,.slice A k.1.gs.length c,.bool k.2] 85)).alloc (.cells #[.int .i64 0,.slice none 0 0,.bool false] 85)) k A c T.1 false ((w.alloc (.cells #[.int .i64 k.1.ins,.slice A k.1.gs.length c,.bool k.2] 85)).alloc (.cells #[.int .i64 0,.slice none 0 0,.bool false] 85)) from ⟨K0.out.bel,K0.out.var,fun _ => K0.out.res,fun h => (by cases h),HG.out.below K0.out.bel HF.out,Nat.le_refl _⟩); have HXS:=zH (show w.heap.size + 1 < ((w.alloc (.cells #[.int .i64 k.1.ins,.slice A k.1.gs.length c,.bool k.2] 85)).alloc (.cells #[.int .i64 0,.slice none 0 0,.bool false] 85)).heap.size by simp); have HFX:=zH (show ∀ b,F b -> b < ((w.alloc (.cells #[.int .i64 k.1.ins,.slice A k.1.gs.length c,.bool k.2] 85)).alloc (.cells #[.int .i64 0,.slice none 0 0,.bool false] 85)).heap.size from fun b hb => by have:=HF.out b hb; simp; omega); have HNG : Hid (¬ F (w.heap.size + 1)):=zH fun h9 => by have:=HF.out _ h9; omega
  clear y0 y1 y2 K0 HX HY
  go_enter Tryz.func42,Tryz.ntmps42
  go_wp2
  generalize hX0 : (w.alloc (.cells #[.int .i64 k.1.ins,.slice A k.1.gs.length c,.bool k.2] 85)).alloc (.cells #[.int .i64 0,.slice none 0 0,.bool false] 85) = X0 at *; clear hX0; have HBX : Hid (∀ x b,UnI F w X0 k A c T.1 b x -> Lay.int.Rd x X xs /\ Lay.int.Rd x Y ys):=zH fun x b hx => HXB.out x hx.1
  refine z0a [[],[],[],[(2,29)],[(0,27),(1,28),(3,30)],[(4,31)],[(4,31)],[(5,32)],[(6,33)]]
   (fun x9 y9 => Below x9.heap.size x9 y9)
   [(7,fun x9 y9 => x9.grownBy y9 (some (w.heap.size + 1)))]
   (fun f9 x9 => UnI F w X0 k A c T.1 (f9 7) x9)
   [zF 0 (.agg #[.int .i64 k.1.ins,.slice A k.1.gs.length c,.bool k.2]),
    zF 1 (.slice X xs.length cx),
    zF 2 (.slice Y ys.length cy),
    fun vs9 y9 => (fun v z => URow X0 ns v z) (vs9 3) y9,
    fun vs9 y9 => (fun v z => UTup F X0 T v z /\ ∀ m ∈ T.2,RB m) (vs9 4) y9,
    fun vs9 y9 => (fun v z => UNet F X0 T.1 v z) (vs9 5) y9,
    fun vs9 y9 => (fun v z => URow X0 T.2 v z /\ ∀ m ∈ T.2,RB m) (vs9 6) y9,
    fun _ _ => True,
    fun vs9 y9 => (fun v z => URow X0 T.2 v z /\ ∀ m ∈ T.2,RB m) (vs9 8) y9]
   [(0,27),(1,28),(2,29),(3,30),(4,31),(5,32),(6,33),(8,9)] (by kernel_rfl) (by kernel_rfl) (by kernel_rfl) (by kernel_rfl)
   (fun _ => Below.refl _ _) ⟨fun _ => World.grownBy.refl _ _,trivial⟩
   ⟨zU,
    zU,
    zU,
    ⟨.inr (zS (fun v z => URow X0 ns v z) (fun _ _ _ h9 hR => h9.up hR)),⟨.inr (.inr (zS (fun v z => URow X0 ns v z) (fun _ _ _ h9 hR => h9.st hR HXS.out))),trivial⟩⟩,
    ⟨.inr (zS (fun v z => UTup F X0 T v z /\ ∀ m ∈ T.2,RB m) (fun _ _ _ h9 hR => ⟨h9.1.up HFX.out hR,h9.2⟩)),⟨.inr (.inr (zS (fun v z => UTup F X0 T v z /\ ∀ m ∈ T.2,RB m) (fun _ _ _ h9 hR => ⟨h9.1.st HFX.out hR HXS.out HNG.out,h9.2⟩))),trivial⟩⟩,
    ⟨.inr (zS (fun v z => UNet F X0 T.1 v z) (fun _ _ _ h9 hR => h9.up HFX.out hR)),⟨.inr (.inr (zS (fun v z => UNet F X0 T.1 v z) (fun _ _ _ h9 hR => h9.st HFX.out hR HXS.out HNG.out))),trivial⟩⟩,
    ⟨.inr (zS (fun v z => URow X0 T.2 v z /\ ∀ m ∈ T.2,RB m) (fun _ _ _ h9 hR => ⟨h9.1.up hR,h9.2⟩)),⟨.inr (.inr (zS (fun v z => URow X0 T.2 v z /\ ∀ m ∈ T.2,RB m) (fun _ _ _ h9 hR => ⟨h9.1.st hR HXS.out,h9.2⟩))),trivial⟩⟩,
    ⟨.inr zK,⟨.inr (.inl rfl),trivial⟩⟩,
    ⟨.inr (zS (fun v z => URow X0 T.2 v z /\ ∀ m ∈ T.2,RB m) (fun _ _ _ h9 hR => ⟨h9.1.up hR,h9.2⟩)),⟨.inr (.inr (zS (fun v z => URow X0 T.2 v z /\ ∀ m ∈ T.2,RB m) (fun _ _ _ h9 hR => ⟨h9.1.st hR HXS.out,h9.2⟩))),trivial⟩⟩,trivial⟩ ⟨zL,
    zL,
    zL,
    fun _ _ _ h _ v => (by simpa only [<- h] using v),
    fun _ _ _ h _ v => (by simpa only [<- h] using v),
    fun _ _ _ h _ v => (by simpa only [<- h] using v),
    fun _ _ _ h _ v => (by simpa only [<- h] using v),
    fun _ _ _ _ _ _ => trivial,
    fun _ _ _ h _ v => (by simpa only [<- h] using v),trivial⟩ (HUN.out.up HF.out (z02 (Below.refl _ _) 1)) ⟨?_,?_,?_,?_,?_,?_,?_,?_,?_,trivial⟩ ?_
  ·
   rintro vals xw f hf1 - - hI hF; dsimp only [z03,bare]; simp only [z01,Act.put,zQ]; have hv9:=hI.2.1; have y0:=(z00 hv9 0).1; have y1:=(z00 hv9 1).1; have y2:=(z00 hv9 2).1
   go_wp2
   exact zX hI rfl
  iterate 2
   ·
    rintro vals xw f hf1 - - hI hF; dsimp only [z03,bare]; simp only [z01,Act.put,zQ]
    go_wp2
    exact zX hI rfl
  ·
   rintro vals xw f hf1 - - hI hF; simp only [z05,zF,zR,and_true] at hF; have e1:=hF; dsimp only [z03,bare]; simp only [z01,Act.put,zQ]; simp only [e1]; have HI:=zH hI; have hb0:=(HBX.out xw _ hI).2; have HB0:=zH hb0; have hsz9:=hI.2.2.2.2.2; clear hI hb0
   go_wp2_with fail
   refine (HTU.out xw HB0.out).mono ?_; rintro e wx ⟨B9,d9,rfl,h2,h3,h4⟩; have H3:=zH h3; have H4:=zH h4; clear h3 h4
   go_wp2
   exact ⟨rfl,⟨B9,d9,rfl,h2,H3.out.mono fun b hb => .inr ⟨Nat.le_trans hsz9 hb.1,hb.2.1⟩⟩,⟨zN rfl,fun _ => H4.out⟩,HI.out.up HF.out H4.out⟩
  ·
   rintro vals xw f hf1 - - hI hF; simp only [z05,zF,zR,and_true] at hF; obtain ⟨e1,e2,⟨B2,d2,e3,h4,h5⟩⟩:=hF; dsimp only [z03,bare]; simp only [z01,Act.put,zQ]; simp only [e1,e2,e3]; have HI:=zH hI; have hsz9:=hI.2.2.2.2.2; have HC:=zH (HADD.out B2 d2 xw hI.2.2.2.2.1 (fun b hb => Nat.lt_of_lt_of_le (HFX.out b hb) hsz9) (HBX.out xw _ hI).1 (h5.mono fun b hb => hb.elim (fun h => h.elim) (fun h => h.2))); clear hI h5
   go_wp2_with fail
   refine HC.out.mono ?_; rintro e wx ⟨A9,c9,B9,d9,rfl,h6,h7,h8,h9,h10,h11⟩; have H7:=zH h7; have H9:=zH h9; have H10:=zH h10; have H11:=zH h11; clear h7 h9 h10 h11 HC
   go_wp2
   exact ⟨rfl,⟨⟨A9,c9,B9,d9,rfl,h6,H7.out.mono fun b hb => hb.imp id fun z => ⟨Nat.le_trans hsz9 z.1,z.2⟩,h8,H9.out.mono fun b hb => .inr ⟨Nat.le_trans hsz9 hb.1,hb.2⟩,Nat.le_trans hsz9 H11.out.size⟩,H10.out⟩,⟨zN rfl,fun _ => H11.out⟩,HI.out.up HF.out H11.out⟩
  ·
   rintro vals xw f hf1 - - hI hF; simp only [z05,zF,zR,and_true] at hF; obtain ⟨⟨A9,c9,B9,d9,e1,h2,h3,h4,h5,h6⟩,-⟩:=hF; dsimp only [z03,bare]; simp only [z01,Act.put,zQ]; simp only [e1]
   go_wp2
   exact ⟨rfl,⟨A9,c9,rfl,h2,h3,h6⟩,⟨zN rfl,fun _ => Below.refl _ _⟩,hI⟩
  ·
   rintro vals xw f hf1 - - hI hF; simp only [z05,zF,zR,and_true] at hF; obtain ⟨⟨A9,c9,B9,d9,e1,h2,h3,h4,h5,h6⟩,h7⟩:=hF; dsimp only [z03,bare]; simp only [z01,Act.put,zQ]; simp only [e1]
   go_wp2
   exact ⟨rfl,⟨⟨B9,d9,rfl,h4,h5⟩,h7⟩,⟨zN rfl,fun _ => Below.refl _ _⟩,hI⟩
  ·
   rintro vals xw f hf1 - - hI hF; simp only [z05,zF,zR,and_true] at hF; obtain ⟨A9,c9,e1,h2,h3,h4⟩:=hF; dsimp only [z03,bare]; simp only [z01,Act.put,zQ]; simp only [e1]; rw [hf1] at hI; have HI:=zH hI; have hr9:=hI.2.2.1 rfl; have r0:=(z00 hr9 0).1; have r1:=(z00 hr9 1).1; have r2:=(z00 hr9 2).1; have rf0:=(z00 hr9 0).2; have rf1:=(z00 hr9 1).2; have rf2:=(z00 hr9 2).2; have H3:=zH h3; clear hI hr9 h3 h4
   go_wp2
   have hst:=HI.out.st (A2:=A9) (c2:=c9) HF.out HXS.out H3.out h2; exact ⟨rfl,trivial,⟨fun _ => hst.2,fun h9 => absurd rfl h9⟩,show UnI F w X0 k A c T.1 (did f 7 7) _ from (by rw [z0h]; exact hst.1)⟩
  ·
   rintro vals xw f hf1 - - hI hF; simp only [z05,zF,zR,and_true] at hF; obtain ⟨⟨B9,d9,e1,h2,h3⟩,h7⟩:=hF; dsimp only [z03,bare]; simp only [z01,Act.put,zQ]; simp only [e1]
   go_wp2
   exact ⟨rfl,⟨⟨B9,d9,rfl,h2,h3⟩,h7⟩,⟨zN rfl,fun _ => Below.refl _ _⟩,hI⟩
  ·
   intro vals xw f hall hI hF; rw [show List.range _ = [0,1,2,3,4,5,6,7,8] from rfl] at hF; simp only [says,zF,zR,and_true] at hF; have i9 : UnI F w X0 k A c T.1 (f 7) xw:=hI; rw [hall 7 (by decide)] at i9; obtain ⟨i1,i2,_,i4,i5,i6⟩:=i9; obtain ⟨A8,c8,g1,g2,g3⟩:=i4 rfl; have hrow9 : URow X0 T.2 (vals 8) xw /\ ∀ m ∈ T.2,RB m:=by obtain ⟨_,_,_,_,_,_,_,_,h9⟩:=hF; exact h9
   have HRB9:=zH hrow9.2; obtain ⟨B8,d8,e8,hd8,hs8⟩:=hrow9.1; clear hrow9; simp only [z01,Act.put,zQ]; simp only [e8]; have k5:=(z00 g1 0).1; have k6:=(z00 g1 1).1; have k7:=(z00 g1 2).1; have kf5:=(z00 g1 0).2; have kf6:=(z00 g1 1).2; have kf7:=(z00 g1 2).2; have I1:=zH i1; have G3:=zH g3; have HS8:=zH hs8; clear hI hF i1 i2 i4 i5 g1 g3 hs8 e8
   go_wp2
   refine bodyPost_ret (v:=.tuple #[.agg #[.int .i64 T.1.1.ins,.slice A8 T.1.1.gs.length c8,.bool T.1.2],.slice B8 (T.2).length d8]) (by simp [results,Tryz.results42,go_sem,k5,k6,k7,kf5,kf6,kf7]) rfl ?_; exact ⟨A8,c8,B8,d8,rfl,g2,G3.out.mono fun b hb => hb.imp id fun h9 => ⟨by have:=HXS.out; omega,h9.2⟩,hd8,HS8.out.mono fun b hb => hb.elim (fun h => h.elim) fun h9 => ⟨by have:=HXS.out; omega,h9.2⟩,HRB9.out,I1.out⟩
 ·
  have HC:=zH (l7Mul_any _ A c k X Y cx cy xs ys _ K0.out.row (K0.out.lt HF.out) K0.out.nil HNB.out HX.out HY.out HXM.out HYM.out (HL.out (by decide)) (by omega)); rw [show binP 8 xs ys = mulP xs ys 0 (List.replicate xs.length (-1)) from rfl]; generalize run opsR (mulP xs ys 0 (List.replicate xs.length (-1))) k = T at *
  go_enter Tryz.func42,Tryz.ntmps42
  go_wp2_with fail
  refine HC.out.mono ?_; rintro e z9 ⟨A9,c9,B9,d9,rfl,hn9,hs9,hd9,hl9,hm9,hb9⟩; have hr9:=(hb9.block _ (lt_of_block K0.out.res)).trans K0.out.res; clear y0 y1 y2 HC; have r0:=(z00 hr9 0).1; have rf0:=(z00 hr9 0).2; have r1:=(z00 hr9 1).1; have rf1:=(z00 hr9 1).2; have r2:=(z00 hr9 2).1; have rf2:=(z00 hr9 2).2; have HS9:=zH hs9; have HB9:=zH hb9; have HR9:=zH hr9; have HL9:=zH hl9; have HM9:=zH hm9; have HN9:=zH hn9; clear hs9 hb9 hr9 hl9 hm9 hn9
  go_wp2
  have hs:=z0s HR9.out (.int .i64 T.1.1.ins) (.slice A9 T.1.1.gs.length c9) (.bool T.1.2); have k5:=(z00 hs 0).1; have kf5:=(z00 hs 0).2; have k6:=(z00 hs 1).1; have kf6:=(z00 hs 1).2; have k7:=(z00 hs 2).1; have kf7:=(z00 hs 2).2; refine bodyPost_ret (v:=.tuple #[.agg #[.int .i64 T.1.1.ins,.slice A9 T.1.1.gs.length c9,.bool T.1.2],.slice B9 T.2.length d9]) (by simp [results,Tryz.results42,go_sem,k5,k6,k7,kf5,kf6,kf7]) rfl ?_; exact K0.out.outL HF.out HS9.out HB9.out HN9.out hd9 HL9.out HM9.out
 ·
  have HC:=zH (l7Div_any _ A c k X Y cx cy xs ys _ K0.out.row (K0.out.lt HF.out) K0.out.nil HNB.out HX.out HY.out HXM.out HYM.out (HL.out (by decide)) (by omega)); rw [show run opsR (binP 9 xs ys) k = ((run opsR (divP xs (ys ++ [-1]) xs.length (List.replicate xs.length (-1)) (List.replicate xs.length (-1))) k).1,(run opsR (divP xs (ys ++ [-1]) xs.length (List.replicate xs.length (-1)) (List.replicate xs.length (-1))) k).2.1) from by rw [show binP 9 xs ys = (divP xs (ys ++ [-1]) xs.length (List.replicate xs.length (-1)) (List.replicate xs.length (-1))).bind fun z => .ret z.1 from rfl,run_bind]; rfl]; generalize run opsR (divP xs (ys ++ [-1]) xs.length (List.replicate xs.length (-1)) (List.replicate xs.length (-1))) k = T at *
  go_enter Tryz.func42,Tryz.ntmps42
  go_wp2_with fail
  refine HC.out.mono ?_; rintro e z9 ⟨A9,c9,B8,d8,B7,d7,rfl,hn9,hs9,hd8,hd7,hl8,hl7,hm8,hm7,hb9⟩; have hr9:=(hb9.block _ (lt_of_block K0.out.res)).trans K0.out.res; clear y0 y1 y2 HC; have hlt9 : w.heap.size + 1 < z9.heap.size:=lt_of_block hr9; have r0:=(z00 hr9 0).1; have rf0:=(z00 hr9 0).2; have r1:=(z00 hr9 1).1; have rf1:=(z00 hr9 1).2; have r2:=(z00 hr9 2).1; have rf2:=(z00 hr9 2).2; have HS9:=zH hs9; have HB9:=zH hb9; have HR9:=zH hr9; have HL9:=zH hl8; have HM9:=zH hm8; have HN9:=zH hn9; clear hs9 hb9 hr9 hl8 hm8 hl7 hm7 hn9
  go_wp2
  have hs0:=z0s HR9.out (.int .i64 T.1.1.ins) (.slice A9 T.1.1.gs.length c9) (.bool T.1.2); have hal9 : Below (st3 z9 (w.heap.size + 1) (.int .i64 T.1.1.ins) (.slice A9 T.1.1.gs.length c9) (.bool T.1.2)).heap.size (st3 z9 (w.heap.size + 1) (.int .i64 T.1.1.ins) (.slice A9 T.1.1.gs.length c9) (.bool T.1.2)) ((st3 z9 (w.heap.size + 1) (.int .i64 T.1.1.ins) (.slice A9 T.1.1.gs.length c9) (.bool T.1.2)).alloc (.cells #[.int .i64 T.1.1.ins,.slice A9 T.1.1.gs.length c9,.bool T.1.2] 85)):=(Below.refl _ _).alloc (Nat.le_refl _) _; have hs:=(hal9.block _ (lt_of_block hs0)).trans hs0; have k5:=(z00 hs 0).1; have kf5:=(z00 hs 0).2; have k6:=(z00 hs 1).1; have kf6:=(z00 hs 1).2; have k7:=(z00 hs 2).1; have kf7:=(z00 hs 2).2; refine bodyPost_ret (v:=.tuple #[.agg #[.int .i64 T.1.1.ins,.slice A9 T.1.1.gs.length c9,.bool T.1.2],.slice B8 T.2.1.length d8]) (by simp [results,Tryz.results42,go_sem,k5,k6,k7,kf5,kf6,kf7]) rfl ?_; exact (K0.out.outL HF.out HS9.out HB9.out HN9.out hd8 HL9.out HM9.out).up HF.out hal9
 ·
  have HC:=zH (l7Div_any _ A c k X Y cx cy xs ys _ K0.out.row (K0.out.lt HF.out) K0.out.nil HNB.out HX.out HY.out HXM.out HYM.out (HL.out (by decide)) (by omega)); rw [show run opsR (binP 10 xs ys) k = ((run opsR (divP xs (ys ++ [-1]) xs.length (List.replicate xs.length (-1)) (List.replicate xs.length (-1))) k).1,(run opsR (divP xs (ys ++ [-1]) xs.length (List.replicate xs.length (-1)) (List.replicate xs.length (-1))) k).2.2) from by rw [show binP 10 xs ys = (divP xs (ys ++ [-1]) xs.length (List.replicate xs.length (-1)) (List.replicate xs.length (-1))).bind fun z => .ret z.2 from rfl,run_bind]; rfl]; generalize run opsR (divP xs (ys ++ [-1]) xs.length (List.replicate xs.length (-1)) (List.replicate xs.length (-1))) k = T at *
  go_enter Tryz.func42,Tryz.ntmps42
  go_wp2_with fail
  refine HC.out.mono ?_; rintro e z9 ⟨A9,c9,B8,d8,B7,d7,rfl,hn9,hs9,hd8,hd7,hl8,hl7,hm8,hm7,hb9⟩; have hr9:=(hb9.block _ (lt_of_block K0.out.res)).trans K0.out.res; clear y0 y1 y2 HC; have hlt9 : w.heap.size + 1 < z9.heap.size:=lt_of_block hr9; have r0:=(z00 hr9 0).1; have rf0:=(z00 hr9 0).2; have r1:=(z00 hr9 1).1; have rf1:=(z00 hr9 1).2; have r2:=(z00 hr9 2).1; have rf2:=(z00 hr9 2).2; have HS9:=zH hs9; have HB9:=zH hb9; have HR9:=zH hr9; have HL9:=zH hl7; have HM9:=zH hm7; have HN9:=zH hn9; clear hs9 hb9 hr9 hl8 hm8 hl7 hm7 hn9
  go_wp2
  have hs0:=z0s HR9.out (.int .i64 T.1.1.ins) (.slice A9 T.1.1.gs.length c9) (.bool T.1.2); have hal9 : Below (st3 z9 (w.heap.size + 1) (.int .i64 T.1.1.ins) (.slice A9 T.1.1.gs.length c9) (.bool T.1.2)).heap.size (st3 z9 (w.heap.size + 1) (.int .i64 T.1.1.ins) (.slice A9 T.1.1.gs.length c9) (.bool T.1.2)) ((st3 z9 (w.heap.size + 1) (.int .i64 T.1.1.ins) (.slice A9 T.1.1.gs.length c9) (.bool T.1.2)).alloc (.cells #[.int .i64 T.1.1.ins,.slice A9 T.1.1.gs.length c9,.bool T.1.2] 85)):=(Below.refl _ _).alloc (Nat.le_refl _) _; have hs:=(hal9.block _ (lt_of_block hs0)).trans hs0; have k5:=(z00 hs 0).1; have kf5:=(z00 hs 0).2; have k6:=(z00 hs 1).1; have kf6:=(z00 hs 1).2; have k7:=(z00 hs 2).1; have kf7:=(z00 hs 2).2; refine bodyPost_ret (v:=.tuple #[.agg #[.int .i64 T.1.1.ins,.slice A9 T.1.1.gs.length c9,.bool T.1.2],.slice B7 T.2.2.length d7]) (by simp [results,Tryz.results42,go_sem,k5,k6,k7,kf5,kf6,kf7]) rfl ?_; exact (K0.out.outL HF.out HS9.out HB9.out HN9.out hd7 HL9.out HM9.out).up HF.out hal9
 ·
  have HC:=zH (l7Shift_11 _ A c k X Y cx cy xs ys _ K0.out.row (K0.out.lt HF.out) K0.out.nil HNB.out HX.out HY.out HXM.out HYM.out (by omega) (by omega)); rw [show binP 11 xs ys = z0z true (-1) ys 0 xs from rfl]; generalize run opsR (z0z true (-1) ys 0 xs) k = T at *
  go_enter Tryz.func42,Tryz.ntmps42
  go_wp2_with fail
  refine HC.out.mono ?_; rintro e z9 ⟨A9,c9,B9,d9,rfl,hn9,hs9,hd9,hl9,hm9,hb9⟩; have hr9:=(hb9.block _ (lt_of_block K0.out.res)).trans K0.out.res; clear y0 y1 y2 HC; have r0:=(z00 hr9 0).1; have rf0:=(z00 hr9 0).2; have r1:=(z00 hr9 1).1; have rf1:=(z00 hr9 1).2; have r2:=(z00 hr9 2).1; have rf2:=(z00 hr9 2).2; have HS9:=zH hs9; have HB9:=zH hb9; have HR9:=zH hr9; have HL9:=zH hl9; have HM9:=zH hm9; have HN9:=zH hn9; clear hs9 hb9 hr9 hl9 hm9 hn9
  go_wp2
  have hs:=z0s HR9.out (.int .i64 T.1.1.ins) (.slice A9 T.1.1.gs.length c9) (.bool T.1.2); have k5:=(z00 hs 0).1; have kf5:=(z00 hs 0).2; have k6:=(z00 hs 1).1; have kf6:=(z00 hs 1).2; have k7:=(z00 hs 2).1; have kf7:=(z00 hs 2).2; refine bodyPost_ret (v:=.tuple #[.agg #[.int .i64 T.1.1.ins,.slice A9 T.1.1.gs.length c9,.bool T.1.2],.slice B9 T.2.length d9]) (by simp [results,Tryz.results42,go_sem,k5,k6,k7,kf5,kf6,kf7]) rfl ?_; exact K0.out.outL HF.out HS9.out HB9.out HN9.out hd9 HL9.out HM9.out
 ·
  have HC:=zH (l7Shift_12 _ A c k X Y cx cy xs ys _ K0.out.row (K0.out.lt HF.out) K0.out.nil HNB.out HX.out HY.out HXM.out HYM.out (by omega) (by omega)); rw [show binP 12 xs ys = z0z false (-1) ys 0 xs from rfl]; generalize run opsR (z0z false (-1) ys 0 xs) k = T at *
  go_enter Tryz.func42,Tryz.ntmps42
  go_wp2_with fail
  refine HC.out.mono ?_; rintro e z9 ⟨A9,c9,B9,d9,rfl,hn9,hs9,hd9,hl9,hm9,hb9⟩; have hr9:=(hb9.block _ (lt_of_block K0.out.res)).trans K0.out.res; clear y0 y1 y2 HC; have r0:=(z00 hr9 0).1; have rf0:=(z00 hr9 0).2; have r1:=(z00 hr9 1).1; have rf1:=(z00 hr9 1).2; have r2:=(z00 hr9 2).1; have rf2:=(z00 hr9 2).2; have HS9:=zH hs9; have HB9:=zH hb9; have HR9:=zH hr9; have HL9:=zH hl9; have HM9:=zH hm9; have HN9:=zH hn9; clear hs9 hb9 hr9 hl9 hm9 hn9
  go_wp2
  have hs:=z0s HR9.out (.int .i64 T.1.1.ins) (.slice A9 T.1.1.gs.length c9) (.bool T.1.2); have k5:=(z00 hs 0).1; have kf5:=(z00 hs 0).2; have k6:=(z00 hs 1).1; have kf6:=(z00 hs 1).2; have k7:=(z00 hs 2).1; have kf7:=(z00 hs 2).2; refine bodyPost_ret (v:=.tuple #[.agg #[.int .i64 T.1.1.ins,.slice A9 T.1.1.gs.length c9,.bool T.1.2],.slice B9 T.2.length d9]) (by simp [results,Tryz.results42,go_sem,k5,k6,k7,kf5,kf6,kf7]) rfl ?_; exact K0.out.outL HF.out HS9.out HB9.out HN9.out hd9 HL9.out HM9.out
 ·
  have HC:=zH (l7Shift_13 _ A c k X Y cx cy xs ys (xs.getD (xs.length - 1) 0) (by rw [List.getD_eq_getElem?_getD,List.getElem?_eq_getElem (by omega : xs.length - 1 < xs.length)]; rfl) _ K0.out.row (K0.out.lt HF.out) K0.out.nil HNB.out HX.out HY.out HXM.out HYM.out (by omega) (by omega)); rw [show binP 13 xs ys = z0z false (xs.getD (xs.length - 1) 0) ys 0 xs from rfl]; generalize run opsR (z0z false (xs.getD (xs.length - 1) 0) ys 0 xs) k = T at *
  go_enter Tryz.func42,Tryz.ntmps42
  go_wp2_with fail
  refine HC.out.mono ?_; rintro e z9 ⟨A9,c9,B9,d9,rfl,hn9,hs9,hd9,hl9,hm9,hb9⟩; have hr9:=(hb9.block _ (lt_of_block K0.out.res)).trans K0.out.res; clear y0 y1 y2 HC; have r0:=(z00 hr9 0).1; have rf0:=(z00 hr9 0).2; have r1:=(z00 hr9 1).1; have rf1:=(z00 hr9 1).2; have r2:=(z00 hr9 2).1; have rf2:=(z00 hr9 2).2; have HS9:=zH hs9; have HB9:=zH hb9; have HR9:=zH hr9; have HL9:=zH hl9; have HM9:=zH hm9; have HN9:=zH hn9; clear hs9 hb9 hr9 hl9 hm9 hn9
  go_wp2
  have hs:=z0s HR9.out (.int .i64 T.1.1.ins) (.slice A9 T.1.1.gs.length c9) (.bool T.1.2); have k5:=(z00 hs 0).1; have kf5:=(z00 hs 0).2; have k6:=(z00 hs 1).1; have kf6:=(z00 hs 1).2; have k7:=(z00 hs 2).1; have kf7:=(z00 hs 2).2; refine bodyPost_ret (v:=.tuple #[.agg #[.int .i64 T.1.1.ins,.slice A9 T.1.1.gs.length c9,.bool T.1.2],.slice B9 T.2.length d9]) (by simp [results,Tryz.results42,go_sem,k5,k6,k7,kf5,kf6,kf7]) rfl ?_; exact K0.out.outL HF.out HS9.out HB9.out HN9.out hd9 HL9.out HM9.out
 ·
  rw [show run opsR (binP 14 xs ys) k = (k,ys ++ xs) from rfl]; obtain ⟨zs,hzs⟩ : ∃ zs,zs = ys ++ xs:=⟨_,rfl⟩; rw [<- hzs]; have HZ:=zH hzs; have HZM : Hid (∀ m ∈ zs,RB m):=zH fun m hm => by rw [hzs] at hm; exact (List.mem_append.1 hm).elim (HYM.out m) (HXM.out m)
  clear hzs; have HUN:=zH (show CatI F w ((w.alloc (.cells #[.int .i64 k.1.ins,.slice A k.1.gs.length c,.bool k.2] 85)).alloc (.cells #[.int .i64 0,.slice none 0 0,.bool false] 85)) k A c false ((w.alloc (.cells #[.int .i64 k.1.ins,.slice A k.1.gs.length c,.bool k.2] 85)).alloc (.cells #[.int .i64 0,.slice none 0 0,.bool false] 85)) from ⟨K0.out.bel,K0.out.var,fun _ => K0.out.res,fun h => (by cases h),HG.out.below K0.out.bel HF.out,Nat.le_refl _⟩); have HXS:=zH (show w.heap.size + 1 < ((w.alloc (.cells #[.int .i64 k.1.ins,.slice A k.1.gs.length c,.bool k.2] 85)).alloc (.cells #[.int .i64 0,.slice none 0 0,.bool false] 85)).heap.size by simp); have HXN:=zH (rd_nil HX.out); have HYN:=zH (rd_nil HY.out); clear y0 y1 y2 K0 HX HY HL
  go_enter Tryz.func42,Tryz.ntmps42
  go_wp2
  generalize hX0 : (w.alloc (.cells #[.int .i64 k.1.ins,.slice A k.1.gs.length c,.bool k.2] 85)).alloc (.cells #[.int .i64 0,.slice none 0 0,.bool false] 85) = X0 at *; clear hX0; refine wp_region_rel5 [[],[],[],[(1,80),(2,81)],[],[(3,82),(4,83)],[(0,79)],[(5,84)]]
   (fun x9 y9 => Below x9.heap.size x9 y9)
   [(3,fun x9 y9 => Below X0.heap.size x9 y9),(5,fun x9 y9 => Below X0.heap.size x9 y9),(6,fun x9 y9 => x9.grownBy y9 (some (w.heap.size + 1)))]
   (fun f9 x9 => CatI F w X0 k A c (f9 6) x9)
   [fun vs9 _ => vs9 0 = (.agg #[.int .i64 k.1.ins,.slice A k.1.gs.length c,.bool k.2]),
    fun vs9 y9 => (fun v z => CatL X0 v z) (vs9 1) y9,
    fun vs9 _ => vs9 2 = (.slice Y ys.length cy),
    fun vs9 y9 => (fun v z => CatR X0 ys v z) (vs9 3) y9,
    fun vs9 _ => vs9 4 = (.slice X xs.length cx),
    fun vs9 y9 => (fun v z => CatR X0 zs v z) (vs9 5) y9,
    fun _ _ => True,
    fun vs9 y9 => (fun v z => CatR X0 zs v z) (vs9 7) y9]
   [none,some 3,none,some 5,none,none,none,none] [(0,79),(1,80),(2,81),(3,82),(4,83),(5,84),(7,9)] (by kernel_rfl) (by kernel_rfl) (by kernel_rfl) (by kernel_rfl)
   (fun _ => Below.refl _ _) ⟨fun _ => Below.refl _ _,fun _ => Below.refl _ _,fun _ => World.grownBy.refl _ _,trivial⟩ (by kernel_rfl)
   ⟨⟨.inr zK,⟨.inr (.inr zK),.inr (.inr zK),.inr (.inr zK),trivial⟩⟩,
    ⟨.inr (zS (fun v z => CatL X0 v z) (fun _ _ _ h9 hR => h9.up hR)),⟨.inl (by kernel_rfl),.inl (by kernel_rfl),.inr (.inr (zS (fun v z => CatL X0 v z) (fun _ _ _ h9 hR => h9.st hR HXS.out))),trivial⟩⟩,
    ⟨.inr zK,⟨.inr (.inr zK),.inr (.inr zK),.inr (.inr zK),trivial⟩⟩,
    ⟨.inr (zS (fun v z => CatR X0 ys v z) (fun _ _ _ h9 hR => h9.up hR)),⟨.inr (.inl rfl),.inl (by kernel_rfl),.inr (.inr (zS (fun v z => CatR X0 ys v z) (fun _ _ _ h9 hR => h9.st hR HXS.out))),trivial⟩⟩,
    ⟨.inr zK,⟨.inr (.inr zK),.inr (.inr zK),.inr (.inr zK),trivial⟩⟩,
    ⟨.inr (zS (fun v z => CatR X0 zs v z) (fun _ _ _ h9 hR => h9.up hR)),⟨.inl (by kernel_rfl),.inr (.inl rfl),.inr (.inr (zS (fun v z => CatR X0 zs v z) (fun _ _ _ h9 hR => h9.st hR HXS.out))),trivial⟩⟩,
    ⟨.inr zK,⟨.inr (.inr zK),.inr (.inr zK),.inr (.inl rfl),trivial⟩⟩,
    ⟨.inr (zS (fun v z => CatR X0 zs v z) (fun _ _ _ h9 hR => h9.up hR)),⟨.inl (by kernel_rfl),.inl (by kernel_rfl),.inr (.inr (zS (fun v z => CatR X0 zs v z) (fun _ _ _ h9 hR => h9.st hR HXS.out))),trivial⟩⟩,trivial⟩ ⟨fun _ _ _ h _ v => (by simpa only [<- h] using v),
    fun _ _ _ h _ v => (by simpa only [<- h] using v),
    fun _ _ _ h _ v => (by simpa only [<- h] using v),
    fun _ _ _ h _ v => (by simpa only [<- h] using v),
    fun _ _ _ h _ v => (by simpa only [<- h] using v),
    fun _ _ _ h _ v => (by simpa only [<- h] using v),
    fun _ _ _ _ _ _ => trivial,
    fun _ _ _ h _ v => (by simpa only [<- h] using v),trivial⟩ (HUN.out.up HF.out HXS.out (z02 (Below.refl _ _) 1)) ⟨?_,?_,?_,?_,?_,?_,?_,?_,trivial⟩ ?_
  ·
   rintro vals xw f hf1 - - hI hF; dsimp only [z03,bare]; simp only [z01,Act.put,zQ]; have hv9:=hI.2.1; have y0:=(z00 hv9 0).1; have y1:=(z00 hv9 1).1; have y2:=(z00 hv9 2).1
   go_wp2
   exact ⟨rfl,rfl,⟨zN rfl,fun _ => ⟨zN rfl,fun _ => ⟨zN rfl,fun _ => Below.refl _ _⟩⟩⟩,hI⟩
  ·
   rintro vals xw f hf1 - - hI hF; dsimp only [z03,bare]; simp only [z01,Act.put,zQ]; have HI:=zH hI; have hsz9:=hI.2.2.2.2.2; clear hI
   go_wp2
   exact ⟨rfl,⟨_,rfl,own_mono (own_lit0I xw) hsz9⟩,⟨zN rfl,fun _ => ⟨zN rfl,fun _ => ⟨zN rfl,fun _ => (Below.refl _ _).alloc (Nat.le_refl _) _⟩⟩⟩,HI.out.up HF.out HXS.out ((Below.refl _ _).alloc hsz9 _)⟩
  ·
   rintro vals xw f hf1 - - hI hF; dsimp only [z03,bare]; simp only [z01,Act.put,zQ]
   go_wp2
   exact ⟨rfl,rfl,⟨zN rfl,fun _ => ⟨zN rfl,fun _ => ⟨zN rfl,fun _ => Below.refl _ _⟩⟩⟩,hI⟩
  ·
   rintro vals xw f hf1 - - hI hF; simp only [z05,zF,zR,and_true] at hF; obtain ⟨⟨A9,e1,ho9⟩,e2⟩:=hF; dsimp only [z03,bare]; simp only [z01,Act.put,zQ]; simp only [e1,e2]; have HI:=zH hI; have hsz9:=hI.2.2.2.2.2; have hyr:=(HXB.out xw hI.1).2; clear hI
   at_builtin; refine z10 (zs:=ys) (by rfl) (.tmp 80) (.tmp 81) (by rfl) (by rfl) (by rfl) ho9 hyr HYN.out (by simp; omega) hsz9 (by simp) ?_; intro X5 d5 w5 ho5 hb5 hg5
   exact ⟨rfl,⟨X5,d5,rfl,ho5⟩,⟨fun _ => hb5,fun h9 => absurd rfl h9⟩,HI.out.up HF.out HXS.out hb5⟩
  ·
   rintro vals xw f hf1 - - hI hF; dsimp only [z03,bare]; simp only [z01,Act.put,zQ]
   go_wp2
   exact ⟨rfl,rfl,⟨zN rfl,fun _ => ⟨zN rfl,fun _ => ⟨zN rfl,fun _ => Below.refl _ _⟩⟩⟩,hI⟩
  ·
   rintro vals xw f hf1 - - hI hF; simp only [z05,zF,zR,and_true] at hF; obtain ⟨⟨A9,c9,e1,ho9⟩,e2⟩:=hF; dsimp only [z03,bare]; simp only [z01,Act.put,zQ]; simp only [e1,e2]; have HI:=zH hI; have hsz9:=hI.2.2.2.2.2; have hxr:=(HXB.out xw hI.1).1; clear hI
   at_builtin; refine z10 (zs:=zs) (by rfl) (.tmp 82) (.tmp 83) (by rfl) (by rfl) (by rfl) ho9 hxr HXN.out (by omega) hsz9 HZ.out ?_; intro X5 d5 w5 ho5 hb5 hg5
   exact ⟨rfl,⟨X5,d5,rfl,ho5⟩,⟨zN rfl,fun _ => ⟨fun _ => hb5,fun h9 => absurd rfl h9⟩⟩,HI.out.up HF.out HXS.out hb5⟩
  ·
   rintro vals xw f hf1 - - hI hF; simp only [z05,zF,zR,and_true] at hF; have e1:=hF; dsimp only [z03,bare]; simp only [z01,Act.put,zQ]; simp only [e1]; rw [hf1] at hI; have HI:=zH hI; have hr9:=hI.2.2.1 rfl; have r0:=(z00 hr9 0).1; have r1:=(z00 hr9 1).1; have r2:=(z00 hr9 2).1; have rf0:=(z00 hr9 0).2; have rf1:=(z00 hr9 1).2; have rf2:=(z00 hr9 2).2; have HR9:=zH hr9; clear hI hr9
   go_wp2
   have hgr : xw.grownBy (st3 xw (w.heap.size + 1) (.int .i64 k.1.ins) (.slice A k.1.gs.length c) (.bool k.2)) (some (w.heap.size + 1)):=z06 (z06 (z06 (World.grownBy.refl _ _) _ _) _ _) _ _; exact ⟨rfl,trivial,⟨zN rfl,fun _ => ⟨zN rfl,fun _ => ⟨fun _ => hgr,fun h9 => absurd rfl h9⟩⟩⟩,show CatI F w X0 k A c (did f 6 6) _ from (by rw [z0h]; exact ⟨z0i HI.out.1 (by omega) _ _ _,(st3_other (by omega)).trans HI.out.2.1,fun h => (by cases h),fun _ => z0s HR9.out _ _ _,z1a HI.out.2.2.2.2.1 (fun b hb e => by have:=HF.out b hb; omega) _ _ _,by rw [z0o]; exact HI.out.2.2.2.2.2⟩)⟩
  ·
   rintro vals xw f hf1 - - hI hF; simp only [z05,zF,zR,and_true] at hF; obtain ⟨A9,c9,e1,ho9⟩:=hF; dsimp only [z03,bare]; simp only [z01,Act.put,zQ]; simp only [e1]
   go_wp2
   exact ⟨rfl,⟨A9,c9,rfl,ho9⟩,⟨zN rfl,fun _ => ⟨zN rfl,fun _ => ⟨zN rfl,fun _ => Below.refl _ _⟩⟩⟩,hI⟩
  ·
   intro vals xw f hall hI hF; rw [show ((List.range _).filter fun i => (([none,some 3,none,some 5,none,none,none,none] : List (Option Nat)).getD i none).isNone) = [0,2,4,5,6,7] from by decide] at hF; simp only [says,zF,zR,and_true] at hF; have i9 : CatI F w X0 k A c (f 6) xw:=hI; rw [hall 6 (by decide)] at i9; obtain ⟨i1,i2,_,i4,i5,i6⟩:=i9; have g1:=i4 rfl; obtain ⟨B8,d8,e8,ho8⟩ : CatR X0 zs (vals 7) xw:=by obtain ⟨_,_,_,_,_,h9⟩:=hF; exact h9
   simp only [z01,Act.put,zQ]; simp only [e8]; have k5:=(z00 g1 0).1; have k6:=(z00 g1 1).1; have k7:=(z00 g1 2).1; have kf5:=(z00 g1 0).2; have kf6:=(z00 g1 1).2; have kf7:=(z00 g1 2).2; have I1:=zH i1; have I5:=zH i5; have HO8:=zH ho8; clear hI hF i1 i2 i4 i5 g1 ho8 e8
   go_wp2
   refine bodyPost_ret (v:=.tuple #[.agg #[.int .i64 k.1.ins,.slice A k.1.gs.length c,.bool k.2],.slice B8 zs.length d8]) (by simp [results,Tryz.results42,go_sem,k5,k6,k7,kf5,kf6,kf7]) rfl ?_; obtain ⟨B7,d7,e7,hcap,hsl⟩:=HO8.out.form
   injection e7 with e1 e2 e3
   subst e1 e3; exact ⟨A,c,B8,d8,rfl,HNIL.out,I5.out.mono fun b hb => .inl hb,hcap,hsl.mono fun b hb => ⟨by have:=HXS.out; omega,hb.2⟩,HZM.out,I1.out⟩
end Go.Proofs.YtemdmlmcidfodaaGreatDoor
