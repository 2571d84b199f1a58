/- Programs of gates for products, quotients, shifts; bounds of what programs answer. -/
import Derived.Lib.AppendZeros
import Derived.Test.YtemdmlmcidfodaaGreatDoorJFnBitsBin0
import Derived.Test.YtemdmlmcidfodaaGreatDoorJFnBitsBin8
import Derived.Test.YtemdmlmcidfodaaGreatDoorJFnBitsBin15
namespace Go.Proofs.YtemdmlmcidfodaaGreatDoor
open Go Go.RowKit
theorem grow_eq (n : Nat) (w : World) (h0 : 0 < n) (hn : n <= 4000) : ∃ c w2,(Builtin.append_ #[67,3] 67 #[.slice none 0 0,.int .i64 (n : Int)]).run Tryz.prog w = .ok (.slice (some ⟨w.heap.size,0,none⟩) n c) w2 /\ n <= c /\ c <= maxLen /\ z0u w2 w.heap.size (.slice (some ⟨w.heap.size,0,none⟩) 0 c) [] /\ Below w.heap.size w w2:=by
 obtain ⟨i0,hi0,hz0,hz1,hz2⟩:=info_parts z1x; have hr:=Lib.run_append_nil_zeros (P:=Tryz.prog) w 67 3 67 110 i0 _ .i64 .i64 Tryz.underlying67 Tryz.underlying3 hi0 hz0 n h0 (by omega) (by omega) (by rw [hz2]; omega); have hg:=grownCap_ge w n 0 110; have hl:=grownCap_le_maxLen w n 0 110 (by unfold maxLen; omega); generalize grownCap w n 0 110 = c at *; have hsz : (Builtin.zeroCells (Value.int .i64 0).cells n ++ Builtin.zeroCells (Value.int .i64 0).cells (c - n)).size = c:=by
  rw [Array.size_append,size_zeroCells,size_zeroCells,show (Value.int .i64 0).cells.size = 1 from rfl]; omega
 generalize Builtin.zeroCells (Value.int .i64 0).cells n ++ Builtin.zeroCells (Value.int .i64 0).cells (c - n) = cur at *; refine ⟨c,_,hr,hg,hl,⟨by simp,.inr ⟨w.heap.size,c,cur,rfl,Nat.le_refl _,heap_alloc_new w.drew _,Nat.zero_le _,hl,by rw [hsz,Nat.mul_one],by simp⟩⟩,?_⟩; exact (z02 (Below.refl _ _) 1).alloc (Nat.le_refl _) _
set_option maxRecDepth 100000 in
set_option maxHeartbeats 2000000 in
theorem growNil_any (n : Nat) (w : World) (hn : n <= 4000) : Calls Tryz.prog 104 #[.slice none 0 0,.int .i64 (n : Int)] w (RetOw [] w):=by
 rcases Nat.eq_zero_or_pos n with rfl | h0
 ·
  simp only [Int.cast_ofNat_Int]
  go_enter Tryz.func104,Tryz.ntmps104
  go_wp2
  go_ret
  exact ⟨none,0,rfl,z0u.nil _ _,Below.refl _ _⟩
 ·
  have hpos : (0 : Int) < n:=by omega
  obtain ⟨c,w2,hr,hc,hm,ho,hb⟩:=grow_eq n w h0 hn; have HR:=zH hr; have HO:=zH ho; have HB:=zH hb; unfold maxLen at hm; clear hr ho hb
  go_enter Tryz.func104,Tryz.ntmps104
  go_wp2_with (at_builtin; refine Lib.wpList_append_run _ (by rfl) (.tmp 20) (.tmp 21) _ _ (by rfl) _ _ (by rfl) (by rfl) _ _ HR.out ?_)
  go_ret
  exact ⟨_,c,rfl,HO.out,HB.out⟩
theorem z2e {Q : Exit -> Act -> World -> Prop} {ops : Array Oper} {rest : List Oper} {o : Oper} {a : Act} {w : World} {lo : Nat} {A Y : Option Addr} {c cy : Nat} {xs ys zs : List Int} (hgd : o.guard = none) (s y : Operand)
  (ho : o.op = .call { callee:=.builtin .append,args:=#[s,y],argTypes:=#[67,67] }) (hs : a.eval s = .slice A xs.length c) (hy : a.eval y = .slice Y ys.length cy)
  (hown : z0u w lo (.slice A xs.length c) xs) (hY : Lay.int.Rd w Y ys) (hYn : Y = none -> ys.length = 0) (hn : xs.length + ys.length <= 1048576) (hlo : lo <= w.heap.size) (hzs : zs = xs ++ ys)
  (h : ∀ A' c' w',z0u w' lo (.slice A' zs.length c') zs -> w.grownBy w' (Value.slice A xs.length c).ownBlock -> wpList Tryz.prog ops Q rest (a.put o.dst (.slice A' zs.length c')) w') : wpList Tryz.prog ops Q (o :: rest) a w:=by
 obtain ⟨i0,hi0,hz0,hz1,hz2⟩:=info_parts z1x; have hl : zs.length = xs.length + ys.length:=by rw [hzs]; simp
 have hc : zs.map (Value.int .i64) = xs.map (Value.int .i64) ++ ys.map (Value.int .i64):=by rw [hzs]; simp
 refine z0w (P:=Tryz.prog) w hgd s y 67 ho lo 110 i0 _ 1 8 Tryz.underlying67 hi0 hz0 hz1 hz2 (by rfl) (by omega) _ xs.length (xs.map (Value.int .i64)) hs hown Y ys.length cy (ys.map (Value.int .i64)) hy (src_ints hY) (ints_one _) zs.length hl.symm (by unfold maxLen; omega) (by omega) hlo hYn ?_; intro A' c' w' h2 _ h3; exact h A' c' w' (by unfold z0u; rw [hc]; exact h2) h3
set_option maxRecDepth 100000 in
set_option maxHeartbeats 4000000 in
theorem concat_any (X Y : Option Addr) (cx cy : Nat) (xs ys : List Int) (b : Nat) (t : TypeId) (w : World) (hb : w.heap[b]? = some (.cells #[.slice Y ys.length cy,.slice X xs.length cx] t (0,0))) (hX : Lay.int.Rd w X xs) (hY : Lay.int.Rd w Y ys) (hXn : X = none -> xs.length = 0) (hYn : Y = none -> ys.length = 0) (hn : xs.length <= 1000) (hn' : ys.length <= 1000) :
  Calls Tryz.prog 75 #[.slice (some ⟨b,0,none⟩) 2 2] w (RetOw (ys ++ xs) w):=by
 have z0:=(z00 hb 0).1; have z1:=(z00 hb 1).1; have HX:=zH hX; have HY:=zH hY; have HXN:=zH hXn; have HYN:=zH hYn; have HBX:=zH hb; have HG:=zH (growNil_any (ys.length + xs.length) w (by omega)); obtain ⟨zs,hzs⟩ : ∃ zs,zs = ys ++ xs:=⟨_,rfl⟩; have HZ:=zH hzs; rw [<- hzs]; clear hb hX hY hXn hYn hzs
 go_enter Tryz.func75,Tryz.ntmps75
 go_wp2
 go_loop [3,11] (fun sz i => (i = .int .i64 0 /\ sz = .int .i64 0) \/ (i = .int .i64 1 /\ sz = .int .i64 (ys.length : Int)) \/ (i = .int .i64 2 /\ sz = .int .i64 ((ys.length : Int) + xs.length))) (fun _ i => 2 - (intOf i).toNat)
 case atStart => exact .inl ⟨rfl,rfl⟩
 case round =>
  rcases hrel with ⟨rfl,rfl⟩ | ⟨rfl,rfl⟩ | ⟨rfl,rfl⟩
  ·
   go_wp2
   go_round
   case rel => exact .inr (.inl ⟨rfl,rfl⟩)
   case measure => simp [intOf]
  ·
   go_wp2
   go_round
   case rel => exact .inr (.inr ⟨rfl,rfl⟩)
   case measure => simp [intOf]
  ·
   rw [show (ys.length : Int) + (xs.length : Int) = ((ys.length + xs.length : Nat) : Int) by omega]; clear z0 z1
   go_wp2_with fail
   refine HG.out.mono ?_; rintro e w1 ⟨A1,c1,rfl,ho1,hb1⟩; have HO1:=zH ho1; have HB1:=zH hb1; clear ho1 hb1 HG
   go_wp2
   go_loopw [6,27] (fun nw i wr => ∃ (l : List Int) (A : Option Addr) (c : Nat),((i = .int .i64 0 /\ l = []) \/ (i = .int .i64 1 /\ l = ys) \/ (i = .int .i64 2 /\ l = zs)) /\ nw = .slice A l.length c /\ z0u wr w.heap.size (.slice A l.length c) l /\ Below w.heap.size w wr) (fun _ i _ => 2 - (intOf i).toNat)
   case atStart => exact ⟨[],A1,c1,.inl ⟨rfl,rfl⟩,rfl,HO1.out,HB1.out⟩
   case round =>
    obtain ⟨l,A,c,hil,rfl,hown,hbr⟩:=hrel; have hz:=(hbr.block b (lt_of_block HBX.out)).trans HBX.out; have z0:=(z00 hz 0).1; have z1:=(z00 hz 1).1; have HOWN:=zH hown; have HBR:=zH hbr; have hsz:=hbr.size; have HYR:=zH (HY.out.up hbr); have HXR:=zH (HX.out.up hbr); clear hz hown hbr
    rcases hil with ⟨rfl,hl⟩ | ⟨rfl,hl⟩ | ⟨rfl,hl⟩
    ·
     have HL:=zH (show ys = l ++ ys by rw [hl]; rfl); have hll : l.length + ys.length <= 1048576:=by rw [hl]; simp; omega
     clear hl
     go_wp2_with (at_builtin; refine z2e (zs:=ys) (by rfl) (.tmp 31) (.tmp 32) (by rfl) (by rfl) (by rfl) HOWN.out HYR.out HYN.out hll hsz HL.out ?_; intro A2 c2 w2 hown2 hg2)
     have hb2:=HBR.out.grown hg2 hsz fun g e => (HOWN.out.lt g e).1
     go_roundw
     case rel => exact ⟨ys,A2,c2,.inr (.inl ⟨rfl,rfl⟩),rfl,hown2,hb2⟩
     case measure => simp [intOf]
    ·
     have HL:=zH (show zs = l ++ xs by rw [hl,HZ.out]); have hll : l.length + xs.length <= 1048576:=by rw [hl]; omega
     clear hl
     go_wp2_with (at_builtin; refine z2e (zs:=zs) (by rfl) (.tmp 31) (.tmp 32) (by rfl) (by rfl) (by rfl) HOWN.out HXR.out HXN.out hll hsz HL.out ?_; intro A2 c2 w2 hown2 hg2)
     have hb2:=HBR.out.grown hg2 hsz fun g e => (HOWN.out.lt g e).1
     go_roundw
     case rel => exact ⟨zs,A2,c2,.inr (.inr ⟨rfl,rfl⟩),rfl,hown2,hb2⟩
     case measure => simp [intOf]
    ·
     subst hl
     go_wp2
     go_ret
     exact ⟨A,c,rfl,HOWN.out,HBR.out⟩
def catS (n : N) (xs ys : List Int) : BS × List Int:=(⟨n,z1g none (decide (4 < xs.length + ys.length)) 0⟩,ys ++ xs)
set_option maxHeartbeats 2000000 in
theorem bCat_any (a0 a1 : Addr) (lo q r : Nat) (n : N) (X Y : Option Addr) (cx cy : Nat) (xs ys : List Int) (w : World) (h : Bd a0 a1 lo w q r ⟨n,none⟩) (hX : Lay.int.Pl w X xs) (hY : Lay.int.Pl w Y ys) (hXn : X = none -> xs.length = 0) (hYn : Y = none -> ys.length = 0) (hxm : ∀ x ∈ xs,MB x) (hym : ∀ y ∈ ys,MB y) (hn : xs.length <= 500) (hn' : ys.length <= 500) :
  Calls Tryz.prog 36 #[.pointer (some ⟨q,0,none⟩),.int .i64 14,.slice X xs.length cx,.slice Y ys.length cy] w (RetL a0 a1 lo w q r (catS n xs ys)):=by
 have HBD:=zH h; have hlo:=h.size; have HX:=zH hX; have HY:=zH hY; have HXN:=zH hXn; have HYN:=zH hYn; obtain ⟨bb,hbb⟩ : ∃ bb,bb = decide (4 < xs.length + ys.length):=⟨_,rfl⟩; have hbI : decide ((4 : Int) < (xs.length : Int) + (ys.length : Int)) = bb:=by rw [hbb,decide_eq_decide]; omega
 have HF:=zH (fail_any a0 a1 lo q r none bb 0 w h.toBx); have g0:=h.g.c0; have hv : errV a0 a1 (some 0) = z28 a0:=rfl; rw [hv] at HF; obtain ⟨zs,hzs⟩ : ∃ zs,zs = ys ++ xs:=⟨_,rfl⟩; have HZM : Hid (∀ m ∈ zs,MB m):=zH fun m hm => by rw [hzs] at hm; exact (List.mem_append.1 hm).elim (hym m) (hxm m)
 have HZ:=zH hzs; rw [show catS n xs ys = (⟨n,z1g none bb 0⟩,zs) by rw [hbb,hzs]; rfl]; clear h hX hY hXn hYn hxm hym hv hzs hbb
 go_enter Tryz.func36,Tryz.ntmps36
 go_wp2_with fail
 refine HF.out.mono ?_; rintro e w1 ⟨rfl,hb1,hx1,hk1⟩; have hal : Below w1.heap.size w1 (w1.alloc (.cells #[.slice Y ys.length cy,.slice X xs.length cx] 67)):=(Below.refl _ _).alloc (Nat.le_refl _) _; have HB1:=zH (hb1.trans (.of hal hx1.size)); have HD1:=zH ((Bx.bd HBD.out hx1 hk1 (fun h => (failE_none h).1)).up hal); have HX:=zH ((HX.out.upB hb1).upP hal); have HY:=zH ((HY.out.upB hb1).upP hal); have HC:=zH (concat_any X Y cx cy xs ys w1.heap.size 67 _ (heap_alloc_new w1 (.cells #[.slice Y ys.length cy,.slice X xs.length cx] 67)) HX.out.plrd HY.out.plrd HXN.out HYN.out (by omega) (by omega)); rw [<- HZ.out] at HC; clear hb1 hx1 hk1 hal HF g0 hbI
 go_wp2_with fail
 refine HC.out.mono ?_; rintro e w2 ⟨A2,c2,rfl,ho2,hb2⟩; have HO2:=zH ho2; have HB2:=zH hb2; clear ho2 hb2 HC
 go_wp2
 go_ret
 exact ⟨A2,c2,rfl,HO2.out.pl.1,HO2.out.pl.2,HZM.out,HB1.out.trans (.of HB2.out HD1.out.size),HD1.out.up HB2.out⟩
def PG.bd {α : Type} (B : Int -> Prop) (Φ : α -> Prop) : PG α -> Prop
 | .ret a => Φ a
 | .and x y k => (B x /\ B y) /\ ∀ m,B m -> (k m).bd B Φ
 | .xor x y k => (B x /\ B y) /\ ∀ m,B m -> (k m).bd B Φ
theorem z1t {α β : Type} {B : Int -> Prop} {Φ : β -> Prop} (f : α -> PG β) : ∀ (p : PG α),p.bd B (fun a => (f a).bd B Φ) -> (p.bind f).bd B Φ
 | .ret _,h => h
 | .and _ _ k,h => ⟨h.1,fun m hm => z1t f (k m) (h.2 m hm)⟩
 | .xor _ _ k,h => ⟨h.1,fun m hm => z1t f (k m) (h.2 m hm)⟩
theorem PG.bd.mono {α : Type} {B : Int -> Prop} {Φ Ψ : α -> Prop} (h : ∀ a,Φ a -> Ψ a) : ∀ {p : PG α},p.bd B Φ -> p.bd B Ψ
 | .ret _,hp => h _ hp
 | .and _ _ k,hp => ⟨hp.1,fun m hm => PG.bd.mono h (hp.2 m hm)⟩
 | .xor _ _ k,hp => ⟨hp.1,fun m hm => PG.bd.mono h (hp.2 m hm)⟩
theorem bd_runR {α : Type} {Φ : α -> Prop} : ∀ (p : PG α) (k : N × Bool),p.bd RB Φ -> NB k.1 -> NB (run opsR p k).1.1 /\ Φ (run opsR p k).2
 | .ret _,_,h,hk => ⟨hk,h⟩
 | .and x y f,k,h,hk => by
  have h1 : NB (opsR.and k x y).1.1 /\ RB (opsR.and k x y).2:=z2g hk (and1_nb hk h.1.1 h.1.2); exact bd_runR (f _) _ (h.2 _ h1.2) h1.1
 | .xor x y f,k,h,hk => by
  have h1 : NB (opsR.xor k x y).1.1 /\ RB (opsR.xor k x y).2:=z2g hk (xor1_nb hk h.1.1 h.1.2); exact bd_runR (f _) _ (h.2 _ h1.2) h1.1
theorem bd_runP {α : Type} {Φ : α -> Prop} : ∀ (p : PG α) (s : BS),p.bd MB Φ -> NB s.n -> NB (run opsP p s).1.n /\ Φ (run opsP p s).2
 | .ret _,_,h,hk => ⟨hk,h⟩
 | .and x y f,s,h,hk => by
  have h1 : NB (opsP.and s x y).1.n /\ MB (opsP.and s x y).2:=stepP_nb hk (and1_nb hk h.1.1.rb h.1.2.rb); exact bd_runP (f _) _ (h.2 _ h1.2) h1.1
 | .xor x y f,s,h,hk => by
  have h1 : NB (opsP.xor s x y).1.n /\ MB (opsP.xor s x y).2:=stepP_nb hk (xor1_nb hk h.1.1.rb h.1.2.rb); exact bd_runP (f _) _ (h.2 _ h1.2) h1.1
structure BOk (B : Int -> Prop) : Prop where
 neg : ∀ m,B m -> B (-m)
 one : B 1
 off : B (-1)
theorem z2d : BOk RB:=⟨fun _ h => h.neg,by unfold RB; omega,by unfold RB; omega⟩
theorem bok_mb : BOk MB:=⟨fun _ h => h.neg,by unfold MB; omega,by unfold MB; omega⟩
section
variable {B : Int -> Prop} (hB : BOk B)
include hB
theorem or_bd {x y : Int} {Φ : Int -> Prop} (hx : B x) (hy : B y) (h : ∀ m,B m -> Φ m) : (orP x y).bd B Φ:=⟨⟨hB.neg _ hx,hB.neg _ hy⟩,fun m hm => h _ (hB.neg _ hm)⟩
theorem mux_bd {c x y : Int} {Φ : Int -> Prop} (hc : B c) (hx : B x) (hy : B y) (h : ∀ m,B m -> Φ m) : (muxP c x y).bd B Φ :=
 ⟨⟨hc,hx⟩,fun _ hp => ⟨⟨hB.neg _ hc,hy⟩,fun _ hq => or_bd hB hp hq h⟩⟩
omit hB in
theorem each_bd {f : Int -> Int -> PG Int} (hf : ∀ (x y : Int) (Ψ : Int -> Prop),B x -> B y -> (∀ m,B m -> Ψ m) -> (f x y).bd B Ψ) : ∀ (xs ys : List Int) (Φ : List Int -> Prop),(∀ x ∈ xs,B x) -> (∀ y ∈ ys,B y) -> (∀ l,(∀ m ∈ l,B m) -> (xs.length = ys.length -> l.length = xs.length) -> Φ l) -> (z0v f xs ys).bd B Φ
 | [],[],Φ,_,_,h => h [] (fun _ h => by cases h) fun _ => rfl
 | x :: xs,y :: ys,Φ,hx,hy,h => by
  refine z1t _ _ (hf x y _ (hx _ (.head _)) (hy _ (.head _)) fun m hm => z1t _ _ (each_bd hf xs ys _ (fun z hz => hx z (.tail _ hz)) (fun z hz => hy z (.tail _ hz)) fun l hl hll => ?_)); refine h (m :: l) (fun z hz => ?_) fun e => by rw [List.length_cons,hll (by simpa using e),List.length_cons]
  rcases List.mem_cons.1 hz with rfl | hz
  · exact hm
  · exact hl z hz
 | [],_ :: _,Φ,_,_,h => h [] (fun _ h => by cases h) fun e => by simp at e
 | _ :: _,[],Φ,_,_,h => h [] (fun _ h => by cases h) fun e => by simp at e
theorem sum_bd : ∀ (xs ys : List Int) (c : Int) (Φ : List Int -> Prop),B c -> (∀ x ∈ xs,B x) -> (∀ y ∈ ys,B y) -> (∀ l,(∀ m ∈ l,B m) -> (xs.length = ys.length -> l.length = xs.length) -> Φ l) -> (sumP xs ys c).bd B Φ
 | [],[],_,Φ,_,_,_,h => h [] (fun _ h => by cases h) fun _ => rfl
 | x :: xs,y :: ys,c,Φ,hc,hx,hy,h => by
  have x0:=hx _ (.head _); have y0:=hy _ (.head _); refine ⟨⟨x0,y0⟩,fun d hd => ⟨⟨hd,hc⟩,fun s hs => ⟨⟨x0,y0⟩,fun p hp => ⟨⟨hd,hc⟩,fun q hq => ?_⟩⟩⟩⟩; refine z1t _ _ (or_bd hB hp hq fun c' hc' => z1t _ _ (sum_bd xs ys c' _ hc' (fun z hz => hx z (.tail _ hz)) (fun z hz => hy z (.tail _ hz)) fun l hl hll => ?_)); refine h (s :: l) (fun z hz => ?_) fun e => by rw [List.length_cons,hll (by simpa using e),List.length_cons]
  rcases List.mem_cons.1 hz with rfl | hz
  · exact hs
  · exact hl z hz
 | [],_ :: _,_,Φ,_,_,_,h => h [] (fun _ h => by cases h) fun e => by simp at e
 | _ :: _,[],_,Φ,_,_,_,h => h [] (fun _ h => by cases h) fun e => by simp at e
theorem less_bd : ∀ (xs ys : List Int) (r : Int) (Φ : Int -> Prop),B r -> (∀ x ∈ xs,B x) -> (∀ y ∈ ys,B y) -> (∀ m,B m -> Φ m) -> (lessP xs ys r).bd B Φ
 | [],[],_,Φ,hr,_,_,h => h _ hr
 | x :: xs,y :: ys,r,Φ,hr,hx,hy,h => by
  refine ⟨⟨hx _ (.head _),hy _ (.head _)⟩,fun d hd => z1t _ _ (mux_bd hB hd (hy _ (.head _)) hr fun r' hr' => ?_)⟩; exact less_bd xs ys r' Φ hr' (fun z hz => hx z (.tail _ hz)) (fun z hz => hy z (.tail _ hz)) h
 | [],_ :: _,_,Φ,hr,_,_,h => h _ hr
 | _ :: _,[],_,Φ,hr,_,_,h => h _ hr
end
def mapP (f : Int -> PG Int) : List Int -> PG (List Int)
 | [] => .ret []
 | x :: xs => (f x).bind fun m => (mapP f xs).bind fun l => .ret (m :: l)
def andP (y x : Int) : PG Int:=.and x y .ret
def rowP (xs : List Int) (i : Nat) (y : Int) : PG (List Int):=(mapP (andP y) (xs.take (xs.length - i))).bind fun l => .ret (List.replicate i (-1) ++ l)
def mulP (xs : List Int) : List Int -> Nat -> List Int -> PG (List Int)
 | [],_,s => .ret s
 | y :: ys,i,s => (rowP xs i y).bind fun row => (sumP s row (-1)).bind fun s' => mulP xs ys (i + 1) s'
def divP (xs wide : List Int) : Nat -> List Int -> List Int -> PG (List Int × List Int)
 | 0,q,r => .ret (q,r)
 | at_ + 1,q,r => (lessP (xs.getD at_ 0 :: r) wide (-1)).bind fun l => (sumP (xs.getD at_ 0 :: r) (wide.map Neg.neg) 1).bind fun u =>
   (z0v (muxP l) ((xs.getD at_ 0 :: r).take xs.length) (u.take xs.length)).bind fun r' => divP xs wide at_ (q.set at_ (-l)) r'
def fromL (up : Bool) (s : List Int) (step : Nat) (fill : Int) : List Int:=(List.range s.length).map fun k => if up = true then (if k < step then fill else s.getD (k - step) 0) else if k + step < s.length then s.getD (k + step) 0 else fill
def z0z (up : Bool) (fill : Int) : List Int -> Nat -> List Int -> PG (List Int)
 | [],_,s => .ret s
 | c :: cs,i,s => (z0v (muxP c) (fromL up s (2 ^ i) fill) s).bind fun s' => z0z up fill cs (i + 1) s'
theorem z2j (up : Bool) (s : List Int) (step : Nat) (fill : Int) : (fromL up s step fill).length = s.length:=by unfold fromL; simp
section
variable {B : Int -> Prop} (hB : BOk B)
omit hB in
theorem map_bd {f : Int -> PG Int} (hf : ∀ (x : Int) (Ψ : Int -> Prop),B x -> (∀ m,B m -> Ψ m) -> (f x).bd B Ψ) : ∀ (xs : List Int) (Φ : List Int -> Prop),(∀ x ∈ xs,B x) -> (∀ l,(∀ m ∈ l,B m) -> l.length = xs.length -> Φ l) -> (mapP f xs).bd B Φ
 | [],Φ,_,h => h [] (fun _ h => by cases h) rfl
 | x :: xs,Φ,hx,h => by
  refine z1t _ _ (hf x _ (hx _ (.head _)) fun m hm => z1t _ _ (map_bd hf xs _ (fun z hz => hx z (.tail _ hz)) fun l hl hll => ?_)); refine h (m :: l) (fun z hz => ?_) (by rw [List.length_cons,hll,List.length_cons])
  rcases List.mem_cons.1 hz with rfl | hz
  · exact hm
  · exact hl z hz
include hB
theorem row_bd {xs : List Int} {i : Nat} {y : Int} {Φ : List Int -> Prop} (hi : i <= xs.length) (hx : ∀ x ∈ xs,B x) (hy : B y) (h : ∀ l,(∀ m ∈ l,B m) -> l.length = xs.length -> Φ l) : (rowP xs i y).bd B Φ:=by
 refine z1t _ _ (map_bd (f:=andP y) (fun x Ψ hx h => ⟨⟨hx,hy⟩,h⟩) _ _ (fun z hz => hx z (List.mem_of_mem_take hz)) fun l hl hll => ?_); refine h _ (fun z hz => ?_) (by rw [List.length_append,hll,List.length_replicate,List.length_take]; omega)
 rcases List.mem_append.1 hz with hz | hz
 · rw [List.eq_of_mem_replicate hz]; exact hB.off
 · exact hl z hz
theorem mul_bd {xs : List Int} (hx : ∀ x ∈ xs,B x) : ∀ (ys : List Int) (i : Nat) (s : List Int) (Φ : List Int -> Prop),i + ys.length <= xs.length -> (∀ y ∈ ys,B y) -> (∀ m ∈ s,B m) -> s.length = xs.length -> (∀ l,(∀ m ∈ l,B m) -> l.length = xs.length -> Φ l) -> (mulP xs ys i s).bd B Φ
 | [],_,s,Φ,_,_,hs,hl,h => h s hs hl
 | y :: ys,i,s,Φ,hi,hy,hs,hl,h => by
  rw [List.length_cons] at hi; refine z1t _ _ (row_bd hB (by omega) hx (hy _ (.head _)) fun row hr hrl => z1t _ _ (sum_bd hB _ _ _ _ hB.off hs hr fun s' hs' hsl => ?_)); exact mul_bd hx ys (i + 1) s' Φ (by omega) (fun z hz => hy z (.tail _ hz)) hs' (by rw [hsl (by omega),hl]) h
omit hB in
theorem getD_inP {xs : List Int} {k : Nat} (hx : ∀ x ∈ xs,B x) (hk : k < xs.length) : B (xs.getD k 0):=by
 rw [List.getD_eq_getElem?_getD,List.getElem?_eq_getElem hk]; exact hx _ (List.getElem_mem hk)
theorem div_bd {xs wide : List Int} (hx : ∀ x ∈ xs,B x) (hw : ∀ x ∈ wide,B x) (hwl : wide.length = xs.length + 1) : ∀ (k : Nat) (q r : List Int) (Φ : List Int × List Int -> Prop),k <= xs.length -> (∀ m ∈ q,B m) -> (∀ m ∈ r,B m) -> q.length = xs.length -> r.length = xs.length -> (∀ z,(∀ m ∈ z.1,B m) -> (∀ m ∈ z.2,B m) -> z.1.length = xs.length -> z.2.length = xs.length -> Φ z) -> (divP xs wide k q r).bd B Φ
 | 0,q,r,Φ,_,hq,hr,hql,hrl,h => h (q,r) hq hr hql hrl
 | k + 1,q,r,Φ,hk,hq,hr,hql,hrl,h => by
  have ht : ∀ z ∈ xs.getD k 0 :: r,B z:=fun z hz => by
   rcases List.mem_cons.1 hz with rfl | hz
   · exact getD_inP hx (by omega)
   · exact hr z hz
  have hn : ∀ z ∈ wide.map Neg.neg,B z:=fun z hz => by
   obtain ⟨y,hy,rfl⟩:=List.mem_map.1 hz; exact hB.neg _ (hw y hy)
  refine z1t _ _ (less_bd hB _ _ _ _ hB.off ht hw fun l hl => z1t _ _ (sum_bd hB _ _ _ _ hB.one ht hn fun u hu hul => z1t _ _ (each_bd (fun x y Ψ hx hy h => mux_bd hB hl hx hy h) _ _ _ (fun z hz => ht z (List.mem_of_mem_take hz)) (fun z hz => hu z (List.mem_of_mem_take hz)) fun r' hr' hrl' => ?_))); have hul' : u.length = xs.length + 1:=by rw [hul (by rw [List.length_cons,List.length_map,hwl,hrl]),List.length_cons,hrl]
  refine div_bd hx hw hwl k _ r' Φ (by omega) (fun z hz => ?_) hr' (by rw [List.length_set]; exact hql) ?_ h
  ·
   rcases List.mem_or_eq_of_mem_set hz with hz | hz
   · exact hq z hz
   · rw [hz]; exact hB.neg _ hl
  · rw [hrl' (by rw [List.length_take,List.length_take,List.length_cons,hul',hrl]),List.length_take,List.length_cons,hrl]; omega
theorem shift_bd {up : Bool} {fill : Int} (hf : B fill) : ∀ (cs : List Int) (i : Nat) (s : List Int) (n : Nat) (Φ : List Int -> Prop),(∀ c ∈ cs,B c) -> (∀ m ∈ s,B m) -> s.length = n -> (∀ l,(∀ m ∈ l,B m) -> l.length = n -> Φ l) -> (z0z up fill cs i s).bd B Φ
 | [],_,s,n,Φ,_,hs,hl,h => h s hs hl
 | c :: cs,i,s,n,Φ,hc,hs,hl,h => by
  have hfr : ∀ z ∈ fromL up s (2 ^ i) fill,B z:=fun z hz => by
   unfold fromL at hz; obtain ⟨k,hk,rfl⟩:=List.mem_map.1 hz; rw [List.mem_range] at hk; have hg : ∀ j,j < s.length -> B (s.getD j 0):=fun j hj => getD_inP hs hj
   split
   ·
    split
    · exact hf
    · exact hg _ (Nat.lt_of_le_of_lt (Nat.sub_le _ _) hk)
   ·
    split
    · exact hg _ (by assumption)
    · exact hf
  refine z1t _ _ (each_bd (fun x y Ψ hx hy h => mux_bd hB (hc _ (.head _)) hx hy h) _ _ _ hfr hs fun s' hs' hsl => ?_); exact shift_bd hf cs (i + 1) s' n Φ (fun z hz => hc z (.tail _ hz)) hs' (by rw [hsl (z2j _ _ _ _),z2j,hl]) h
end
def binP (op : Int) (xs ys : List Int) : PG (List Int) :=
 if op = 3 then z0v (fun x y => .and x y .ret) xs ys
 else if op = 4 then z0v orP xs ys
 else if op = 5 then z0v (fun x y => .xor x y .ret) xs ys
 else if op = 6 then sumP xs ys (-1)
 else if op = 7 then sumP xs (ys.map Neg.neg) 1
 else if op = 8 then mulP xs ys 0 (List.replicate xs.length (-1))
 else if op = 9 then (divP xs (ys ++ [-1]) xs.length (List.replicate xs.length (-1)) (List.replicate xs.length (-1))).bind fun z => .ret z.1
 else if op = 10 then (divP xs (ys ++ [-1]) xs.length (List.replicate xs.length (-1)) (List.replicate xs.length (-1))).bind fun z => .ret z.2
 else if op = 11 then z0z true (-1) ys 0 xs
 else if op = 12 then z0z false (-1) ys 0 xs
 else if op = 13 then z0z false (xs.getD (xs.length - 1) 0) ys 0 xs
 else .ret (ys ++ xs)
end Go.Proofs.YtemdmlmcidfodaaGreatDoor
