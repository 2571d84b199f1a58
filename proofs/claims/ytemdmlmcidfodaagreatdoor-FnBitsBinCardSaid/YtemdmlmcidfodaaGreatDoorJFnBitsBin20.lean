/- The program's operations bit by bit; its shifts. -/
import Derived.Test.YtemdmlmcidfodaaGreatDoorJFnBitsBin0
import Derived.Test.YtemdmlmcidfodaaGreatDoorJFnBitsBin13
import Derived.Test.YtemdmlmcidfodaaGreatDoorJFnBitsBin16
import Derived.Test.YtemdmlmcidfodaaGreatDoorJFnBitsBin19
namespace Go.Proofs.YtemdmlmcidfodaaGreatDoor
open Go Go.RowKit
set_option maxRecDepth 100000 in
set_option maxHeartbeats 4000000 in
theorem each_and (a0 a1 : Addr) (lo q r : Nat)  (X Y : Option Addr) (cx cy : Nat) (xs ys : List Int) (s : BS) (w : World) (K : World -> Prop) (hK : K w) (hKs : ∀ x,BelB lo w x -> K x) (h : Bd a0 a1 lo w q r s) (hX : Lay.int.Pl w X xs) (hY : Lay.int.Pl w Y ys) (hxm : ∀ x ∈ xs,MB x) (hym : ∀ y ∈ ys,MB y) (hl : xs.length = ys.length) (hn : xs.length <= 1000)
  (hcall : ∀ (x y : Int) (s : BS) (z : World),Bd a0 a1 lo z q r s -> MB x -> MB y -> K z -> Calls Tryz.prog 77 #[.pointer (some ⟨q,0,none⟩),.int .i64 x,.int .i64 y] z (RetM a0 a1 lo z q r (run opsP ((fun x y => PG.and x y PG.ret) x y) s)))
  (hnb : ∀ (x y : Int) (s : BS),NB s.n -> MB x -> MB y -> MB (run opsP ((fun x y => PG.and x y PG.ret) x y) s).2) :
  Calls Tryz.prog 76 #[.slice X xs.length cx,.slice Y ys.length cy,.func (.func 77) #[.pointer (some ⟨q,0,none⟩)] #[]] w (RetL a0 a1 lo w q r (run opsP (z0v (fun x y => PG.and x y PG.ret) xs ys) s)):=by
 obtain ⟨T,hT⟩ : ∃ T,T = run opsP (z0v (fun x y => PG.and x y PG.ret) xs ys) s:=⟨_,rfl⟩; rw [<- hT]; have HT:=zH hT; have HB:=zH h; have HX:=zH hX; have HY:=zH hY; have HK:=zH hKs; have HXM:=zH hxm; have HYM:=zH hym; have HCALL:=zH hcall; have HNB:=zH hnb; have HL:=zH hl; have hlo:=h.size; clear hT h hX hY hKs hxm hym hcall hnb hK; rw [<- hl]; clear hl
 go_enter Tryz.func76,Tryz.ntmps76
 go_wp2
 go_loopw [7,11] (fun out i wr => ∃ (k : Nat) (s1 : BS) (l : List Int) (A : Option Addr) (c : Nat),k <= xs.length /\ i = .int .i64 k /\ out = .slice A l.length c /\ l.length = k /\ z0u wr w.heap.size (.slice A l.length c) l /\ (∀ m ∈ l,MB m) /\ BelB lo w wr /\ Bd a0 a1 lo wr q r s1 /\ Hid ((let z:=run opsP (z0v (fun x y => PG.and x y PG.ret) (xs.drop k) (ys.drop k)) s1; (z.1,l ++ z.2)) = T)) (fun _ i _ => xs.length - (intOf i).toNat)
 case atStart => exact ⟨0,s,[],none,0,Nat.zero_le _,rfl,rfl,rfl,z0u.nil _ _,(fun _ h => by cases h),.refl _ _,HB.out,zH (by rw [HT.out]; rfl)⟩
 case round =>
  obtain ⟨k,s1,l,A,c,hk,rfl,rfl,hlk,hown,hlm,hbb,hbd,hst⟩:=hrel; have HOWN:=zH hown; have HLM:=zH hlm; have HBB:=zH hbb; have HBD:=zH hbd; have HLK:=zH hlk; have hsz:=hbb.bel.size; clear hown hlm hbb hbd hlk
  by_cases hlt : k < xs.length
  ·
   have hlt2 : (k : Int) < xs.length:=by omega
   have hlty : k < ys.length:=by rw [<- HL.out]; exact hlt
   obtain ⟨x,hx⟩ : ∃ x,xs[k]? = some x:=⟨_,List.getElem?_eq_getElem hlt⟩; obtain ⟨y,hy⟩ : ∃ y,ys[k]? = some y:=⟨_,List.getElem?_eq_getElem hlty⟩; have hxg : xs[k] = x:=(List.getElem?_eq_some_iff.1 hx).2; have hyg : ys[k] = y:=(List.getElem?_eq_some_iff.1 hy).2; have hxM : MB x:=HXM.out x (List.mem_of_getElem? hx); have hyM : MB y:=HYM.out y (List.mem_of_getElem? hy); obtain ⟨adx,rfl,-,-⟩:=HX.out.at_int hlt; obtain ⟨ady,rfl,-,-⟩:=HY.out.at_int hlty; obtain ⟨m,hm⟩ : ∃ m,m = run opsP ((fun x y => PG.and x y PG.ret) x y) s1:=⟨_,rfl⟩; have HST:=zH ((z1v (o:=opsP) (f:=(fun x y => PG.and x y PG.ret)) xs ys k x y hx hy s1 l).symm.trans hst.out); have HM:=zH hm; have HMB : Hid (MB m.2):=zH (by rw [hm]; exact HNB.out x y s1 HBD.out.nb hxM hyM); have HRX : Hid (∀ z,BelB lo w z -> z.cell? (adx.add k) = some (.int .i64 x)):=zH fun z hz => by
    obtain ⟨ad,e,_,hc⟩:=(HX.out.upB hz).at_int hlt
    injection e with e; subst e; rw [<- hxg]; exact hc
   have HRY : Hid (∀ z,BelB lo w z -> z.cell? (ady.add k) = some (.int .i64 y)):=zH fun z hz => by
    obtain ⟨ad,e,_,hc⟩:=(HY.out.upB hz).at_int hlty
    injection e with e; subst e; rw [<- hyg]; exact hc
   obtain ⟨l2,hl2⟩ : ∃ l2,l2 = l ++ [m.2]:=⟨_,rfl⟩; have HL2:=zH hl2; have hky : (k : Int) < ys.length:=by omega
   have hkx : (k : Int) < cx + 1 + xs.length:=by omega
   have HXYM:=zH (And.intro hxM hyM); clear hm hx hy hxg hyg hst hl2 hxM hyM hlty hkx
   go_wp2
   refine z0a [[],[],[],[],[(2,16),(3,17)],[(4,18)],[],[],[(6,20),(7,21)],[(8,22)],[(1,15),(5,19),(9,23)],[(10,24)],[(0,14),(11,25)],[(12,26)]]
    (fun x9 y9 => Below x9.heap.size x9 y9)
    [(10,fun x9 y9 => BelB lo x9 y9),(12,fun x9 y9 => x9.grownBy y9 (Value.slice A l.length c).ownBlock)]
    (fun f9 x9 => EachI a0 a1 lo w q r s1 m.1 A c l (f9 10) (f9 12) x9)
    [zF 0 (.slice A l.length c),
  zF 1 (.func (.func 77) #[.pointer (some ⟨q,0,none⟩)] #[]),
  zF 2 (.slice (some adx) xs.length cx),
  zF 3 (.int .i64 (k : Int)),
  zF 4 (.pointer (some (adx.add k))),
  zF 5 (.int .i64 x),
  zF 6 (.slice (some ady) xs.length cy),
  zF 7 (.int .i64 (k : Int)),
  zF 8 (.pointer (some (ady.add k))),
  zF 9 (.int .i64 y),
  zF 10 (.int .i64 m.2),
  fun vs9 y9 => (fun v z => ∃ b : Nat,v = .slice (some ⟨b,0,none⟩) 1 1 /\ z.heap[b]? = some (.cells #[.int .i64 m.2] 110 (0,0)) /\ some b ≠ (Value.slice A l.length c).ownBlock) (vs9 11) y9,
  fun vs9 y9 => (fun v z => ∃ A' c',v = .slice A' l2.length c' /\ z0u z w.heap.size (.slice A' l2.length c') l2) (vs9 12) y9,
  fun vs9 _ => vs9 13 = vs9 12]
    [(0,14),(1,15),(2,16),(3,17),(4,18),(5,19),(6,20),(7,21),(8,22),(9,23),(10,24),(11,25),(12,26),(13,7)] (by kernel_rfl) (by kernel_rfl) (by kernel_rfl) (by kernel_rfl)
    (fun _ => Below.refl _ _) ⟨fun _ => BelB.refl _ _,fun _ => World.grownBy.refl _ _,trivial⟩
    ⟨⟨.inr zG,⟨.inr (.inr zG),.inr (.inr zG),trivial⟩⟩,
  ⟨.inr zG,⟨.inr (.inr zG),.inr (.inr zG),trivial⟩⟩,
  ⟨.inr zG,⟨.inr (.inr zG),.inr (.inr zG),trivial⟩⟩,
  ⟨.inr zG,⟨.inr (.inr zG),.inr (.inr zG),trivial⟩⟩,
  ⟨.inr zG,⟨.inr (.inr zG),.inr (.inr zG),trivial⟩⟩,
  ⟨.inr zG,⟨.inr (.inr zG),.inr (.inr zG),trivial⟩⟩,
  ⟨.inr zG,⟨.inr (.inr zG),.inr (.inr zG),trivial⟩⟩,
  ⟨.inr zG,⟨.inr (.inr zG),.inr (.inr zG),trivial⟩⟩,
  ⟨.inr zG,⟨.inr (.inr zG),.inr (.inr zG),trivial⟩⟩,
  ⟨.inr zG,⟨.inr (.inr zG),.inr (.inr zG),trivial⟩⟩,
  ⟨.inr zG,⟨.inr (.inl rfl),.inr (.inr zG),trivial⟩⟩,
  ⟨.inr (zS (fun v z => ∃ b : Nat,v = .slice (some ⟨b,0,none⟩) 1 1 /\ z.heap[b]? = some (.cells #[.int .i64 m.2] 110 (0,0)) /\ some b ≠ (Value.slice A l.length c).ownBlock) (fun _ _ _ ⟨b,h1,h2,h3⟩ hR => ⟨b,h1,(hR.block b (lt_of_block h2)).trans h2,h3⟩)),⟨.inl (by kernel_rfl),.inr (.inr (zS (fun v z => ∃ b : Nat,v = .slice (some ⟨b,0,none⟩) 1 1 /\ z.heap[b]? = some (.cells #[.int .i64 m.2] 110 (0,0)) /\ some b ≠ (Value.slice A l.length c).ownBlock) (fun _ _ _ ⟨b,h1,h2,h3⟩ hR => ⟨b,h1,(hR.block b (lt_of_block h2) h3).trans h2,h3⟩))),trivial⟩⟩,
  ⟨.inr (zS (fun v z => ∃ A' c',v = .slice A' l2.length c' /\ z0u z w.heap.size (.slice A' l2.length c') l2) (fun _ _ _ ⟨A',c',h1,h2⟩ hR => ⟨A',c',h1,z0e h2 hR (Nat.le_refl _)⟩)),⟨.inl (by kernel_rfl),.inr (.inl rfl),trivial⟩⟩,
  ⟨.inr zK,⟨.inr (.inr zK),.inr (.inr zK),trivial⟩⟩,trivial⟩ ⟨zL,
  zL,
  zL,
  zL,
  zL,
  zL,
  zL,
  zL,
  zL,
  zL,
  zL,
  fun _ _ _ h _ v => (by simpa only [<- h] using v),
  fun _ _ _ h _ v => (by simpa only [<- h] using v),
  fun vs vs' x h hd hv => (by have h2:=hd 12 (by decide); show vs' 13 = vs' 12; exact h.symm.trans (Eq.trans hv h2)),trivial⟩ (⟨HBB.out.trans (.of (z02 (Below.refl _ _) 1) (Nat.le_trans hlo hsz)),by rw [if_neg (by simp)]; exact HBD.out.up (z02 (Below.refl _ _) 1),fun _ => z0e HOWN.out (z02 (Below.refl _ _) 1) (Nat.le_refl _)⟩) ⟨?_,?_,?_,?_,?_,?_,?_,?_,?_,?_,?_,?_,?_,?_,trivial⟩ ?_
   iterate 4
    ·
     rintro vals xw f hf1 - - hI hF; dsimp only [z03,bare]; simp only [z01,Act.put,zQ]
     go_wp2
     exact zY hI rfl rfl
   ·
    rintro vals xw f hf1 - - hI hF; simp only [z05,zF,zR,and_true] at hF; obtain ⟨e16,e17⟩:=hF; dsimp only [z03,bare]; simp only [z01,Act.put,zQ]; simp only [e16,e17]
    go_wp2
    exact zY hI rfl rfl
   ·
    rintro vals xw f hf1 - - hI hF; simp only [z05,zF,zR,and_true] at hF; have e18:=hF; dsimp only [z03,bare]; simp only [z01,Act.put,zQ]; simp only [e18]; have c9:=HRX.out _ hI.1
    go_wp2
    exact zY hI rfl rfl
   iterate 2
    ·
     rintro vals xw f hf1 - - hI hF; dsimp only [z03,bare]; simp only [z01,Act.put,zQ]
     go_wp2
     exact zY hI rfl rfl
   ·
    rintro vals xw f hf1 - - hI hF; simp only [z05,zF,zR,and_true] at hF; obtain ⟨e20,e21⟩:=hF; dsimp only [z03,bare]; simp only [z01,Act.put,zQ]; simp only [e20,e21]
    go_wp2
    exact zY hI rfl rfl
   ·
    rintro vals xw f hf1 - - hI hF; simp only [z05,zF,zR,and_true] at hF; have e22:=hF; dsimp only [z03,bare]; simp only [z01,Act.put,zQ]; simp only [e22]; have c9:=HRY.out _ hI.1
    go_wp2
    exact zY hI rfl rfl
   ·
    intro vals xw f hf1 hf2 hf3 hI hF; have k12 : f 12 = false:=hf3 12 (by kernel_rfl); clear hf2 hf3; simp only [z05,zF,zR,and_true] at hF; obtain ⟨e15,e19,e23⟩:=hF; dsimp only [z03,bare]; simp only [z01,Act.put,zQ]; simp only [e15,e19,e23]; obtain ⟨i1,i2,i3⟩:=hI; rw [hf1,if_neg (by simp)] at i2; have I3:=zH (i3 k12); have I1:=zH i1; have HC:=zH (HCALL.out x y s1 xw i2 HXYM.out.1 HXYM.out.2 (HK.out xw i1)); rw [<- HM.out] at HC; clear i1 i2 i3
    go_wp2_with fail
    refine HC.out.mono ?_; rintro e wx ⟨rfl,hb9,hd9⟩; have HB9:=zH hb9; have HD9:=zH hd9; clear hb9 hd9 HC
    go_wp2
    exact ⟨rfl,rfl,⟨fun _ => HB9.out,fun h9 => absurd rfl h9⟩,I1.out.trans HB9.out,by rw [z0h,if_pos rfl]; exact HD9.out,fun _ => I3.out.upB HB9.out⟩
   ·
    intro vals xw f hf1 hf2 hf3 hI hF; have k12 : f 12 = false:=hf3 12 (by kernel_rfl); clear hf2 hf3; simp only [z05,zF,zR,and_true] at hF; have e24:=hF; dsimp only [z03,bare]; simp only [z01,Act.put,zQ]; simp only [e24]; have k9:=hI.2.2 k12; have h9 : some xw.heap.size ≠ (Value.slice A l.length c).ownBlock:=fun e => by have:=(k9.lt _ e.symm).2; omega
    have H9:=zH h9; have hal : Below xw.heap.size xw (xw.alloc (.cells #[.int .i64 m.2] 110)):=(Below.refl _ _).alloc (Nat.le_refl _) _; have HI:=zH hI; have HAL:=zH hal; clear k9 h9 hal hI
    go_wp2
    exact ⟨rfl,⟨_,rfl,heap_alloc_new _ _,H9.out⟩,⟨zN rfl,fun _ => ⟨zN rfl,fun _ => HAL.out⟩⟩,HI.out.up HAL.out⟩
   ·
    rintro vals xw f hf1 - - hI hF; simp only [z05,zF,zR,and_true] at hF; obtain ⟨e14,b9,e25,hb9,_⟩:=hF; dsimp only [z03,bare]; simp only [z01,Act.put,zQ]; simp only [e14,e25]; obtain ⟨i1,i2,i3⟩:=hI; have hsz9:=i1.bel.size; have hll : l.length <= 1048576:=by have:=HLK.out; omega
    have I1:=zH i1; have I2:=zH i2; have I3:=zH (i3 hf1); clear i1 i2 i3
    at_builtin; refine z0y (ys:=l2) (by rfl) (.tmp 14) (.tmp 25) (by rfl) (by rfl) (by rfl) I3.out hb9 hll hsz9 HL2.out ?_; intro A9 c9 w9 hown9 hg9
    obtain ⟨hs9,hb8⟩:=I3.out.grown hg9 hsz9 hlo
    go_wp2
    exact ⟨rfl,⟨A9,c9,rfl,hown9⟩,⟨zN rfl,fun _ => ⟨fun _ => hg9,fun h9 => absurd rfl h9⟩⟩,I1.out.then hb8 hlo,I2.out.upS hs9,fun h => absurd ((z0h f 12).symm.trans h) (by simp)⟩
   ·
    rintro vals xw f hf1 - - hI hF; simp only [z05,zF,zR,and_true] at hF; obtain ⟨A8,c8,e26,_⟩:=hF; dsimp only [z03,bare]; simp only [z01,Act.put,zQ]; simp only [e26]
    go_wp2
    exact ⟨rfl,e26.symm,⟨zN rfl,fun _ => ⟨zN rfl,fun _ => Below.refl _ _⟩⟩,hI⟩
   ·
    intro vals xw f hall hI hF; rw [show List.range _ = [0,1,2,3,4,5,6,7,8,9,10,11,12,13] from rfl] at hF; simp only [says,zF,zR,and_true] at hF; obtain ⟨i1,i2,_⟩:=hI; rw [hall 10 (by decide),if_pos rfl] at i2; obtain ⟨_,_,_,_,_,_,_,_,_,_,_,_,⟨A8,c8,e26,o26⟩,e7⟩:=hF; rw [e26] at e7; simp only [z01,Act.put,zQ]; simp only [e7]; have I1:=zH i1; have I2:=zH i2; have O26:=zH o26; clear i1 i2 o26 e26 e7
    go_wp2
    go_roundw
    case rel => exact ⟨k + 1,m.1,l2,A8,c8,by omega,by go_num,rfl,by rw [HL2.out,List.length_append,HLK.out]; rfl,O26.out,fun z hz => by
        rw [HL2.out] at hz
        rcases List.mem_append.1 hz with hz | hz
        · exact HLM.out z hz
        · rw [List.mem_singleton.1 hz]; exact HMB.out,I1.out,I2.out,zH (by rw [HL2.out,HM.out]; exact HST.out)⟩
    case measure => simp [intOf]; omega
  ·
   have hke : k = xs.length:=by omega
   subst hke; have hlt2 : ¬ ((xs.length : Nat) : Int) < xs.length:=by omega
   go_wp2
   go_ret
   have hd1 : xs.drop xs.length = []:=List.drop_length; have hd2 : ys.drop xs.length = []:=by rw [HL.out]; exact List.drop_length
   have hst2:=hst.out; rw [hd1,hd2] at hst2; have hT2 : T = (s1,l):=by rw [<- hst2]; show (s1,l ++ []) = _; rw [List.append_nil]
   rw [hT2]; exact ⟨A,c,rfl,HOWN.out.pl.1,HOWN.out.pl.2,HLM.out,HBB.out,HBD.out⟩
set_option maxRecDepth 100000 in
set_option maxHeartbeats 4000000 in
theorem each_or (a0 a1 : Addr) (lo q r : Nat)  (X Y : Option Addr) (cx cy : Nat) (xs ys : List Int) (s : BS) (w : World) (K : World -> Prop) (hK : K w) (hKs : ∀ x,BelB lo w x -> K x) (h : Bd a0 a1 lo w q r s) (hX : Lay.int.Pl w X xs) (hY : Lay.int.Pl w Y ys) (hxm : ∀ x ∈ xs,MB x) (hym : ∀ y ∈ ys,MB y) (hl : xs.length = ys.length) (hn : xs.length <= 1000)
  (hcall : ∀ (x y : Int) (s : BS) (z : World),Bd a0 a1 lo z q r s -> MB x -> MB y -> K z -> Calls Tryz.prog 78 #[.pointer (some ⟨q,0,none⟩),.int .i64 x,.int .i64 y] z (RetM a0 a1 lo z q r (run opsP (orP x y) s)))
  (hnb : ∀ (x y : Int) (s : BS),NB s.n -> MB x -> MB y -> MB (run opsP (orP x y) s).2) :
  Calls Tryz.prog 76 #[.slice X xs.length cx,.slice Y ys.length cy,.func (.func 78) #[.pointer (some ⟨q,0,none⟩)] #[]] w (RetL a0 a1 lo w q r (run opsP (z0v orP xs ys) s)):=by
 obtain ⟨T,hT⟩ : ∃ T,T = run opsP (z0v orP xs ys) s:=⟨_,rfl⟩; rw [<- hT]; have HT:=zH hT; have HB:=zH h; have HX:=zH hX; have HY:=zH hY; have HK:=zH hKs; have HXM:=zH hxm; have HYM:=zH hym; have HCALL:=zH hcall; have HNB:=zH hnb; have HL:=zH hl; have hlo:=h.size; clear hT h hX hY hKs hxm hym hcall hnb hK; rw [<- hl]; clear hl
 go_enter Tryz.func76,Tryz.ntmps76
 go_wp2
 go_loopw [7,11] (fun out i wr => ∃ (k : Nat) (s1 : BS) (l : List Int) (A : Option Addr) (c : Nat),k <= xs.length /\ i = .int .i64 k /\ out = .slice A l.length c /\ l.length = k /\ z0u wr w.heap.size (.slice A l.length c) l /\ (∀ m ∈ l,MB m) /\ BelB lo w wr /\ Bd a0 a1 lo wr q r s1 /\ Hid ((let z:=run opsP (z0v orP (xs.drop k) (ys.drop k)) s1; (z.1,l ++ z.2)) = T)) (fun _ i _ => xs.length - (intOf i).toNat)
 case atStart => exact ⟨0,s,[],none,0,Nat.zero_le _,rfl,rfl,rfl,z0u.nil _ _,(fun _ h => by cases h),.refl _ _,HB.out,zH (by rw [HT.out]; rfl)⟩
 case round =>
  obtain ⟨k,s1,l,A,c,hk,rfl,rfl,hlk,hown,hlm,hbb,hbd,hst⟩:=hrel; have HOWN:=zH hown; have HLM:=zH hlm; have HBB:=zH hbb; have HBD:=zH hbd; have HLK:=zH hlk; have hsz:=hbb.bel.size; clear hown hlm hbb hbd hlk
  by_cases hlt : k < xs.length
  ·
   have hlt2 : (k : Int) < xs.length:=by omega
   have hlty : k < ys.length:=by rw [<- HL.out]; exact hlt
   obtain ⟨x,hx⟩ : ∃ x,xs[k]? = some x:=⟨_,List.getElem?_eq_getElem hlt⟩; obtain ⟨y,hy⟩ : ∃ y,ys[k]? = some y:=⟨_,List.getElem?_eq_getElem hlty⟩; have hxg : xs[k] = x:=(List.getElem?_eq_some_iff.1 hx).2; have hyg : ys[k] = y:=(List.getElem?_eq_some_iff.1 hy).2; have hxM : MB x:=HXM.out x (List.mem_of_getElem? hx); have hyM : MB y:=HYM.out y (List.mem_of_getElem? hy); obtain ⟨adx,rfl,-,-⟩:=HX.out.at_int hlt; obtain ⟨ady,rfl,-,-⟩:=HY.out.at_int hlty; obtain ⟨m,hm⟩ : ∃ m,m = run opsP (orP x y) s1:=⟨_,rfl⟩; have HST:=zH ((z1v (o:=opsP) (f:=orP) xs ys k x y hx hy s1 l).symm.trans hst.out); have HM:=zH hm; have HMB : Hid (MB m.2):=zH (by rw [hm]; exact HNB.out x y s1 HBD.out.nb hxM hyM); have HRX : Hid (∀ z,BelB lo w z -> z.cell? (adx.add k) = some (.int .i64 x)):=zH fun z hz => by
    obtain ⟨ad,e,_,hc⟩:=(HX.out.upB hz).at_int hlt
    injection e with e; subst e; rw [<- hxg]; exact hc
   have HRY : Hid (∀ z,BelB lo w z -> z.cell? (ady.add k) = some (.int .i64 y)):=zH fun z hz => by
    obtain ⟨ad,e,_,hc⟩:=(HY.out.upB hz).at_int hlty
    injection e with e; subst e; rw [<- hyg]; exact hc
   obtain ⟨l2,hl2⟩ : ∃ l2,l2 = l ++ [m.2]:=⟨_,rfl⟩; have HL2:=zH hl2; have hky : (k : Int) < ys.length:=by omega
   have hkx : (k : Int) < cx + 1 + xs.length:=by omega
   have HXYM:=zH (And.intro hxM hyM); clear hm hx hy hxg hyg hst hl2 hxM hyM hlty hkx
   go_wp2
   refine z0a [[],[],[],[],[(2,16),(3,17)],[(4,18)],[],[],[(6,20),(7,21)],[(8,22)],[(1,15),(5,19),(9,23)],[(10,24)],[(0,14),(11,25)],[(12,26)]]
    (fun x9 y9 => Below x9.heap.size x9 y9)
    [(10,fun x9 y9 => BelB lo x9 y9),(12,fun x9 y9 => x9.grownBy y9 (Value.slice A l.length c).ownBlock)]
    (fun f9 x9 => EachI a0 a1 lo w q r s1 m.1 A c l (f9 10) (f9 12) x9)
    [zF 0 (.slice A l.length c),
  zF 1 (.func (.func 78) #[.pointer (some ⟨q,0,none⟩)] #[]),
  zF 2 (.slice (some adx) xs.length cx),
  zF 3 (.int .i64 (k : Int)),
  zF 4 (.pointer (some (adx.add k))),
  zF 5 (.int .i64 x),
  zF 6 (.slice (some ady) xs.length cy),
  zF 7 (.int .i64 (k : Int)),
  zF 8 (.pointer (some (ady.add k))),
  zF 9 (.int .i64 y),
  zF 10 (.int .i64 m.2),
  fun vs9 y9 => (fun v z => ∃ b : Nat,v = .slice (some ⟨b,0,none⟩) 1 1 /\ z.heap[b]? = some (.cells #[.int .i64 m.2] 110 (0,0)) /\ some b ≠ (Value.slice A l.length c).ownBlock) (vs9 11) y9,
  fun vs9 y9 => (fun v z => ∃ A' c',v = .slice A' l2.length c' /\ z0u z w.heap.size (.slice A' l2.length c') l2) (vs9 12) y9,
  fun vs9 _ => vs9 13 = vs9 12]
    [(0,14),(1,15),(2,16),(3,17),(4,18),(5,19),(6,20),(7,21),(8,22),(9,23),(10,24),(11,25),(12,26),(13,7)] (by kernel_rfl) (by kernel_rfl) (by kernel_rfl) (by kernel_rfl)
    (fun _ => Below.refl _ _) ⟨fun _ => BelB.refl _ _,fun _ => World.grownBy.refl _ _,trivial⟩
    ⟨⟨.inr zG,⟨.inr (.inr zG),.inr (.inr zG),trivial⟩⟩,
  ⟨.inr zG,⟨.inr (.inr zG),.inr (.inr zG),trivial⟩⟩,
  ⟨.inr zG,⟨.inr (.inr zG),.inr (.inr zG),trivial⟩⟩,
  ⟨.inr zG,⟨.inr (.inr zG),.inr (.inr zG),trivial⟩⟩,
  ⟨.inr zG,⟨.inr (.inr zG),.inr (.inr zG),trivial⟩⟩,
  ⟨.inr zG,⟨.inr (.inr zG),.inr (.inr zG),trivial⟩⟩,
  ⟨.inr zG,⟨.inr (.inr zG),.inr (.inr zG),trivial⟩⟩,
  ⟨.inr zG,⟨.inr (.inr zG),.inr (.inr zG),trivial⟩⟩,
  ⟨.inr zG,⟨.inr (.inr zG),.inr (.inr zG),trivial⟩⟩,
  ⟨.inr zG,⟨.inr (.inr zG),.inr (.inr zG),trivial⟩⟩,
  ⟨.inr zG,⟨.inr (.inl rfl),.inr (.inr zG),trivial⟩⟩,
  ⟨.inr (zS (fun v z => ∃ b : Nat,v = .slice (some ⟨b,0,none⟩) 1 1 /\ z.heap[b]? = some (.cells #[.int .i64 m.2] 110 (0,0)) /\ some b ≠ (Value.slice A l.length c).ownBlock) (fun _ _ _ ⟨b,h1,h2,h3⟩ hR => ⟨b,h1,(hR.block b (lt_of_block h2)).trans h2,h3⟩)),⟨.inl (by kernel_rfl),.inr (.inr (zS (fun v z => ∃ b : Nat,v = .slice (some ⟨b,0,none⟩) 1 1 /\ z.heap[b]? = some (.cells #[.int .i64 m.2] 110 (0,0)) /\ some b ≠ (Value.slice A l.length c).ownBlock) (fun _ _ _ ⟨b,h1,h2,h3⟩ hR => ⟨b,h1,(hR.block b (lt_of_block h2) h3).trans h2,h3⟩))),trivial⟩⟩,
  ⟨.inr (zS (fun v z => ∃ A' c',v = .slice A' l2.length c' /\ z0u z w.heap.size (.slice A' l2.length c') l2) (fun _ _ _ ⟨A',c',h1,h2⟩ hR => ⟨A',c',h1,z0e h2 hR (Nat.le_refl _)⟩)),⟨.inl (by kernel_rfl),.inr (.inl rfl),trivial⟩⟩,
  ⟨.inr zK,⟨.inr (.inr zK),.inr (.inr zK),trivial⟩⟩,trivial⟩ ⟨zL,
  zL,
  zL,
  zL,
  zL,
  zL,
  zL,
  zL,
  zL,
  zL,
  zL,
  fun _ _ _ h _ v => (by simpa only [<- h] using v),
  fun _ _ _ h _ v => (by simpa only [<- h] using v),
  fun vs vs' x h hd hv => (by have h2:=hd 12 (by decide); show vs' 13 = vs' 12; exact h.symm.trans (Eq.trans hv h2)),trivial⟩ (⟨HBB.out.trans (.of (z02 (Below.refl _ _) 1) (Nat.le_trans hlo hsz)),by rw [if_neg (by simp)]; exact HBD.out.up (z02 (Below.refl _ _) 1),fun _ => z0e HOWN.out (z02 (Below.refl _ _) 1) (Nat.le_refl _)⟩) ⟨?_,?_,?_,?_,?_,?_,?_,?_,?_,?_,?_,?_,?_,?_,trivial⟩ ?_
   iterate 4
    ·
     rintro vals xw f hf1 - - hI hF; dsimp only [z03,bare]; simp only [z01,Act.put,zQ]
     go_wp2
     exact zY hI rfl rfl
   ·
    rintro vals xw f hf1 - - hI hF; simp only [z05,zF,zR,and_true] at hF; obtain ⟨e16,e17⟩:=hF; dsimp only [z03,bare]; simp only [z01,Act.put,zQ]; simp only [e16,e17]
    go_wp2
    exact zY hI rfl rfl
   ·
    rintro vals xw f hf1 - - hI hF; simp only [z05,zF,zR,and_true] at hF; have e18:=hF; dsimp only [z03,bare]; simp only [z01,Act.put,zQ]; simp only [e18]; have c9:=HRX.out _ hI.1
    go_wp2
    exact zY hI rfl rfl
   iterate 2
    ·
     rintro vals xw f hf1 - - hI hF; dsimp only [z03,bare]; simp only [z01,Act.put,zQ]
     go_wp2
     exact zY hI rfl rfl
   ·
    rintro vals xw f hf1 - - hI hF; simp only [z05,zF,zR,and_true] at hF; obtain ⟨e20,e21⟩:=hF; dsimp only [z03,bare]; simp only [z01,Act.put,zQ]; simp only [e20,e21]
    go_wp2
    exact zY hI rfl rfl
   ·
    rintro vals xw f hf1 - - hI hF; simp only [z05,zF,zR,and_true] at hF; have e22:=hF; dsimp only [z03,bare]; simp only [z01,Act.put,zQ]; simp only [e22]; have c9:=HRY.out _ hI.1
    go_wp2
    exact zY hI rfl rfl
   ·
    intro vals xw f hf1 hf2 hf3 hI hF; have k12 : f 12 = false:=hf3 12 (by kernel_rfl); clear hf2 hf3; simp only [z05,zF,zR,and_true] at hF; obtain ⟨e15,e19,e23⟩:=hF; dsimp only [z03,bare]; simp only [z01,Act.put,zQ]; simp only [e15,e19,e23]; obtain ⟨i1,i2,i3⟩:=hI; rw [hf1,if_neg (by simp)] at i2; have I3:=zH (i3 k12); have I1:=zH i1; have HC:=zH (HCALL.out x y s1 xw i2 HXYM.out.1 HXYM.out.2 (HK.out xw i1)); rw [<- HM.out] at HC; clear i1 i2 i3
    go_wp2_with fail
    refine HC.out.mono ?_; rintro e wx ⟨rfl,hb9,hd9⟩; have HB9:=zH hb9; have HD9:=zH hd9; clear hb9 hd9 HC
    go_wp2
    exact ⟨rfl,rfl,⟨fun _ => HB9.out,fun h9 => absurd rfl h9⟩,I1.out.trans HB9.out,by rw [z0h,if_pos rfl]; exact HD9.out,fun _ => I3.out.upB HB9.out⟩
   ·
    intro vals xw f hf1 hf2 hf3 hI hF; have k12 : f 12 = false:=hf3 12 (by kernel_rfl); clear hf2 hf3; simp only [z05,zF,zR,and_true] at hF; have e24:=hF; dsimp only [z03,bare]; simp only [z01,Act.put,zQ]; simp only [e24]; have k9:=hI.2.2 k12; have h9 : some xw.heap.size ≠ (Value.slice A l.length c).ownBlock:=fun e => by have:=(k9.lt _ e.symm).2; omega
    have H9:=zH h9; have hal : Below xw.heap.size xw (xw.alloc (.cells #[.int .i64 m.2] 110)):=(Below.refl _ _).alloc (Nat.le_refl _) _; have HI:=zH hI; have HAL:=zH hal; clear k9 h9 hal hI
    go_wp2
    exact ⟨rfl,⟨_,rfl,heap_alloc_new _ _,H9.out⟩,⟨zN rfl,fun _ => ⟨zN rfl,fun _ => HAL.out⟩⟩,HI.out.up HAL.out⟩
   ·
    rintro vals xw f hf1 - - hI hF; simp only [z05,zF,zR,and_true] at hF; obtain ⟨e14,b9,e25,hb9,_⟩:=hF; dsimp only [z03,bare]; simp only [z01,Act.put,zQ]; simp only [e14,e25]; obtain ⟨i1,i2,i3⟩:=hI; have hsz9:=i1.bel.size; have hll : l.length <= 1048576:=by have:=HLK.out; omega
    have I1:=zH i1; have I2:=zH i2; have I3:=zH (i3 hf1); clear i1 i2 i3
    at_builtin; refine z0y (ys:=l2) (by rfl) (.tmp 14) (.tmp 25) (by rfl) (by rfl) (by rfl) I3.out hb9 hll hsz9 HL2.out ?_; intro A9 c9 w9 hown9 hg9
    obtain ⟨hs9,hb8⟩:=I3.out.grown hg9 hsz9 hlo
    go_wp2
    exact ⟨rfl,⟨A9,c9,rfl,hown9⟩,⟨zN rfl,fun _ => ⟨fun _ => hg9,fun h9 => absurd rfl h9⟩⟩,I1.out.then hb8 hlo,I2.out.upS hs9,fun h => absurd ((z0h f 12).symm.trans h) (by simp)⟩
   ·
    rintro vals xw f hf1 - - hI hF; simp only [z05,zF,zR,and_true] at hF; obtain ⟨A8,c8,e26,_⟩:=hF; dsimp only [z03,bare]; simp only [z01,Act.put,zQ]; simp only [e26]
    go_wp2
    exact ⟨rfl,e26.symm,⟨zN rfl,fun _ => ⟨zN rfl,fun _ => Below.refl _ _⟩⟩,hI⟩
   ·
    intro vals xw f hall hI hF; rw [show List.range _ = [0,1,2,3,4,5,6,7,8,9,10,11,12,13] from rfl] at hF; simp only [says,zF,zR,and_true] at hF; obtain ⟨i1,i2,_⟩:=hI; rw [hall 10 (by decide),if_pos rfl] at i2; obtain ⟨_,_,_,_,_,_,_,_,_,_,_,_,⟨A8,c8,e26,o26⟩,e7⟩:=hF; rw [e26] at e7; simp only [z01,Act.put,zQ]; simp only [e7]; have I1:=zH i1; have I2:=zH i2; have O26:=zH o26; clear i1 i2 o26 e26 e7
    go_wp2
    go_roundw
    case rel => exact ⟨k + 1,m.1,l2,A8,c8,by omega,by go_num,rfl,by rw [HL2.out,List.length_append,HLK.out]; rfl,O26.out,fun z hz => by
        rw [HL2.out] at hz
        rcases List.mem_append.1 hz with hz | hz
        · exact HLM.out z hz
        · rw [List.mem_singleton.1 hz]; exact HMB.out,I1.out,I2.out,zH (by rw [HL2.out,HM.out]; exact HST.out)⟩
    case measure => simp [intOf]; omega
  ·
   have hke : k = xs.length:=by omega
   subst hke; have hlt2 : ¬ ((xs.length : Nat) : Int) < xs.length:=by omega
   go_wp2
   go_ret
   have hd1 : xs.drop xs.length = []:=List.drop_length; have hd2 : ys.drop xs.length = []:=by rw [HL.out]; exact List.drop_length
   have hst2:=hst.out; rw [hd1,hd2] at hst2; have hT2 : T = (s1,l):=by rw [<- hst2]; show (s1,l ++ []) = _; rw [List.append_nil]
   rw [hT2]; exact ⟨A,c,rfl,HOWN.out.pl.1,HOWN.out.pl.2,HLM.out,HBB.out,HBD.out⟩
set_option maxRecDepth 100000 in
set_option maxHeartbeats 4000000 in
theorem each_xor (a0 a1 : Addr) (lo q r : Nat)  (X Y : Option Addr) (cx cy : Nat) (xs ys : List Int) (s : BS) (w : World) (K : World -> Prop) (hK : K w) (hKs : ∀ x,BelB lo w x -> K x) (h : Bd a0 a1 lo w q r s) (hX : Lay.int.Pl w X xs) (hY : Lay.int.Pl w Y ys) (hxm : ∀ x ∈ xs,MB x) (hym : ∀ y ∈ ys,MB y) (hl : xs.length = ys.length) (hn : xs.length <= 1000)
  (hcall : ∀ (x y : Int) (s : BS) (z : World),Bd a0 a1 lo z q r s -> MB x -> MB y -> K z -> Calls Tryz.prog 79 #[.pointer (some ⟨q,0,none⟩),.int .i64 x,.int .i64 y] z (RetM a0 a1 lo z q r (run opsP ((fun x y => PG.xor x y PG.ret) x y) s)))
  (hnb : ∀ (x y : Int) (s : BS),NB s.n -> MB x -> MB y -> MB (run opsP ((fun x y => PG.xor x y PG.ret) x y) s).2) :
  Calls Tryz.prog 76 #[.slice X xs.length cx,.slice Y ys.length cy,.func (.func 79) #[.pointer (some ⟨q,0,none⟩)] #[]] w (RetL a0 a1 lo w q r (run opsP (z0v (fun x y => PG.xor x y PG.ret) xs ys) s)):=by
 obtain ⟨T,hT⟩ : ∃ T,T = run opsP (z0v (fun x y => PG.xor x y PG.ret) xs ys) s:=⟨_,rfl⟩; rw [<- hT]; have HT:=zH hT; have HB:=zH h; have HX:=zH hX; have HY:=zH hY; have HK:=zH hKs; have HXM:=zH hxm; have HYM:=zH hym; have HCALL:=zH hcall; have HNB:=zH hnb; have HL:=zH hl; have hlo:=h.size; clear hT h hX hY hKs hxm hym hcall hnb hK; rw [<- hl]; clear hl
 go_enter Tryz.func76,Tryz.ntmps76
 go_wp2
 go_loopw [7,11] (fun out i wr => ∃ (k : Nat) (s1 : BS) (l : List Int) (A : Option Addr) (c : Nat),k <= xs.length /\ i = .int .i64 k /\ out = .slice A l.length c /\ l.length = k /\ z0u wr w.heap.size (.slice A l.length c) l /\ (∀ m ∈ l,MB m) /\ BelB lo w wr /\ Bd a0 a1 lo wr q r s1 /\ Hid ((let z:=run opsP (z0v (fun x y => PG.xor x y PG.ret) (xs.drop k) (ys.drop k)) s1; (z.1,l ++ z.2)) = T)) (fun _ i _ => xs.length - (intOf i).toNat)
 case atStart => exact ⟨0,s,[],none,0,Nat.zero_le _,rfl,rfl,rfl,z0u.nil _ _,(fun _ h => by cases h),.refl _ _,HB.out,zH (by rw [HT.out]; rfl)⟩
 case round =>
  obtain ⟨k,s1,l,A,c,hk,rfl,rfl,hlk,hown,hlm,hbb,hbd,hst⟩:=hrel; have HOWN:=zH hown; have HLM:=zH hlm; have HBB:=zH hbb; have HBD:=zH hbd; have HLK:=zH hlk; have hsz:=hbb.bel.size; clear hown hlm hbb hbd hlk
  by_cases hlt : k < xs.length
  ·
   have hlt2 : (k : Int) < xs.length:=by omega
   have hlty : k < ys.length:=by rw [<- HL.out]; exact hlt
   obtain ⟨x,hx⟩ : ∃ x,xs[k]? = some x:=⟨_,List.getElem?_eq_getElem hlt⟩; obtain ⟨y,hy⟩ : ∃ y,ys[k]? = some y:=⟨_,List.getElem?_eq_getElem hlty⟩; have hxg : xs[k] = x:=(List.getElem?_eq_some_iff.1 hx).2; have hyg : ys[k] = y:=(List.getElem?_eq_some_iff.1 hy).2; have hxM : MB x:=HXM.out x (List.mem_of_getElem? hx); have hyM : MB y:=HYM.out y (List.mem_of_getElem? hy); obtain ⟨adx,rfl,-,-⟩:=HX.out.at_int hlt; obtain ⟨ady,rfl,-,-⟩:=HY.out.at_int hlty; obtain ⟨m,hm⟩ : ∃ m,m = run opsP ((fun x y => PG.xor x y PG.ret) x y) s1:=⟨_,rfl⟩; have HST:=zH ((z1v (o:=opsP) (f:=(fun x y => PG.xor x y PG.ret)) xs ys k x y hx hy s1 l).symm.trans hst.out); have HM:=zH hm; have HMB : Hid (MB m.2):=zH (by rw [hm]; exact HNB.out x y s1 HBD.out.nb hxM hyM); have HRX : Hid (∀ z,BelB lo w z -> z.cell? (adx.add k) = some (.int .i64 x)):=zH fun z hz => by
    obtain ⟨ad,e,_,hc⟩:=(HX.out.upB hz).at_int hlt
    injection e with e; subst e; rw [<- hxg]; exact hc
   have HRY : Hid (∀ z,BelB lo w z -> z.cell? (ady.add k) = some (.int .i64 y)):=zH fun z hz => by
    obtain ⟨ad,e,_,hc⟩:=(HY.out.upB hz).at_int hlty
    injection e with e; subst e; rw [<- hyg]; exact hc
   obtain ⟨l2,hl2⟩ : ∃ l2,l2 = l ++ [m.2]:=⟨_,rfl⟩; have HL2:=zH hl2; have hky : (k : Int) < ys.length:=by omega
   have hkx : (k : Int) < cx + 1 + xs.length:=by omega
   have HXYM:=zH (And.intro hxM hyM); clear hm hx hy hxg hyg hst hl2 hxM hyM hlty hkx
   go_wp2
   refine z0a [[],[],[],[],[(2,16),(3,17)],[(4,18)],[],[],[(6,20),(7,21)],[(8,22)],[(1,15),(5,19),(9,23)],[(10,24)],[(0,14),(11,25)],[(12,26)]]
    (fun x9 y9 => Below x9.heap.size x9 y9)
    [(10,fun x9 y9 => BelB lo x9 y9),(12,fun x9 y9 => x9.grownBy y9 (Value.slice A l.length c).ownBlock)]
    (fun f9 x9 => EachI a0 a1 lo w q r s1 m.1 A c l (f9 10) (f9 12) x9)
    [zF 0 (.slice A l.length c),
  zF 1 (.func (.func 79) #[.pointer (some ⟨q,0,none⟩)] #[]),
  zF 2 (.slice (some adx) xs.length cx),
  zF 3 (.int .i64 (k : Int)),
  zF 4 (.pointer (some (adx.add k))),
  zF 5 (.int .i64 x),
  zF 6 (.slice (some ady) xs.length cy),
  zF 7 (.int .i64 (k : Int)),
  zF 8 (.pointer (some (ady.add k))),
  zF 9 (.int .i64 y),
  zF 10 (.int .i64 m.2),
  fun vs9 y9 => (fun v z => ∃ b : Nat,v = .slice (some ⟨b,0,none⟩) 1 1 /\ z.heap[b]? = some (.cells #[.int .i64 m.2] 110 (0,0)) /\ some b ≠ (Value.slice A l.length c).ownBlock) (vs9 11) y9,
  fun vs9 y9 => (fun v z => ∃ A' c',v = .slice A' l2.length c' /\ z0u z w.heap.size (.slice A' l2.length c') l2) (vs9 12) y9,
  fun vs9 _ => vs9 13 = vs9 12]
    [(0,14),(1,15),(2,16),(3,17),(4,18),(5,19),(6,20),(7,21),(8,22),(9,23),(10,24),(11,25),(12,26),(13,7)] (by kernel_rfl) (by kernel_rfl) (by kernel_rfl) (by kernel_rfl)
    (fun _ => Below.refl _ _) ⟨fun _ => BelB.refl _ _,fun _ => World.grownBy.refl _ _,trivial⟩
    ⟨⟨.inr zG,⟨.inr (.inr zG),.inr (.inr zG),trivial⟩⟩,
  ⟨.inr zG,⟨.inr (.inr zG),.inr (.inr zG),trivial⟩⟩,
  ⟨.inr zG,⟨.inr (.inr zG),.inr (.inr zG),trivial⟩⟩,
  ⟨.inr zG,⟨.inr (.inr zG),.inr (.inr zG),trivial⟩⟩,
  ⟨.inr zG,⟨.inr (.inr zG),.inr (.inr zG),trivial⟩⟩,
  ⟨.inr zG,⟨.inr (.inr zG),.inr (.inr zG),trivial⟩⟩,
  ⟨.inr zG,⟨.inr (.inr zG),.inr (.inr zG),trivial⟩⟩,
  ⟨.inr zG,⟨.inr (.inr zG),.inr (.inr zG),trivial⟩⟩,
  ⟨.inr zG,⟨.inr (.inr zG),.inr (.inr zG),trivial⟩⟩,
  ⟨.inr zG,⟨.inr (.inr zG),.inr (.inr zG),trivial⟩⟩,
  ⟨.inr zG,⟨.inr (.inl rfl),.inr (.inr zG),trivial⟩⟩,
  ⟨.inr (zS (fun v z => ∃ b : Nat,v = .slice (some ⟨b,0,none⟩) 1 1 /\ z.heap[b]? = some (.cells #[.int .i64 m.2] 110 (0,0)) /\ some b ≠ (Value.slice A l.length c).ownBlock) (fun _ _ _ ⟨b,h1,h2,h3⟩ hR => ⟨b,h1,(hR.block b (lt_of_block h2)).trans h2,h3⟩)),⟨.inl (by kernel_rfl),.inr (.inr (zS (fun v z => ∃ b : Nat,v = .slice (some ⟨b,0,none⟩) 1 1 /\ z.heap[b]? = some (.cells #[.int .i64 m.2] 110 (0,0)) /\ some b ≠ (Value.slice A l.length c).ownBlock) (fun _ _ _ ⟨b,h1,h2,h3⟩ hR => ⟨b,h1,(hR.block b (lt_of_block h2) h3).trans h2,h3⟩))),trivial⟩⟩,
  ⟨.inr (zS (fun v z => ∃ A' c',v = .slice A' l2.length c' /\ z0u z w.heap.size (.slice A' l2.length c') l2) (fun _ _ _ ⟨A',c',h1,h2⟩ hR => ⟨A',c',h1,z0e h2 hR (Nat.le_refl _)⟩)),⟨.inl (by kernel_rfl),.inr (.inl rfl),trivial⟩⟩,
  ⟨.inr zK,⟨.inr (.inr zK),.inr (.inr zK),trivial⟩⟩,trivial⟩ ⟨zL,
  zL,
  zL,
  zL,
  zL,
  zL,
  zL,
  zL,
  zL,
  zL,
  zL,
  fun _ _ _ h _ v => (by simpa only [<- h] using v),
  fun _ _ _ h _ v => (by simpa only [<- h] using v),
  fun vs vs' x h hd hv => (by have h2:=hd 12 (by decide); show vs' 13 = vs' 12; exact h.symm.trans (Eq.trans hv h2)),trivial⟩ (⟨HBB.out.trans (.of (z02 (Below.refl _ _) 1) (Nat.le_trans hlo hsz)),by rw [if_neg (by simp)]; exact HBD.out.up (z02 (Below.refl _ _) 1),fun _ => z0e HOWN.out (z02 (Below.refl _ _) 1) (Nat.le_refl _)⟩) ⟨?_,?_,?_,?_,?_,?_,?_,?_,?_,?_,?_,?_,?_,?_,trivial⟩ ?_
   iterate 4
    ·
     rintro vals xw f hf1 - - hI hF; dsimp only [z03,bare]; simp only [z01,Act.put,zQ]
     go_wp2
     exact zY hI rfl rfl
   ·
    rintro vals xw f hf1 - - hI hF; simp only [z05,zF,zR,and_true] at hF; obtain ⟨e16,e17⟩:=hF; dsimp only [z03,bare]; simp only [z01,Act.put,zQ]; simp only [e16,e17]
    go_wp2
    exact zY hI rfl rfl
   ·
    rintro vals xw f hf1 - - hI hF; simp only [z05,zF,zR,and_true] at hF; have e18:=hF; dsimp only [z03,bare]; simp only [z01,Act.put,zQ]; simp only [e18]; have c9:=HRX.out _ hI.1
    go_wp2
    exact zY hI rfl rfl
   iterate 2
    ·
     rintro vals xw f hf1 - - hI hF; dsimp only [z03,bare]; simp only [z01,Act.put,zQ]
     go_wp2
     exact zY hI rfl rfl
   ·
    rintro vals xw f hf1 - - hI hF; simp only [z05,zF,zR,and_true] at hF; obtain ⟨e20,e21⟩:=hF; dsimp only [z03,bare]; simp only [z01,Act.put,zQ]; simp only [e20,e21]
    go_wp2
    exact zY hI rfl rfl
   ·
    rintro vals xw f hf1 - - hI hF; simp only [z05,zF,zR,and_true] at hF; have e22:=hF; dsimp only [z03,bare]; simp only [z01,Act.put,zQ]; simp only [e22]; have c9:=HRY.out _ hI.1
    go_wp2
    exact zY hI rfl rfl
   ·
    intro vals xw f hf1 hf2 hf3 hI hF; have k12 : f 12 = false:=hf3 12 (by kernel_rfl); clear hf2 hf3; simp only [z05,zF,zR,and_true] at hF; obtain ⟨e15,e19,e23⟩:=hF; dsimp only [z03,bare]; simp only [z01,Act.put,zQ]; simp only [e15,e19,e23]; obtain ⟨i1,i2,i3⟩:=hI; rw [hf1,if_neg (by simp)] at i2; have I3:=zH (i3 k12); have I1:=zH i1; have HC:=zH (HCALL.out x y s1 xw i2 HXYM.out.1 HXYM.out.2 (HK.out xw i1)); rw [<- HM.out] at HC; clear i1 i2 i3
    go_wp2_with fail
    refine HC.out.mono ?_; rintro e wx ⟨rfl,hb9,hd9⟩; have HB9:=zH hb9; have HD9:=zH hd9; clear hb9 hd9 HC
    go_wp2
    exact ⟨rfl,rfl,⟨fun _ => HB9.out,fun h9 => absurd rfl h9⟩,I1.out.trans HB9.out,by rw [z0h,if_pos rfl]; exact HD9.out,fun _ => I3.out.upB HB9.out⟩
   ·
    intro vals xw f hf1 hf2 hf3 hI hF; have k12 : f 12 = false:=hf3 12 (by kernel_rfl); clear hf2 hf3; simp only [z05,zF,zR,and_true] at hF; have e24:=hF; dsimp only [z03,bare]; simp only [z01,Act.put,zQ]; simp only [e24]; have k9:=hI.2.2 k12; have h9 : some xw.heap.size ≠ (Value.slice A l.length c).ownBlock:=fun e => by have:=(k9.lt _ e.symm).2; omega
    have H9:=zH h9; have hal : Below xw.heap.size xw (xw.alloc (.cells #[.int .i64 m.2] 110)):=(Below.refl _ _).alloc (Nat.le_refl _) _; have HI:=zH hI; have HAL:=zH hal; clear k9 h9 hal hI
    go_wp2
    exact ⟨rfl,⟨_,rfl,heap_alloc_new _ _,H9.out⟩,⟨zN rfl,fun _ => ⟨zN rfl,fun _ => HAL.out⟩⟩,HI.out.up HAL.out⟩
   ·
    rintro vals xw f hf1 - - hI hF; simp only [z05,zF,zR,and_true] at hF; obtain ⟨e14,b9,e25,hb9,_⟩:=hF; dsimp only [z03,bare]; simp only [z01,Act.put,zQ]; simp only [e14,e25]; obtain ⟨i1,i2,i3⟩:=hI; have hsz9:=i1.bel.size; have hll : l.length <= 1048576:=by have:=HLK.out; omega
    have I1:=zH i1; have I2:=zH i2; have I3:=zH (i3 hf1); clear i1 i2 i3
    at_builtin; refine z0y (ys:=l2) (by rfl) (.tmp 14) (.tmp 25) (by rfl) (by rfl) (by rfl) I3.out hb9 hll hsz9 HL2.out ?_; intro A9 c9 w9 hown9 hg9
    obtain ⟨hs9,hb8⟩:=I3.out.grown hg9 hsz9 hlo
    go_wp2
    exact ⟨rfl,⟨A9,c9,rfl,hown9⟩,⟨zN rfl,fun _ => ⟨fun _ => hg9,fun h9 => absurd rfl h9⟩⟩,I1.out.then hb8 hlo,I2.out.upS hs9,fun h => absurd ((z0h f 12).symm.trans h) (by simp)⟩
   ·
    rintro vals xw f hf1 - - hI hF; simp only [z05,zF,zR,and_true] at hF; obtain ⟨A8,c8,e26,_⟩:=hF; dsimp only [z03,bare]; simp only [z01,Act.put,zQ]; simp only [e26]
    go_wp2
    exact ⟨rfl,e26.symm,⟨zN rfl,fun _ => ⟨zN rfl,fun _ => Below.refl _ _⟩⟩,hI⟩
   ·
    intro vals xw f hall hI hF; rw [show List.range _ = [0,1,2,3,4,5,6,7,8,9,10,11,12,13] from rfl] at hF; simp only [says,zF,zR,and_true] at hF; obtain ⟨i1,i2,_⟩:=hI; rw [hall 10 (by decide),if_pos rfl] at i2; obtain ⟨_,_,_,_,_,_,_,_,_,_,_,_,⟨A8,c8,e26,o26⟩,e7⟩:=hF; rw [e26] at e7; simp only [z01,Act.put,zQ]; simp only [e7]; have I1:=zH i1; have I2:=zH i2; have O26:=zH o26; clear i1 i2 o26 e26 e7
    go_wp2
    go_roundw
    case rel => exact ⟨k + 1,m.1,l2,A8,c8,by omega,by go_num,rfl,by rw [HL2.out,List.length_append,HLK.out]; rfl,O26.out,fun z hz => by
        rw [HL2.out] at hz
        rcases List.mem_append.1 hz with hz | hz
        · exact HLM.out z hz
        · rw [List.mem_singleton.1 hz]; exact HMB.out,I1.out,I2.out,zH (by rw [HL2.out,HM.out]; exact HST.out)⟩
    case measure => simp [intOf]; omega
  ·
   have hke : k = xs.length:=by omega
   subst hke; have hlt2 : ¬ ((xs.length : Nat) : Int) < xs.length:=by omega
   go_wp2
   go_ret
   have hd1 : xs.drop xs.length = []:=List.drop_length; have hd2 : ys.drop xs.length = []:=by rw [HL.out]; exact List.drop_length
   have hst2:=hst.out; rw [hd1,hd2] at hst2; have hT2 : T = (s1,l):=by rw [<- hst2]; show (s1,l ++ []) = _; rw [List.append_nil]
   rw [hT2]; exact ⟨A,c,rfl,HOWN.out.pl.1,HOWN.out.pl.2,HLM.out,HBB.out,HBD.out⟩
theorem sig_set {lo g k : Nat} {x : World} {cs : Array Value} {fr : Nat × Nat} (hq : x.heap[g]? = some (.cells cs 110 fr)) (hl : lo <= g) (u : Value) : BelS lo x (x.setCell ⟨g,k,none⟩ u) :=
 ⟨z0b (Below.refl _ _) hl u,fun i o hi hc => by
  by_cases e : i = g
  · subst e; rw [hq] at hi; injection hi with hi; subst hi; exact absurd hc sig_nck.1
  · exact (heap_setCell_other _ _ _ _ e).trans hi,fun i o hi hc => by
  by_cases e : i = g
  · subst e; rw [hq] at hi; injection hi with hi; subst hi; exact absurd hc sig_nck.2
  · exact (heap_setCell_other _ _ _ _ e).trans hi⟩
def OwnN (w : World) (base g n c : Nat) (ys : List Int) : Prop:=w.ownsRow base 110 1 (.slice (some ⟨g,0,none⟩) n c) n (ys.map (Value.int .i64))
theorem OwnN.len {w : World} {base g n c : Nat} {ys : List Int} (h : OwnN w base g n c ys) : n = ys.length:=by
 have:=h.1; simp at this; omega
theorem OwnN.sg {w : World} {base g n c : Nat} {ys : List Int} (h : OwnN w base g n c ys) : z0u w base (.slice (some ⟨g,0,none⟩) ys.length c) ys:=by
 have e:=h.len; subst e; exact h
theorem OwnN.upB {lo : Nat} {w w' : World} {base g n c : Nat} {ys : List Int} (h : OwnN w base g n c ys) (hb : BelB lo w w') : OwnN w' base g n c ys:=by
 have e:=h.len; subst e; exact z0u.upB h hb
theorem OwnN.block {x : World} {base g n c : Nat} {ys : List Int} (h : OwnN x base g n c ys) : base <= g /\ g < x.heap.size /\ ∃ cs fr,x.heap[g]? = some (.cells cs 110 fr):=by
 rcases h.2 with ⟨e,_⟩ | ⟨g',cap,cur,e,hb,hgg,_⟩
 · cases e
 ·
  injection e with e _ _; injection e with e; injection e with e
  subst e; exact ⟨hb,lt_of_block hgg,_,_,hgg⟩
theorem OwnN.put {x : World} {base g n c k : Nat} {ys zs : List Int} (h : OwnN x base g n c ys) (v : Int) (hz : zs = ys.set k v) : OwnN (x.setCell ⟨g,k,none⟩ (.int .i64 v)) base g n c zs:=by
 have:=(World.ownsRow.stored h k (.int .i64 v)).1; unfold OwnN; rw [hz,List.map_set]; exact this
theorem OwnN.cell {x : World} {base g n c k : Nat} {ys : List Int} (h : OwnN x base g n c ys) (hk : k < n) : (∃ v,x.cell? ⟨g,k,none⟩ = some v) /\ x.frozen? ⟨g,k,none⟩ = false:=by
 refine ⟨?_,World.ownsRow.frozenAt h k⟩; have e:=h.len; rw [World.ownsRow.cellAt h k (by omega)]; exact ⟨_,List.getElem?_eq_getElem (by simp; omega)⟩
theorem below_at (x : World) (g k : Nat) (u : Value) : Below g x (x.setCell ⟨g,k,none⟩ u):=z0b (p:=⟨g,k,none⟩) (Below.refl _ _) (Nat.le_refl g) u
theorem put_next {d : List Int} {n k : Nat} (hk : d.length = k) (hn : k < n) (v : Int) : (d ++ List.replicate (n - k) 0).set k v = (d ++ [v]) ++ List.replicate (n - (k + 1)) 0:=by
 subst hk; rw [List.set_append_right _ _ (Nat.le_refl _),Nat.sub_self,show n - d.length = (n - (d.length + 1)) + 1 by omega,List.replicate_succ,List.set_cons_zero,List.append_assoc]; rfl
theorem made_sg {w w1 : World} {n : Nat} (h : w1.ownsRow w.heap.size 110 1 (.slice (some ⟨w.heap.size,0,none⟩) n n) n (madeCells (Value.int .i64 0).cells (n * 1)).toList) : OwnN w1 w.heap.size w.heap.size n n (([] : List Int) ++ List.replicate (n - 0) 0):=by
 rw [show (madeCells (Value.int .i64 0).cells (n * 1)).toList = List.replicate n (.int .i64 0) from by rw [show (Value.int .i64 0).cells = #[Value.int .i64 0] from rfl,toList_madeCells_one]; simp] at h; unfold OwnN
 simpa using h
set_option maxRecDepth 100000 in
set_option maxHeartbeats 8000000 in
theorem bShift_up (a0 a1 : Addr) (lo q r : Nat) (fl : Int) (X Y : Option Addr) (cx cy : Nat) (xs ys : List Int) (s : BS) (w : World) (h : Bd a0 a1 lo w q r s) (hfl : MB fl) (hX : Lay.int.Pl w X xs) (hY : Lay.int.Pl w Y ys) (hxm : ∀ x ∈ xs,MB x) (hym : ∀ y ∈ ys,MB y) (h0 : 0 < ys.length) (hn : xs.length <= 8) (hn' : ys.length <= 8) :
  Calls Tryz.prog 84 #[.pointer (some ⟨q,0,none⟩),.slice X xs.length cx,.slice Y ys.length cy,.bool true,.int .i64 fl] w (RetL a0 a1 lo w q r (run opsP (z0z true fl ys 0 xs) s)):=by
 obtain ⟨i0,hi0,hz0,hz1,hz2⟩:=info_parts z1x; obtain ⟨T,hT⟩ : ∃ T,T = run opsP (z0z true fl ys 0 xs) s:=⟨_,rfl⟩; rw [<- hT]; have HT:=zH hT; have HB:=zH h; have HX:=zH hX; have HY:=zH hY; have HXM:=zH hxm; have HYM:=zH hym; have HFL:=zH hfl; have hlo:=h.size; clear hT h hX hY hxm hym hfl
 go_enter Tryz.func84,Tryz.ntmps84
 go_wp2
 go_loopw [11,22] (fun sv i wr => ∃ (j : Nat) (s1 : BS) (l : List Int) (A : Option Addr) (c : Nat),j <= ys.length /\ i = .int .i64 j /\ sv = .slice A l.length c /\ (0 < j -> l.length <= c) /\ l.length = xs.length /\ (∀ m ∈ l,MB m) /\ Lay.int.Pl wr A l /\ BelB lo w wr /\ Bd a0 a1 lo wr q r s1 /\ Hid (run opsP (z0z true fl (ys.drop j) j l) s1 = T)) (fun _ i _ => ys.length - (intOf i).toNat)
 case atStart => exact ⟨0,s,xs,X,cx,Nat.zero_le _,rfl,rfl,(fun h => absurd h (Nat.lt_irrefl _)),rfl,HXM.out,HX.out,.refl _ _,HB.out,zH (by rw [HT.out]; rfl)⟩
 case round =>
  obtain ⟨j,s1,l,A,c,hj,rfl,rfl,hlc,hll,hlm,hpl,hbb,hbd,hst⟩:=hrel; obtain ⟨wo,hwo⟩ : ∃ wo,wo = wr:=⟨_,rfl⟩; subst hwo; have HLC:=zH hlc; have HLL:=zH hll; have HLM:=zH hlm; have HPL:=zH hpl; have HBB:=zH hbb; have HBD:=zH hbd; have hl8 : l.length <= 8:=by omega
  have hlo2:=hbd.size; clear hlc hll hlm hpl hbb hbd HX HXM HB HT
  by_cases hlt : j < ys.length
  ·
   have hlt2 : (j : Int) < ys.length:=by omega
   have hj8 : j < 8:=by omega
   obtain ⟨y,hy⟩ : ∃ y,ys[j]? = some y:=⟨_,List.getElem?_eq_getElem hlt⟩; have hyg : ys[j] = y:=(List.getElem?_eq_some_iff.1 hy).2; have HYR:=zH (HYM.out y (List.mem_of_getElem? hy)); obtain ⟨ady,rfl,-,-⟩:=HY.out.at_int hlt; have cy9 : wo.cell? (ady.add j) = some (.int .i64 y):=by
    obtain ⟨ad,e,_,hc⟩:=(HY.out.upB HBB.out).at_int hlt
    injection e with e; subst e; rw [<- hyg]; exact hc
   have HST:=zH ((run_shift (o:=opsP) true fl ys j y l s1 hy).symm.trans hst.out); obtain ⟨p,hp⟩ : ∃ p,p = 2 ^ j:=⟨_,rfl⟩; have hp2 : (2 : Int) ^ j = (p : Int):=by rw [hp]; simp
   have hp128 : p <= 128:=by
    have : j = 0 \/ j = 1 \/ j = 2 \/ j = 3 \/ j = 4 \/ j = 5 \/ j = 6 \/ j = 7:=by omega
    rcases this with rfl | rfl | rfl | rfl | rfl | rfl | rfl | rfl <;> rw [hp] <;> decide
   rw [<- hp] at HST; obtain ⟨fr,hfr⟩ : ∃ fr,fr = fromL true l p fl:=⟨_,rfl⟩; rw [<- hfr] at HST; obtain ⟨C,hC⟩ : ∃ C,C = (fun z : BS × List Int => run opsP (z0z true fl (ys.drop (j + 1)) (j + 1) z.2) z.1):=⟨_,rfl⟩; rw [<- hC] at HST; have HC:=zH hC; have HFR:=zH hfr; have HFRL : Hid (fr.length = l.length):=zH (by rw [hfr]; exact z2j _ _ _ _); clear hy hyg hst hC hfr hp
   go_wp2_with (at_make; refine wpList_make_full wo rfl _ _ 67 rfl wo.heap.size 110 i0 _ 1 Tryz.underlying67 hi0 hz0 hz1 .i64 .i64 _ _ l.length rfl rfl rfl rfl (by rw [hz2]; omega) (by unfold maxLen; omega) (Nat.le_refl _) ?_; intro w1 hown hg)
   have hb1 : Below wo.heap.size wo w1:=(Below.refl _ _).grown hg (Nat.le_refl _) (by simp); have HO1:=zH (made_sg hown); have HB1:=zH (BelB.of hb1 hlo2); have HD1:=zH (HBD.out.up hb1); clear hown hg hb1 cy9 hp2
   go_loopw [37] (fun i z => ∃ (k : Nat) (s2 : BS) (d : List Int),k <= l.length /\ i = .int .i64 k /\ d.length = k /\ (∀ m ∈ d,MB m) /\ BelB lo wo z /\ Bd a0 a1 lo z q r s2 /\ OwnN z wo.heap.size wo.heap.size l.length l.length (d ++ List.replicate (l.length - k) 0) /\ Hid (C (let g:=run opsP (z0v (muxP y) (fr.drop k) (l.drop k)) s2; (g.1,d ++ g.2)) = T)) (fun i _ => l.length - (intOf i).toNat)
   case atStart => exact ⟨0,s1,[],Nat.zero_le _,rfl,rfl,(fun _ h => by cases h),HB1.out,HD1.out,HO1.out,HST⟩
   case round =>
    obtain ⟨k,s2,d,hk,rfl,hdk,hdm,hbz,hdz,hoz,hst⟩:=hrel; have HDM:=zH hdm; have HDK:=zH hdk; have HBZ:=zH hbz; have HDZ:=zH hdz; have HOZ:=zH hoz; clear hdm hdk hbz hdz hoz HO1 HB1 HD1 HST
    by_cases hltk : k < l.length
    ·
     have hltk2 : (k : Int) < l.length:=by omega
     obtain ⟨sv,hsv⟩ : ∃ sv,l[k]? = some sv:=⟨_,List.getElem?_eq_getElem hltk⟩; have hsg : l[k] = sv:=(List.getElem?_eq_some_iff.1 hsv).2; have HSVM:=zH (HLM.out sv (List.mem_of_getElem? hsv)); have hfr : fr[k]? = some (frV true l p fl k):=by rw [HFR.out]; exact fromL_at hltk
     obtain ⟨ads,rfl,-,-⟩:=HPL.out.at_int hltk; have HRS : Hid (∀ z,BelB lo wo z -> ∀ d,(hd : d < l.length) -> z.cell? (ads.add d) = some (.int .i64 l[d])):=zH fun z hz d hd => by
      obtain ⟨ad,e,_,hc⟩:=(HPL.out.upB hz).at_int hd
      injection e with e; subst e; exact hc
     have cs9 : wr.cell? (ads.add k) = some (.int .i64 sv):=by rw [<- hsg]; exact HRS.out _ HBZ.out k hltk
     have HRK : Hid (∀ (fv : Int),fv = frV true l p fl k -> (MB fv) -> ∃ g : BS × Int,g = run opsP (muxP y fv sv) s2 /\ MB g.2 /\ Hid (C (let r:=run opsP (z0v (muxP y) (fr.drop (k + 1)) (l.drop (k + 1))) g.1; (r.1,(d ++ [g.2]) ++ r.2)) = T)):=zH fun fv hfv hm => by
      refine ⟨_,rfl,(mux_mb HDZ.out.nb HYR.out.rb hm.rb HSVM.out.rb).2,zH ?_⟩; rw [<- hst.out]; subst hfv; exact (congrArg C (z1v (o:=opsP) (f:=muxP y) fr l k _ sv hfr hsv s2 d)).symm
     have hw2:=lt_of_block HDZ.out.box; clear hsv hsg hfr hst
     by_cases hkp : k < p
     ·
      have hneg : (k : Int) + -(p : Int) < 0:=by omega
      obtain ⟨g,hg9,hgm9,HST9⟩:=HRK.out fl (by unfold frV; rw [if_pos rfl,if_pos hkp]) (HFL.out); have HGM:=zH hgm9; have HC9:=zH (bMux_any a0 a1 lo q r s2 y fl sv wr HDZ.out HYR.out (HFL.out) HSVM.out); rw [<- hg9] at HC9; clear hg9 hgm9 HRK; clear hkp HRS HFR
      go_wp2_with fail
      refine HC9.out.mono ?_; rintro e z2 ⟨rfl,hb9,hd9⟩; have own9:=HOZ.out.upB hb9; obtain ⟨⟨v3,hold⟩,hfz⟩:=own9.cell hltk; have HO9:=zH own9; have HB9:=zH (HBZ.out.trans hb9); have HD9:=zH hd9; clear own9 hb9 hd9 HC9
      go_wp2
      obtain ⟨hq1,hq2,cs,frz,hq3⟩:=HO9.out.block
      go_roundw
      case rel => exact ⟨k + 1,g.1,d ++ [g.2],by omega,by go_num,by rw [List.length_append,HDK.out]; rfl,fun z hz => (List.mem_append.1 hz).elim (HDM.out z) (fun hz => by rw [List.mem_singleton.1 hz]; exact HGM.out),HB9.out.then (below_at _ _ _ _) hlo2,HD9.out.upS (sig_set hq3 hlo2 _),HO9.out.put g.2 (put_next HDK.out hltk _).symm,HST9⟩
      case measure => simp [intOf]; omega
     ·
      obtain ⟨d9,hd0⟩ : ∃ d9 : Nat,d9 = k - p:=⟨_,rfl⟩; have hd9 : d9 < l.length:=by omega
      obtain ⟨fv,hfv9⟩ : ∃ fv,fv = l[d9]:=⟨_,rfl⟩; have cd9 : wr.cell? (ads.add d9) = some (.int .i64 fv):=by rw [hfv9]; exact HRS.out _ HBZ.out d9 hd9
      have hd92 : (d9 : Int) < l.length:=by omega
      have HFV:=zH (show MB fv from by rw [hfv9]; exact HLM.out _ (List.getElem_mem _)); have HFE:=zH (show fv = frV true l p fl k by unfold frV; rw [if_pos rfl,if_neg hkp,<- hd0,getD_at hd9,hfv9]); have hat : (k : Int) + -(p : Int) = (d9 : Int):=by omega
      obtain ⟨g,hg9,hgm9,HST9⟩:=HRK.out fv (HFE.out) (HFV.out); have HGM:=zH hgm9; have HC9:=zH (bMux_any a0 a1 lo q r s2 y fv sv wr HDZ.out HYR.out (HFV.out) HSVM.out); rw [<- hg9] at HC9; clear hg9 hgm9 HRK; clear hkp HRS HFR hfv9 hd0
      go_wp2_with fail
      refine HC9.out.mono ?_; rintro e z2 ⟨rfl,hb9,hd9⟩; have own9:=HOZ.out.upB hb9; obtain ⟨⟨v3,hold⟩,hfz⟩:=own9.cell hltk; have HO9:=zH own9; have HB9:=zH (HBZ.out.trans hb9); have HD9:=zH hd9; clear own9 hb9 hd9 HC9
      go_wp2
      obtain ⟨hq1,hq2,cs,frz,hq3⟩:=HO9.out.block
      go_roundw
      case rel => exact ⟨k + 1,g.1,d ++ [g.2],by omega,by go_num,by rw [List.length_append,HDK.out]; rfl,fun z hz => (List.mem_append.1 hz).elim (HDM.out z) (fun hz => by rw [List.mem_singleton.1 hz]; exact HGM.out),HB9.out.then (below_at _ _ _ _) hlo2,HD9.out.upS (sig_set hq3 hlo2 _),HO9.out.put g.2 (put_next HDK.out hltk _).symm,HST9⟩
      case measure => simp [intOf]; omega
    ·
     have hje : k = l.length:=by omega
     subst hje; have hltk2 : ¬ ((l.length : Nat) : Int) < l.length:=by omega
     have hd1 : l.drop l.length = []:=List.drop_length; have hd2 : fr.drop l.length = []:=by rw [<- HFRL.out]; exact List.drop_length
     have hst2:=hst.out; rw [hd1,hd2] at hst2; have hst3 : C (s2,d) = T:=by rw [<- hst2]; show _ = C (s2,d ++ []); rw [List.append_nil]
     rw [HC.out] at hst3; have HST2:=zH hst3; have HPD : Hid (Lay.int.Pl wr (some ⟨wo.heap.size,0,none⟩) d):=zH (by
      have h9:=HOZ.out; rw [Nat.sub_self,List.replicate_zero,List.append_nil] at h9; exact h9.sg.pl.2)
     clear hst hst2 hst3 hd1 hd2
     go_wp2
     go_roundw
     case rel => exact ⟨j + 1,s2,d,some ⟨wo.heap.size,0,none⟩,l.length,by omega,by go_num,by rw [HDK.out],fun _ => Nat.le_of_eq HDK.out,HDK.out.trans HLL.out,HDM.out,HPD.out,HBB.out.trans HBZ.out,HDZ.out,HST2⟩
     case measure => simp [intOf]; omega
  ·
   have hje : j = ys.length:=by omega
   subst hje; have hlt2 : ¬ ((ys.length : Nat) : Int) < ys.length:=by omega
   have hd1 : ys.drop ys.length = []:=List.drop_length; have hst2:=hst.out; rw [hd1] at hst2; have HT2:=zH (show T = (s1,l) by rw [<- hst2]; rfl); clear hst hst2 hd1
   go_wp2
   go_ret
   rw [HT2.out]; exact ⟨A,c,rfl,HLC.out h0,HPL.out,HLM.out,HBB.out,HBD.out⟩
set_option maxRecDepth 100000 in
set_option maxHeartbeats 8000000 in
theorem bShift_down (a0 a1 : Addr) (lo q r : Nat) (fl : Int) (X Y : Option Addr) (cx cy : Nat) (xs ys : List Int) (s : BS) (w : World) (h : Bd a0 a1 lo w q r s) (hfl : MB fl) (hX : Lay.int.Pl w X xs) (hY : Lay.int.Pl w Y ys) (hxm : ∀ x ∈ xs,MB x) (hym : ∀ y ∈ ys,MB y) (h0 : 0 < ys.length) (hn : xs.length <= 8) (hn' : ys.length <= 8) :
  Calls Tryz.prog 84 #[.pointer (some ⟨q,0,none⟩),.slice X xs.length cx,.slice Y ys.length cy,.bool false,.int .i64 fl] w (RetL a0 a1 lo w q r (run opsP (z0z false fl ys 0 xs) s)):=by
 obtain ⟨i0,hi0,hz0,hz1,hz2⟩:=info_parts z1x; obtain ⟨T,hT⟩ : ∃ T,T = run opsP (z0z false fl ys 0 xs) s:=⟨_,rfl⟩; rw [<- hT]; have HT:=zH hT; have HB:=zH h; have HX:=zH hX; have HY:=zH hY; have HXM:=zH hxm; have HYM:=zH hym; have HFL:=zH hfl; have hlo:=h.size; clear hT h hX hY hxm hym hfl
 go_enter Tryz.func84,Tryz.ntmps84
 go_wp2
 go_loopw [11,22] (fun sv i wr => ∃ (j : Nat) (s1 : BS) (l : List Int) (A : Option Addr) (c : Nat),j <= ys.length /\ i = .int .i64 j /\ sv = .slice A l.length c /\ (0 < j -> l.length <= c) /\ l.length = xs.length /\ (∀ m ∈ l,MB m) /\ Lay.int.Pl wr A l /\ BelB lo w wr /\ Bd a0 a1 lo wr q r s1 /\ Hid (run opsP (z0z false fl (ys.drop j) j l) s1 = T)) (fun _ i _ => ys.length - (intOf i).toNat)
 case atStart => exact ⟨0,s,xs,X,cx,Nat.zero_le _,rfl,rfl,(fun h => absurd h (Nat.lt_irrefl _)),rfl,HXM.out,HX.out,.refl _ _,HB.out,zH (by rw [HT.out]; rfl)⟩
 case round =>
  obtain ⟨j,s1,l,A,c,hj,rfl,rfl,hlc,hll,hlm,hpl,hbb,hbd,hst⟩:=hrel; obtain ⟨wo,hwo⟩ : ∃ wo,wo = wr:=⟨_,rfl⟩; subst hwo; have HLC:=zH hlc; have HLL:=zH hll; have HLM:=zH hlm; have HPL:=zH hpl; have HBB:=zH hbb; have HBD:=zH hbd; have hl8 : l.length <= 8:=by omega
  have hlo2:=hbd.size; clear hlc hll hlm hpl hbb hbd HX HXM HB HT
  by_cases hlt : j < ys.length
  ·
   have hlt2 : (j : Int) < ys.length:=by omega
   have hj8 : j < 8:=by omega
   obtain ⟨y,hy⟩ : ∃ y,ys[j]? = some y:=⟨_,List.getElem?_eq_getElem hlt⟩; have hyg : ys[j] = y:=(List.getElem?_eq_some_iff.1 hy).2; have HYR:=zH (HYM.out y (List.mem_of_getElem? hy)); obtain ⟨ady,rfl,-,-⟩:=HY.out.at_int hlt; have cy9 : wo.cell? (ady.add j) = some (.int .i64 y):=by
    obtain ⟨ad,e,_,hc⟩:=(HY.out.upB HBB.out).at_int hlt
    injection e with e; subst e; rw [<- hyg]; exact hc
   have HST:=zH ((run_shift (o:=opsP) false fl ys j y l s1 hy).symm.trans hst.out); obtain ⟨p,hp⟩ : ∃ p,p = 2 ^ j:=⟨_,rfl⟩; have hp2 : (2 : Int) ^ j = (p : Int):=by rw [hp]; simp
   have hp128 : p <= 128:=by
    have : j = 0 \/ j = 1 \/ j = 2 \/ j = 3 \/ j = 4 \/ j = 5 \/ j = 6 \/ j = 7:=by omega
    rcases this with rfl | rfl | rfl | rfl | rfl | rfl | rfl | rfl <;> rw [hp] <;> decide
   rw [<- hp] at HST; obtain ⟨fr,hfr⟩ : ∃ fr,fr = fromL false l p fl:=⟨_,rfl⟩; rw [<- hfr] at HST; obtain ⟨C,hC⟩ : ∃ C,C = (fun z : BS × List Int => run opsP (z0z false fl (ys.drop (j + 1)) (j + 1) z.2) z.1):=⟨_,rfl⟩; rw [<- hC] at HST; have HC:=zH hC; have HFR:=zH hfr; have HFRL : Hid (fr.length = l.length):=zH (by rw [hfr]; exact z2j _ _ _ _); clear hy hyg hst hC hfr hp
   go_wp2_with (at_make; refine wpList_make_full wo rfl _ _ 67 rfl wo.heap.size 110 i0 _ 1 Tryz.underlying67 hi0 hz0 hz1 .i64 .i64 _ _ l.length rfl rfl rfl rfl (by rw [hz2]; omega) (by unfold maxLen; omega) (Nat.le_refl _) ?_; intro w1 hown hg)
   have hb1 : Below wo.heap.size wo w1:=(Below.refl _ _).grown hg (Nat.le_refl _) (by simp); have HO1:=zH (made_sg hown); have HB1:=zH (BelB.of hb1 hlo2); have HD1:=zH (HBD.out.up hb1); clear hown hg hb1 cy9 hp2
   go_loopw [37] (fun i z => ∃ (k : Nat) (s2 : BS) (d : List Int),k <= l.length /\ i = .int .i64 k /\ d.length = k /\ (∀ m ∈ d,MB m) /\ BelB lo wo z /\ Bd a0 a1 lo z q r s2 /\ OwnN z wo.heap.size wo.heap.size l.length l.length (d ++ List.replicate (l.length - k) 0) /\ Hid (C (let g:=run opsP (z0v (muxP y) (fr.drop k) (l.drop k)) s2; (g.1,d ++ g.2)) = T)) (fun i _ => l.length - (intOf i).toNat)
   case atStart => exact ⟨0,s1,[],Nat.zero_le _,rfl,rfl,(fun _ h => by cases h),HB1.out,HD1.out,HO1.out,HST⟩
   case round =>
    obtain ⟨k,s2,d,hk,rfl,hdk,hdm,hbz,hdz,hoz,hst⟩:=hrel; have HDM:=zH hdm; have HDK:=zH hdk; have HBZ:=zH hbz; have HDZ:=zH hdz; have HOZ:=zH hoz; clear hdm hdk hbz hdz hoz HO1 HB1 HD1 HST
    by_cases hltk : k < l.length
    ·
     have hltk2 : (k : Int) < l.length:=by omega
     obtain ⟨sv,hsv⟩ : ∃ sv,l[k]? = some sv:=⟨_,List.getElem?_eq_getElem hltk⟩; have hsg : l[k] = sv:=(List.getElem?_eq_some_iff.1 hsv).2; have HSVM:=zH (HLM.out sv (List.mem_of_getElem? hsv)); have hfr : fr[k]? = some (frV false l p fl k):=by rw [HFR.out]; exact fromL_at hltk
     obtain ⟨ads,rfl,-,-⟩:=HPL.out.at_int hltk; have HRS : Hid (∀ z,BelB lo wo z -> ∀ d,(hd : d < l.length) -> z.cell? (ads.add d) = some (.int .i64 l[d])):=zH fun z hz d hd => by
      obtain ⟨ad,e,_,hc⟩:=(HPL.out.upB hz).at_int hd
      injection e with e; subst e; exact hc
     have cs9 : wr.cell? (ads.add k) = some (.int .i64 sv):=by rw [<- hsg]; exact HRS.out _ HBZ.out k hltk
     have HRK : Hid (∀ (fv : Int),fv = frV false l p fl k -> (MB fv) -> ∃ g : BS × Int,g = run opsP (muxP y fv sv) s2 /\ MB g.2 /\ Hid (C (let r:=run opsP (z0v (muxP y) (fr.drop (k + 1)) (l.drop (k + 1))) g.1; (r.1,(d ++ [g.2]) ++ r.2)) = T)):=zH fun fv hfv hm => by
      refine ⟨_,rfl,(mux_mb HDZ.out.nb HYR.out.rb hm.rb HSVM.out.rb).2,zH ?_⟩; rw [<- hst.out]; subst hfv; exact (congrArg C (z1v (o:=opsP) (f:=muxP y) fr l k _ sv hfr hsv s2 d)).symm
     have hw2:=lt_of_block HDZ.out.box; clear hsv hsg hfr hst; obtain ⟨d9,hd0⟩ : ∃ d9 : Nat,d9 = k + p:=⟨_,rfl⟩; have hat : (k : Int) + (p : Int) = (d9 : Int):=by omega
     by_cases hd9 : d9 < l.length
     ·
      obtain ⟨fv,hfv9⟩ : ∃ fv,fv = l[d9]:=⟨_,rfl⟩; have cd9 : wr.cell? (ads.add d9) = some (.int .i64 fv):=by rw [hfv9]; exact HRS.out _ HBZ.out d9 hd9
      have hd92 : (d9 : Int) < l.length:=by omega
      have HFV:=zH (show MB fv from by rw [hfv9]; exact HLM.out _ (List.getElem_mem _)); have HFE:=zH (show fv = frV false l p fl k by unfold frV; rw [if_neg (by simp),<- hd0,if_pos hd9,getD_at hd9,hfv9]); obtain ⟨g,hg9,hgm9,HST9⟩:=HRK.out fv (HFE.out) (HFV.out); have HGM:=zH hgm9; have HC9:=zH (bMux_any a0 a1 lo q r s2 y fv sv wr HDZ.out HYR.out (HFV.out) HSVM.out); rw [<- hg9] at HC9; clear hg9 hgm9 HRK; clear HRS HFR hfv9 hd0
      go_wp2_with fail
      refine HC9.out.mono ?_; rintro e z2 ⟨rfl,hb9,hd9⟩; have own9:=HOZ.out.upB hb9; obtain ⟨⟨v3,hold⟩,hfz⟩:=own9.cell hltk; have HO9:=zH own9; have HB9:=zH (HBZ.out.trans hb9); have HD9:=zH hd9; clear own9 hb9 hd9 HC9
      go_wp2
      obtain ⟨hq1,hq2,cs,frz,hq3⟩:=HO9.out.block
      go_roundw
      case rel => exact ⟨k + 1,g.1,d ++ [g.2],by omega,by go_num,by rw [List.length_append,HDK.out]; rfl,fun z hz => (List.mem_append.1 hz).elim (HDM.out z) (fun hz => by rw [List.mem_singleton.1 hz]; exact HGM.out),HB9.out.then (below_at _ _ _ _) hlo2,HD9.out.upS (sig_set hq3 hlo2 _),HO9.out.put g.2 (put_next HDK.out hltk _).symm,HST9⟩
      case measure => simp [intOf]; omega
     ·
      have hd92 : ¬ (d9 : Int) < l.length:=by omega
      obtain ⟨g,hg9,hgm9,HST9⟩:=HRK.out fl (by unfold frV; rw [if_neg (by simp),<- hd0,if_neg hd9]) (HFL.out); have HGM:=zH hgm9; have HC9:=zH (bMux_any a0 a1 lo q r s2 y fl sv wr HDZ.out HYR.out (HFL.out) HSVM.out); rw [<- hg9] at HC9; clear hg9 hgm9 HRK; clear HRS HFR hd0
      go_wp2_with fail
      refine HC9.out.mono ?_; rintro e z2 ⟨rfl,hb9,hd9⟩; have own9:=HOZ.out.upB hb9; obtain ⟨⟨v3,hold⟩,hfz⟩:=own9.cell hltk; have HO9:=zH own9; have HB9:=zH (HBZ.out.trans hb9); have HD9:=zH hd9; clear own9 hb9 hd9 HC9
      go_wp2
      obtain ⟨hq1,hq2,cs,frz,hq3⟩:=HO9.out.block
      go_roundw
      case rel => exact ⟨k + 1,g.1,d ++ [g.2],by omega,by go_num,by rw [List.length_append,HDK.out]; rfl,fun z hz => (List.mem_append.1 hz).elim (HDM.out z) (fun hz => by rw [List.mem_singleton.1 hz]; exact HGM.out),HB9.out.then (below_at _ _ _ _) hlo2,HD9.out.upS (sig_set hq3 hlo2 _),HO9.out.put g.2 (put_next HDK.out hltk _).symm,HST9⟩
      case measure => simp [intOf]; omega
    ·
     have hje : k = l.length:=by omega
     subst hje; have hltk2 : ¬ ((l.length : Nat) : Int) < l.length:=by omega
     have hd1 : l.drop l.length = []:=List.drop_length; have hd2 : fr.drop l.length = []:=by rw [<- HFRL.out]; exact List.drop_length
     have hst2:=hst.out; rw [hd1,hd2] at hst2; have hst3 : C (s2,d) = T:=by rw [<- hst2]; show _ = C (s2,d ++ []); rw [List.append_nil]
     rw [HC.out] at hst3; have HST2:=zH hst3; have HPD : Hid (Lay.int.Pl wr (some ⟨wo.heap.size,0,none⟩) d):=zH (by
      have h9:=HOZ.out; rw [Nat.sub_self,List.replicate_zero,List.append_nil] at h9; exact h9.sg.pl.2)
     clear hst hst2 hst3 hd1 hd2
     go_wp2
     go_roundw
     case rel => exact ⟨j + 1,s2,d,some ⟨wo.heap.size,0,none⟩,l.length,by omega,by go_num,by rw [HDK.out],fun _ => Nat.le_of_eq HDK.out,HDK.out.trans HLL.out,HDM.out,HPD.out,HBB.out.trans HBZ.out,HDZ.out,HST2⟩
     case measure => simp [intOf]; omega
  ·
   have hje : j = ys.length:=by omega
   subst hje; have hlt2 : ¬ ((ys.length : Nat) : Int) < ys.length:=by omega
   have hd1 : ys.drop ys.length = []:=List.drop_length; have hst2:=hst.out; rw [hd1] at hst2; have HT2:=zH (show T = (s1,l) by rw [<- hst2]; rfl); clear hst hst2 hd1
   go_wp2
   go_ret
   rw [HT2.out]; exact ⟨A,c,rfl,HLC.out h0,HPL.out,HLM.out,HBB.out,HBD.out⟩
end Go.Proofs.YtemdmlmcidfodaaGreatDoor
