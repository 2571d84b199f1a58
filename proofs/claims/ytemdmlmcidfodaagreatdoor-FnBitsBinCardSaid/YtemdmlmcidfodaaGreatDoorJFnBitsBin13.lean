/- The program's signals turned, signals that are off. -/
import Derived.Lib.Mul64
import Derived.Laws.Bits64b
import Derived.Laws.CopyOwn
import Derived.Deep.OwnRows
import Derived.Test.YtemdmlmcidfodaaGreatDoorJFnBitsBin0
import Derived.Test.YtemdmlmcidfodaaGreatDoorJFnBitsBin12
namespace Go.Proofs.YtemdmlmcidfodaaGreatDoor
open Go Go.RowKit
def RetSg (w : World) (xs : List Int) (e : Ending) (w' : World) : Prop:=∃ A c,e = .returned (.slice A xs.length c) /\ z0u w' w.heap.size (.slice A xs.length c) xs /\ Below w.heap.size w w'
set_option maxRecDepth 100000 in
theorem cloneS_any (A : Option Addr) (c : Nat) (xs : List Int) (w : World) (h : Lay.int.Rd w A xs) (hn : xs.length <= 1048576) :
  Calls Tryz.prog 111 #[.slice A xs.length c] w (RetSg w xs):=by
 obtain ⟨i0,hi0,hz0,hz1,hz2⟩:=info_parts z1x
 cases A with
 | none =>
  have h0 : xs = []:=List.eq_nil_of_length_eq_zero (sl_none h rfl); subst h0; have he : ∀ w : World,(binOp .eql 67 (.slice none 0 c) (.slice none 0 0)).run Tryz.prog w = .ok (.bool true) w:=fun _ => rfl
  go_enter Tryz.func111,Tryz.ntmps111
  go_wp2
  go_ret
  exact ⟨none,0,rfl,World.ownsRow_nil _ _ _ _,Below.refl _ _⟩
 | some ad =>
  have he : ∀ w : World,(binOp .eql 67 (.slice (some ad) xs.length c) (.slice none 0 0)).run Tryz.prog w = .ok (.bool false) w:=fun _ => rfl
  go_enter Tryz.func111,Tryz.ntmps111
  go_wp2_with (at_builtin; refine z0w _ (by rfl) (.tmp 5) (.tmp 6) _ (by rfl) w.heap.size 110 i0 _ 1 8 Tryz.underlying67 hi0 hz0 hz1 hz2 (by rfl) (by omega) (.slice (some ⟨w.heap.size,0,none⟩) 0 0) 0 [] (by rfl) (z18 rfl) (some ad) xs.length c (xs.map (Value.int .i64)) (by rfl) (src_ints (Lay.Sl.up h ((Below.refl _ _).alloc (Nat.le_refl _) _))) (ints_one _) xs.length (by omega) (by unfold maxLen; omega) (by omega) (by simp) (by simp) ?_; intro A1 c1 w1 hown1 hb1 hg1)
  have hbw : Below w.heap.size w w1:=((Below.refl _ _).alloc (Nat.le_refl _) _).trans hb1
  go_ret
  exact ⟨A1,c1,rfl,by unfold z0u; simpa using hown1,hbw⟩
theorem z0u.other {w : World} {lo g k : Nat} {v : Value} {xs : List Int} (h : z0u w lo v xs) (hv : v.ownBlock ≠ some g) (u : Value) : z0u (w.setCell ⟨g,k,none⟩ u) lo v xs:=rows_set h g k u hv
theorem z0u.first {w : World} {lo c : Nat} {A : Option Addr} {xs : List Int} (h : z0u w lo (.slice A xs.length c) xs) (hx : 0 < xs.length) : ∃ g,A = some ⟨g,0,none⟩ /\ lo <= g /\ g < w.heap.size:=by
 rcases h.2 with ⟨_,e⟩ | ⟨g,cap,cur,e,hb,hg,_⟩
 · omega
 · injection e with e; exact ⟨g,e,hb,(Array.getElem?_eq_some_iff.1 hg).1⟩
theorem getD_at {l : List Int} {k : Nat} (h : k < l.length) : l.getD k 0 = l[k]:=by simp [List.getD,h]
set_option maxHeartbeats 1000000 in
theorem neg1_any (x y : Int) (w : World) (hx : RB x) : Calls Tryz.prog 108 #[.int .i64 x,.int .i64 y] w fun e w' => e = .returned (.int .i64 (-x)) /\ w = w':=by
 obtain ⟨h0,h1⟩:=hx
 go_enter Tryz.func108,Tryz.ntmps108
 go_wp2
 go_ret
 exact ⟨rfl,rfl⟩
theorem run_turned : ∀ (xs ys : List Int) (s : BS),xs.length = ys.length -> run opsP (z0v (fun x _ => .ret (-x)) xs ys) s = (s,xs.map Neg.neg)
 | [],[],s,_ => rfl
 | x :: xs,y :: ys,s,h => by
  show run opsP ((PG.ret (-x)).bind fun m => (z0v _ xs ys).bind fun l => .ret (m :: l)) s = _
  rw [run_bind,run_bind]; simp only [run,run_turned xs ys s (by simpa using h),List.map_cons]
 | [],_ :: _,_,h => by simp at h
 | _ :: _,[],_,h => by simp at h
set_option maxRecDepth 100000 in
set_option maxHeartbeats 4000000 in
theorem each_negated (a0 a1 : Addr) (lo q r : Nat)  (X Y : Option Addr) (cx cy : Nat) (xs ys : List Int) (s : BS) (w : World) (K : World -> Prop) (hK : K w) (hKs : ∀ x,BelB lo w x -> K x) (h : Bd a0 a1 lo w q r s) (hX : Lay.int.Pl w X xs) (hY : Lay.int.Pl w Y ys) (hxm : ∀ x ∈ xs,MB x) (hym : ∀ y ∈ ys,MB y) (hl : xs.length = ys.length) (hn : xs.length <= 1000)
  (hcall : ∀ (x y : Int) (s : BS) (z : World),Bd a0 a1 lo z q r s -> MB x -> MB y -> K z -> Calls Tryz.prog 108 #[.int .i64 x,.int .i64 y] z (RetM a0 a1 lo z q r (run opsP ((fun x _ => .ret (-x)) x y) s)))
  (hnb : ∀ (x y : Int) (s : BS),NB s.n -> MB x -> MB y -> MB (run opsP ((fun x _ => .ret (-x)) x y) s).2) :
  Calls Tryz.prog 76 #[.slice X xs.length cx,.slice Y ys.length cy,.func (.func 108) #[] #[]] w (RetL a0 a1 lo w q r (run opsP (z0v (fun x _ => .ret (-x)) xs ys) s)):=by
 obtain ⟨T,hT⟩ : ∃ T,T = run opsP (z0v (fun x _ => .ret (-x)) xs ys) s:=⟨_,rfl⟩; rw [<- hT]; have HT:=zH hT; have HB:=zH h; have HX:=zH hX; have HY:=zH hY; have HK:=zH hKs; have HXM:=zH hxm; have HYM:=zH hym; have HCALL:=zH hcall; have HNB:=zH hnb; have HL:=zH hl; have hlo:=h.size; clear hT h hX hY hKs hxm hym hcall hnb hK; rw [<- hl]; clear hl
 go_enter Tryz.func76,Tryz.ntmps76
 go_wp2
 go_loopw [7,11] (fun out i wr => ∃ (k : Nat) (s1 : BS) (l : List Int) (A : Option Addr) (c : Nat),k <= xs.length /\ i = .int .i64 k /\ out = .slice A l.length c /\ l.length = k /\ z0u wr w.heap.size (.slice A l.length c) l /\ (∀ m ∈ l,MB m) /\ BelB lo w wr /\ Bd a0 a1 lo wr q r s1 /\ Hid ((let z:=run opsP (z0v (fun x _ => .ret (-x)) (xs.drop k) (ys.drop k)) s1; (z.1,l ++ z.2)) = T)) (fun _ i _ => xs.length - (intOf i).toNat)
 case atStart => exact ⟨0,s,[],none,0,Nat.zero_le _,rfl,rfl,rfl,z0u.nil _ _,(fun _ h => by cases h),.refl _ _,HB.out,zH (by rw [HT.out]; rfl)⟩
 case round =>
  obtain ⟨k,s1,l,A,c,hk,rfl,rfl,hlk,hown,hlm,hbb,hbd,hst⟩:=hrel; have HOWN:=zH hown; have HLM:=zH hlm; have HBB:=zH hbb; have HBD:=zH hbd; have HLK:=zH hlk; have hsz:=hbb.bel.size; clear hown hlm hbb hbd hlk
  by_cases hlt : k < xs.length
  ·
   have hlt2 : (k : Int) < xs.length:=by omega
   have hlty : k < ys.length:=by rw [<- HL.out]; exact hlt
   obtain ⟨x,hx⟩ : ∃ x,xs[k]? = some x:=⟨_,List.getElem?_eq_getElem hlt⟩; obtain ⟨y,hy⟩ : ∃ y,ys[k]? = some y:=⟨_,List.getElem?_eq_getElem hlty⟩; have hxg : xs[k] = x:=(List.getElem?_eq_some_iff.1 hx).2; have hyg : ys[k] = y:=(List.getElem?_eq_some_iff.1 hy).2; have hxM : MB x:=HXM.out x (List.mem_of_getElem? hx); have hyM : MB y:=HYM.out y (List.mem_of_getElem? hy); obtain ⟨adx,rfl,-,-⟩:=HX.out.at_int hlt; obtain ⟨ady,rfl,-,-⟩:=HY.out.at_int hlty; obtain ⟨m,hm⟩ : ∃ m,m = run opsP ((fun x _ => .ret (-x)) x y) s1:=⟨_,rfl⟩; have HST:=zH ((z1v (o:=opsP) (f:=(fun x _ => .ret (-x))) xs ys k x y hx hy s1 l).symm.trans hst.out); have HM:=zH hm; have HMB : Hid (MB m.2):=zH (by rw [hm]; exact HNB.out x y s1 HBD.out.nb hxM hyM); have HRX : Hid (∀ z,BelB lo w z -> z.cell? (adx.add k) = some (.int .i64 x)):=zH fun z hz => by
    obtain ⟨ad,e,_,hc⟩:=(HX.out.upB hz).at_int hlt
    injection e with e; subst e; rw [<- hxg]; exact hc
   have HRY : Hid (∀ z,BelB lo w z -> z.cell? (ady.add k) = some (.int .i64 y)):=zH fun z hz => by
    obtain ⟨ad,e,_,hc⟩:=(HY.out.upB hz).at_int hlty
    injection e with e; subst e; rw [<- hyg]; exact hc
   obtain ⟨l2,hl2⟩ : ∃ l2,l2 = l ++ [m.2]:=⟨_,rfl⟩; have HL2:=zH hl2; have hky : (k : Int) < ys.length:=by omega
   have hkx : (k : Int) < cx + 1 + xs.length:=by omega
   have HXYM:=zH (And.intro hxM hyM); clear hm hx hy hxg hyg hst hl2 hxM hyM hlty hkx
   go_wp2
   refine z0a [[],[],[],[],[(2,16),(3,17)],[(4,18)],[],[],[(6,20),(7,21)],[(8,22)],[(1,15),(5,19),(9,23)],[(10,24)],[(0,14),(11,25)],[(12,26)]]
    (fun x9 y9 => Below x9.heap.size x9 y9)
    [(10,fun x9 y9 => BelB lo x9 y9),(12,fun x9 y9 => x9.grownBy y9 (Value.slice A l.length c).ownBlock)]
    (fun f9 x9 => EachI a0 a1 lo w q r s1 m.1 A c l (f9 10) (f9 12) x9)
    [zF 0 (.slice A l.length c),
  zF 1 (.func (.func 108) #[] #[]),
  zF 2 (.slice (some adx) xs.length cx),
  zF 3 (.int .i64 (k : Int)),
  zF 4 (.pointer (some (adx.add k))),
  zF 5 (.int .i64 x),
  zF 6 (.slice (some ady) xs.length cy),
  zF 7 (.int .i64 (k : Int)),
  zF 8 (.pointer (some (ady.add k))),
  zF 9 (.int .i64 y),
  zF 10 (.int .i64 m.2),
  fun vs9 y9 => (fun v z => ∃ b : Nat,v = .slice (some ⟨b,0,none⟩) 1 1 /\ z.heap[b]? = some (.cells #[.int .i64 m.2] 110 (0,0)) /\ some b ≠ (Value.slice A l.length c).ownBlock) (vs9 11) y9,
  fun vs9 y9 => (fun v z => ∃ A' c',v = .slice A' l2.length c' /\ z0u z w.heap.size (.slice A' l2.length c') l2) (vs9 12) y9,
  fun vs9 _ => vs9 13 = vs9 12]
    [(0,14),(1,15),(2,16),(3,17),(4,18),(5,19),(6,20),(7,21),(8,22),(9,23),(10,24),(11,25),(12,26),(13,7)] (by kernel_rfl) (by kernel_rfl) (by kernel_rfl) (by kernel_rfl)
    (fun _ => Below.refl _ _) ⟨fun _ => BelB.refl _ _,fun _ => World.grownBy.refl _ _,trivial⟩
    ⟨⟨.inr zG,⟨.inr (.inr zG),.inr (.inr zG),trivial⟩⟩,
  ⟨.inr zG,⟨.inr (.inr zG),.inr (.inr zG),trivial⟩⟩,
  ⟨.inr zG,⟨.inr (.inr zG),.inr (.inr zG),trivial⟩⟩,
  ⟨.inr zG,⟨.inr (.inr zG),.inr (.inr zG),trivial⟩⟩,
  ⟨.inr zG,⟨.inr (.inr zG),.inr (.inr zG),trivial⟩⟩,
  ⟨.inr zG,⟨.inr (.inr zG),.inr (.inr zG),trivial⟩⟩,
  ⟨.inr zG,⟨.inr (.inr zG),.inr (.inr zG),trivial⟩⟩,
  ⟨.inr zG,⟨.inr (.inr zG),.inr (.inr zG),trivial⟩⟩,
  ⟨.inr zG,⟨.inr (.inr zG),.inr (.inr zG),trivial⟩⟩,
  ⟨.inr zG,⟨.inr (.inr zG),.inr (.inr zG),trivial⟩⟩,
  ⟨.inr zG,⟨.inr (.inl rfl),.inr (.inr zG),trivial⟩⟩,
  ⟨.inr (zS (fun v z => ∃ b : Nat,v = .slice (some ⟨b,0,none⟩) 1 1 /\ z.heap[b]? = some (.cells #[.int .i64 m.2] 110 (0,0)) /\ some b ≠ (Value.slice A l.length c).ownBlock) (fun _ _ _ ⟨b,h1,h2,h3⟩ hR => ⟨b,h1,(hR.block b (lt_of_block h2)).trans h2,h3⟩)),⟨.inl (by kernel_rfl),.inr (.inr (zS (fun v z => ∃ b : Nat,v = .slice (some ⟨b,0,none⟩) 1 1 /\ z.heap[b]? = some (.cells #[.int .i64 m.2] 110 (0,0)) /\ some b ≠ (Value.slice A l.length c).ownBlock) (fun _ _ _ ⟨b,h1,h2,h3⟩ hR => ⟨b,h1,(hR.block b (lt_of_block h2) h3).trans h2,h3⟩))),trivial⟩⟩,
  ⟨.inr (zS (fun v z => ∃ A' c',v = .slice A' l2.length c' /\ z0u z w.heap.size (.slice A' l2.length c') l2) (fun _ _ _ ⟨A',c',h1,h2⟩ hR => ⟨A',c',h1,z0e h2 hR (Nat.le_refl _)⟩)),⟨.inl (by kernel_rfl),.inr (.inl rfl),trivial⟩⟩,
  ⟨.inr zK,⟨.inr (.inr zK),.inr (.inr zK),trivial⟩⟩,trivial⟩ ⟨zL,
  zL,
  zL,
  zL,
  zL,
  zL,
  zL,
  zL,
  zL,
  zL,
  zL,
  fun _ _ _ h _ v => (by simpa only [<- h] using v),
  fun _ _ _ h _ v => (by simpa only [<- h] using v),
  fun vs vs' x h hd hv => (by have h2:=hd 12 (by decide); show vs' 13 = vs' 12; exact h.symm.trans (Eq.trans hv h2)),trivial⟩ (⟨HBB.out.trans (.of (z02 (Below.refl _ _) 1) (Nat.le_trans hlo hsz)),by rw [if_neg (by simp)]; exact HBD.out.up (z02 (Below.refl _ _) 1),fun _ => z0e HOWN.out (z02 (Below.refl _ _) 1) (Nat.le_refl _)⟩) ⟨?_,?_,?_,?_,?_,?_,?_,?_,?_,?_,?_,?_,?_,?_,trivial⟩ ?_
   iterate 4
    ·
     rintro vals xw f hf1 - - hI hF; dsimp only [z03,bare]; simp only [z01,Act.put,zQ]
     go_wp2
     exact zY hI rfl rfl
   ·
    rintro vals xw f hf1 - - hI hF; simp only [z05,zF,zR,and_true] at hF; obtain ⟨e16,e17⟩:=hF; dsimp only [z03,bare]; simp only [z01,Act.put,zQ]; simp only [e16,e17]
    go_wp2
    exact zY hI rfl rfl
   ·
    rintro vals xw f hf1 - - hI hF; simp only [z05,zF,zR,and_true] at hF; have e18:=hF; dsimp only [z03,bare]; simp only [z01,Act.put,zQ]; simp only [e18]; have c9:=HRX.out _ hI.1
    go_wp2
    exact zY hI rfl rfl
   iterate 2
    ·
     rintro vals xw f hf1 - - hI hF; dsimp only [z03,bare]; simp only [z01,Act.put,zQ]
     go_wp2
     exact zY hI rfl rfl
   ·
    rintro vals xw f hf1 - - hI hF; simp only [z05,zF,zR,and_true] at hF; obtain ⟨e20,e21⟩:=hF; dsimp only [z03,bare]; simp only [z01,Act.put,zQ]; simp only [e20,e21]
    go_wp2
    exact zY hI rfl rfl
   ·
    rintro vals xw f hf1 - - hI hF; simp only [z05,zF,zR,and_true] at hF; have e22:=hF; dsimp only [z03,bare]; simp only [z01,Act.put,zQ]; simp only [e22]; have c9:=HRY.out _ hI.1
    go_wp2
    exact zY hI rfl rfl
   ·
    intro vals xw f hf1 hf2 hf3 hI hF; have k12 : f 12 = false:=hf3 12 (by kernel_rfl); clear hf2 hf3; simp only [z05,zF,zR,and_true] at hF; obtain ⟨e15,e19,e23⟩:=hF; dsimp only [z03,bare]; simp only [z01,Act.put,zQ]; simp only [e15,e19,e23]; obtain ⟨i1,i2,i3⟩:=hI; rw [hf1,if_neg (by simp)] at i2; have I3:=zH (i3 k12); have I1:=zH i1; have HC:=zH (HCALL.out x y s1 xw i2 HXYM.out.1 HXYM.out.2 (HK.out xw i1)); rw [<- HM.out] at HC; clear i1 i2 i3
    go_wp2_with fail
    refine HC.out.mono ?_; rintro e wx ⟨rfl,hb9,hd9⟩; have HB9:=zH hb9; have HD9:=zH hd9; clear hb9 hd9 HC
    go_wp2
    exact ⟨rfl,rfl,⟨fun _ => HB9.out,fun h9 => absurd rfl h9⟩,I1.out.trans HB9.out,by rw [z0h,if_pos rfl]; exact HD9.out,fun _ => I3.out.upB HB9.out⟩
   ·
    intro vals xw f hf1 hf2 hf3 hI hF; have k12 : f 12 = false:=hf3 12 (by kernel_rfl); clear hf2 hf3; simp only [z05,zF,zR,and_true] at hF; have e24:=hF; dsimp only [z03,bare]; simp only [z01,Act.put,zQ]; simp only [e24]; have k9:=hI.2.2 k12; have h9 : some xw.heap.size ≠ (Value.slice A l.length c).ownBlock:=fun e => by have:=(k9.lt _ e.symm).2; omega
    have H9:=zH h9; have hal : Below xw.heap.size xw (xw.alloc (.cells #[.int .i64 m.2] 110)):=(Below.refl _ _).alloc (Nat.le_refl _) _; have HI:=zH hI; have HAL:=zH hal; clear k9 h9 hal hI
    go_wp2
    exact ⟨rfl,⟨_,rfl,heap_alloc_new _ _,H9.out⟩,⟨zN rfl,fun _ => ⟨zN rfl,fun _ => HAL.out⟩⟩,HI.out.up HAL.out⟩
   ·
    rintro vals xw f hf1 - - hI hF; simp only [z05,zF,zR,and_true] at hF; obtain ⟨e14,b9,e25,hb9,_⟩:=hF; dsimp only [z03,bare]; simp only [z01,Act.put,zQ]; simp only [e14,e25]; obtain ⟨i1,i2,i3⟩:=hI; have hsz9:=i1.bel.size; have hll : l.length <= 1048576:=by have:=HLK.out; omega
    have I1:=zH i1; have I2:=zH i2; have I3:=zH (i3 hf1); clear i1 i2 i3
    at_builtin; refine z0y (ys:=l2) (by rfl) (.tmp 14) (.tmp 25) (by rfl) (by rfl) (by rfl) I3.out hb9 hll hsz9 HL2.out ?_; intro A9 c9 w9 hown9 hg9
    obtain ⟨hs9,hb8⟩:=I3.out.grown hg9 hsz9 hlo
    go_wp2
    exact ⟨rfl,⟨A9,c9,rfl,hown9⟩,⟨zN rfl,fun _ => ⟨fun _ => hg9,fun h9 => absurd rfl h9⟩⟩,I1.out.then hb8 hlo,I2.out.upS hs9,fun h => absurd ((z0h f 12).symm.trans h) (by simp)⟩
   ·
    rintro vals xw f hf1 - - hI hF; simp only [z05,zF,zR,and_true] at hF; obtain ⟨A8,c8,e26,_⟩:=hF; dsimp only [z03,bare]; simp only [z01,Act.put,zQ]; simp only [e26]
    go_wp2
    exact ⟨rfl,e26.symm,⟨zN rfl,fun _ => ⟨zN rfl,fun _ => Below.refl _ _⟩⟩,hI⟩
   ·
    intro vals xw f hall hI hF; rw [show List.range _ = [0,1,2,3,4,5,6,7,8,9,10,11,12,13] from rfl] at hF; simp only [says,zF,zR,and_true] at hF; obtain ⟨i1,i2,_⟩:=hI; rw [hall 10 (by decide),if_pos rfl] at i2; obtain ⟨_,_,_,_,_,_,_,_,_,_,_,_,⟨A8,c8,e26,o26⟩,e7⟩:=hF; rw [e26] at e7; simp only [z01,Act.put,zQ]; simp only [e7]; have I1:=zH i1; have I2:=zH i2; have O26:=zH o26; clear i1 i2 o26 e26 e7
    go_wp2
    go_roundw
    case rel => exact ⟨k + 1,m.1,l2,A8,c8,by omega,by go_num,rfl,by rw [HL2.out,List.length_append,HLK.out]; rfl,O26.out,fun z hz => by
        rw [HL2.out] at hz
        rcases List.mem_append.1 hz with hz | hz
        · exact HLM.out z hz
        · rw [List.mem_singleton.1 hz]; exact HMB.out,I1.out,I2.out,zH (by rw [HL2.out,HM.out]; exact HST.out)⟩
    case measure => simp [intOf]; omega
  ·
   have hke : k = xs.length:=by omega
   subst hke; have hlt2 : ¬ ((xs.length : Nat) : Int) < xs.length:=by omega
   go_wp2
   go_ret
   have hd1 : xs.drop xs.length = []:=List.drop_length; have hd2 : ys.drop xs.length = []:=by rw [HL.out]; exact List.drop_length
   have hst2:=hst.out; rw [hd1,hd2] at hst2; have hT2 : T = (s1,l):=by rw [<- hst2]; show (s1,l ++ []) = _; rw [List.append_nil]
   rw [hT2]; exact ⟨A,c,rfl,HOWN.out.pl.1,HOWN.out.pl.2,HLM.out,HBB.out,HBD.out⟩
set_option maxHeartbeats 1000000 in
theorem negated_any (a0 a1 : Addr) (lo q r : Nat) (X : Option Addr) (cx : Nat) (xs : List Int) (s : BS) (w : World) (h : Bd a0 a1 lo w q r s) (hX : Lay.int.Pl w X xs) (hxm : ∀ x ∈ xs,MB x) (hn : xs.length <= 1000) :
  Calls Tryz.prog 81 #[.slice X xs.length cx] w (RetL a0 a1 lo w q r (s,xs.map Neg.neg)):=by
 show Calls _ _ _ _ (RetL a0 a1 lo w q r (s,xs.map Neg.neg))
 have HC:=zH (each_negated a0 a1 lo q r X X cx cx xs xs s w (fun _ => True) trivial (fun _ _ => trivial) h hX hX hxm hxm rfl hn
  (fun x y s z hz hx hy _ => (neg1_any x y z hx.rb).mono fun e z' ⟨h1,h2⟩ => by subst h2; exact ⟨h1,.refl _ _,hz⟩) (fun x y s _ hx _ => hx.neg))
 rw [run_turned xs xs s rfl] at HC; clear h hX hxm
 go_enter Tryz.func81,Tryz.ntmps81
 go_wp2_with fail
 refine HC.out.mono ?_; generalize hns : xs.map Neg.neg = ns at *; rintro e w1 ⟨A,c,rfl,h1,h2,h3,h4,h5⟩; dsimp only at h1 h2 h3 h5; have H2:=zH h2; have H4:=zH h4; have H5:=zH h5; have H3:=zH h3; clear h2 h3 h4 h5 HC
 go_wp2
 go_ret
 exact ⟨A,c,rfl,h1,H2.out,H3.out,H4.out,H5.out⟩
theorem maskN9 (a : Nat) (ha : a < 18446744073709551616) : bits .and .u64 (a : Int) 4294967295 = ((a % 4294967296 : Nat) : Int):=by
 have h:=bits_and_u64_nat a 4294967295 ha (by omega); have e : a &&& 4294967295 = a % 4294967296:=Nat.and_two_pow_sub_one_eq_mod a 32; rw [e] at h; exact h
theorem divN9 (a : Nat) : (a : Int) / 4294967296 = ((a / 4294967296 : Nat) : Int):=by omega
theorem mulN9 (a b : Nat) : (a : Int) * (b : Int) = ((a * b : Nat) : Int):=(Int.natCast_mul a b).symm
theorem addN9 (a b : Nat) : (a : Int) + (b : Int) = ((a + b : Nat) : Int):=(Int.natCast_add a b).symm
theorem wrapN9 (a : Nat) (ha : a < 18446744073709551616) : IntKind.u64.wrap (a : Int) = (a : Int):=by rw [IntKind.wrap_u64]; omega
theorem wrapM9 (a : Nat) : IntKind.u64.wrap (a : Int) = ((a % 18446744073709551616 : Nat) : Int):=by rw [IntKind.wrap_u64]; omega
set_option maxHeartbeats 2000000 in
theorem mul64_any (x y : Nat) (hx : x < 18446744073709551616) (hy : y < 18446744073709551616) (w : World) :
  Calls Tryz.prog 128 #[.int .u64 x,.int .u64 y] w fun e w' => e = .returned (.tuple #[.int .u64 ((x * y / 18446744073709551616 : Nat) : Int),.int .u64 ((x * y % 18446744073709551616 : Nat) : Int)]) /\ w = w':=by
 obtain ⟨bd,bt,bw,hhi⟩:=Lib.mul64_hi x y hx hy; have ba:=Lib.half_mul_le (a:=x / 4294967296) (b:=y / 4294967296) (by omega) (by omega); have bb:=Lib.half_mul_le (a:=x / 4294967296) (b:=y % 4294967296) (by omega) (by omega); have bc:=Lib.half_mul_le (a:=x % 4294967296) (b:=y / 4294967296) (by omega) (by omega); have ba' : x / 4294967296 * (y / 4294967296) < 18446744073709551616:=by omega
 have bb' : x / 4294967296 * (y % 4294967296) < 18446744073709551616:=by omega
 have bc' : x % 4294967296 * (y / 4294967296) < 18446744073709551616:=by omega
 have bh1 : x / 4294967296 * (y / 4294967296) + (x / 4294967296 * (y % 4294967296) + x % 4294967296 * (y % 4294967296) / 4294967296) / 4294967296 < 18446744073709551616:=by omega
 have bh : x / 4294967296 * (y / 4294967296) + (x / 4294967296 * (y % 4294967296) + x % 4294967296 * (y % 4294967296) / 4294967296) / 4294967296 + ((x / 4294967296 * (y % 4294967296) + x % 4294967296 * (y % 4294967296) / 4294967296) % 4294967296 + x % 4294967296 * (y / 4294967296)) / 4294967296 < 18446744073709551616:=by omega
 go_enter Tryz.func128,Tryz.ntmps128
 go_wp2
 simp only [maskN9 x hx,maskN9 y hy,divN9,mulN9,addN9,wrapN9 _ bd,wrapN9 _ bb',wrapN9 _ bt,maskN9 _ bt,wrapN9 _ bc',wrapN9 _ bw,wrapN9 _ ba',wrapN9 _ bh1,wrapN9 _ bh,wrapM9 (x * y)]; rw [hhi]
 go_ret2
 exact ⟨rfl,rfl⟩
set_option maxHeartbeats 1000000 in
theorem mulOne_any (n : Nat) (hn : n <= 1000) (w : World) :
  Calls Tryz.prog 126 #[.int .u64 1,.int .u64 n] w fun e w' => e = .returned (.tuple #[.int .u64 0,.int .u64 (n : Int)]) /\ w = w':=by
 have HC:=zH (mul64_any 1 n (by omega) (by omega) w); have e1 : (1 * n / 18446744073709551616 : Nat) = 0:=by omega
 have e2 : (1 * n % 18446744073709551616 : Nat) = n:=by omega
 rw [e1,e2] at HC; clear e1 e2
 go_enter Tryz.func126,Tryz.ntmps126
 go_wp2_with fail
 refine HC.out.mono ?_; rintro e w' ⟨rfl,rfl⟩; clear HC
 go_wp2
 go_ret2
 exact ⟨rfl,rfl⟩
def rowH (m : Int) (n k : Nat) : List Value:=List.replicate k (.int .i64 m) ++ List.replicate (n - k) (.int .i64 0)
theorem rowH_len {m : Int} {n k : Nat} (h : k <= n) : (rowH m n k).length = n:=by unfold rowH; simp; omega
theorem rowH_splice {m : Int} {n k j : Nat} (h : k + j <= n) : splice (rowH m n k) k (List.replicate j (.int .i64 m)) = rowH m n (k + j):=by
 unfold splice rowH; rw [List.length_replicate,List.take_left' (by simp),List.drop_append,List.drop_replicate,List.drop_replicate,List.length_replicate]; rw [show k - (k + j) = 0 by omega,show n - k - (k + j - k) = n - (k + j) by omega,<- List.append_assoc,<- List.append_assoc,List.replicate_append_replicate]; simp
theorem rowH_get {m : Int} {n k j : Nat} (h : j < k) : (rowH m n k)[j]? = some (.int .i64 m):=by
 unfold rowH; rw [List.getElem?_append_left (by simpa using h)]; simp [h]
theorem own_of_cells {w : World} {base g n : Nat} {e : TypeId} {L : List Value} (h : w.heap[g]? = some (.cells L.toArray e (0,0))) (hl : L.length = n) (hb : base <= g) (hm : n <= maxLen) : w.ownsRow base e 1 (.slice (some ⟨g,0,none⟩) n n) n L :=
 ⟨by simp [hl],.inr ⟨g,n,L.toArray,rfl,hb,h,Nat.le_refl _,hm,by simp [hl],by rw [Nat.mul_one,<- hl]; simp⟩⟩
def RetOw (xs : List Int) (w : World) (e : Ending) (w' : World) : Prop:=∃ A c,e = .returned (.slice A xs.length c) /\ z0u w' w.heap.size (.slice A xs.length c) xs /\ Below w.heap.size w w'
theorem copy_one (m : Int) (n g b : Nat) (t : TypeId) (W : World) (hg : W.heap[g]? = some (.cells (rowH m n 0).toArray 110 (0,0))) (hb : W.heap[b]? = some (.cells #[.int .i64 m] t (0,0))) :
  ∃ w2,(Builtin.copy_ #[67,67] 3 #[.slice (some ⟨g,0,none⟩) n n,.slice (some ⟨b,0,none⟩) 1 1]).run Tryz.prog W = .ok (.int .i64 (Nat.min 1 n : Nat)) w2 /\ w2.heap[g]? = some (.cells (rowH m n (Nat.min 1 n)).toArray 110 (0,0)) /\ Below g W w2:=by
 have hs : (Tryz.prog.info? 110).map (·.size) = some 1:=by kernel_rfl
 have hl:=rowH_len (m:=m) (n:=n) (Nat.zero_le n)
 rcases n with _ | n
 · exact ⟨W,run_copy_none _ _ _ _ _ _ _ _ _ _ _ Tryz.underlying67 hs rfl,hg,Below.refl _ _⟩
 ·
  have h1 : Nat.min 1 (n + 1) = 1:=Nat.min_eq_left (by omega); rw [h1]; have hfit : 0 + 1 <= (rowH m (n + 1) 0).toArray.size:=by simp only [List.size_toArray]; omega
  have hr:=run_copy_row (P:=Tryz.prog) W 67 67 3 110 g 0 (n + 1) (n + 1) ⟨b,0,none⟩ 1 1 (rowH m (n + 1) 0).toArray 110 [.int .i64 m] Tryz.underlying67 hs hg (by rw [h1]; rfl)
   (fun j v hj => by
    rcases j with _ | j
    ·
     have e : Value.int .i64 m = v:=Option.some.inj hj; subst e; exact (z00 hb 0).1
    · simp at hj) hfit (fun v hv => by have e : v = .int .i64 m:=List.mem_singleton.1 hv; subst e; rfl)
  refine ⟨_,hr,?_,below_setRow (Below.refl _ _) (Nat.le_refl _) _⟩; rw [setRow_heap _ _ _ _ _ _ hg]; refine congrArg (fun l : List Value => some (Obj.cells l.toArray 110 (0,0))) ?_; have:=rowH_splice (m:=m) (n:=n + 1) (k:=0) (j:=1) (by omega); rw [Nat.zero_add] at this; rw [<- this]; simp [splice]
theorem copy_in (m : Int) (n g k q1 q2 : Nat) (hk : 0 < k) (hkn : k < n) (W : World) (hg : W.heap[g]? = some (.cells (rowH m n k).toArray 110 (0,0))) :
  ∃ w2,(Builtin.copy_ #[67,67] 3 #[.slice (some ⟨g,k,none⟩) (n - k) q1,.slice (some ⟨g,0,none⟩) k q2]).run Tryz.prog W = .ok (.int .i64 (Nat.min k (n - k) : Nat)) w2 /\ w2.heap[g]? = some (.cells (rowH m n (k + Nat.min k (n - k))).toArray 110 (0,0)) /\ Below g W w2:=by
 have hs : (Tryz.prog.info? 110).map (·.size) = some 1:=by kernel_rfl
 have hl:=rowH_len (m:=m) (Nat.le_of_lt hkn); have h1 : Nat.min k (n - k) <= k:=Nat.min_le_left _ _; have h2 : Nat.min k (n - k) <= n - k:=Nat.min_le_right _ _; have hr:=run_copy_row (P:=Tryz.prog) W 67 67 3 110 g k (n - k) q1 ⟨g,0,none⟩ k q2 (rowH m n k).toArray 110 (List.replicate (Nat.min k (n - k)) (.int .i64 m)) Tryz.underlying67 hs hg (by rw [List.length_replicate])
  (fun j v hj => by
   obtain ⟨hj1,rfl⟩:=List.getElem?_eq_some_iff.1 hj; rw [List.length_replicate] at hj1; have h8:=(z00 hg j).1; rw [List.getElem?_toArray,rowH_get (by omega)] at h8; have ha : (⟨g,0,none⟩ : Addr).add j = ⟨g,j,none⟩:=by unfold Addr.add; split <;> simp_all
   rw [ha,h8,List.getElem_replicate]) (by simp only [List.length_replicate,List.size_toArray]; omega) (by intro v hv; rw [List.eq_of_mem_replicate hv]; rfl)
 rw [List.length_replicate] at hr; refine ⟨_,hr,?_,below_setRow (Below.refl _ _) (Nat.le_refl _) _⟩; rw [setRow_heap _ _ _ _ _ _ hg]; refine congrArg (fun l : List Value => some (Obj.cells l.toArray 110 (0,0))) ?_; rw [<- rowH_splice (m:=m) (n:=n) (k:=k) (j:=Nat.min k (n - k)) (by omega)]; simp [splice]
set_option maxRecDepth 100000 in
set_option maxHeartbeats 4000000 in
theorem repeat_any (m : Int) (n b : Nat) (t : TypeId) (w : World) (hb : w.heap[b]? = some (.cells #[.int .i64 m] t (0,0))) (hn : n <= 1000) :
  Calls Tryz.prog 124 #[.slice (some ⟨b,0,none⟩) 1 1,.int .i64 (n : Int)] w (RetOw (List.replicate n m) w):=by
 have hmk:=run_make_row' (P:=Tryz.prog) 67 110 (.int .i64 0) 8 Tryz.underlying67 z1x rfl .i64 .i64 n (by omega) (by omega); have HM:=zH (mulOne_any n hn w); have hw1 : Below w.heap.size w (w.alloc (.cells (madeCells #[.int .i64 0] n) 110)):=(Below.refl _ _).alloc (Nat.le_refl _) _; have hg0 : (w.alloc (.cells (madeCells #[.int .i64 0] n) 110)).heap[w.heap.size]? = some (.cells (rowH m n 0).toArray 110 (0,0)):=by
  rw [heap_alloc_new,show madeCells #[.int .i64 0] n = (rowH m n 0).toArray by rw [<- Array.toArray_toList (xs:=madeCells _ _),toList_madeCells_one]; rfl]
 obtain ⟨w2,hcp,hg2,hb2⟩:=copy_one m n w.heap.size b t _ hg0 ((hw1.block b (lt_of_block hb)).trans hb); obtain ⟨k0,hk0⟩ : ∃ k0,k0 = Nat.min 1 n:=⟨_,rfl⟩; rw [<- hk0] at hcp hg2; have HG2:=zH hg2; have HB2:=zH (hw1.trans hb2); have HKL:=zH (show k0 <= n /\ (0 < n -> 0 < k0) by rw [hk0]; exact ⟨Nat.min_le_right 1 n,fun h => by have h9 : Nat.min 1 n = 1:=Nat.min_eq_left h; omega⟩); clear hb hw1 hg0 hg2 hb2 hk0
 go_enter Tryz.func124,Tryz.ntmps124
 go_wp2_with fail
 refine HM.out.mono ?_; rintro e w' ⟨rfl,rfl⟩; clear HM
 go_wp2
 clear hmk hcp
 go_loopw [8] (fun kk wr => ∃ k : Nat,kk = .int .i64 k /\ k <= n /\ (0 < n -> 0 < k) /\ Hid (wr.heap[w.heap.size]? = some (.cells (rowH m n k).toArray 110 (0,0))) /\ Below w.heap.size w wr) (fun kk _ => n - (intOf kk).toNat)
 case atStart => exact ⟨k0,rfl,HKL.out.1,HKL.out.2,HG2,HB2.out⟩
 case round =>
  obtain ⟨k,rfl,hk,hk0,hg,hbr⟩:=hrel
  by_cases hlt : k < n
  ·
   have hlt2 : (k : Int) < n:=by omega
   have hpos : 0 < k:=hk0 (by omega); have HBR:=zH hbr; obtain ⟨j,hj⟩ : ∃ j,j = Nat.min k (n - k):=⟨_,rfl⟩; have hj1 : j <= k /\ k + j <= n /\ 0 < j:=by have h1 : Nat.min k (n - k) <= k:=Nat.min_le_left _ _; have h2 : Nat.min k (n - k) <= n - k:=Nat.min_le_right _ _; have h3 : 0 < Nat.min k (n - k):=Nat.lt_min.2 ⟨hpos,by omega⟩; omega
   have HCI:=zH (fun q1 q2 W => copy_in m n w.heap.size k q1 q2 hpos hlt W); rw [<- hj] at HCI; obtain ⟨L1,hL1⟩ : ∃ L1,L1 = rowH m n k:=⟨_,rfl⟩; obtain ⟨L2,hL2⟩ : ∃ L2,L2 = rowH m n (k + j):=⟨_,rfl⟩; have HL2:=zH hL2; rw [<- hL1] at hg HCI; rw [<- hL2] at HCI; have HG:=zH hg.out; clear hj hbr hg hL1 hL2
   go_wp2
   refine z0a [[],[],[],[(1,39),(2,40)],[],[],[(4,42),(5,43)],[(3,41),(6,44)],[(0,38),(7,45)],[(8,46)]]
    (fun _ _ => True)
    []
    (fun f9 x9 => Below w.heap.size w x9 /\ (f9 7 = false -> x9.heap[w.heap.size]? = some (.cells L1.toArray 110 (0,0))) /\ (f9 7 = true -> x9.heap[w.heap.size]? = some (.cells L2.toArray 110 (0,0))))
    [zF 0 (.int .i64 (k : Int)),
  zF 1 (.slice (some ⟨w.heap.size,0,none⟩) n n),
  zF 2 (.int .i64 (k : Int)),
  fun vs9 y9 => (fun v z => ∃ q : Nat,v = .slice (some ⟨w.heap.size,k,none⟩) (n - k) q) (vs9 3) y9,
  zF 4 (.slice (some ⟨w.heap.size,0,none⟩) n n),
  zF 5 (.int .i64 (k : Int)),
  fun vs9 y9 => (fun v z => ∃ q : Nat,v = .slice (some ⟨w.heap.size,0,none⟩) k q) (vs9 6) y9,
  zF 7 (.int .i64 (j : Int)),
  zF 8 (.int .i64 ((k : Int) + (j : Int))),
  zF 9 (.int .i64 ((k : Int) + (j : Int)))]
    [(0,38),(1,39),(2,40),(3,41),(4,42),(5,43),(6,44),(7,45),(8,46),(9,8)] (by kernel_rfl) (by kernel_rfl) (by kernel_rfl) (by kernel_rfl)
    (fun _ => trivial) trivial
    ⟨⟨.inr zG,trivial⟩,
  ⟨.inr zG,trivial⟩,
  ⟨.inr zG,trivial⟩,
  ⟨.inr (zS (fun v z => ∃ q : Nat,v = .slice (some ⟨w.heap.size,k,none⟩) (n - k) q) (fun _ _ _ h _ => h)),trivial⟩,
  ⟨.inr zG,trivial⟩,
  ⟨.inr zG,trivial⟩,
  ⟨.inr (zS (fun v z => ∃ q : Nat,v = .slice (some ⟨w.heap.size,0,none⟩) k q) (fun _ _ _ h _ => h)),trivial⟩,
  ⟨.inr zG,trivial⟩,
  ⟨.inr zG,trivial⟩,
  ⟨.inr zG,trivial⟩,trivial⟩ ⟨zL,
  zL,
  zL,
  fun _ _ _ h _ v => (by simpa only [<- h] using v),
  zL,
  zL,
  fun _ _ _ h _ v => (by simpa only [<- h] using v),
  zL,
  zL,
  zL,trivial⟩ (⟨HBR.out.trans (z02 (Below.refl _ _) 1),fun _ => HG.out,fun h => by cases h⟩) ⟨?_,?_,?_,?_,?_,?_,?_,?_,?_,?_,trivial⟩ ?_
   iterate 3
    ·
     rintro vals xw f hf1 - - hI hF; dsimp only [z03,bare]; simp only [z01,Act.put,zQ]
     go_wp2
     exact ⟨rfl,rfl,trivial,hI⟩
   ·
    rintro vals xw f hf1 - - hI hF; simp only [z05,zF,zR,and_true] at hF; obtain ⟨e39,e40⟩:=hF; dsimp only [z03,bare]; simp only [z01,Act.put,zQ]; simp only [e39,e40]
    go_wp2
    exact ⟨rfl,⟨_,rfl⟩,trivial,hI⟩
   iterate 2
    ·
     rintro vals xw f hf1 - - hI hF; dsimp only [z03,bare]; simp only [z01,Act.put,zQ]
     go_wp2
     exact ⟨rfl,rfl,trivial,hI⟩
   ·
    rintro vals xw f hf1 - - hI hF; simp only [z05,zF,zR,and_true] at hF; obtain ⟨e39,e40⟩:=hF; dsimp only [z03,bare]; simp only [z01,Act.put,zQ]; simp only [e39,e40]
    go_wp2
    exact ⟨rfl,⟨_,rfl⟩,trivial,hI⟩
   ·
    rintro vals xw f hf1 - - hI hF; simp only [z05,zF,zR,and_true] at hF; obtain ⟨⟨q1,e41⟩,⟨q2,e44⟩⟩:=hF; dsimp only [z03,bare]; simp only [z01,Act.put,zQ]; simp only [e41,e44]; obtain ⟨i1,i2,_⟩:=hI; have HI2:=zH (i2 hf1); clear i2; obtain ⟨w9,hcp9,hg9,hb9⟩:=HCI.out q1 q2 xw HI2.out; have HG9:=zH hg9; have HB9:=zH (i1.trans hb9); clear hg9 hb9
    go_wp2
    exact ⟨rfl,rfl,trivial,HB9.out,fun h => absurd ((z0h f 7).symm.trans h) (by simp),fun _ => HG9.out⟩
   ·
    rintro vals xw f hf1 - - hI hF; simp only [z05,zF,zR,and_true] at hF; obtain ⟨e38,e45⟩:=hF; dsimp only [z03,bare]; simp only [z01,Act.put,zQ]; simp only [e38,e45]
    go_wp2
    exact ⟨rfl,rfl,trivial,hI⟩
   ·
    rintro vals xw f hf1 - - hI hF; simp only [z05,zF,zR,and_true] at hF; have e46:=hF; dsimp only [z03,bare]; simp only [z01,Act.put,zQ]; simp only [e46]
    go_wp2
    exact ⟨rfl,rfl,trivial,hI⟩
   ·
    intro vals xw f hall hI hF; rw [show List.range _ = [0,1,2,3,4,5,6,7,8,9] from rfl] at hF; simp only [says,zF,zR,and_true] at hF; obtain ⟨i1,_,i3⟩:=hI; have HI3:=zH (i3 (hall 7 (by decide))); have e9 : vals 9 = .int .i64 ((k : Int) + (j : Int)):=by obtain ⟨_,_,_,_,_,_,_,_,_,e9⟩:=hF; exact e9
    simp only [z01,Act.put,zQ]; simp only [e9]; clear e9 hF i3
    go_wp2
    go_roundw
    case rel => exact ⟨k + j,by go_num,hj1.2.1,fun _ => by omega,zH (by rw [<- HL2.out]; exact HI3.out),i1⟩
    case measure => simp [intOf]; omega
  ·
   have hkn : k = n:=by omega
   subst hkn; have hlt2 : ¬ ((k : Nat) : Int) < k:=by omega
   have HBR:=zH hbr; clear hbr
   go_wp2
   go_ret
   have hg9:=hg.out; have hrow : rowH m k k = (List.replicate k m).map (Value.int .i64):=by unfold rowH; simp
   rw [hrow] at hg9; have hl : (List.replicate k m).length = k:=by simp
   refine ⟨some ⟨w.heap.size,0,none⟩,k,by rw [hl]; rfl,?_,HBR.out⟩; unfold z0u; rw [hl]; exact own_of_cells hg9 (by simp) (Nat.le_refl _) (by unfold maxLen; omega)
end Go.Proofs.YtemdmlmcidfodaaGreatDoor
