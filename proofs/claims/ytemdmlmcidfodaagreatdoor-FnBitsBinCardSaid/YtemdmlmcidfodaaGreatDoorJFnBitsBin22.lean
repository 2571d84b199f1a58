/- Draws of nets: l6Bent. -/
import Derived.Deep.Cut
import Derived.Test.YtemdmlmcidfodaaGreatDoorJFnBitsBin0
import Derived.Test.YtemdmlmcidfodaaGreatDoorJFnBitsBin6
import Derived.Test.YtemdmlmcidfodaaGreatDoorJFnBitsBin9
import Derived.Test.YtemdmlmcidfodaaGreatDoorJFnBitsBin21
namespace Go.Proofs.YtemdmlmcidfodaaGreatDoor
open Go Go.RowKit
def bentN (m : Nat) (n : N) : Prop:=-1 <= n.ins /\ n.ins <= 9 /\ n.gs.length <= m /\ okInts n
theorem smallN.bent {m k : Nat} {n : N} (h : smallN m n) (hk : m <= k) : bentN k n:=⟨by have:=h.1; omega,by have:=h.2.1; omega,Nat.le_trans h.2.2.1 hk,h.2.2.2⟩
theorem z0x.gr {S : Nat -> Prop} {w w' : World} {base : Nat} {v : Value} {xs : List G} (h : z0x w base v xs) (hg : Gr S w w') (hr : ∀ b,S b -> b < base) : z0x w' base v xs :=
 z1d h fun g e => hg.block g (h.lt g e).2 fun hs => by have:=hr g hs; have:=(h.lt g e).1; omega
theorem z0x.ab {S : Nat -> Prop} {w : World} {base c : Nat} {A : Option Addr} {xs : List G} (h : z0x w base (.slice A xs.length c) xs) (hr : ∀ b,S b -> b < base) : Lay.gate.Sl w (Ab S w) A xs :=
 h.sl.2.mono fun b hb => ⟨hb.2,fun e => by have:=hr b e; have:=hb.1; omega⟩
theorem z0x.first {w : World} {base c : Nat} {A : Option Addr} {xs : List G} (h : z0x w base (.slice A xs.length c) xs) (hx : 0 < xs.length) : ∃ g,A = some ⟨g,0,none⟩:=by
 rcases h.2 with ⟨_,h2⟩ | ⟨g,cap,cur,h1,_⟩
 · rw [h2] at hx; exact absurd hx (by simp)
 · injection h1 with h1; exact ⟨g,h1⟩
theorem gcells_put (xs : List G) (j f : Nat) (hj : j < xs.length) (v : Value) (g : G) (h : (z0k xs[j]).set f v = z0k g) (hf : f < 3) : (xs.flatMap z0k).set (j * 3 + f) v = (xs.set j g).flatMap z0k:=by
 have hl : ((xs.take j).flatMap z0k).length = j * 3:=by rw [z2c]; simp; omega
 have e : xs.flatMap z0k = (xs.take j).flatMap z0k ++ (z0k xs[j] ++ (xs.drop (j + 1)).flatMap z0k):=by
  conv => lhs; rw [<- List.take_append_drop j xs,List.drop_eq_getElem_cons hj]
  rw [List.flatMap_append,List.flatMap_cons]
 have e2 : (xs.set j g).flatMap z0k = (xs.take j).flatMap z0k ++ (z0k g ++ (xs.drop (j + 1)).flatMap z0k):=by
  rw [List.set_eq_take_append_cons_drop,if_pos hj,List.flatMap_append,List.flatMap_cons]
 rw [e,e2,List.set_append_right _ _ (by omega),hl,show j * 3 + f - j * 3 = f by omega,List.set_append_left _ _ (by simp [z0k]; omega),h]
theorem z0x.put {w : World} {base g c j f : Nat} {xs : List G} (h : z0x w base (.slice (some ⟨g,0,none⟩) xs.length c) xs) (hj : j < xs.length) (v : Value) (y : G) (hy : (z0k xs[j]).set f v = z0k y) (hf : f < 3) :
  z0x (w.setCell ⟨g,j * 3 + f,none⟩ v) base (.slice (some ⟨g,0,none⟩) (xs.set j y).length c) (xs.set j y):=by
 have:=(World.ownsRow.stored h (j * 3 + f) v).1; unfold z0x; rw [<- gcells_put xs j f hj v y hy hf]
 simpa using this
theorem z0x.cell {w : World} {base g c j f : Nat} {xs : List G} (h : z0x w base (.slice (some ⟨g,0,none⟩) xs.length c) xs) (hj : j < xs.length) (hf : f < 3) : w.cell? ⟨g,j * 3 + f,none⟩ = (z0k xs[j])[f]? /\ w.frozen? ⟨g,j * 3 + f,none⟩ = false:=by
 have hl : (xs.flatMap z0k).length = xs.length * 3:=z2c xs; have hl2 : ((xs.take j).flatMap z0k).length = j * 3:=by rw [z2c]; simp; omega
 refine ⟨?_,World.ownsRow.frozenAt h _⟩; rw [World.ownsRow.cellAt h _ (by omega)]; have e : xs.flatMap z0k = (xs.take j).flatMap z0k ++ (z0k xs[j] ++ (xs.drop (j + 1)).flatMap z0k):=by
  conv => lhs; rw [<- List.take_append_drop j xs,List.drop_eq_getElem_cons hj]
  rw [List.flatMap_append,List.flatMap_cons]
 rw [e,List.getElem?_append_right (by omega),hl2,show j * 3 + f - j * 3 = f by omega,List.getElem?_append_left (by simp [z0k]; omega)]
theorem okInts_set {n : N} (h : okInts n) (j : Nat) {y : G} (hy : okGi y) (i : Int) : okInts ⟨i,n.gs.set j y⟩:=fun g hg => by
 rcases List.mem_or_eq_of_mem_set hg with hg | rfl
 · exact h g hg
 · exact hy
theorem okInts_snoc {n : N} (h : okInts n) {y : G} (hy : okGi y) (i : Int) : okInts ⟨i,n.gs ++ [y]⟩:=fun g hg => by
 rcases List.mem_append.1 hg with hg | hg
 · exact h g hg
 · rw [List.mem_singleton.1 hg]; exact hy
theorem ig_gr {T U : Nat -> Prop} {r : Nat} {q M : Int} {w x x' : World} {n : Nat} (h : IG T r q M w [] n x) (hM : 0 <= M) (hg : Gr U x x') (hU : ∀ b,U b -> T b /\ r < b) : IG T r q M w [] (n + 1) x':=by
 obtain ⟨h1,⟨q',h2,h3,h4⟩,_⟩:=ig_step h hM; exact ⟨h1.trans (hg.mono fun b hb => (hU b hb).1),⟨q',h2.gr hg fun b hb => (hU b hb).2,h3,h4⟩,fun s hs => by cases hs⟩
def IB (lo : Nat) (v : Value) (gs : List G) (S T : Nat -> Prop) (m r : Nat) (q M : Int) (w : World) (b5 : Nat) (o : Obj) (Nb No Nz : Nat) (n : Nat) (x : World) : Prop:=IG T r q M w [] n x /\ (n < Nb -> x.heap[b5]? = some o) /\ (n < No -> z0x x lo v gs) /\ (Nz <= n -> NetIn (bentN m) S b5 x)
variable {S T U : Nat -> Prop} {lo m r b5 Nb No Nz n : Nat} {q M : Int} {w x x' : World} {o : Obj} {v : Value} {gs : List G}
theorem z0n (h : IB lo v gs S T m r q M w b5 o Nb No Nz n x) (hM : 0 <= M) (hn : n + 2 <= Nz) : IB lo v gs S T m r q M w b5 o Nb No Nz (n + 1) x:=⟨ig_step h.1 hM,fun hn => h.2.1 (by omega),fun hn => h.2.2.1 (by omega),fun h9 => by omega⟩
theorem ib_low (h : IB lo v gs S T m r q M w b5 o Nb No Nz n x) (hM : 0 <= M) (hn : n + 2 <= Nz) (hb : Below x.heap.size x x') : IB lo v gs S T m r q M w b5 o Nb No Nz (n + 1) x':=by
 obtain ⟨⟨h1,⟨q',h2,h3,h4⟩,h5⟩,h6,h7,h8⟩:=z0n h hM hn; exact ⟨⟨h1.up hb,⟨q',h2.up hb,h3,h4⟩,fun s hs => by cases hs⟩,fun hn' => (hb.block _ (Array.getElem?_eq_some_iff.1 (h6 hn')).1).trans (h6 hn'),fun hn' => (h7 hn').up hb,fun h9 => by omega⟩
theorem ib_draw {q' M' : Int} (h : IB lo v gs S T m r q M w b5 o Nb No Nz n x) (hM : 0 <= M) (hn : n + 2 <= Nz) (hd : Drawn r q' M' x x') (hq0 : q <= q') (hq : q' <= q + M * n) (hMM : M' <= M) (hT : T r) (hr : r < b5) (hlo : r < lo) :
  IB lo v gs S T m r q M w b5 o Nb No Nz (n + 1) x' /\ Gr (IsR r) x x':=by
 have hg:=hd.choose_spec.2.2.2; have:=ig_draw h.1 hd hq0 hq hMM hT (fun s hs => by cases hs); exact ⟨⟨this.1,fun hn => hg.heap (by show ¬ _ = r; omega) (h.2.1 (by omega)),fun hn => (h.2.2.1 (by omega)).gr hg (fun b hb => by rw [hb]; exact hlo),fun h9 => by omega⟩,hg⟩
theorem ib_grow (h : IB lo v gs S T m r q M w b5 o Nb No Nz n x) (hM : 0 <= M) (hn : n + 2 <= Nz) (hg : Gr U x x') (hU : ∀ b,U b -> T b /\ r < b) (hb5 : ¬ U b5) (h9 : No <= n + 1) : IB lo v gs S T m r q M w b5 o Nb No Nz (n + 1) x' :=
 ⟨ig_gr h.1 hM hg hU,fun h8 => hg.heap hb5 (h.2.1 (by omega)),fun h8 => by omega,fun h8 => by omega⟩
theorem ib_last (h : IB lo v gs S T m r q M w b5 o Nb No Nz n x) (hM : 0 <= M) (hg : Gr U x x') (hU : ∀ b,U b -> T b /\ r < b) (hb5 : Nb <= n + 1 \/ ¬ U b5) (h9 : No <= n + 1) (hN : NetIn (bentN m) S b5 x') : IB lo v gs S T m r q M w b5 o Nb No Nz (n + 1) x' :=
 ⟨ig_gr h.1 hM hg hU,fun h8 => hb5.elim (fun h7 => by omega) (fun h7 => hg.heap h7 (h.2.1 (by omega))),fun h8 => by omega,fun _ => hN⟩
set_option maxRecDepth 100000 in
set_option maxHeartbeats 8000000 in
theorem l6Bent_any (S0 : Nat -> Prop) (r n0 : Nat) (p : Int) (n : N) (A : Option Addr) (c : Nat) (w : World) (h : Rdr w r p) (hx : Lay.gate.Sl w (Ab S0 w) A n.gs) (hS0 : ∀ b,S0 b -> b < w.heap.size) (hSr : S0 r) (hsm : smallN n0 n) (hn0 : n0 <= 900) (p0 : 0 <= p) (p1 : p <= 700000000) :
  Calls Tryz.prog 24 #[.pointer (some ⟨r,0,none⟩),.agg #[.int .i64 n.ins,.slice A n.gs.length c]] w (RetDN S0 r p 1000 (bentN (n0 + 1)) w):=by
 have hrl:=h.lt; obtain ⟨hw,hB0,hB1,hWS⟩:=z0p w (.cells #[.int .i64 n.ins,.slice A n.gs.length c] 29) (.cells #[.int .i64 0,.slice none 0 0] 29); have hln : 0 <= n.ins /\ n.ins <= 8 /\ n.gs.length <= 900:=⟨hsm.1,hsm.2.1,by have:=hsm.2.2.1; omega⟩; obtain ⟨hni0,hni1,hln⟩:=hln; have HSM:=zH hsm; have HF:=zH (l6Fresh_any A c n _ (hx.ab_rd.up hw) (by omega) (fun e => sl_none hx e)); have HR:=zH (h.up hw); have HB1:=zH hB1; have HW:=zH hw; have HWS:=zH hWS; clear h hsm hB0 hB1 hw hWS hx
 go_enter Tryz.func24,Tryz.ntmps24
 go_wp2_with fail
 generalize (w.alloc (.cells #[.int .i64 n.ins,.slice A n.gs.length c] 29)).alloc (.cells #[.int .i64 0,.slice none 0 0] 29) = W at *; refine HF.out.mono ?_; clear HF; rintro e w1 ⟨A1,c1,rfl,hown,hb1⟩; have HB1:=zH ((hb1.block _ (lt_of_block HB1.out)).trans HB1.out); have hR1:=HR.out.up hb1; have hbw:=z09 HW.out hb1; have hs1 : w.heap.size + 1 + 1 <= w1.heap.size:=by have:=hb1.size; have:=HWS.out; omega
 rw [HWS.out] at hown; clear hb1 HW HR HWS; have hal : Below w1.heap.size w1 (w1.alloc (.cells #[.int .i64 n.ins,.slice A1 n.gs.length c1] 29)):=(Below.refl _ _).alloc (Nat.le_refl _) _; have HB5:=zH (show (w1.alloc (.cells #[.int .i64 n.ins,.slice A1 n.gs.length c1] 29)).heap[w1.heap.size]? = some (.cells #[.int .i64 n.ins,.slice A1 n.gs.length c1] 29 (0,0)) from heap_alloc_new _ _); have HB1:=zH ((hal.block _ (lt_of_block HB1.out)).trans HB1.out); have hR2:=hR1.up hal; have hown:=hown.up hal; have hbw:=z09 hbw hal; have hs2 : (w1.alloc (.cells #[.int .i64 n.ins,.slice A1 n.gs.length c1] 29)).heap.size = w1.heap.size + 1:=by simp
 clear hal hR1
 go_wp2_with fail
 generalize w1.alloc (.cells #[.int .i64 n.ins,.slice A1 n.gs.length c1] 29) = w2 at *; generalize hb5e : w1.heap.size = b5 at *; clear hb5e; have hown1:=hown.lt; refine (z17 r p 60 w2 hR2 (by omega) (by omega) (by omega) (by omega)).mono ?_; rintro e w3 ⟨k,rfl,k0,_,_,hR3,hg3⟩; have hg3:=Gr.one (S:=IsR r) hg3 rfl; have HB5:=zH (hg3.heap (by show ¬ _ = r; omega) HB5.out); have HB1:=zH (hg3.heap (by show ¬ _ = r; omega) HB1.out); have HOWN:=zH (hown.gr hg3 (fun b hb => by rw [hb]; omega)); have HG3:=zH ((Gr.below (S:=IsR r) hbw).trans hg3); have HR3:=zH hR3; have hs3:=hg3.size; clear hR2 hR3 hown hg3 hbw; have hob : ∀ g,(Value.slice A1 n.gs.length c1).ownBlock = some g -> w.heap.size + 1 + 1 <= g /\ g < w3.heap.size:=fun g e => HOWN.out.lt g e
 have HOB:=zH hob; have hob5 : (Value.slice A1 n.gs.length c1).ownBlock ≠ some b5:=fun e => by
  have:=row_ne HOWN.out b5 _ HB5.out (fun cs fr e => by injection e with _ e2 _; revert e2; decide); exact this e.symm
 have HOB5:=zH hob5; obtain ⟨T,hT⟩ : ∃ T : Nat -> Prop,∀ b,T b ↔ b = r \/ b = b5 \/ (Value.slice A1 n.gs.length c1).ownBlock = some b:=⟨fun b => b = r \/ b = b5 \/ (Value.slice A1 n.gs.length c1).ownBlock = some b,fun _ => Iff.rfl⟩; have HT:=zH hT; obtain ⟨S,hS⟩ : ∃ S : Nat -> Prop,∀ b,S b ↔ S0 b \/ b = w.heap.size + 1:=⟨fun b => S0 b \/ b = w.heap.size + 1,fun _ => Iff.rfl⟩; have HS:=zH hS; have HSL : Hid ((∀ b,S b -> b < w.heap.size + 1 + 1) /\ (∀ b,S0 b -> S b) /\ ∀ b,IsR r b -> S b):=zH ⟨fun b hb => by
  rcases (hS b).1 hb with h9 | h9
  · have:=hS0 b h9; omega
  · omega,fun b hb => (hS b).2 (.inl hb),fun b hb => (hS b).2 (.inl (by rw [show b = r from hb]; exact hSr))⟩
 have hlt5:=lt_of_block HB5.out; clear hown1 hob hob5 hT hS
 by_cases hk0 : k = 0
 ·
  subst hk0; have e1 : IntKind.i64.wrap (n.ins + 1) = n.ins + 1:=IntWalk.i64_in _ (by omega); have v0 : w3.cell? ⟨b5,0,none⟩ = some (.int .i64 n.ins):=(z00 HB5.out 0).1; have hal : Below w3.heap.size w3 (w3.alloc (.cells #[.int .i64 (-1),.int .i64 9,.int .i64 (n.ins + 1),.int .i64 0] 3)):=(Below.refl _ _).alloc (Nat.le_refl _) _; have hsl:=lit_sl (S:=IsR r) w3 [-1,9,n.ins + 1,0] _ 3 rfl (by show ¬ _ = r; omega); have HN:=zH (num_any r (p + 1) _ 4 _ _ (HR3.out.up hal) hsl (by simp) (by simp) (by omega) (by omega)); have HB53:=zH ((hal.block _ (lt_of_block HB5.out)).trans HB5.out); have HB13:=zH ((hal.block _ (lt_of_block HB1.out)).trans HB1.out); have hgg3:=HG3.out.up hal; have hown3:=HOWN.out.up hal; clear hal hsl
  go_wp2_with fail
  clear v0; refine HN.out.mono ?_; clear HN; rintro e w4 ⟨y,hy,rfl,hR4,hg4⟩; have hyb : -1 <= y /\ y <= 9:=by simp at hy; omega
  have HB54:=zH (hg4.heap (by show ¬ _ = r; omega) HB53.out); have HB14:=zH (hg4.heap (by show ¬ _ = r; omega) HB13.out); have hown4:=hown3.gr hg4 (fun b hb => by rw [hb]; omega); have hgg4:=hgg3.trans hg4; have hs4:=hg4.size; have hset5 : Gr (fun b => b = b5) w4 (w4.setCell ⟨b5,0,none⟩ (.int .i64 y)):=(Gr.refl _ _).set _ _ _ (.inl rfl); have hown5:=z1d hown4 fun g e => hset5.block g (hown4.lt g e).2 fun hs => by rw [show g = b5 from hs] at e; exact HOB5.out e
  have hown5 : z0x (w4.setCell ⟨b5,0,none⟩ (.int .i64 y)) (w.heap.size + 1 + 1) (.slice A1 n.gs.length c1) n.gs:=hown5; have hk5:=z04 w4 b5 0 (.int .i64 y) _ _ HB54.out; have hb15:=hset5.heap (by show ¬ _ = b5; omega) HB14.out; have hR5:=hR4.set (g:=b5) (o:=0) (u:=.int .i64 y) (by omega); have hG5:=hgg4.set b5 0 (.int .i64 y) (.inr (by omega)); have f0 : w4.frozen? ⟨b5,0,none⟩ = false:=(z00 HB54.out 0).2; have v0 : w4.cell? ⟨b5,0,none⟩ = some (.int .i64 n.ins):=(z00 HB54.out 0).1; have HALL:=zH (And.intro hown5 (And.intro hk5 (And.intro hb15 (And.intro hR5 hG5)))); clear hy hg4 hgg3 hown3 hown4 hgg4 hset5 hown5 hk5 hb15 hR5 hG5 hR4
  go_upto_region 20 with (fail)
  clear f0 v0; generalize w4.setCell ⟨b5,0,none⟩ (.int .i64 y) = w5 at *; obtain ⟨hown5,hk5,hb15,hR5,hG5⟩:=HALL.out; obtain ⟨n9,A9,c9,hk9,hp9,hl9⟩ : NetIn (bentN (n0 + 1)) S b5 w5:=⟨⟨y,n.gs⟩,A1,c1,hk5,⟨hyb.1,hyb.2,by have:=HSM.out.2.2.1; show n.gs.length <= _; omega,HSM.out.2.2.2⟩,hown5.ab HSL.out.1⟩; clear HALL hown5 hk5; have u0 : w5.cell? ⟨w.heap.size + 1,0,none⟩ = some (.int .i64 0):=(z00 hb15 0).1; have u1 : w5.cell? ⟨w.heap.size + 1,1,none⟩ = some (.slice none 0 0):=(z00 hb15 1).1; have g0 : w5.frozen? ⟨w.heap.size + 1,0,none⟩ = false:=(z00 hb15 0).2; have g1 : w5.frozen? ⟨w.heap.size + 1,1,none⟩ = false:=(z00 hb15 1).2; have v0 : w5.cell? ⟨b5,0,none⟩ = some (.int .i64 n9.ins):=(z00 hk9 0).1; have v1 : w5.cell? ⟨b5,1,none⟩ = some (.slice A9 n9.gs.length c9):=(z00 hk9 1).1; have hset : Gr S w5 ((w5.setCell ⟨w.heap.size + 1,0,none⟩ (.int .i64 n9.ins)).setCell ⟨w.heap.size + 1,1,none⟩ (.slice A9 n9.gs.length c9)):=((Gr.refl _ _).set _ _ _ (.inl ((HS.out _).2 (.inr rfl)))).set _ _ _ (.inl ((HS.out _).2 (.inr rfl))); have HL:=zH ((hl9.gr hset).ab_mono (T:=S0) fun b _ hb => HSL.out.2.1 b hb); have HRR:=zH ((hR5.set (g:=w.heap.size + 1) (o:=0) (u:=.int .i64 n9.ins) (by omega)).set (g:=w.heap.size + 1) (o:=1) (u:=.slice A9 n9.gs.length c9) (by omega)); have HGG:=zH ((hG5.set (w.heap.size + 1) 0 (.int .i64 n9.ins) (.inr (by omega))).set (w.heap.size + 1) 1 (.slice A9 n9.gs.length c9) (.inr (by omega))); have HP:=zH hp9; clear hset hk9 hl9 hp9 hb15 hR5 hG5
  go_wp2
  refine bodyPost_ret (v:=.agg #[.int .i64 n9.ins,.slice A9 n9.gs.length c9]) (by simp [results,Tryz.results24,go_sem,u0,u1,g0,g1,v0,v1]) rfl ⟨n9,A9,c9,rfl,HL.out,HP.out,_,?_,?_,HRR.out,HGG.out⟩ <;> omega
 have hkb0 : (k == 0) = false:=by simpa using hk0
 by_cases hk1 : k = 1
 ·
  subst hk1
  go_wp2
  refine z26 [[],[(0,25)],[],[(2,27)],[],[(4,29)],[(3,28),(5,30)],[(6,31)],[(1,26),(7,32)],[],[(9,34),(8,33)]]
   (Gr (IsR r))
   [(8,Gr (fun b => (Value.slice A1 n.gs.length c1).ownBlock = some b)),(10,Gr (fun b => b = b5))]
   (IB (w.heap.size + 1 + 1) (.slice A1 n.gs.length c1) n.gs S T (n0 + 1) r (p + 1) 2 w3 b5 (.cells #[.int .i64 n.ins,.slice A1 n.gs.length c1] 29 (0,0)) 11 9 11)
   [fun vs9 _ => vs9 0 = (.pointer (some ⟨b5,1,none⟩)),
  fun vs9 _ => vs9 1 = (.slice A1 n.gs.length c1),
  fun vs9 _ => vs9 2 = (.pointer (some ⟨r,0,none⟩)),
  fun vs9 y9 => (fun v _ => ∃ z : Nat,v = .int .i64 z /\ (z : Int) < 4) (vs9 3) y9,
  fun vs9 _ => vs9 4 = (.pointer (some ⟨r,0,none⟩)),
  fun vs9 y9 => (fun v _ => ∃ z : Nat,v = .int .i64 z /\ (z : Int) < 6) (vs9 5) y9,
  fun vs9 y9 => (fun v _ => ∃ y : G,v = .agg #[.bool y.x,.int .i64 y.a,.int .i64 y.b] /\ okGi y) (vs9 6) y9,
  fun vs9 y9 => (fun v yy => ∃ (blk : Nat) (y : G),v = .slice (some ⟨blk,0,none⟩) 1 1 /\ okGi y /\ yy.heap[blk]? = some (.cells #[.bool y.x,.int .i64 y.a,.int .i64 y.b] 78 (0,0)) /\ w3.heap.size <= blk) (vs9 7) y9,
  fun vs9 y9 => (fun v yy => ∃ (y : G) (ps : List G) (A' : Option Addr) (c' : Nat),v = .slice A' ps.length c' /\ Hid (ps = n.gs ++ [y]) /\ okGi y /\ (Value.slice A' ps.length c').ownBlock ≠ some b5 /\ z0x yy (w.heap.size + 1 + 1) (.slice A' ps.length c') ps) (vs9 8) y9,
  fun vs9 _ => vs9 9 = (.pointer (some ⟨b5,1,none⟩)),
  fun _ _ => True]
   [(0,25),(1,26),(2,27),(3,28),(4,29),(5,30),(6,31),(7,32),(8,33),(9,34)] (by kernel_rfl) (by kernel_rfl) (by kernel_rfl) (by kernel_rfl)
   (fun _ => Gr.refl _ _) ⟨fun _ => Gr.refl _ _,fun _ => Gr.refl _ _,trivial⟩
   ⟨⟨.inr zK,⟨.inr (.inr zK),.inr (.inr zK),trivial⟩⟩,
  ⟨.inr zK,⟨.inr (.inr zK),.inr (.inr zK),trivial⟩⟩,
  ⟨.inr zK,⟨.inr (.inr zK),.inr (.inr zK),trivial⟩⟩,
  ⟨.inr (zS (fun v _ => ∃ z : Nat,v = .int .i64 z /\ (z : Int) < 4) (fun _ _ _ h _ => h)),⟨.inr (.inr (zS (fun v _ => ∃ z : Nat,v = .int .i64 z /\ (z : Int) < 4) (fun _ _ _ h _ => h))),.inr (.inr (zS (fun v _ => ∃ z : Nat,v = .int .i64 z /\ (z : Int) < 4) (fun _ _ _ h _ => h))),trivial⟩⟩,
  ⟨.inr zK,⟨.inr (.inr zK),.inr (.inr zK),trivial⟩⟩,
  ⟨.inr (zS (fun v _ => ∃ z : Nat,v = .int .i64 z /\ (z : Int) < 6) (fun _ _ _ h _ => h)),⟨.inr (.inr (zS (fun v _ => ∃ z : Nat,v = .int .i64 z /\ (z : Int) < 6) (fun _ _ _ h _ => h))),.inr (.inr (zS (fun v _ => ∃ z : Nat,v = .int .i64 z /\ (z : Int) < 6) (fun _ _ _ h _ => h))),trivial⟩⟩,
  ⟨.inr (zS (fun v _ => ∃ y : G,v = .agg #[.bool y.x,.int .i64 y.a,.int .i64 y.b] /\ okGi y) (fun _ _ _ h _ => h)),⟨.inr (.inr (zS (fun v _ => ∃ y : G,v = .agg #[.bool y.x,.int .i64 y.a,.int .i64 y.b] /\ okGi y) (fun _ _ _ h _ => h))),.inr (.inr (zS (fun v _ => ∃ y : G,v = .agg #[.bool y.x,.int .i64 y.a,.int .i64 y.b] /\ okGi y) (fun _ _ _ h _ => h))),trivial⟩⟩,
  ⟨.inr (zS (fun v yy => ∃ (blk : Nat) (y : G),v = .slice (some ⟨blk,0,none⟩) 1 1 /\ okGi y /\ yy.heap[blk]? = some (.cells #[.bool y.x,.int .i64 y.a,.int .i64 y.b] 78 (0,0)) /\ w3.heap.size <= blk) (fun _ _ _ ⟨blk,y,h1,h2,h3,h4⟩ hR => ⟨blk,y,h1,h2,hR.heap (by show ¬ _ = r; omega) h3,h4⟩)),⟨.inr (.inr (zS (fun v yy => ∃ (blk : Nat) (y : G),v = .slice (some ⟨blk,0,none⟩) 1 1 /\ okGi y /\ yy.heap[blk]? = some (.cells #[.bool y.x,.int .i64 y.a,.int .i64 y.b] 78 (0,0)) /\ w3.heap.size <= blk) (fun _ _ _ ⟨blk,y,h1,h2,h3,h4⟩ hR => ⟨blk,y,h1,h2,hR.heap (fun e => by have:=(HOB.out _ e).2; omega) h3,h4⟩))),.inr (.inr (zS (fun v yy => ∃ (blk : Nat) (y : G),v = .slice (some ⟨blk,0,none⟩) 1 1 /\ okGi y /\ yy.heap[blk]? = some (.cells #[.bool y.x,.int .i64 y.a,.int .i64 y.b] 78 (0,0)) /\ w3.heap.size <= blk) (fun _ _ _ ⟨blk,y,h1,h2,h3,h4⟩ hR => ⟨blk,y,h1,h2,hR.heap (by show ¬ _ = b5; omega) h3,h4⟩))),trivial⟩⟩,
  ⟨.inr (zS (fun v yy => ∃ (y : G) (ps : List G) (A' : Option Addr) (c' : Nat),v = .slice A' ps.length c' /\ Hid (ps = n.gs ++ [y]) /\ okGi y /\ (Value.slice A' ps.length c').ownBlock ≠ some b5 /\ z0x yy (w.heap.size + 1 + 1) (.slice A' ps.length c') ps) (fun _ _ _ ⟨y,ps,A',c',h1,h2,h5,h4,h3⟩ hR => ⟨y,ps,A',c',h1,h2,h5,h4,h3.gr hR (fun b hb => by rw [show b = r from hb]; omega)⟩)),⟨.inr (.inl rfl),.inr (.inr (zS (fun v yy => ∃ (y : G) (ps : List G) (A' : Option Addr) (c' : Nat),v = .slice A' ps.length c' /\ Hid (ps = n.gs ++ [y]) /\ okGi y /\ (Value.slice A' ps.length c').ownBlock ≠ some b5 /\ z0x yy (w.heap.size + 1 + 1) (.slice A' ps.length c') ps) (fun _ _ _ ⟨y,ps,A',c',h1,h2,h5,h4,h3⟩ hR => ⟨y,ps,A',c',h1,h2,h5,h4,z1d h3 fun g e => hR.block g (h3.lt g e).2 fun hs => h4 (by rw [e,show g = b5 from hs])⟩))),trivial⟩⟩,
  ⟨.inr zK,⟨.inr (.inr zK),.inr (.inr zK),trivial⟩⟩,
  ⟨.inr zK,⟨.inr (.inr zK),.inr (.inl rfl),trivial⟩⟩,trivial⟩ ⟨fun _ _ _ h _ v => (by simpa only [<- h] using v),
  fun _ _ _ h _ v => (by simpa only [<- h] using v),
  fun _ _ _ h _ v => (by simpa only [<- h] using v),
  fun _ _ _ h _ v => (by simpa only [<- h] using v),
  fun _ _ _ h _ v => (by simpa only [<- h] using v),
  fun _ _ _ h _ v => (by simpa only [<- h] using v),
  fun _ _ _ h _ v => (by simpa only [<- h] using v),
  fun _ _ _ h _ v => (by simpa only [<- h] using v),
  fun _ _ _ h _ v => (by simpa only [<- h] using v),
  fun _ _ _ h _ v => (by simpa only [<- h] using v),
  fun _ _ _ _ _ _ => trivial,trivial⟩ (⟨ig_start HR3.out (fun s hs => by cases hs),fun _ => HB5.out,fun _ => HOWN.out.up (z02 (Below.refl _ _) 1),fun h9 => absurd h9 (by decide)⟩) ⟨?_,?_,?_,?_,?_,?_,?_,?_,?_,?_,?_,trivial⟩ ?_
  ·
   intro vals xw cnt9 hn hl hI hF; have hl2 : cnt9 + 1 + 1 <= 11:=z14 hl.2 _ (by kernel_rfl); clear hl; dsimp only [owes,bare]; simp only [z01,Act.put,zQ]
   go_wp2
   exact ⟨rfl,rfl,⟨zN rfl,fun _ => ⟨zN rfl,fun _ => Gr.refl _ _⟩⟩,z0n hI (by omega) (by omega)⟩
  ·
   intro vals xw cnt9 hn hl hI hF; have hl2 : cnt9 + 1 + 2 <= 11:=z14 hl.2 _ (by kernel_rfl); clear hl; simp only [z05,zF,zR,and_true] at hF; dsimp only [owes,bare]; simp only [z01,Act.put,zQ]; simp only [hF]; have hk9:=hI.2.1 (by omega); have k9_0 : xw.cell? ⟨b5,0,none⟩ = some (.int .i64 n.ins):=(z00 hk9 0).1; have k9_1 : xw.cell? ⟨b5,1,none⟩ = some (.slice A1 n.gs.length c1):=(z00 hk9 1).1; clear hk9
   go_wp2
   exact ⟨rfl,rfl,⟨zN rfl,fun _ => ⟨zN rfl,fun _ => Gr.refl _ _⟩⟩,z0n hI (by omega) (by omega)⟩
  ·
   intro vals xw cnt9 hn hl hI hF; have hl2 : cnt9 + 1 + 1 <= 11:=z14 hl.2 _ (by kernel_rfl); clear hl; dsimp only [owes,bare]; simp only [z01,Act.put,zQ]
   go_wp2
   exact ⟨rfl,rfl,⟨zN rfl,fun _ => ⟨zN rfl,fun _ => Gr.refl _ _⟩⟩,z0n hI (by omega) (by omega)⟩
  ·
   intro vals xw cnt9 hn hl hI hF; have hl2 : cnt9 + 1 + 1 <= 11:=z14 hl.2 _ (by kernel_rfl); clear hl; simp only [z05,zF,zR,and_true] at hF; have e27:=hF; dsimp only [owes,bare]; simp only [z01,Act.put,zQ]; simp only [e27]; have HI:=zH hI; obtain ⟨⟨_,⟨q',hq,q'0,q'1⟩,_⟩,_⟩:=hI
   go_wp2_with fail
   refine (z17 r q' (4) xw hq (by omega) (by omega) (by omega) (by omega)).mono ?_; rintro e wx ⟨z,rfl,z0,z1,_,hRx,hgx⟩; have z1:=z1 (by omega); obtain ⟨z,rfl⟩:=Int.eq_ofNat_of_zero_le z0; have HD:=zH (ib_draw HI.out (by omega) (by omega) (⟨q' + 1,by omega,by omega,hRx,Gr.one (S:=fun b => b = r) hgx rfl⟩ : Drawn r q' 2 xw wx) q'0 q'1 (by omega) ((HT.out r).2 (.inl rfl)) (by omega) (by omega)); clear hRx hgx hq
   go_wp2
   exact ⟨rfl,⟨z,rfl,z1⟩,⟨zN rfl,fun _ => ⟨zN rfl,fun _ => HD.out.2⟩⟩,HD.out.1⟩
  ·
   intro vals xw cnt9 hn hl hI hF; have hl2 : cnt9 + 1 + 1 <= 11:=z14 hl.2 _ (by kernel_rfl); clear hl; dsimp only [owes,bare]; simp only [z01,Act.put,zQ]
   go_wp2
   exact ⟨rfl,rfl,⟨zN rfl,fun _ => ⟨zN rfl,fun _ => Gr.refl _ _⟩⟩,z0n hI (by omega) (by omega)⟩
  ·
   intro vals xw cnt9 hn hl hI hF; have hl2 : cnt9 + 1 + 1 <= 11:=z14 hl.2 _ (by kernel_rfl); clear hl; simp only [z05,zF,zR,and_true] at hF; have e29:=hF; dsimp only [owes,bare]; simp only [z01,Act.put,zQ]; simp only [e29]; have HI:=zH hI; obtain ⟨⟨_,⟨q',hq,q'0,q'1⟩,_⟩,_⟩:=hI
   go_wp2_with fail
   refine (z17 r q' (6) xw hq (by omega) (by omega) (by omega) (by omega)).mono ?_; rintro e wx ⟨z,rfl,z0,z1,_,hRx,hgx⟩; have z1:=z1 (by omega); obtain ⟨z,rfl⟩:=Int.eq_ofNat_of_zero_le z0; have HD:=zH (ib_draw HI.out (by omega) (by omega) (⟨q' + 1,by omega,by omega,hRx,Gr.one (S:=fun b => b = r) hgx rfl⟩ : Drawn r q' 2 xw wx) q'0 q'1 (by omega) ((HT.out r).2 (.inl rfl)) (by omega) (by omega)); clear hRx hgx hq
   go_wp2
   exact ⟨rfl,⟨z,rfl,z1⟩,⟨zN rfl,fun _ => ⟨zN rfl,fun _ => HD.out.2⟩⟩,HD.out.1⟩
  ·
   intro vals xw cnt9 hn hl hI hF; have hl2 : cnt9 + 1 + 1 <= 11:=z14 hl.2 _ (by kernel_rfl); clear hl; simp only [z05,zF,zR,and_true] at hF; obtain ⟨⟨a,e1,ha⟩,b,e2,hb⟩:=hF; dsimp only [owes,bare]; simp only [z01,Act.put,zQ]; simp only [e1,e2]
   go_wp2
   exact ⟨rfl,⟨⟨false,a,b⟩,rfl,by unfold okGi; dsimp only; omega⟩,⟨zN rfl,fun _ => ⟨zN rfl,fun _ => Gr.refl _ _⟩⟩,z0n hI (by omega) (by omega)⟩
  ·
   intro vals xw cnt9 hn hl hI hF; have hl2 : cnt9 + 1 + 1 <= 11:=z14 hl.2 _ (by kernel_rfl); clear hl; simp only [z05,zF,zR,and_true] at hF; obtain ⟨y,e1,hoy⟩:=hF; dsimp only [owes,bare]; simp only [z01,Act.put,zQ]; simp only [e1]; have hs9:=hI.1.1.size; have hal : Below xw.heap.size xw (xw.alloc (.cells #[.bool y.x,.int .i64 y.a,.int .i64 y.b] 78)):=(Below.refl _ _).alloc (Nat.le_refl _) _; have hn9:=heap_alloc_new xw (.cells #[.bool y.x,.int .i64 y.a,.int .i64 y.b] 78); have HH:=zH (And.intro hoy (And.intro hn9 (ib_low hI (by omega) (by omega) hal))); have HAL:=zH hal; clear hal hI hn9 hoy
   go_wp2
   exact ⟨rfl,⟨xw.heap.size,y,rfl,HH.out.1,HH.out.2.1,hs9⟩,⟨zN rfl,fun _ => ⟨zN rfl,fun _ => .below HAL.out⟩⟩,HH.out.2.2⟩
  ·
   intro vals xw cnt9 hn hl hI hF; have hl1 : 8 <= cnt9:=low_ge hl.1 _ (by kernel_rfl); have hl2 : cnt9 + 1 + 2 <= 11:=z14 hl.2 _ (by kernel_rfl); clear hl; simp only [z05,zF,zR,and_true] at hF; obtain ⟨e1,blk,y,e2,hoy,hbl,hlo9⟩:=hF; dsimp only [owes,bare]; simp only [z01,Act.put,zQ]; simp only [e1,e2]; have hown:=hI.2.2.1 (by omega); have hs9:=hI.1.1.size; obtain ⟨ps,hps⟩ : ∃ ps,ps = n.gs ++ [y]:=⟨_,rfl⟩; have HPS:=zH hps; clear hps; refine z1u (ys:=ps) (g:=y) (by rfl) (.tmp 26) (.tmp 32) (by rfl) (by rfl) (by rfl) hown hbl (by omega) (by omega) HPS.out ?_; intro A8 c8 w8 hown8 hg8; have hgU : Gr (fun b => (Value.slice A1 n.gs.length c1).ownBlock = some b) xw w8:=⟨hg8.os,hg8.tape,hg8.output,hg8.size,fun i hi hni => hg8.block i hi (fun e => hni e.symm)⟩; have hne8:=row_ne hown8 b5 _ (hgU.heap HOB5.out (hI.2.1 (by omega))) (fun cs fr e => by injection e with _ e2 _; revert e2; decide); exact ⟨rfl,⟨y,ps,A8,c8,rfl,HPS,hoy,fun e => hne8 e.symm,hown8⟩,⟨fun _ => hgU,fun h9 => absurd rfl h9⟩,ib_grow hI (by omega) (by omega) hgU (fun b hb => ⟨(HT.out b).2 (.inr (.inr hb)),by have:=(HOB.out b hb).1; omega⟩) HOB5.out (by omega)⟩
  ·
   intro vals xw cnt9 hn hl hI hF; have hl2 : cnt9 + 1 + 1 <= 11:=z14 hl.2 _ (by kernel_rfl); clear hl; dsimp only [owes,bare]; simp only [z01,Act.put,zQ]
   go_wp2
   exact ⟨rfl,rfl,⟨zN rfl,fun _ => ⟨zN rfl,fun _ => Gr.refl _ _⟩⟩,z0n hI (by omega) (by omega)⟩
  ·
   intro vals xw cnt9 hn hl hI hF; have hl1 : 10 <= cnt9:=low_ge hl.1 _ (by kernel_rfl); have hl2 : cnt9 + 1 + 0 <= 11:=z14 hl.2 _ (by kernel_rfl); clear hl; simp only [z05,zF,zR,and_true] at hF; obtain ⟨e1,y,ps,A',c',e2,HPS,hoy,hne,ho8⟩:=hF; dsimp only [owes,bare]; simp only [z01,Act.put,zQ]; simp only [e1,e2]; have hk:=hI.2.1 (by omega); have v1 : xw.cell? ⟨b5,1,none⟩ = some (.slice A1 n.gs.length c1):=(z00 hk 1).1; have f1 : xw.frozen? ⟨b5,1,none⟩ = false:=(z00 hk 1).2; have hh:=z04 xw b5 1 (.slice A' ps.length c') _ _ hk; have hset : Gr (fun b => b = b5) xw (xw.setCell ⟨b5,1,none⟩ (.slice A' ps.length c')):=(Gr.refl _ _).set _ _ _ (.inl rfl); have ho9 : z0x (xw.setCell ⟨b5,1,none⟩ (.slice A' ps.length c')) (w.heap.size + 1 + 1) (.slice A' ps.length c') ps:=z1d ho8 fun g e => hset.block g (ho8.lt g e).2 fun hs => hne (by rw [e,show g = b5 from hs])
   have HL:=zH (ib_last hI (by omega) hset (fun b hb => ⟨(HT.out b).2 (.inr (.inl hb)),by rw [show b = b5 from hb]; omega⟩) (.inl (by omega)) (by omega) ⟨⟨n.ins,ps⟩,A',c',hh,⟨by show -1 <= n.ins; omega,by show n.ins <= 9; omega,by have:=HSM.out.2.2.1; show ps.length <= _; rw [HPS.out]; simp; omega,by rw [HPS.out]; exact okInts_snoc HSM.out.2.2.2 hoy _⟩,ho9.ab HSL.out.1⟩); have HSET:=zH hset; clear hI hk hh hset hne ho9 ho8 hl1
   go_wp2
   exact ⟨rfl,trivial,⟨zN rfl,fun _ => ⟨fun _ => HSET.out,fun h9 => absurd rfl h9⟩⟩,HL.out⟩
  ·
   intro vals xw cnt9 hn hI hF; rw [show List.range _ = [0,1,2,3,4,5,6,7,8,9,10] from rfl] at hF; simp only [says,zF,zR,and_true] at hF; obtain ⟨⟨hgx,⟨q',hq',q'0,q'1⟩,_⟩,_,_,hnet⟩:=hI; clear hF; simp only [z01,Act.put,zQ]; have hn9 : 11 <= cnt9:=Nat.le_of_eq hn.symm; have hcnt : (cnt9 : Int) <= 11:=by have : cnt9 = 11:=hn; omega
   obtain ⟨n9,A9,c9,hk9,hp9,hl9⟩:=hnet hn9; have hb1x:=hgx.heap (fun e => by rcases (HT.out _).1 e with h9 | h9 | h9 <;> first | omega | (have:=(HOB.out _ h9).1; omega)) HB1.out; have hgw:=HG3.out.then hgx (fun b hb => by rcases (HT.out _).1 hb with h9 | h9 | h9 <;> first | exact .inl h9 | (right; omega) | (right; have:=(HOB.out _ h9).1; omega)); have u0 : xw.cell? ⟨w.heap.size + 1,0,none⟩ = some (.int .i64 0):=(z00 hb1x 0).1; have u1 : xw.cell? ⟨w.heap.size + 1,1,none⟩ = some (.slice none 0 0):=(z00 hb1x 1).1; have g0 : xw.frozen? ⟨w.heap.size + 1,0,none⟩ = false:=(z00 hb1x 0).2; have g1 : xw.frozen? ⟨w.heap.size + 1,1,none⟩ = false:=(z00 hb1x 1).2; have v0 : xw.cell? ⟨b5,0,none⟩ = some (.int .i64 n9.ins):=(z00 hk9 0).1; have v1 : xw.cell? ⟨b5,1,none⟩ = some (.slice A9 n9.gs.length c9):=(z00 hk9 1).1; have hset : Gr S xw ((xw.setCell ⟨w.heap.size + 1,0,none⟩ (.int .i64 n9.ins)).setCell ⟨w.heap.size + 1,1,none⟩ (.slice A9 n9.gs.length c9)):=((Gr.refl _ _).set _ _ _ (.inl ((HS.out _).2 (.inr rfl)))).set _ _ _ (.inl ((HS.out _).2 (.inr rfl))); have HL:=zH ((hl9.gr hset).ab_mono (T:=S0) fun b _ hb => HSL.out.2.1 b hb); have HRR:=zH ((hq'.set (g:=w.heap.size + 1) (o:=0) (u:=.int .i64 n9.ins) (by omega)).set (g:=w.heap.size + 1) (o:=1) (u:=.slice A9 n9.gs.length c9) (by omega)); have HGG:=zH ((hgw.set (w.heap.size + 1) 0 (.int .i64 n9.ins) (.inr (by omega))).set (w.heap.size + 1) 1 (.slice A9 n9.gs.length c9) (.inr (by omega))); have HP:=zH hp9; clear hset hk9 hl9 hp9 hb1x hgw hq' hgx hnet
   go_wp2
   refine bodyPost_ret (v:=.agg #[.int .i64 n9.ins,.slice A9 n9.gs.length c9]) (by simp [results,Tryz.results24,go_sem,u0,u1,g0,g1,v0,v1]) rfl ⟨n9,A9,c9,rfl,HL.out,HP.out,_,?_,?_,HRR.out,HGG.out⟩ <;> omega
 have hkb1 : (k == 1) = false:=by simpa using hk1
 by_cases hk2 : k = 2
 ·
  subst hk2
  by_cases hpos : 0 < n.gs.length
  ·
   have hposi : (0 : Int) < n.gs.length:=by omega
   obtain ⟨g9,hg9⟩:=HOWN.out.first hpos
   subst hg9
   go_wp2
   refine z26 [[],[(0,39)],[],[],[(2,41),(3,42)],[],[],[(5,44),(6,45)],[(1,40),(4,43)],[(8,47)],[(9,48),(7,46)]]
    (Gr (IsR r))
    [(10,Gr (fun b => (Value.slice (some ⟨g9,0,none⟩) n.gs.length c1).ownBlock = some b))]
    (IB (w.heap.size + 1 + 1) (.slice (some ⟨g9,0,none⟩) n.gs.length c1) n.gs S T (n0 + 1) r (p + 1) 2 w3 b5 (.cells #[.int .i64 n.ins,.slice (some ⟨g9,0,none⟩) n.gs.length c1] 29 (0,0)) 12 11 11)
    [fun vs9 _ => vs9 0 = (.pointer (some ⟨b5,1,none⟩)),
  fun vs9 _ => vs9 1 = (.slice (some ⟨g9,0,none⟩) n.gs.length c1),
  fun vs9 _ => vs9 2 = (.pointer (some ⟨r,0,none⟩)),
  fun vs9 _ => vs9 3 = (.int .i64 n.gs.length),
  fun vs9 y9 => (fun v _ => ∃ z : Nat,v = .int .i64 z /\ (z : Int) < n.gs.length) (vs9 4) y9,
  fun vs9 _ => vs9 5 = (.pointer (some ⟨r,0,none⟩)),
  fun vs9 y9 => (fun v yy => ∃ blk : Nat,v = .slice (some ⟨blk,0,none⟩) 5 5 /\ Lay.int.Sl yy (Ab T yy) (some ⟨blk,0,none⟩) [0,1,-1,50,-9223372036854775808]) (vs9 6) y9,
  fun vs9 y9 => (fun v _ => ∃ y,v = .int .i64 y /\ z15 y) (vs9 7) y9,
  fun vs9 y9 => (fun v _ => ∃ j : Nat,v = .pointer (some ⟨g9,j * 3,none⟩) /\ j < n.gs.length) (vs9 8) y9,
  fun vs9 y9 => (fun v _ => ∃ j : Nat,v = .pointer (some ⟨g9,j * 3 + 1,none⟩) /\ j < n.gs.length) (vs9 9) y9,
  fun _ _ => True]
    [(0,39),(1,40),(2,41),(3,42),(4,43),(5,44),(6,45),(7,46),(8,47),(9,48)] (by kernel_rfl) (by kernel_rfl) (by kernel_rfl) (by kernel_rfl)
    (fun _ => Gr.refl _ _) ⟨fun _ => Gr.refl _ _,trivial⟩
    ⟨zT,
  zT,
  zT,
  zT,
  ⟨.inr (zS (fun v _ => ∃ z : Nat,v = .int .i64 z /\ (z : Int) < n.gs.length) (fun _ _ _ h _ => h)),⟨.inr (.inr (zS (fun v _ => ∃ z : Nat,v = .int .i64 z /\ (z : Int) < n.gs.length) (fun _ _ _ h _ => h))),trivial⟩⟩,
  zT,
  ⟨.inr (zS (fun v yy => ∃ blk : Nat,v = .slice (some ⟨blk,0,none⟩) 5 5 /\ Lay.int.Sl yy (Ab T yy) (some ⟨blk,0,none⟩) [0,1,-1,50,-9223372036854775808]) (fun _ _ _ ⟨blk,h1,h2⟩ hR => ⟨blk,h1,h2.gr (hR.mono fun b hb => (HT.out b).2 (.inl hb))⟩)),⟨.inr (.inr (zS (fun v yy => ∃ blk : Nat,v = .slice (some ⟨blk,0,none⟩) 5 5 /\ Lay.int.Sl yy (Ab T yy) (some ⟨blk,0,none⟩) [0,1,-1,50,-9223372036854775808]) (fun _ _ _ ⟨blk,h1,h2⟩ hR => ⟨blk,h1,h2.gr (hR.mono fun b hb => (HT.out b).2 (.inr (.inr hb)))⟩))),trivial⟩⟩,
  ⟨.inr (zS (fun v _ => ∃ y,v = .int .i64 y /\ z15 y) (fun _ _ _ h _ => h)),⟨.inr (.inr (zS (fun v _ => ∃ y,v = .int .i64 y /\ z15 y) (fun _ _ _ h _ => h))),trivial⟩⟩,
  ⟨.inr (zS (fun v _ => ∃ j : Nat,v = .pointer (some ⟨g9,j * 3,none⟩) /\ j < n.gs.length) (fun _ _ _ h _ => h)),⟨.inr (.inr (zS (fun v _ => ∃ j : Nat,v = .pointer (some ⟨g9,j * 3,none⟩) /\ j < n.gs.length) (fun _ _ _ h _ => h))),trivial⟩⟩,
  ⟨.inr (zS (fun v _ => ∃ j : Nat,v = .pointer (some ⟨g9,j * 3 + 1,none⟩) /\ j < n.gs.length) (fun _ _ _ h _ => h)),⟨.inr (.inr (zS (fun v _ => ∃ j : Nat,v = .pointer (some ⟨g9,j * 3 + 1,none⟩) /\ j < n.gs.length) (fun _ _ _ h _ => h))),trivial⟩⟩,
  ⟨.inr zK,⟨.inr (.inl rfl),trivial⟩⟩,trivial⟩ ⟨fun _ _ _ h _ v => (by simpa only [<- h] using v),
  fun _ _ _ h _ v => (by simpa only [<- h] using v),
  fun _ _ _ h _ v => (by simpa only [<- h] using v),
  fun _ _ _ h _ v => (by simpa only [<- h] using v),
  fun _ _ _ h _ v => (by simpa only [<- h] using v),
  fun _ _ _ h _ v => (by simpa only [<- h] using v),
  fun _ _ _ h _ v => (by simpa only [<- h] using v),
  fun _ _ _ h _ v => (by simpa only [<- h] using v),
  fun _ _ _ h _ v => (by simpa only [<- h] using v),
  fun _ _ _ h _ v => (by simpa only [<- h] using v),
  fun _ _ _ _ _ _ => trivial,trivial⟩ (⟨ig_start HR3.out (fun s hs => by cases hs),fun _ => HB5.out,fun _ => HOWN.out.up (z02 (Below.refl _ _) 1),fun h9 => absurd h9 (by decide)⟩) ⟨?_,?_,?_,?_,?_,?_,?_,?_,?_,?_,?_,trivial⟩ ?_
   ·
    intro vals xw cnt9 hn hl hI hF; have hl2 : cnt9 + 1 + 1 <= 11:=z14 hl.2 _ (by kernel_rfl); clear hl; dsimp only [owes,bare]; simp only [z01,Act.put,zQ]
    go_wp2
    exact ⟨rfl,rfl,⟨zN rfl,fun _ => Gr.refl _ _⟩,z0n hI (by omega) (by omega)⟩
   ·
    intro vals xw cnt9 hn hl hI hF; have hl2 : cnt9 + 1 + 2 <= 11:=z14 hl.2 _ (by kernel_rfl); clear hl; simp only [z05,zF,zR,and_true] at hF; dsimp only [owes,bare]; simp only [z01,Act.put,zQ]; simp only [hF]; have hk9:=hI.2.1 (by omega); have k9_0 : xw.cell? ⟨b5,0,none⟩ = some (.int .i64 n.ins):=(z00 hk9 0).1; have k9_1 : xw.cell? ⟨b5,1,none⟩ = some (.slice (some ⟨g9,0,none⟩) n.gs.length c1):=(z00 hk9 1).1; clear hk9
    go_wp2
    exact ⟨rfl,rfl,⟨zN rfl,fun _ => Gr.refl _ _⟩,z0n hI (by omega) (by omega)⟩
   iterate 2
    ·
     intro vals xw cnt9 hn hl hI hF; have hl2 : cnt9 + 1 + 1 <= 11:=z14 hl.2 _ (by kernel_rfl); clear hl; dsimp only [owes,bare]; simp only [z01,Act.put,zQ]
     go_wp2
     exact ⟨rfl,rfl,⟨zN rfl,fun _ => Gr.refl _ _⟩,z0n hI (by omega) (by omega)⟩
   ·
    intro vals xw cnt9 hn hl hI hF; have hl2 : cnt9 + 1 + 1 <= 11:=z14 hl.2 _ (by kernel_rfl); clear hl; simp only [z05,zF,zR,and_true] at hF; obtain ⟨e41,e42⟩:=hF; dsimp only [owes,bare]; simp only [z01,Act.put,zQ]; simp only [e41,e42]; have HI:=zH hI; obtain ⟨⟨_,⟨q',hq,q'0,q'1⟩,_⟩,_⟩:=hI
    go_wp2_with fail
    refine (z17 r q' (n.gs.length) xw hq (by omega) (by omega) (by omega) (by omega)).mono ?_; rintro e wx ⟨z,rfl,z0,z1,_,hRx,hgx⟩; have z1:=z1 (by omega); obtain ⟨z,rfl⟩:=Int.eq_ofNat_of_zero_le z0; have HD:=zH (ib_draw HI.out (by omega) (by omega) (⟨q' + 1,by omega,by omega,hRx,Gr.one (S:=fun b => b = r) hgx rfl⟩ : Drawn r q' 2 xw wx) q'0 q'1 (by omega) ((HT.out r).2 (.inl rfl)) (by omega) (by omega)); clear hRx hgx hq
    go_wp2
    exact ⟨rfl,⟨z,rfl,z1⟩,⟨zN rfl,fun _ => HD.out.2⟩,HD.out.1⟩
   ·
    intro vals xw cnt9 hn hl hI hF; have hl2 : cnt9 + 1 + 1 <= 11:=z14 hl.2 _ (by kernel_rfl); clear hl; dsimp only [owes,bare]; simp only [z01,Act.put,zQ]
    go_wp2
    exact ⟨rfl,rfl,⟨zN rfl,fun _ => Gr.refl _ _⟩,z0n hI (by omega) (by omega)⟩
   ·
    intro vals xw cnt9 hn hl hI hF; have hl2 : cnt9 + 1 + 1 <= 11:=z14 hl.2 _ (by kernel_rfl); clear hl; dsimp only [owes,bare]; simp only [z01,Act.put,zQ]; have hs9:=hI.1.1.size; have hsl:=lit_sl (S:=T) xw [0,1,-1,50,-9223372036854775808] #[.int .i64 (0),.int .i64 (1),.int .i64 (-1),.int .i64 (50),.int .i64 (-9223372036854775808)] 3 rfl (fun e => by rcases (HT.out _).1 e with h9 | h9 | h9 <;> first | omega | (have:=(HOB.out _ h9).2; omega)); have hal : Below xw.heap.size xw (xw.alloc (.cells #[.int .i64 (0),.int .i64 (1),.int .i64 (-1),.int .i64 (50),.int .i64 (-9223372036854775808)] 3)):=(Below.refl _ _).alloc (Nat.le_refl _) _; have HH:=zH (And.intro hsl (ib_low hI (by omega) (by omega) hal)); have HAL:=zH hal; clear hsl hal hI
    go_wp2
    exact ⟨rfl,⟨xw.heap.size,rfl,HH.out.1⟩,⟨zN rfl,fun _ => .below HAL.out⟩,HH.out.2⟩
   ·
    intro vals xw cnt9 hn hl hI hF; have hl2 : cnt9 + 1 + 1 <= 11:=z14 hl.2 _ (by kernel_rfl); clear hl; simp only [z05,zF,zR,and_true] at hF; obtain ⟨e1,blk,e2,hbl⟩:=hF; dsimp only [owes,bare]; simp only [z01,Act.put,zQ]; simp only [e1,e2]; have HI:=zH hI; obtain ⟨⟨_,⟨q',hq,q'0,q'1⟩,_⟩,_⟩:=hI; have HN:=zH (num_any r q' _ 5 _ xw hq (hbl.ab_mono (T:=fun b => b = r) fun b _ hb => (HT.out b).2 (.inl hb)) (by simp) (by simp) (by omega) (by omega)); clear hbl hq
    go_wp2_with fail
    refine HN.out.mono ?_; clear HN; rintro e wx ⟨y,hy,rfl,hRx,hgx⟩; have HY : Hid (z15 y):=zH (mem_lit hy (by intro z hz; simp at hz; unfold z15; omega)); have HD:=zH (ib_draw HI.out (by omega) (by omega) (⟨q' + 1,by omega,by omega,hRx,hgx⟩ : Drawn r q' 2 xw wx) q'0 q'1 (by omega) ((HT.out r).2 (.inl rfl)) (by omega) (by omega)); clear hRx hgx hy
    go_wp2
    exact ⟨rfl,⟨y,rfl,HY.out⟩,⟨zN rfl,fun _ => HD.out.2⟩,HD.out.1⟩
   ·
    intro vals xw cnt9 hn hl hI hF; have hl2 : cnt9 + 1 + 1 <= 11:=z14 hl.2 _ (by kernel_rfl); clear hl; simp only [z05,zF,zR,and_true] at hF; obtain ⟨e1,z,e2,hz⟩:=hF; dsimp only [owes,bare]; simp only [z01,Act.put,zQ]; simp only [e1,e2]; have hzn : z < n.gs.length:=by omega
    have HI:=zH hI; clear hI
    go_wp2
    exact ⟨rfl,⟨z,rfl,hzn⟩,⟨zN rfl,fun _ => Gr.refl _ _⟩,z0n HI.out (by omega) (by omega)⟩
   ·
    intro vals xw cnt9 hn hl hI hF; have hl2 : cnt9 + 1 + 1 <= 11:=z14 hl.2 _ (by kernel_rfl); clear hl; simp only [z05,zF,zR,and_true] at hF; obtain ⟨z,e1,hz⟩:=hF; dsimp only [owes,bare]; simp only [z01,Act.put,zQ]; simp only [e1]
    go_wp2
    exact ⟨rfl,⟨z,rfl,hz⟩,⟨zN rfl,fun _ => Gr.refl _ _⟩,z0n hI (by omega) (by omega)⟩
   ·
    intro vals xw cnt9 hn hl hI hF; have hl1 : 10 <= cnt9:=low_ge hl.1 _ (by kernel_rfl); have hl2 : cnt9 + 1 + 0 <= 11:=z14 hl.2 _ (by kernel_rfl); clear hl; simp only [z05,zF,zR,and_true] at hF; obtain ⟨⟨z,e1,hz⟩,y,e2,hy⟩:=hF; dsimp only [owes,bare]; simp only [z01,Act.put,zQ]; simp only [e1,e2]; have hown:=hI.2.2.1 (by omega); have hk:=hI.2.1 (by omega); have hc:=hown.cell hz (f:=1) (by decide); have v1 : xw.cell? ⟨g9,z * 3 + 1,none⟩ = some (.int .i64 n.gs[z].a):=hc.1; have f1 : xw.frozen? ⟨g9,z * 3 + 1,none⟩ = false:=hc.2; have hoz:=HSM.out.2.2.2 n.gs[z] (List.getElem_mem hz); have hput:=hown.put (f:=1) hz (.int .i64 y) ⟨n.gs[z].x,y,n.gs[z].b⟩ rfl (by decide); have hset : Gr (fun b => (Value.slice (some ⟨g9,0,none⟩) n.gs.length c1).ownBlock = some b) xw (xw.setCell ⟨g9,z * 3 + 1,none⟩ (.int .i64 y)):=(Gr.refl _ _).set _ _ _ (.inl rfl); have hk9:=hset.heap HOB5.out hk; have HL:=zH (ib_last hI (by omega) hset (fun b hb => ⟨(HT.out b).2 (.inr (.inr hb)),by have:=(HOB.out b hb).1; omega⟩) (.inr HOB5.out) (by omega) ⟨⟨n.ins,n.gs.set z ⟨n.gs[z].x,y,n.gs[z].b⟩⟩,some ⟨g9,0,none⟩,c1,by rw [List.length_set]; exact hk9,⟨by show -1 <= n.ins; omega,by show n.ins <= 9; omega,by have:=HSM.out.2.2.1; show (n.gs.set z _).length <= _; rw [List.length_set]; omega,okInts_set HSM.out.2.2.2 z (by unfold z15 at hy; exact ⟨hy,hoz.2⟩) _⟩,hput.ab HSL.out.1⟩); have HSET:=zH hset; clear hI hk hk9 hset hput hown hc hl1 hoz hy
    go_wp2
    exact ⟨rfl,trivial,⟨fun _ => HSET.out,fun h9 => absurd rfl h9⟩,HL.out⟩
   ·
    intro vals xw cnt9 hn hI hF; rw [show List.range _ = [0,1,2,3,4,5,6,7,8,9,10] from rfl] at hF; simp only [says,zF,zR,and_true] at hF; obtain ⟨⟨hgx,⟨q',hq',q'0,q'1⟩,_⟩,_,_,hnet⟩:=hI; clear hF; simp only [z01,Act.put,zQ]; have hn9 : 11 <= cnt9:=Nat.le_of_eq hn.symm; have hcnt : (cnt9 : Int) <= 11:=by have : cnt9 = 11:=hn; omega
    obtain ⟨n9,A9,c9,hk9,hp9,hl9⟩:=hnet hn9; have hb1x:=hgx.heap (fun e => by rcases (HT.out _).1 e with h9 | h9 | h9 <;> first | omega | (have:=(HOB.out _ h9).1; omega)) HB1.out; have hgw:=HG3.out.then hgx (fun b hb => by rcases (HT.out _).1 hb with h9 | h9 | h9 <;> first | exact .inl h9 | (right; omega) | (right; have:=(HOB.out _ h9).1; omega)); have u0 : xw.cell? ⟨w.heap.size + 1,0,none⟩ = some (.int .i64 0):=(z00 hb1x 0).1; have u1 : xw.cell? ⟨w.heap.size + 1,1,none⟩ = some (.slice none 0 0):=(z00 hb1x 1).1; have g0 : xw.frozen? ⟨w.heap.size + 1,0,none⟩ = false:=(z00 hb1x 0).2; have g1 : xw.frozen? ⟨w.heap.size + 1,1,none⟩ = false:=(z00 hb1x 1).2; have v0 : xw.cell? ⟨b5,0,none⟩ = some (.int .i64 n9.ins):=(z00 hk9 0).1; have v1 : xw.cell? ⟨b5,1,none⟩ = some (.slice A9 n9.gs.length c9):=(z00 hk9 1).1; have hset : Gr S xw ((xw.setCell ⟨w.heap.size + 1,0,none⟩ (.int .i64 n9.ins)).setCell ⟨w.heap.size + 1,1,none⟩ (.slice A9 n9.gs.length c9)):=((Gr.refl _ _).set _ _ _ (.inl ((HS.out _).2 (.inr rfl)))).set _ _ _ (.inl ((HS.out _).2 (.inr rfl))); have HL:=zH ((hl9.gr hset).ab_mono (T:=S0) fun b _ hb => HSL.out.2.1 b hb); have HRR:=zH ((hq'.set (g:=w.heap.size + 1) (o:=0) (u:=.int .i64 n9.ins) (by omega)).set (g:=w.heap.size + 1) (o:=1) (u:=.slice A9 n9.gs.length c9) (by omega)); have HGG:=zH ((hgw.set (w.heap.size + 1) 0 (.int .i64 n9.ins) (.inr (by omega))).set (w.heap.size + 1) 1 (.slice A9 n9.gs.length c9) (.inr (by omega))); have HP:=zH hp9; clear hset hk9 hl9 hp9 hb1x hgw hq' hgx hnet
    go_wp2
    refine bodyPost_ret (v:=.agg #[.int .i64 n9.ins,.slice A9 n9.gs.length c9]) (by simp [results,Tryz.results24,go_sem,u0,u1,g0,g1,v0,v1]) rfl ⟨n9,A9,c9,rfl,HL.out,HP.out,_,?_,?_,HRR.out,HGG.out⟩ <;> omega
  ·
   have hposi : ¬ (0 : Int) < n.gs.length:=by omega
   obtain ⟨n9,A9,c9,hk9,hp9,hl9⟩ : NetIn (bentN (n0 + 1)) S b5 w3:=⟨n,A1,c1,HB5.out,HSM.out.bent (by omega),HOWN.out.ab HSL.out.1⟩; have u0 : w3.cell? ⟨w.heap.size + 1,0,none⟩ = some (.int .i64 0):=(z00 HB1.out 0).1; have u1 : w3.cell? ⟨w.heap.size + 1,1,none⟩ = some (.slice none 0 0):=(z00 HB1.out 1).1; have g0 : w3.frozen? ⟨w.heap.size + 1,0,none⟩ = false:=(z00 HB1.out 0).2; have g1 : w3.frozen? ⟨w.heap.size + 1,1,none⟩ = false:=(z00 HB1.out 1).2; have v0 : w3.cell? ⟨b5,0,none⟩ = some (.int .i64 n9.ins):=(z00 hk9 0).1; have v1 : w3.cell? ⟨b5,1,none⟩ = some (.slice A9 n9.gs.length c9):=(z00 hk9 1).1; have hset : Gr S w3 ((w3.setCell ⟨w.heap.size + 1,0,none⟩ (.int .i64 n9.ins)).setCell ⟨w.heap.size + 1,1,none⟩ (.slice A9 n9.gs.length c9)):=((Gr.refl _ _).set _ _ _ (.inl ((HS.out _).2 (.inr rfl)))).set _ _ _ (.inl ((HS.out _).2 (.inr rfl))); have HL:=zH ((hl9.gr hset).ab_mono (T:=S0) fun b _ hb => HSL.out.2.1 b hb); have HRR:=zH ((HR3.out.set (g:=w.heap.size + 1) (o:=0) (u:=.int .i64 n9.ins) (by omega)).set (g:=w.heap.size + 1) (o:=1) (u:=.slice A9 n9.gs.length c9) (by omega)); have HGG:=zH ((HG3.out.set (w.heap.size + 1) 0 (.int .i64 n9.ins) (.inr (by omega))).set (w.heap.size + 1) 1 (.slice A9 n9.gs.length c9) (.inr (by omega))); have HP:=zH hp9; clear hset hk9 hl9 hp9
   go_wp2
   refine bodyPost_ret (v:=.agg #[.int .i64 n9.ins,.slice A9 n9.gs.length c9]) (by simp [results,Tryz.results24,go_sem,u0,u1,g0,g1,v0,v1]) rfl ⟨n9,A9,c9,rfl,HL.out,HP.out,_,?_,?_,HRR.out,HGG.out⟩ <;> omega
 have hkb2 : (k == 2) = false:=by simpa using hk2
 by_cases hk3 : k = 3
 ·
  subst hk3
  by_cases hpos : 0 < n.gs.length
  ·
   have hposi : (0 : Int) < n.gs.length:=by omega
   obtain ⟨g9,hg9⟩:=HOWN.out.first hpos
   subst hg9; obtain ⟨k9,hk9⟩ : ∃ k9 : Nat,(n.gs.length : Int) - 1 = k9:=⟨n.gs.length - 1,by omega⟩; have e60 : IntKind.i64.wrap (2 + n.ins) = 2 + n.ins:=IntWalk.i64_in _ (by omega); have e62 : IntKind.i64.wrap (2 + n.ins + n.gs.length) = 2 + n.ins + n.gs.length:=IntWalk.i64_in _ (by omega); have e56 : IntKind.i64.wrap ((n.gs.length : Int) - 1) = (k9 : Int):=by rw [IntWalk.i64_in _ (by omega)]; exact hk9
   go_wp2
   refine z26 [[],[(0,53)],[],[(2,55)],[],[],[(5,58)],[(6,59)],[],[(7,60),(8,61)],[(9,62)],[(4,57),(10,63)],[(1,54),(3,56)],[(12,65)],[(13,66),(11,64)]]
    (Gr (IsR r))
    [(14,Gr (fun b => (Value.slice (some ⟨g9,0,none⟩) n.gs.length c1).ownBlock = some b))]
    (IB (w.heap.size + 1 + 1) (.slice (some ⟨g9,0,none⟩) n.gs.length c1) n.gs S T (n0 + 1) r (p + 1) 2 w3 b5 (.cells #[.int .i64 n.ins,.slice (some ⟨g9,0,none⟩) n.gs.length c1] 29 (0,0)) 16 15 15)
    [fun vs9 _ => vs9 0 = (.pointer (some ⟨b5,1,none⟩)),
  fun vs9 _ => vs9 1 = (.slice (some ⟨g9,0,none⟩) n.gs.length c1),
  fun vs9 _ => vs9 2 = (.int .i64 n.gs.length),
  fun vs9 y9 => (fun v _ => ∃ z : Nat,v = .int .i64 z /\ (z : Int) < n.gs.length) (vs9 3) y9,
  fun vs9 _ => vs9 4 = (.pointer (some ⟨r,0,none⟩)),
  fun vs9 _ => vs9 5 = (.pointer (some ⟨b5,0,none⟩)),
  fun vs9 _ => vs9 6 = (.int .i64 n.ins),
  fun vs9 _ => vs9 7 = (.int .i64 (2 + n.ins)),
  fun vs9 _ => vs9 8 = (.int .i64 n.gs.length),
  fun vs9 _ => vs9 9 = (.int .i64 (2 + n.ins + n.gs.length)),
  fun vs9 y9 => (fun v yy => ∃ blk : Nat,v = .slice (some ⟨blk,0,none⟩) 4 4 /\ Lay.int.Sl yy (Ab T yy) (some ⟨blk,0,none⟩) [0,2 + n.ins + n.gs.length,-2,9223372036854775807]) (vs9 10) y9,
  fun vs9 y9 => (fun v _ => ∃ y,v = .int .i64 y /\ z15 y) (vs9 11) y9,
  fun vs9 y9 => (fun v _ => ∃ j : Nat,v = .pointer (some ⟨g9,j * 3,none⟩) /\ j < n.gs.length) (vs9 12) y9,
  fun vs9 y9 => (fun v _ => ∃ j : Nat,v = .pointer (some ⟨g9,j * 3 + 2,none⟩) /\ j < n.gs.length) (vs9 13) y9,
  fun _ _ => True]
    [(0,53),(1,54),(2,55),(3,56),(4,57),(5,58),(6,59),(7,60),(8,61),(9,62),(10,63),(11,64),(12,65),(13,66)] (by kernel_rfl) (by kernel_rfl) (by kernel_rfl) (by kernel_rfl)
    (fun _ => Gr.refl _ _) ⟨fun _ => Gr.refl _ _,trivial⟩
    ⟨zT,
  zT,
  zT,
  ⟨.inr (zS (fun v _ => ∃ z : Nat,v = .int .i64 z /\ (z : Int) < n.gs.length) (fun _ _ _ h _ => h)),⟨.inr (.inr (zS (fun v _ => ∃ z : Nat,v = .int .i64 z /\ (z : Int) < n.gs.length) (fun _ _ _ h _ => h))),trivial⟩⟩,
  zT,
  zT,
  zT,
  zT,
  zT,
  zT,
  ⟨.inr (zS (fun v yy => ∃ blk : Nat,v = .slice (some ⟨blk,0,none⟩) 4 4 /\ Lay.int.Sl yy (Ab T yy) (some ⟨blk,0,none⟩) [0,2 + n.ins + n.gs.length,-2,9223372036854775807]) (fun _ _ _ ⟨blk,h1,h2⟩ hR => ⟨blk,h1,h2.gr (hR.mono fun b hb => (HT.out b).2 (.inl hb))⟩)),⟨.inr (.inr (zS (fun v yy => ∃ blk : Nat,v = .slice (some ⟨blk,0,none⟩) 4 4 /\ Lay.int.Sl yy (Ab T yy) (some ⟨blk,0,none⟩) [0,2 + n.ins + n.gs.length,-2,9223372036854775807]) (fun _ _ _ ⟨blk,h1,h2⟩ hR => ⟨blk,h1,h2.gr (hR.mono fun b hb => (HT.out b).2 (.inr (.inr hb)))⟩))),trivial⟩⟩,
  ⟨.inr (zS (fun v _ => ∃ y,v = .int .i64 y /\ z15 y) (fun _ _ _ h _ => h)),⟨.inr (.inr (zS (fun v _ => ∃ y,v = .int .i64 y /\ z15 y) (fun _ _ _ h _ => h))),trivial⟩⟩,
  ⟨.inr (zS (fun v _ => ∃ j : Nat,v = .pointer (some ⟨g9,j * 3,none⟩) /\ j < n.gs.length) (fun _ _ _ h _ => h)),⟨.inr (.inr (zS (fun v _ => ∃ j : Nat,v = .pointer (some ⟨g9,j * 3,none⟩) /\ j < n.gs.length) (fun _ _ _ h _ => h))),trivial⟩⟩,
  ⟨.inr (zS (fun v _ => ∃ j : Nat,v = .pointer (some ⟨g9,j * 3 + 2,none⟩) /\ j < n.gs.length) (fun _ _ _ h _ => h)),⟨.inr (.inr (zS (fun v _ => ∃ j : Nat,v = .pointer (some ⟨g9,j * 3 + 2,none⟩) /\ j < n.gs.length) (fun _ _ _ h _ => h))),trivial⟩⟩,
  ⟨.inr zK,⟨.inr (.inl rfl),trivial⟩⟩,trivial⟩ ⟨fun _ _ _ h _ v => (by simpa only [<- h] using v),
  fun _ _ _ h _ v => (by simpa only [<- h] using v),
  fun _ _ _ h _ v => (by simpa only [<- h] using v),
  fun _ _ _ h _ v => (by simpa only [<- h] using v),
  fun _ _ _ h _ v => (by simpa only [<- h] using v),
  fun _ _ _ h _ v => (by simpa only [<- h] using v),
  fun _ _ _ h _ v => (by simpa only [<- h] using v),
  fun _ _ _ h _ v => (by simpa only [<- h] using v),
  fun _ _ _ h _ v => (by simpa only [<- h] using v),
  fun _ _ _ h _ v => (by simpa only [<- h] using v),
  fun _ _ _ h _ v => (by simpa only [<- h] using v),
  fun _ _ _ h _ v => (by simpa only [<- h] using v),
  fun _ _ _ h _ v => (by simpa only [<- h] using v),
  fun _ _ _ h _ v => (by simpa only [<- h] using v),
  fun _ _ _ _ _ _ => trivial,trivial⟩ (⟨ig_start HR3.out (fun s hs => by cases hs),fun _ => HB5.out,fun _ => HOWN.out.up (z02 (Below.refl _ _) 1),fun h9 => absurd h9 (by decide)⟩) ⟨?_,?_,?_,?_,?_,?_,?_,?_,?_,?_,?_,?_,?_,?_,?_,trivial⟩ ?_
   ·
    intro vals xw cnt9 hn hl hI hF; have hl2 : cnt9 + 1 + 1 <= 15:=z14 hl.2 _ (by kernel_rfl); clear hl; dsimp only [owes,bare]; simp only [z01,Act.put,zQ]
    go_wp2
    exact ⟨rfl,rfl,⟨zN rfl,fun _ => Gr.refl _ _⟩,z0n hI (by omega) (by omega)⟩
   ·
    intro vals xw cnt9 hn hl hI hF; have hl2 : cnt9 + 1 + 2 <= 15:=z14 hl.2 _ (by kernel_rfl); clear hl; simp only [z05,zF,zR,and_true] at hF; dsimp only [owes,bare]; simp only [z01,Act.put,zQ]; simp only [hF]; have hk9:=hI.2.1 (by omega); have k9_0 : xw.cell? ⟨b5,0,none⟩ = some (.int .i64 n.ins):=(z00 hk9 0).1; have k9_1 : xw.cell? ⟨b5,1,none⟩ = some (.slice (some ⟨g9,0,none⟩) n.gs.length c1):=(z00 hk9 1).1; clear hk9
    go_wp2
    exact ⟨rfl,rfl,⟨zN rfl,fun _ => Gr.refl _ _⟩,z0n hI (by omega) (by omega)⟩
   ·
    intro vals xw cnt9 hn hl hI hF; have hl2 : cnt9 + 1 + 1 <= 15:=z14 hl.2 _ (by kernel_rfl); clear hl; dsimp only [owes,bare]; simp only [z01,Act.put,zQ]
    go_wp2
    exact ⟨rfl,rfl,⟨zN rfl,fun _ => Gr.refl _ _⟩,z0n hI (by omega) (by omega)⟩
   ·
    intro vals xw cnt9 hn hl hI hF; have hl2 : cnt9 + 1 + 1 <= 15:=z14 hl.2 _ (by kernel_rfl); clear hl; simp only [z05,zF,zR,and_true] at hF; dsimp only [owes,bare]; simp only [z01,Act.put,zQ]; simp only [hF]
    go_wp2
    exact ⟨rfl,⟨k9,rfl,by omega⟩,⟨zN rfl,fun _ => Gr.refl _ _⟩,z0n hI (by omega) (by omega)⟩
   iterate 2
    ·
     intro vals xw cnt9 hn hl hI hF; have hl2 : cnt9 + 1 + 1 <= 15:=z14 hl.2 _ (by kernel_rfl); clear hl; dsimp only [owes,bare]; simp only [z01,Act.put,zQ]
     go_wp2
     exact ⟨rfl,rfl,⟨zN rfl,fun _ => Gr.refl _ _⟩,z0n hI (by omega) (by omega)⟩
   ·
    intro vals xw cnt9 hn hl hI hF; have hl2 : cnt9 + 1 + 2 <= 15:=z14 hl.2 _ (by kernel_rfl); clear hl; simp only [z05,zF,zR,and_true] at hF; dsimp only [owes,bare]; simp only [z01,Act.put,zQ]; simp only [hF]; have hk9:=hI.2.1 (by omega); have k9_0 : xw.cell? ⟨b5,0,none⟩ = some (.int .i64 n.ins):=(z00 hk9 0).1; have k9_1 : xw.cell? ⟨b5,1,none⟩ = some (.slice (some ⟨g9,0,none⟩) n.gs.length c1):=(z00 hk9 1).1; clear hk9
    go_wp2
    exact ⟨rfl,rfl,⟨zN rfl,fun _ => Gr.refl _ _⟩,z0n hI (by omega) (by omega)⟩
   ·
    intro vals xw cnt9 hn hl hI hF; have hl2 : cnt9 + 1 + 1 <= 15:=z14 hl.2 _ (by kernel_rfl); clear hl; simp only [z05,zF,zR,and_true] at hF; dsimp only [owes,bare]; simp only [z01,Act.put,zQ]; simp only [hF]
    go_wp2
    exact ⟨rfl,rfl,⟨zN rfl,fun _ => Gr.refl _ _⟩,z0n hI (by omega) (by omega)⟩
   ·
    intro vals xw cnt9 hn hl hI hF; have hl2 : cnt9 + 1 + 1 <= 15:=z14 hl.2 _ (by kernel_rfl); clear hl; dsimp only [owes,bare]; simp only [z01,Act.put,zQ]
    go_wp2
    exact ⟨rfl,rfl,⟨zN rfl,fun _ => Gr.refl _ _⟩,z0n hI (by omega) (by omega)⟩
   ·
    intro vals xw cnt9 hn hl hI hF; have hl2 : cnt9 + 1 + 1 <= 15:=z14 hl.2 _ (by kernel_rfl); clear hl; simp only [z05,zF,zR,and_true] at hF; obtain ⟨e60,e61⟩:=hF; dsimp only [owes,bare]; simp only [z01,Act.put,zQ]; simp only [e60,e61]
    go_wp2
    exact ⟨rfl,rfl,⟨zN rfl,fun _ => Gr.refl _ _⟩,z0n hI (by omega) (by omega)⟩
   ·
    intro vals xw cnt9 hn hl hI hF; have hl2 : cnt9 + 1 + 1 <= 15:=z14 hl.2 _ (by kernel_rfl); clear hl; simp only [z05,zF,zR,and_true] at hF; have e62:=hF; dsimp only [owes,bare]; simp only [z01,Act.put,zQ]; simp only [e62]; have hs9:=hI.1.1.size; have hsl:=lit_sl (S:=T) xw [0,2 + n.ins + n.gs.length,-2,9223372036854775807] #[.int .i64 (0),.int .i64 (2 + n.ins + n.gs.length),.int .i64 (-2),.int .i64 (9223372036854775807)] 3 rfl (fun e => by rcases (HT.out _).1 e with h9 | h9 | h9 <;> first | omega | (have:=(HOB.out _ h9).2; omega)); have hal : Below xw.heap.size xw (xw.alloc (.cells #[.int .i64 (0),.int .i64 (2 + n.ins + n.gs.length),.int .i64 (-2),.int .i64 (9223372036854775807)] 3)):=(Below.refl _ _).alloc (Nat.le_refl _) _; have HH:=zH (And.intro hsl (ib_low hI (by omega) (by omega) hal)); have HAL:=zH hal; clear hsl hal hI
    go_wp2
    exact ⟨rfl,⟨xw.heap.size,rfl,HH.out.1⟩,⟨zN rfl,fun _ => .below HAL.out⟩,HH.out.2⟩
   ·
    intro vals xw cnt9 hn hl hI hF; have hl2 : cnt9 + 1 + 1 <= 15:=z14 hl.2 _ (by kernel_rfl); clear hl; simp only [z05,zF,zR,and_true] at hF; obtain ⟨e1,blk,e2,hbl⟩:=hF; dsimp only [owes,bare]; simp only [z01,Act.put,zQ]; simp only [e1,e2]; have HI:=zH hI; obtain ⟨⟨_,⟨q',hq,q'0,q'1⟩,_⟩,_⟩:=hI; have HN:=zH (num_any r q' _ 4 _ xw hq (hbl.ab_mono (T:=fun b => b = r) fun b _ hb => (HT.out b).2 (.inl hb)) (by simp) (by simp) (by omega) (by omega)); clear hbl hq
    go_wp2_with fail
    refine HN.out.mono ?_; clear HN; rintro e wx ⟨y,hy,rfl,hRx,hgx⟩; have HY : Hid (z15 y):=zH (mem_lit hy (by intro z hz; simp at hz; unfold z15; omega)); have HD:=zH (ib_draw HI.out (by omega) (by omega) (⟨q' + 1,by omega,by omega,hRx,hgx⟩ : Drawn r q' 2 xw wx) q'0 q'1 (by omega) ((HT.out r).2 (.inl rfl)) (by omega) (by omega)); clear hRx hgx hy
    go_wp2
    exact ⟨rfl,⟨y,rfl,HY.out⟩,⟨zN rfl,fun _ => HD.out.2⟩,HD.out.1⟩
   ·
    intro vals xw cnt9 hn hl hI hF; have hl2 : cnt9 + 1 + 1 <= 15:=z14 hl.2 _ (by kernel_rfl); clear hl; simp only [z05,zF,zR,and_true] at hF; obtain ⟨e1,z,e2,hz⟩:=hF; dsimp only [owes,bare]; simp only [z01,Act.put,zQ]; simp only [e1,e2]; have hzn : z < n.gs.length:=by omega
    have HI:=zH hI; clear hI
    go_wp2
    exact ⟨rfl,⟨z,rfl,hzn⟩,⟨zN rfl,fun _ => Gr.refl _ _⟩,z0n HI.out (by omega) (by omega)⟩
   ·
    intro vals xw cnt9 hn hl hI hF; have hl2 : cnt9 + 1 + 1 <= 15:=z14 hl.2 _ (by kernel_rfl); clear hl; simp only [z05,zF,zR,and_true] at hF; obtain ⟨z,e1,hz⟩:=hF; dsimp only [owes,bare]; simp only [z01,Act.put,zQ]; simp only [e1]
    go_wp2
    exact ⟨rfl,⟨z,rfl,hz⟩,⟨zN rfl,fun _ => Gr.refl _ _⟩,z0n hI (by omega) (by omega)⟩
   ·
    intro vals xw cnt9 hn hl hI hF; have hl1 : 14 <= cnt9:=low_ge hl.1 _ (by kernel_rfl); have hl2 : cnt9 + 1 + 0 <= 15:=z14 hl.2 _ (by kernel_rfl); clear hl; simp only [z05,zF,zR,and_true] at hF; obtain ⟨⟨z,e1,hz⟩,y,e2,hy⟩:=hF; dsimp only [owes,bare]; simp only [z01,Act.put,zQ]; simp only [e1,e2]; have hown:=hI.2.2.1 (by omega); have hk:=hI.2.1 (by omega); have hc:=hown.cell hz (f:=2) (by decide); have v1 : xw.cell? ⟨g9,z * 3 + 2,none⟩ = some (.int .i64 n.gs[z].b):=hc.1; have f1 : xw.frozen? ⟨g9,z * 3 + 2,none⟩ = false:=hc.2; have hoz:=HSM.out.2.2.2 n.gs[z] (List.getElem_mem hz); have hput:=hown.put (f:=2) hz (.int .i64 y) ⟨n.gs[z].x,n.gs[z].a,y⟩ rfl (by decide); have hset : Gr (fun b => (Value.slice (some ⟨g9,0,none⟩) n.gs.length c1).ownBlock = some b) xw (xw.setCell ⟨g9,z * 3 + 2,none⟩ (.int .i64 y)):=(Gr.refl _ _).set _ _ _ (.inl rfl); have hk9:=hset.heap HOB5.out hk; have HL:=zH (ib_last hI (by omega) hset (fun b hb => ⟨(HT.out b).2 (.inr (.inr hb)),by have:=(HOB.out b hb).1; omega⟩) (.inr HOB5.out) (by omega) ⟨⟨n.ins,n.gs.set z ⟨n.gs[z].x,n.gs[z].a,y⟩⟩,some ⟨g9,0,none⟩,c1,by rw [List.length_set]; exact hk9,⟨by show -1 <= n.ins; omega,by show n.ins <= 9; omega,by have:=HSM.out.2.2.1; show (n.gs.set z _).length <= _; rw [List.length_set]; omega,okInts_set HSM.out.2.2.2 z (by unfold z15 at hy; exact ⟨hoz.1,hy⟩) _⟩,hput.ab HSL.out.1⟩); have HSET:=zH hset; clear hI hk hk9 hset hput hown hc hl1 hoz hy
    go_wp2
    exact ⟨rfl,trivial,⟨fun _ => HSET.out,fun h9 => absurd rfl h9⟩,HL.out⟩
   ·
    intro vals xw cnt9 hn hI hF; rw [show List.range _ = [0,1,2,3,4,5,6,7,8,9,10,11,12,13,14] from rfl] at hF; simp only [says,zF,zR,and_true] at hF; obtain ⟨⟨hgx,⟨q',hq',q'0,q'1⟩,_⟩,_,_,hnet⟩:=hI; clear hF; simp only [z01,Act.put,zQ]; have hn9 : 15 <= cnt9:=Nat.le_of_eq hn.symm; have hcnt : (cnt9 : Int) <= 15:=by have : cnt9 = 15:=hn; omega
    obtain ⟨n9,A9,c9,hk9,hp9,hl9⟩:=hnet hn9; have hb1x:=hgx.heap (fun e => by rcases (HT.out _).1 e with h9 | h9 | h9 <;> first | omega | (have:=(HOB.out _ h9).1; omega)) HB1.out; have hgw:=HG3.out.then hgx (fun b hb => by rcases (HT.out _).1 hb with h9 | h9 | h9 <;> first | exact .inl h9 | (right; omega) | (right; have:=(HOB.out _ h9).1; omega)); have u0 : xw.cell? ⟨w.heap.size + 1,0,none⟩ = some (.int .i64 0):=(z00 hb1x 0).1; have u1 : xw.cell? ⟨w.heap.size + 1,1,none⟩ = some (.slice none 0 0):=(z00 hb1x 1).1; have g0 : xw.frozen? ⟨w.heap.size + 1,0,none⟩ = false:=(z00 hb1x 0).2; have g1 : xw.frozen? ⟨w.heap.size + 1,1,none⟩ = false:=(z00 hb1x 1).2; have v0 : xw.cell? ⟨b5,0,none⟩ = some (.int .i64 n9.ins):=(z00 hk9 0).1; have v1 : xw.cell? ⟨b5,1,none⟩ = some (.slice A9 n9.gs.length c9):=(z00 hk9 1).1; have hset : Gr S xw ((xw.setCell ⟨w.heap.size + 1,0,none⟩ (.int .i64 n9.ins)).setCell ⟨w.heap.size + 1,1,none⟩ (.slice A9 n9.gs.length c9)):=((Gr.refl _ _).set _ _ _ (.inl ((HS.out _).2 (.inr rfl)))).set _ _ _ (.inl ((HS.out _).2 (.inr rfl))); have HL:=zH ((hl9.gr hset).ab_mono (T:=S0) fun b _ hb => HSL.out.2.1 b hb); have HRR:=zH ((hq'.set (g:=w.heap.size + 1) (o:=0) (u:=.int .i64 n9.ins) (by omega)).set (g:=w.heap.size + 1) (o:=1) (u:=.slice A9 n9.gs.length c9) (by omega)); have HGG:=zH ((hgw.set (w.heap.size + 1) 0 (.int .i64 n9.ins) (.inr (by omega))).set (w.heap.size + 1) 1 (.slice A9 n9.gs.length c9) (.inr (by omega))); have HP:=zH hp9; clear hset hk9 hl9 hp9 hb1x hgw hq' hgx hnet
    go_wp2
    refine bodyPost_ret (v:=.agg #[.int .i64 n9.ins,.slice A9 n9.gs.length c9]) (by simp [results,Tryz.results24,go_sem,u0,u1,g0,g1,v0,v1]) rfl ⟨n9,A9,c9,rfl,HL.out,HP.out,_,?_,?_,HRR.out,HGG.out⟩ <;> omega
  ·
   have hposi : ¬ (0 : Int) < n.gs.length:=by omega
   obtain ⟨n9,A9,c9,hk9,hp9,hl9⟩ : NetIn (bentN (n0 + 1)) S b5 w3:=⟨n,A1,c1,HB5.out,HSM.out.bent (by omega),HOWN.out.ab HSL.out.1⟩; have u0 : w3.cell? ⟨w.heap.size + 1,0,none⟩ = some (.int .i64 0):=(z00 HB1.out 0).1; have u1 : w3.cell? ⟨w.heap.size + 1,1,none⟩ = some (.slice none 0 0):=(z00 HB1.out 1).1; have g0 : w3.frozen? ⟨w.heap.size + 1,0,none⟩ = false:=(z00 HB1.out 0).2; have g1 : w3.frozen? ⟨w.heap.size + 1,1,none⟩ = false:=(z00 HB1.out 1).2; have v0 : w3.cell? ⟨b5,0,none⟩ = some (.int .i64 n9.ins):=(z00 hk9 0).1; have v1 : w3.cell? ⟨b5,1,none⟩ = some (.slice A9 n9.gs.length c9):=(z00 hk9 1).1; have hset : Gr S w3 ((w3.setCell ⟨w.heap.size + 1,0,none⟩ (.int .i64 n9.ins)).setCell ⟨w.heap.size + 1,1,none⟩ (.slice A9 n9.gs.length c9)):=((Gr.refl _ _).set _ _ _ (.inl ((HS.out _).2 (.inr rfl)))).set _ _ _ (.inl ((HS.out _).2 (.inr rfl))); have HL:=zH ((hl9.gr hset).ab_mono (T:=S0) fun b _ hb => HSL.out.2.1 b hb); have HRR:=zH ((HR3.out.set (g:=w.heap.size + 1) (o:=0) (u:=.int .i64 n9.ins) (by omega)).set (g:=w.heap.size + 1) (o:=1) (u:=.slice A9 n9.gs.length c9) (by omega)); have HGG:=zH ((HG3.out.set (w.heap.size + 1) 0 (.int .i64 n9.ins) (.inr (by omega))).set (w.heap.size + 1) 1 (.slice A9 n9.gs.length c9) (.inr (by omega))); have HP:=zH hp9; clear hset hk9 hl9 hp9
   go_wp2
   refine bodyPost_ret (v:=.agg #[.int .i64 n9.ins,.slice A9 n9.gs.length c9]) (by simp [results,Tryz.results24,go_sem,u0,u1,g0,g1,v0,v1]) rfl ⟨n9,A9,c9,rfl,HL.out,HP.out,_,?_,?_,HRR.out,HGG.out⟩ <;> omega
 have hkb3 : (k == 3) = false:=by simpa using hk3
 by_cases hk4 : k = 4
 ·
  subst hk4
  by_cases hpos : 0 < n.gs.length
  ·
   have hposi : (0 : Int) < n.gs.length:=by omega
   obtain ⟨g9,hg9⟩:=HOWN.out.first hpos
   subst hg9
   go_wp2
   refine z26 [[],[(0,71)],[],[(2,73)],[],[],[(4,75),(5,76)],[(3,74),(6,77)],[(7,78)],[(8,79)],[(1,72),(9,80)],[],[(11,82),(10,81)]]
    (Gr (IsR r))
    [(10,Gr (fun b => (Value.slice (some ⟨g9,0,none⟩) n.gs.length c1).ownBlock = some b)),(12,Gr (fun b => b = b5))]
    (IB (w.heap.size + 1 + 1) (.slice (some ⟨g9,0,none⟩) n.gs.length c1) n.gs S T (n0 + 1) r (p + 1) 2 w3 b5 (.cells #[.int .i64 n.ins,.slice (some ⟨g9,0,none⟩) n.gs.length c1] 29 (0,0)) 13 11 13)
    [fun vs9 _ => vs9 0 = (.pointer (some ⟨b5,1,none⟩)),
  fun vs9 _ => vs9 1 = (.slice (some ⟨g9,0,none⟩) n.gs.length c1),
  fun vs9 _ => vs9 2 = (.pointer (some ⟨b5,1,none⟩)),
  fun vs9 _ => vs9 3 = (.slice (some ⟨g9,0,none⟩) n.gs.length c1),
  fun vs9 _ => vs9 4 = (.pointer (some ⟨r,0,none⟩)),
  fun vs9 _ => vs9 5 = (.int .i64 n.gs.length),
  fun vs9 y9 => (fun v _ => ∃ z : Nat,v = .int .i64 z /\ (z : Int) < n.gs.length) (vs9 6) y9,
  fun vs9 y9 => (fun v _ => ∃ j : Nat,v = .pointer (some ⟨g9,j * 3,none⟩) /\ j < n.gs.length) (vs9 7) y9,
  fun vs9 y9 => (fun v _ => ∃ y : G,v = .agg #[.bool y.x,.int .i64 y.a,.int .i64 y.b] /\ okGi y) (vs9 8) y9,
  fun vs9 y9 => (fun v yy => ∃ (blk : Nat) (y : G),v = .slice (some ⟨blk,0,none⟩) 1 1 /\ okGi y /\ yy.heap[blk]? = some (.cells #[.bool y.x,.int .i64 y.a,.int .i64 y.b] 78 (0,0)) /\ w3.heap.size <= blk) (vs9 9) y9,
  fun vs9 y9 => (fun v yy => ∃ (y : G) (ps : List G) (A' : Option Addr) (c' : Nat),v = .slice A' ps.length c' /\ Hid (ps = n.gs ++ [y]) /\ okGi y /\ (Value.slice A' ps.length c').ownBlock ≠ some b5 /\ z0x yy (w.heap.size + 1 + 1) (.slice A' ps.length c') ps) (vs9 10) y9,
  fun vs9 _ => vs9 11 = (.pointer (some ⟨b5,1,none⟩)),
  fun _ _ => True]
    [(0,71),(1,72),(2,73),(3,74),(4,75),(5,76),(6,77),(7,78),(8,79),(9,80),(10,81),(11,82)] (by kernel_rfl) (by kernel_rfl) (by kernel_rfl) (by kernel_rfl)
    (fun _ => Gr.refl _ _) ⟨fun _ => Gr.refl _ _,fun _ => Gr.refl _ _,trivial⟩
    ⟨⟨.inr zK,⟨.inr (.inr zK),.inr (.inr zK),trivial⟩⟩,
  ⟨.inr zK,⟨.inr (.inr zK),.inr (.inr zK),trivial⟩⟩,
  ⟨.inr zK,⟨.inr (.inr zK),.inr (.inr zK),trivial⟩⟩,
  ⟨.inr zK,⟨.inr (.inr zK),.inr (.inr zK),trivial⟩⟩,
  ⟨.inr zK,⟨.inr (.inr zK),.inr (.inr zK),trivial⟩⟩,
  ⟨.inr zK,⟨.inr (.inr zK),.inr (.inr zK),trivial⟩⟩,
  ⟨.inr (zS (fun v _ => ∃ z : Nat,v = .int .i64 z /\ (z : Int) < n.gs.length) (fun _ _ _ h _ => h)),⟨.inr (.inr (zS (fun v _ => ∃ z : Nat,v = .int .i64 z /\ (z : Int) < n.gs.length) (fun _ _ _ h _ => h))),.inr (.inr (zS (fun v _ => ∃ z : Nat,v = .int .i64 z /\ (z : Int) < n.gs.length) (fun _ _ _ h _ => h))),trivial⟩⟩,
  ⟨.inr (zS (fun v _ => ∃ j : Nat,v = .pointer (some ⟨g9,j * 3,none⟩) /\ j < n.gs.length) (fun _ _ _ h _ => h)),⟨.inr (.inr (zS (fun v _ => ∃ j : Nat,v = .pointer (some ⟨g9,j * 3,none⟩) /\ j < n.gs.length) (fun _ _ _ h _ => h))),.inr (.inr (zS (fun v _ => ∃ j : Nat,v = .pointer (some ⟨g9,j * 3,none⟩) /\ j < n.gs.length) (fun _ _ _ h _ => h))),trivial⟩⟩,
  ⟨.inr (zS (fun v _ => ∃ y : G,v = .agg #[.bool y.x,.int .i64 y.a,.int .i64 y.b] /\ okGi y) (fun _ _ _ h _ => h)),⟨.inr (.inr (zS (fun v _ => ∃ y : G,v = .agg #[.bool y.x,.int .i64 y.a,.int .i64 y.b] /\ okGi y) (fun _ _ _ h _ => h))),.inr (.inr (zS (fun v _ => ∃ y : G,v = .agg #[.bool y.x,.int .i64 y.a,.int .i64 y.b] /\ okGi y) (fun _ _ _ h _ => h))),trivial⟩⟩,
  ⟨.inr (zS (fun v yy => ∃ (blk : Nat) (y : G),v = .slice (some ⟨blk,0,none⟩) 1 1 /\ okGi y /\ yy.heap[blk]? = some (.cells #[.bool y.x,.int .i64 y.a,.int .i64 y.b] 78 (0,0)) /\ w3.heap.size <= blk) (fun _ _ _ ⟨blk,y,h1,h2,h3,h4⟩ hR => ⟨blk,y,h1,h2,hR.heap (by show ¬ _ = r; omega) h3,h4⟩)),⟨.inr (.inr (zS (fun v yy => ∃ (blk : Nat) (y : G),v = .slice (some ⟨blk,0,none⟩) 1 1 /\ okGi y /\ yy.heap[blk]? = some (.cells #[.bool y.x,.int .i64 y.a,.int .i64 y.b] 78 (0,0)) /\ w3.heap.size <= blk) (fun _ _ _ ⟨blk,y,h1,h2,h3,h4⟩ hR => ⟨blk,y,h1,h2,hR.heap (fun e => by have:=(HOB.out _ e).2; omega) h3,h4⟩))),.inr (.inr (zS (fun v yy => ∃ (blk : Nat) (y : G),v = .slice (some ⟨blk,0,none⟩) 1 1 /\ okGi y /\ yy.heap[blk]? = some (.cells #[.bool y.x,.int .i64 y.a,.int .i64 y.b] 78 (0,0)) /\ w3.heap.size <= blk) (fun _ _ _ ⟨blk,y,h1,h2,h3,h4⟩ hR => ⟨blk,y,h1,h2,hR.heap (by show ¬ _ = b5; omega) h3,h4⟩))),trivial⟩⟩,
  ⟨.inr (zS (fun v yy => ∃ (y : G) (ps : List G) (A' : Option Addr) (c' : Nat),v = .slice A' ps.length c' /\ Hid (ps = n.gs ++ [y]) /\ okGi y /\ (Value.slice A' ps.length c').ownBlock ≠ some b5 /\ z0x yy (w.heap.size + 1 + 1) (.slice A' ps.length c') ps) (fun _ _ _ ⟨y,ps,A',c',h1,h2,h5,h4,h3⟩ hR => ⟨y,ps,A',c',h1,h2,h5,h4,h3.gr hR (fun b hb => by rw [show b = r from hb]; omega)⟩)),⟨.inr (.inl rfl),.inr (.inr (zS (fun v yy => ∃ (y : G) (ps : List G) (A' : Option Addr) (c' : Nat),v = .slice A' ps.length c' /\ Hid (ps = n.gs ++ [y]) /\ okGi y /\ (Value.slice A' ps.length c').ownBlock ≠ some b5 /\ z0x yy (w.heap.size + 1 + 1) (.slice A' ps.length c') ps) (fun _ _ _ ⟨y,ps,A',c',h1,h2,h5,h4,h3⟩ hR => ⟨y,ps,A',c',h1,h2,h5,h4,z1d h3 fun g e => hR.block g (h3.lt g e).2 fun hs => h4 (by rw [e,show g = b5 from hs])⟩))),trivial⟩⟩,
  ⟨.inr zK,⟨.inr (.inr zK),.inr (.inr zK),trivial⟩⟩,
  ⟨.inr zK,⟨.inr (.inr zK),.inr (.inl rfl),trivial⟩⟩,trivial⟩ ⟨fun _ _ _ h _ v => (by simpa only [<- h] using v),
  fun _ _ _ h _ v => (by simpa only [<- h] using v),
  fun _ _ _ h _ v => (by simpa only [<- h] using v),
  fun _ _ _ h _ v => (by simpa only [<- h] using v),
  fun _ _ _ h _ v => (by simpa only [<- h] using v),
  fun _ _ _ h _ v => (by simpa only [<- h] using v),
  fun _ _ _ h _ v => (by simpa only [<- h] using v),
  fun _ _ _ h _ v => (by simpa only [<- h] using v),
  fun _ _ _ h _ v => (by simpa only [<- h] using v),
  fun _ _ _ h _ v => (by simpa only [<- h] using v),
  fun _ _ _ h _ v => (by simpa only [<- h] using v),
  fun _ _ _ h _ v => (by simpa only [<- h] using v),
  fun _ _ _ _ _ _ => trivial,trivial⟩ (⟨ig_start HR3.out (fun s hs => by cases hs),fun _ => HB5.out,fun _ => HOWN.out.up (z02 (Below.refl _ _) 1),fun h9 => absurd h9 (by decide)⟩) ⟨?_,?_,?_,?_,?_,?_,?_,?_,?_,?_,?_,?_,?_,trivial⟩ ?_
   ·
    intro vals xw cnt9 hn hl hI hF; have hl2 : cnt9 + 1 + 1 <= 13:=z14 hl.2 _ (by kernel_rfl); clear hl; dsimp only [owes,bare]; simp only [z01,Act.put,zQ]
    go_wp2
    exact ⟨rfl,rfl,⟨zN rfl,fun _ => ⟨zN rfl,fun _ => Gr.refl _ _⟩⟩,z0n hI (by omega) (by omega)⟩
   ·
    intro vals xw cnt9 hn hl hI hF; have hl2 : cnt9 + 1 + 2 <= 13:=z14 hl.2 _ (by kernel_rfl); clear hl; simp only [z05,zF,zR,and_true] at hF; dsimp only [owes,bare]; simp only [z01,Act.put,zQ]; simp only [hF]; have hk9:=hI.2.1 (by omega); have k9_0 : xw.cell? ⟨b5,0,none⟩ = some (.int .i64 n.ins):=(z00 hk9 0).1; have k9_1 : xw.cell? ⟨b5,1,none⟩ = some (.slice (some ⟨g9,0,none⟩) n.gs.length c1):=(z00 hk9 1).1; clear hk9
    go_wp2
    exact ⟨rfl,rfl,⟨zN rfl,fun _ => ⟨zN rfl,fun _ => Gr.refl _ _⟩⟩,z0n hI (by omega) (by omega)⟩
   ·
    intro vals xw cnt9 hn hl hI hF; have hl2 : cnt9 + 1 + 1 <= 13:=z14 hl.2 _ (by kernel_rfl); clear hl; dsimp only [owes,bare]; simp only [z01,Act.put,zQ]
    go_wp2
    exact ⟨rfl,rfl,⟨zN rfl,fun _ => ⟨zN rfl,fun _ => Gr.refl _ _⟩⟩,z0n hI (by omega) (by omega)⟩
   ·
    intro vals xw cnt9 hn hl hI hF; have hl2 : cnt9 + 1 + 2 <= 13:=z14 hl.2 _ (by kernel_rfl); clear hl; simp only [z05,zF,zR,and_true] at hF; dsimp only [owes,bare]; simp only [z01,Act.put,zQ]; simp only [hF]; have hk9:=hI.2.1 (by omega); have k9_0 : xw.cell? ⟨b5,0,none⟩ = some (.int .i64 n.ins):=(z00 hk9 0).1; have k9_1 : xw.cell? ⟨b5,1,none⟩ = some (.slice (some ⟨g9,0,none⟩) n.gs.length c1):=(z00 hk9 1).1; clear hk9
    go_wp2
    exact ⟨rfl,rfl,⟨zN rfl,fun _ => ⟨zN rfl,fun _ => Gr.refl _ _⟩⟩,z0n hI (by omega) (by omega)⟩
   iterate 2
    ·
     intro vals xw cnt9 hn hl hI hF; have hl2 : cnt9 + 1 + 1 <= 13:=z14 hl.2 _ (by kernel_rfl); clear hl; dsimp only [owes,bare]; simp only [z01,Act.put,zQ]
     go_wp2
     exact ⟨rfl,rfl,⟨zN rfl,fun _ => ⟨zN rfl,fun _ => Gr.refl _ _⟩⟩,z0n hI (by omega) (by omega)⟩
   ·
    intro vals xw cnt9 hn hl hI hF; have hl2 : cnt9 + 1 + 1 <= 13:=z14 hl.2 _ (by kernel_rfl); clear hl; simp only [z05,zF,zR,and_true] at hF; obtain ⟨e75,e76⟩:=hF; dsimp only [owes,bare]; simp only [z01,Act.put,zQ]; simp only [e75,e76]; have HI:=zH hI; obtain ⟨⟨_,⟨q',hq,q'0,q'1⟩,_⟩,_⟩:=hI
    go_wp2_with fail
    refine (z17 r q' (n.gs.length) xw hq (by omega) (by omega) (by omega) (by omega)).mono ?_; rintro e wx ⟨z,rfl,z0,z1,_,hRx,hgx⟩; have z1:=z1 (by omega); obtain ⟨z,rfl⟩:=Int.eq_ofNat_of_zero_le z0; have HD:=zH (ib_draw HI.out (by omega) (by omega) (⟨q' + 1,by omega,by omega,hRx,Gr.one (S:=fun b => b = r) hgx rfl⟩ : Drawn r q' 2 xw wx) q'0 q'1 (by omega) ((HT.out r).2 (.inl rfl)) (by omega) (by omega)); clear hRx hgx hq
    go_wp2
    exact ⟨rfl,⟨z,rfl,z1⟩,⟨zN rfl,fun _ => ⟨zN rfl,fun _ => HD.out.2⟩⟩,HD.out.1⟩
   ·
    intro vals xw cnt9 hn hl hI hF; have hl2 : cnt9 + 1 + 1 <= 13:=z14 hl.2 _ (by kernel_rfl); clear hl; simp only [z05,zF,zR,and_true] at hF; obtain ⟨e1,z,e2,hz⟩:=hF; dsimp only [owes,bare]; simp only [z01,Act.put,zQ]; simp only [e1,e2]; have hzn : z < n.gs.length:=by omega
    have HI:=zH hI; clear hI
    go_wp2
    exact ⟨rfl,⟨z,rfl,hzn⟩,⟨zN rfl,fun _ => ⟨zN rfl,fun _ => Gr.refl _ _⟩⟩,z0n HI.out (by omega) (by omega)⟩
   ·
    intro vals xw cnt9 hn hl hI hF; have hl2 : cnt9 + 1 + 4 <= 13:=z14 hl.2 _ (by kernel_rfl); clear hl; simp only [z05,zF,zR,and_true] at hF; obtain ⟨z,e1,hz⟩:=hF; dsimp only [owes,bare]; simp only [z01,Act.put,zQ]; simp only [e1]; have hown:=hI.2.2.1 (by omega); have v0 : xw.cell? ⟨g9,z * 3,none⟩ = some (.bool n.gs[z].x):=(hown.cell hz (f:=0) (by decide)).1; have v1 : xw.cell? ⟨g9,z * 3 + 1,none⟩ = some (.int .i64 n.gs[z].a):=(hown.cell hz (f:=1) (by decide)).1; have v2 : xw.cell? ⟨g9,z * 3 + 2,none⟩ = some (.int .i64 n.gs[z].b):=(hown.cell hz (f:=2) (by decide)).1; have HOZ:=zH (HSM.out.2.2.2 n.gs[z] (List.getElem_mem hz)); clear hown
    go_wp2
    exact ⟨rfl,⟨n.gs[z],rfl,HOZ.out⟩,⟨zN rfl,fun _ => ⟨zN rfl,fun _ => Gr.refl _ _⟩⟩,z0n hI (by omega) (by omega)⟩
   ·
    intro vals xw cnt9 hn hl hI hF; have hl2 : cnt9 + 1 + 1 <= 13:=z14 hl.2 _ (by kernel_rfl); clear hl; simp only [z05,zF,zR,and_true] at hF; obtain ⟨y,e1,hoy⟩:=hF; dsimp only [owes,bare]; simp only [z01,Act.put,zQ]; simp only [e1]; have hs9:=hI.1.1.size; have hal : Below xw.heap.size xw (xw.alloc (.cells #[.bool y.x,.int .i64 y.a,.int .i64 y.b] 78)):=(Below.refl _ _).alloc (Nat.le_refl _) _; have hn9:=heap_alloc_new xw (.cells #[.bool y.x,.int .i64 y.a,.int .i64 y.b] 78); have HH:=zH (And.intro hoy (And.intro hn9 (ib_low hI (by omega) (by omega) hal))); have HAL:=zH hal; clear hal hI hn9 hoy
    go_wp2
    exact ⟨rfl,⟨xw.heap.size,y,rfl,HH.out.1,HH.out.2.1,hs9⟩,⟨zN rfl,fun _ => ⟨zN rfl,fun _ => .below HAL.out⟩⟩,HH.out.2.2⟩
   ·
    intro vals xw cnt9 hn hl hI hF; have hl1 : 10 <= cnt9:=low_ge hl.1 _ (by kernel_rfl); have hl2 : cnt9 + 1 + 2 <= 13:=z14 hl.2 _ (by kernel_rfl); clear hl; simp only [z05,zF,zR,and_true] at hF; obtain ⟨e1,blk,y,e2,hoy,hbl,hlo9⟩:=hF; dsimp only [owes,bare]; simp only [z01,Act.put,zQ]; simp only [e1,e2]; have hown:=hI.2.2.1 (by omega); have hs9:=hI.1.1.size; obtain ⟨ps,hps⟩ : ∃ ps,ps = n.gs ++ [y]:=⟨_,rfl⟩; have HPS:=zH hps; clear hps; refine z1u (ys:=ps) (g:=y) (by rfl) (.tmp 72) (.tmp 80) (by rfl) (by rfl) (by rfl) hown hbl (by omega) (by omega) HPS.out ?_; intro A8 c8 w8 hown8 hg8; have hgU : Gr (fun b => (Value.slice (some ⟨g9,0,none⟩) n.gs.length c1).ownBlock = some b) xw w8:=⟨hg8.os,hg8.tape,hg8.output,hg8.size,fun i hi hni => hg8.block i hi (fun e => hni e.symm)⟩; have hne8:=row_ne hown8 b5 _ (hgU.heap HOB5.out (hI.2.1 (by omega))) (fun cs fr e => by injection e with _ e2 _; revert e2; decide); exact ⟨rfl,⟨y,ps,A8,c8,rfl,HPS,hoy,fun e => hne8 e.symm,hown8⟩,⟨fun _ => hgU,fun h9 => absurd rfl h9⟩,ib_grow hI (by omega) (by omega) hgU (fun b hb => ⟨(HT.out b).2 (.inr (.inr hb)),by have:=(HOB.out b hb).1; omega⟩) HOB5.out (by omega)⟩
   ·
    intro vals xw cnt9 hn hl hI hF; have hl2 : cnt9 + 1 + 1 <= 13:=z14 hl.2 _ (by kernel_rfl); clear hl; dsimp only [owes,bare]; simp only [z01,Act.put,zQ]
    go_wp2
    exact ⟨rfl,rfl,⟨zN rfl,fun _ => ⟨zN rfl,fun _ => Gr.refl _ _⟩⟩,z0n hI (by omega) (by omega)⟩
   ·
    intro vals xw cnt9 hn hl hI hF; have hl1 : 12 <= cnt9:=low_ge hl.1 _ (by kernel_rfl); have hl2 : cnt9 + 1 + 0 <= 13:=z14 hl.2 _ (by kernel_rfl); clear hl; simp only [z05,zF,zR,and_true] at hF; obtain ⟨e1,y,ps,A',c',e2,HPS,hoy,hne,ho8⟩:=hF; dsimp only [owes,bare]; simp only [z01,Act.put,zQ]; simp only [e1,e2]; have hk:=hI.2.1 (by omega); have v1 : xw.cell? ⟨b5,1,none⟩ = some (.slice (some ⟨g9,0,none⟩) n.gs.length c1):=(z00 hk 1).1; have f1 : xw.frozen? ⟨b5,1,none⟩ = false:=(z00 hk 1).2; have hh:=z04 xw b5 1 (.slice A' ps.length c') _ _ hk; have hset : Gr (fun b => b = b5) xw (xw.setCell ⟨b5,1,none⟩ (.slice A' ps.length c')):=(Gr.refl _ _).set _ _ _ (.inl rfl); have ho9 : z0x (xw.setCell ⟨b5,1,none⟩ (.slice A' ps.length c')) (w.heap.size + 1 + 1) (.slice A' ps.length c') ps:=z1d ho8 fun g e => hset.block g (ho8.lt g e).2 fun hs => hne (by rw [e,show g = b5 from hs])
    have HL:=zH (ib_last hI (by omega) hset (fun b hb => ⟨(HT.out b).2 (.inr (.inl hb)),by rw [show b = b5 from hb]; omega⟩) (.inl (by omega)) (by omega) ⟨⟨n.ins,ps⟩,A',c',hh,⟨by show -1 <= n.ins; omega,by show n.ins <= 9; omega,by have:=HSM.out.2.2.1; show ps.length <= _; rw [HPS.out]; simp; omega,by rw [HPS.out]; exact okInts_snoc HSM.out.2.2.2 hoy _⟩,ho9.ab HSL.out.1⟩); have HSET:=zH hset; clear hI hk hh hset hne ho9 ho8 hl1
    go_wp2
    exact ⟨rfl,trivial,⟨zN rfl,fun _ => ⟨fun _ => HSET.out,fun h9 => absurd rfl h9⟩⟩,HL.out⟩
   ·
    intro vals xw cnt9 hn hI hF; rw [show List.range _ = [0,1,2,3,4,5,6,7,8,9,10,11,12] from rfl] at hF; simp only [says,zF,zR,and_true] at hF; obtain ⟨⟨hgx,⟨q',hq',q'0,q'1⟩,_⟩,_,_,hnet⟩:=hI; clear hF; simp only [z01,Act.put,zQ]; have hn9 : 13 <= cnt9:=Nat.le_of_eq hn.symm; have hcnt : (cnt9 : Int) <= 13:=by have : cnt9 = 13:=hn; omega
    obtain ⟨n9,A9,c9,hk9,hp9,hl9⟩:=hnet hn9; have hb1x:=hgx.heap (fun e => by rcases (HT.out _).1 e with h9 | h9 | h9 <;> first | omega | (have:=(HOB.out _ h9).1; omega)) HB1.out; have hgw:=HG3.out.then hgx (fun b hb => by rcases (HT.out _).1 hb with h9 | h9 | h9 <;> first | exact .inl h9 | (right; omega) | (right; have:=(HOB.out _ h9).1; omega)); have u0 : xw.cell? ⟨w.heap.size + 1,0,none⟩ = some (.int .i64 0):=(z00 hb1x 0).1; have u1 : xw.cell? ⟨w.heap.size + 1,1,none⟩ = some (.slice none 0 0):=(z00 hb1x 1).1; have g0 : xw.frozen? ⟨w.heap.size + 1,0,none⟩ = false:=(z00 hb1x 0).2; have g1 : xw.frozen? ⟨w.heap.size + 1,1,none⟩ = false:=(z00 hb1x 1).2; have v0 : xw.cell? ⟨b5,0,none⟩ = some (.int .i64 n9.ins):=(z00 hk9 0).1; have v1 : xw.cell? ⟨b5,1,none⟩ = some (.slice A9 n9.gs.length c9):=(z00 hk9 1).1; have hset : Gr S xw ((xw.setCell ⟨w.heap.size + 1,0,none⟩ (.int .i64 n9.ins)).setCell ⟨w.heap.size + 1,1,none⟩ (.slice A9 n9.gs.length c9)):=((Gr.refl _ _).set _ _ _ (.inl ((HS.out _).2 (.inr rfl)))).set _ _ _ (.inl ((HS.out _).2 (.inr rfl))); have HL:=zH ((hl9.gr hset).ab_mono (T:=S0) fun b _ hb => HSL.out.2.1 b hb); have HRR:=zH ((hq'.set (g:=w.heap.size + 1) (o:=0) (u:=.int .i64 n9.ins) (by omega)).set (g:=w.heap.size + 1) (o:=1) (u:=.slice A9 n9.gs.length c9) (by omega)); have HGG:=zH ((hgw.set (w.heap.size + 1) 0 (.int .i64 n9.ins) (.inr (by omega))).set (w.heap.size + 1) 1 (.slice A9 n9.gs.length c9) (.inr (by omega))); have HP:=zH hp9; clear hset hk9 hl9 hp9 hb1x hgw hq' hgx hnet
    go_wp2
    refine bodyPost_ret (v:=.agg #[.int .i64 n9.ins,.slice A9 n9.gs.length c9]) (by simp [results,Tryz.results24,go_sem,u0,u1,g0,g1,v0,v1]) rfl ⟨n9,A9,c9,rfl,HL.out,HP.out,_,?_,?_,HRR.out,HGG.out⟩ <;> omega
  ·
   have hposi : ¬ (0 : Int) < n.gs.length:=by omega
   obtain ⟨n9,A9,c9,hk9,hp9,hl9⟩ : NetIn (bentN (n0 + 1)) S b5 w3:=⟨n,A1,c1,HB5.out,HSM.out.bent (by omega),HOWN.out.ab HSL.out.1⟩; have u0 : w3.cell? ⟨w.heap.size + 1,0,none⟩ = some (.int .i64 0):=(z00 HB1.out 0).1; have u1 : w3.cell? ⟨w.heap.size + 1,1,none⟩ = some (.slice none 0 0):=(z00 HB1.out 1).1; have g0 : w3.frozen? ⟨w.heap.size + 1,0,none⟩ = false:=(z00 HB1.out 0).2; have g1 : w3.frozen? ⟨w.heap.size + 1,1,none⟩ = false:=(z00 HB1.out 1).2; have v0 : w3.cell? ⟨b5,0,none⟩ = some (.int .i64 n9.ins):=(z00 hk9 0).1; have v1 : w3.cell? ⟨b5,1,none⟩ = some (.slice A9 n9.gs.length c9):=(z00 hk9 1).1; have hset : Gr S w3 ((w3.setCell ⟨w.heap.size + 1,0,none⟩ (.int .i64 n9.ins)).setCell ⟨w.heap.size + 1,1,none⟩ (.slice A9 n9.gs.length c9)):=((Gr.refl _ _).set _ _ _ (.inl ((HS.out _).2 (.inr rfl)))).set _ _ _ (.inl ((HS.out _).2 (.inr rfl))); have HL:=zH ((hl9.gr hset).ab_mono (T:=S0) fun b _ hb => HSL.out.2.1 b hb); have HRR:=zH ((HR3.out.set (g:=w.heap.size + 1) (o:=0) (u:=.int .i64 n9.ins) (by omega)).set (g:=w.heap.size + 1) (o:=1) (u:=.slice A9 n9.gs.length c9) (by omega)); have HGG:=zH ((HG3.out.set (w.heap.size + 1) 0 (.int .i64 n9.ins) (.inr (by omega))).set (w.heap.size + 1) 1 (.slice A9 n9.gs.length c9) (.inr (by omega))); have HP:=zH hp9; clear hset hk9 hl9 hp9
   go_wp2
   refine bodyPost_ret (v:=.agg #[.int .i64 n9.ins,.slice A9 n9.gs.length c9]) (by simp [results,Tryz.results24,go_sem,u0,u1,g0,g1,v0,v1]) rfl ⟨n9,A9,c9,rfl,HL.out,HP.out,_,?_,?_,HRR.out,HGG.out⟩ <;> omega
 have hkb4 : (k == 4) = false:=by simpa using hk4
 by_cases hk5 : k = 5
 ·
  subst hk5
  by_cases hpos : 0 < n.gs.length
  ·
   have hposi : (0 : Int) < n.gs.length:=by omega
   obtain ⟨g9,hg9⟩:=HOWN.out.first hpos
   subst hg9
   go_wp2
   refine z26 [[],[(0,87)],[],[],[(2,89),(3,90)],[(1,88),(4,91)],[(5,92)],[(6,93)]]
    (Gr (IsR r))
    [(7,Gr (fun b => (Value.slice (some ⟨g9,0,none⟩) n.gs.length c1).ownBlock = some b))]
    (IB (w.heap.size + 1 + 1) (.slice (some ⟨g9,0,none⟩) n.gs.length c1) n.gs S T (n0 + 1) r (p + 1) 2 w3 b5 (.cells #[.int .i64 n.ins,.slice (some ⟨g9,0,none⟩) n.gs.length c1] 29 (0,0)) 9 8 8)
    [fun vs9 _ => vs9 0 = (.pointer (some ⟨b5,1,none⟩)),
  fun vs9 _ => vs9 1 = (.slice (some ⟨g9,0,none⟩) n.gs.length c1),
  fun vs9 _ => vs9 2 = (.pointer (some ⟨r,0,none⟩)),
  fun vs9 _ => vs9 3 = (.int .i64 n.gs.length),
  fun vs9 y9 => (fun v _ => ∃ z : Nat,v = .int .i64 z /\ (z : Int) < n.gs.length) (vs9 4) y9,
  fun vs9 y9 => (fun v _ => ∃ j : Nat,v = .pointer (some ⟨g9,j * 3,none⟩) /\ j < n.gs.length) (vs9 5) y9,
  fun vs9 y9 => (fun v _ => ∃ j : Nat,v = .pointer (some ⟨g9,j * 3 + 0,none⟩) /\ j < n.gs.length) (vs9 6) y9,
  fun _ _ => True]
    [(0,87),(1,88),(2,89),(3,90),(4,91),(5,92),(6,93)] (by kernel_rfl) (by kernel_rfl) (by kernel_rfl) (by kernel_rfl)
    (fun _ => Gr.refl _ _) ⟨fun _ => Gr.refl _ _,trivial⟩
    ⟨zT,
  zT,
  zT,
  zT,
  ⟨.inr (zS (fun v _ => ∃ z : Nat,v = .int .i64 z /\ (z : Int) < n.gs.length) (fun _ _ _ h _ => h)),⟨.inr (.inr (zS (fun v _ => ∃ z : Nat,v = .int .i64 z /\ (z : Int) < n.gs.length) (fun _ _ _ h _ => h))),trivial⟩⟩,
  ⟨.inr (zS (fun v _ => ∃ j : Nat,v = .pointer (some ⟨g9,j * 3,none⟩) /\ j < n.gs.length) (fun _ _ _ h _ => h)),⟨.inr (.inr (zS (fun v _ => ∃ j : Nat,v = .pointer (some ⟨g9,j * 3,none⟩) /\ j < n.gs.length) (fun _ _ _ h _ => h))),trivial⟩⟩,
  ⟨.inr (zS (fun v _ => ∃ j : Nat,v = .pointer (some ⟨g9,j * 3 + 0,none⟩) /\ j < n.gs.length) (fun _ _ _ h _ => h)),⟨.inr (.inr (zS (fun v _ => ∃ j : Nat,v = .pointer (some ⟨g9,j * 3 + 0,none⟩) /\ j < n.gs.length) (fun _ _ _ h _ => h))),trivial⟩⟩,
  ⟨.inr zK,⟨.inr (.inl rfl),trivial⟩⟩,trivial⟩ ⟨fun _ _ _ h _ v => (by simpa only [<- h] using v),
  fun _ _ _ h _ v => (by simpa only [<- h] using v),
  fun _ _ _ h _ v => (by simpa only [<- h] using v),
  fun _ _ _ h _ v => (by simpa only [<- h] using v),
  fun _ _ _ h _ v => (by simpa only [<- h] using v),
  fun _ _ _ h _ v => (by simpa only [<- h] using v),
  fun _ _ _ h _ v => (by simpa only [<- h] using v),
  fun _ _ _ _ _ _ => trivial,trivial⟩ (⟨ig_start HR3.out (fun s hs => by cases hs),fun _ => HB5.out,fun _ => HOWN.out.up (z02 (Below.refl _ _) 1),fun h9 => absurd h9 (by decide)⟩) ⟨?_,?_,?_,?_,?_,?_,?_,?_,trivial⟩ ?_
   ·
    intro vals xw cnt9 hn hl hI hF; have hl2 : cnt9 + 1 + 1 <= 8:=z14 hl.2 _ (by kernel_rfl); clear hl; dsimp only [owes,bare]; simp only [z01,Act.put,zQ]
    go_wp2
    exact ⟨rfl,rfl,⟨zN rfl,fun _ => Gr.refl _ _⟩,z0n hI (by omega) (by omega)⟩
   ·
    intro vals xw cnt9 hn hl hI hF; have hl2 : cnt9 + 1 + 2 <= 8:=z14 hl.2 _ (by kernel_rfl); clear hl; simp only [z05,zF,zR,and_true] at hF; dsimp only [owes,bare]; simp only [z01,Act.put,zQ]; simp only [hF]; have hk9:=hI.2.1 (by omega); have k9_0 : xw.cell? ⟨b5,0,none⟩ = some (.int .i64 n.ins):=(z00 hk9 0).1; have k9_1 : xw.cell? ⟨b5,1,none⟩ = some (.slice (some ⟨g9,0,none⟩) n.gs.length c1):=(z00 hk9 1).1; clear hk9
    go_wp2
    exact ⟨rfl,rfl,⟨zN rfl,fun _ => Gr.refl _ _⟩,z0n hI (by omega) (by omega)⟩
   iterate 2
    ·
     intro vals xw cnt9 hn hl hI hF; have hl2 : cnt9 + 1 + 1 <= 8:=z14 hl.2 _ (by kernel_rfl); clear hl; dsimp only [owes,bare]; simp only [z01,Act.put,zQ]
     go_wp2
     exact ⟨rfl,rfl,⟨zN rfl,fun _ => Gr.refl _ _⟩,z0n hI (by omega) (by omega)⟩
   ·
    intro vals xw cnt9 hn hl hI hF; have hl2 : cnt9 + 1 + 1 <= 8:=z14 hl.2 _ (by kernel_rfl); clear hl; simp only [z05,zF,zR,and_true] at hF; obtain ⟨e89,e90⟩:=hF; dsimp only [owes,bare]; simp only [z01,Act.put,zQ]; simp only [e89,e90]; have HI:=zH hI; obtain ⟨⟨_,⟨q',hq,q'0,q'1⟩,_⟩,_⟩:=hI
    go_wp2_with fail
    refine (z17 r q' (n.gs.length) xw hq (by omega) (by omega) (by omega) (by omega)).mono ?_; rintro e wx ⟨z,rfl,z0,z1,_,hRx,hgx⟩; have z1:=z1 (by omega); obtain ⟨z,rfl⟩:=Int.eq_ofNat_of_zero_le z0; have HD:=zH (ib_draw HI.out (by omega) (by omega) (⟨q' + 1,by omega,by omega,hRx,Gr.one (S:=fun b => b = r) hgx rfl⟩ : Drawn r q' 2 xw wx) q'0 q'1 (by omega) ((HT.out r).2 (.inl rfl)) (by omega) (by omega)); clear hRx hgx hq
    go_wp2
    exact ⟨rfl,⟨z,rfl,z1⟩,⟨zN rfl,fun _ => HD.out.2⟩,HD.out.1⟩
   ·
    intro vals xw cnt9 hn hl hI hF; have hl2 : cnt9 + 1 + 1 <= 8:=z14 hl.2 _ (by kernel_rfl); clear hl; simp only [z05,zF,zR,and_true] at hF; obtain ⟨e1,z,e2,hz⟩:=hF; dsimp only [owes,bare]; simp only [z01,Act.put,zQ]; simp only [e1,e2]; have hzn : z < n.gs.length:=by omega
    have HI:=zH hI; clear hI
    go_wp2
    exact ⟨rfl,⟨z,rfl,hzn⟩,⟨zN rfl,fun _ => Gr.refl _ _⟩,z0n HI.out (by omega) (by omega)⟩
   ·
    intro vals xw cnt9 hn hl hI hF; have hl2 : cnt9 + 1 + 1 <= 8:=z14 hl.2 _ (by kernel_rfl); clear hl; simp only [z05,zF,zR,and_true] at hF; obtain ⟨z,e1,hz⟩:=hF; dsimp only [owes,bare]; simp only [z01,Act.put,zQ]; simp only [e1]
    go_wp2
    exact ⟨rfl,⟨z,rfl,hz⟩,⟨zN rfl,fun _ => Gr.refl _ _⟩,z0n hI (by omega) (by omega)⟩
   ·
    intro vals xw cnt9 hn hl hI hF; have hl1 : 7 <= cnt9:=low_ge hl.1 _ (by kernel_rfl); have hl2 : cnt9 + 1 + 0 <= 8:=z14 hl.2 _ (by kernel_rfl); clear hl; simp only [z05,zF,zR,and_true] at hF; obtain ⟨z,e1,hz⟩:=hF; dsimp only [owes,bare]; simp only [z01,Act.put,zQ]; simp only [e1]; have hown:=hI.2.2.1 (by omega); have hk:=hI.2.1 (by omega); have hc:=hown.cell hz (f:=0) (by decide); have v1 : xw.cell? ⟨g9,z * 3,none⟩ = some (.bool n.gs[z].x):=hc.1; have f1 : xw.frozen? ⟨g9,z * 3,none⟩ = false:=hc.2; have hoz:=HSM.out.2.2.2 n.gs[z] (List.getElem_mem hz); have hput:=hown.put (f:=0) hz (.bool true) ⟨true,n.gs[z].a,n.gs[z].b⟩ rfl (by decide); have hset : Gr (fun b => (Value.slice (some ⟨g9,0,none⟩) n.gs.length c1).ownBlock = some b) xw (xw.setCell ⟨g9,z * 3,none⟩ (.bool true)):=(Gr.refl _ _).set _ _ _ (.inl rfl); have hk9:=hset.heap HOB5.out hk; have HL:=zH (ib_last hI (by omega) hset (fun b hb => ⟨(HT.out b).2 (.inr (.inr hb)),by have:=(HOB.out b hb).1; omega⟩) (.inr HOB5.out) (by omega) ⟨⟨n.ins,n.gs.set z ⟨true,n.gs[z].a,n.gs[z].b⟩⟩,some ⟨g9,0,none⟩,c1,by rw [List.length_set]; exact hk9,⟨by show -1 <= n.ins; omega,by show n.ins <= 9; omega,by have:=HSM.out.2.2.1; show (n.gs.set z _).length <= _; rw [List.length_set]; omega,okInts_set HSM.out.2.2.2 z (by exact hoz) _⟩,hput.ab HSL.out.1⟩); have HSET:=zH hset; clear hI hk hk9 hset hput hown hc hl1 hoz
    go_wp2
    exact ⟨rfl,trivial,⟨fun _ => HSET.out,fun h9 => absurd rfl h9⟩,HL.out⟩
   ·
    intro vals xw cnt9 hn hI hF; rw [show List.range _ = [0,1,2,3,4,5,6,7] from rfl] at hF; simp only [says,zF,zR,and_true] at hF; obtain ⟨⟨hgx,⟨q',hq',q'0,q'1⟩,_⟩,_,_,hnet⟩:=hI; clear hF; simp only [z01,Act.put,zQ]; have hn9 : 8 <= cnt9:=Nat.le_of_eq hn.symm; have hcnt : (cnt9 : Int) <= 8:=by have : cnt9 = 8:=hn; omega
    obtain ⟨n9,A9,c9,hk9,hp9,hl9⟩:=hnet hn9; have hb1x:=hgx.heap (fun e => by rcases (HT.out _).1 e with h9 | h9 | h9 <;> first | omega | (have:=(HOB.out _ h9).1; omega)) HB1.out; have hgw:=HG3.out.then hgx (fun b hb => by rcases (HT.out _).1 hb with h9 | h9 | h9 <;> first | exact .inl h9 | (right; omega) | (right; have:=(HOB.out _ h9).1; omega)); have u0 : xw.cell? ⟨w.heap.size + 1,0,none⟩ = some (.int .i64 0):=(z00 hb1x 0).1; have u1 : xw.cell? ⟨w.heap.size + 1,1,none⟩ = some (.slice none 0 0):=(z00 hb1x 1).1; have g0 : xw.frozen? ⟨w.heap.size + 1,0,none⟩ = false:=(z00 hb1x 0).2; have g1 : xw.frozen? ⟨w.heap.size + 1,1,none⟩ = false:=(z00 hb1x 1).2; have v0 : xw.cell? ⟨b5,0,none⟩ = some (.int .i64 n9.ins):=(z00 hk9 0).1; have v1 : xw.cell? ⟨b5,1,none⟩ = some (.slice A9 n9.gs.length c9):=(z00 hk9 1).1; have hset : Gr S xw ((xw.setCell ⟨w.heap.size + 1,0,none⟩ (.int .i64 n9.ins)).setCell ⟨w.heap.size + 1,1,none⟩ (.slice A9 n9.gs.length c9)):=((Gr.refl _ _).set _ _ _ (.inl ((HS.out _).2 (.inr rfl)))).set _ _ _ (.inl ((HS.out _).2 (.inr rfl))); have HL:=zH ((hl9.gr hset).ab_mono (T:=S0) fun b _ hb => HSL.out.2.1 b hb); have HRR:=zH ((hq'.set (g:=w.heap.size + 1) (o:=0) (u:=.int .i64 n9.ins) (by omega)).set (g:=w.heap.size + 1) (o:=1) (u:=.slice A9 n9.gs.length c9) (by omega)); have HGG:=zH ((hgw.set (w.heap.size + 1) 0 (.int .i64 n9.ins) (.inr (by omega))).set (w.heap.size + 1) 1 (.slice A9 n9.gs.length c9) (.inr (by omega))); have HP:=zH hp9; clear hset hk9 hl9 hp9 hb1x hgw hq' hgx hnet
    go_wp2
    refine bodyPost_ret (v:=.agg #[.int .i64 n9.ins,.slice A9 n9.gs.length c9]) (by simp [results,Tryz.results24,go_sem,u0,u1,g0,g1,v0,v1]) rfl ⟨n9,A9,c9,rfl,HL.out,HP.out,_,?_,?_,HRR.out,HGG.out⟩ <;> omega
  ·
   have hposi : ¬ (0 : Int) < n.gs.length:=by omega
   obtain ⟨n9,A9,c9,hk9,hp9,hl9⟩ : NetIn (bentN (n0 + 1)) S b5 w3:=⟨n,A1,c1,HB5.out,HSM.out.bent (by omega),HOWN.out.ab HSL.out.1⟩; have u0 : w3.cell? ⟨w.heap.size + 1,0,none⟩ = some (.int .i64 0):=(z00 HB1.out 0).1; have u1 : w3.cell? ⟨w.heap.size + 1,1,none⟩ = some (.slice none 0 0):=(z00 HB1.out 1).1; have g0 : w3.frozen? ⟨w.heap.size + 1,0,none⟩ = false:=(z00 HB1.out 0).2; have g1 : w3.frozen? ⟨w.heap.size + 1,1,none⟩ = false:=(z00 HB1.out 1).2; have v0 : w3.cell? ⟨b5,0,none⟩ = some (.int .i64 n9.ins):=(z00 hk9 0).1; have v1 : w3.cell? ⟨b5,1,none⟩ = some (.slice A9 n9.gs.length c9):=(z00 hk9 1).1; have hset : Gr S w3 ((w3.setCell ⟨w.heap.size + 1,0,none⟩ (.int .i64 n9.ins)).setCell ⟨w.heap.size + 1,1,none⟩ (.slice A9 n9.gs.length c9)):=((Gr.refl _ _).set _ _ _ (.inl ((HS.out _).2 (.inr rfl)))).set _ _ _ (.inl ((HS.out _).2 (.inr rfl))); have HL:=zH ((hl9.gr hset).ab_mono (T:=S0) fun b _ hb => HSL.out.2.1 b hb); have HRR:=zH ((HR3.out.set (g:=w.heap.size + 1) (o:=0) (u:=.int .i64 n9.ins) (by omega)).set (g:=w.heap.size + 1) (o:=1) (u:=.slice A9 n9.gs.length c9) (by omega)); have HGG:=zH ((HG3.out.set (w.heap.size + 1) 0 (.int .i64 n9.ins) (.inr (by omega))).set (w.heap.size + 1) 1 (.slice A9 n9.gs.length c9) (.inr (by omega))); have HP:=zH hp9; clear hset hk9 hl9 hp9
   go_wp2
   refine bodyPost_ret (v:=.agg #[.int .i64 n9.ins,.slice A9 n9.gs.length c9]) (by simp [results,Tryz.results24,go_sem,u0,u1,g0,g1,v0,v1]) rfl ⟨n9,A9,c9,rfl,HL.out,HP.out,_,?_,?_,HRR.out,HGG.out⟩ <;> omega
 have hkb5 : (k == 5) = false:=by simpa using hk5
 clear hk0 hk1 hk2 hk3 hk4 hk5; obtain ⟨n9,A9,c9,hk9,hp9,hl9⟩ : NetIn (bentN (n0 + 1)) S b5 w3:=⟨n,A1,c1,HB5.out,HSM.out.bent (by omega),HOWN.out.ab HSL.out.1⟩; have u0 : w3.cell? ⟨w.heap.size + 1,0,none⟩ = some (.int .i64 0):=(z00 HB1.out 0).1; have u1 : w3.cell? ⟨w.heap.size + 1,1,none⟩ = some (.slice none 0 0):=(z00 HB1.out 1).1; have g0 : w3.frozen? ⟨w.heap.size + 1,0,none⟩ = false:=(z00 HB1.out 0).2; have g1 : w3.frozen? ⟨w.heap.size + 1,1,none⟩ = false:=(z00 HB1.out 1).2; have v0 : w3.cell? ⟨b5,0,none⟩ = some (.int .i64 n9.ins):=(z00 hk9 0).1; have v1 : w3.cell? ⟨b5,1,none⟩ = some (.slice A9 n9.gs.length c9):=(z00 hk9 1).1; have hset : Gr S w3 ((w3.setCell ⟨w.heap.size + 1,0,none⟩ (.int .i64 n9.ins)).setCell ⟨w.heap.size + 1,1,none⟩ (.slice A9 n9.gs.length c9)):=((Gr.refl _ _).set _ _ _ (.inl ((HS.out _).2 (.inr rfl)))).set _ _ _ (.inl ((HS.out _).2 (.inr rfl))); have HL:=zH ((hl9.gr hset).ab_mono (T:=S0) fun b _ hb => HSL.out.2.1 b hb); have HRR:=zH ((HR3.out.set (g:=w.heap.size + 1) (o:=0) (u:=.int .i64 n9.ins) (by omega)).set (g:=w.heap.size + 1) (o:=1) (u:=.slice A9 n9.gs.length c9) (by omega)); have HGG:=zH ((HG3.out.set (w.heap.size + 1) 0 (.int .i64 n9.ins) (.inr (by omega))).set (w.heap.size + 1) 1 (.slice A9 n9.gs.length c9) (.inr (by omega))); have HP:=zH hp9; clear hset hk9 hl9 hp9
 go_wp2
 refine bodyPost_ret (v:=.agg #[.int .i64 n9.ins,.slice A9 n9.gs.length c9]) (by simp [results,Tryz.results24,go_sem,u0,u1,g0,g1,v0,v1]) rfl ⟨n9,A9,c9,rfl,HL.out,HP.out,_,?_,?_,HRR.out,HGG.out⟩ <;> omega
end Go.Proofs.YtemdmlmcidfodaaGreatDoor
