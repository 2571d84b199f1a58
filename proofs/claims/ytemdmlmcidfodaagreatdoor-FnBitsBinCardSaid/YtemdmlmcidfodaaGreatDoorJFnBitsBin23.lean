/- The reference's l7Div. -/
import Derived.Test.YtemdmlmcidfodaaGreatDoorJFnBitsBin0
import Derived.Test.YtemdmlmcidfodaaGreatDoorJFnBitsBin10
import Derived.Test.YtemdmlmcidfodaaGreatDoorJFnBitsBin11
import Derived.Test.YtemdmlmcidfodaaGreatDoorJFnBitsBin14
import Derived.Test.YtemdmlmcidfodaaGreatDoorJFnBitsBin21
import Derived.Test.YtemdmlmcidfodaaGreatDoorJFnBitsBin22
namespace Go.Proofs.YtemdmlmcidfodaaGreatDoor
open Go Go.RowKit
def okMks (xs : List Int) : Prop:=xs.length <= 5 /\ ∀ x ∈ xs,z15 x
theorem own_set9 {w : World} {lo g c k : Nat} {xs : List Int} (h : OwnI w lo (.slice (some ⟨g,0,none⟩) xs.length c) xs) (x : Int) : OwnI (w.setCell ⟨g,k,none⟩ (.int .i64 x)) lo (.slice (some ⟨g,0,none⟩) xs.length c) (xs.set k x):=by
 have:=(h.stored k (.int .i64 x)).1; unfold OwnI; rw [List.length_set,List.map_set]; exact this
set_option maxRecDepth 100000 in
set_option maxHeartbeats 2000000 in
theorem l7Marks_any (r : Nat) (p : Int) (n : N) (A : Option Addr) (c m : Nat) (w : World) (h : Rdr w r p) (hn : n.gs.length <= 1048576) (h0 : -1000000 <= n.ins) (h1 : n.ins <= 1000000) (p0 : 0 <= p) (p1 : p <= 800000000) (m1 : 1 <= m) (m4 : m <= 4) :
  Calls Tryz.prog 86 #[.pointer (some ⟨r,0,none⟩),.agg #[.int .i64 n.ins,.slice A n.gs.length c],.int .i64 m] w (RetDI r p 20 okMks w):=by
 have hrl:=h.lt; have hal : Below w.heap.size w (w.alloc (.cells #[.int .i64 n.ins,.slice A n.gs.length c] 29)):=(Below.refl _ _).alloc (Nat.le_refl _) _; have HB0:=zH (heap_alloc_new w (.cells #[.int .i64 n.ins,.slice A n.gs.length c] 29)); have hR0:=h.up hal; have hg0 : Gr (IsR r) w (w.alloc (.cells #[.int .i64 n.ins,.slice A n.gs.length c] 29)):=.below hal; have hs0 : (w.alloc (.cells #[.int .i64 n.ins,.slice A n.gs.length c] 29)).heap.size = w.heap.size + 1:=by simp
 clear hal h
 go_enter Tryz.func86,Tryz.ntmps86
 go_wp2
 generalize w.alloc (.cells #[.int .i64 n.ins,.slice A n.gs.length c] 29) = w0 at *; have hal : Below w0.heap.size w0 (w0.alloc (.cells #[] 3)):=(Below.refl _ _).alloc (Nat.le_refl _) _; have hown0 : OwnI (w0.alloc (.cells #[] 3)) w0.heap.size (.slice (some ⟨w.heap.size + 1,0,none⟩) ([] : List Int).length 0) []:=by rw [<- hs0]; exact own_lit0I w0
 have hR1:=hR0.up hal; have hg1:=hg0.up hal; have HB1:=zH ((hal.block _ (lt_of_block HB0.out)).trans HB0.out); have hbx : w.heap.size < w0.heap.size:=by omega
 have hww : w.heap.size <= w0.heap.size:=by omega
 have hsz9:=hal.size; clear hal hR0 hg0 hs0
 go_loopw [7,8] (fun s i wr => ∃ (j : Nat) (ns : List Int) (A1 : Option Addr) (c1 : Nat) (q : Int),j <= m /\ i = .int .i64 j /\ s = .slice A1 ns.length c1 /\ ns.length = j /\ (∀ x ∈ ns,z15 x) ∧
  OwnI wr w0.heap.size (.slice A1 ns.length c1) ns /\ p <= q /\ q <= p + 2 * j /\ Rdr wr r q /\ Gr (IsR r) w wr /\ wr.heap[w.heap.size]? = some (.cells #[.int .i64 n.ins,.slice A n.gs.length c] 29 (0,0)) /\ w0.heap.size <= wr.heap.size) (fun _ i _ => m - (intOf i).toNat)
 case atStart => exact ⟨0,[],_,0,p,Nat.zero_le _,rfl,rfl,rfl,(fun _ h => by cases h),hown0,by omega,by omega,hR1,hg1,HB1.out,hsz9⟩
 case round =>
  obtain ⟨j,ns,A1,c1,q,hj,rfl,rfl,hnl,hrng,hown,q0,q1,hR,hg,hbb,hsr⟩:=hrel; have HRNG:=zH hrng; have HNL:=zH hnl; have HBB:=zH hbb; have hnl5 : ns.length <= 4:=by omega
  clear hrng hnl hbb
  by_cases hlt : j < m
  ·
   have hlt2 : (j : Int) < m:=by omega
   have v0:=(z00 HBB.out 0).1; have v1:=(z00 HBB.out 1).1
   go_wp2_with fail
   clear v0 v1; refine (l6Lit_any r q n A c wr hR (by omega) (by omega) (by omega) (by omega) (by omega)).mono ?_; rintro e w2 ⟨y,rfl,⟨y0,y1,y2,_⟩,q',q'0,q'1,hR2,hg2⟩; have hown2:=hown.gr hg2 (fun b e => by rw [e]; omega); have hgg2:=hg.trans hg2; have HBB:=zH (hg2.heap (by show ¬ _ = r; omega) HBB.out); have hlo : w0.heap.size <= w2.heap.size:=Nat.le_trans hsr hg2.size; clear hR hg hown hg2; obtain ⟨ps,hps⟩ : ∃ ps,ps = ns ++ [y]:=⟨_,rfl⟩; have HPS:=zH hps; have HY : Hid (z15 y):=zH (by unfold z15; omega); clear hps
   go_wp2_with (at_builtin; refine z0g (ys:=ps) (by rfl) (.tmp 15) (.tmp 19) (by rfl) (by rfl) (by rfl) hown2 (by omega) hlo HPS.out ?_; intro A3 c3 w3 hown3 hg3 hbk3)
   have hR3:=hR2.own hg3 (fun g e => by have:=(hown2.lt g e).1; omega); have hgg3:=hgg2.own hg3 (fun g e => by have:=(hown2.lt g e).1; omega); have HBB:=zH ((hg3.block _ (lt_of_block HBB.out) (fun e => by have:=(hown2.lt _ e.symm).1; omega)).trans HBB.out); have hsg3 : w2.heap.size <= w3.heap.size:=hg3.size; clear hbk3 hg3 hown2 hgg2 hR2
   go_roundw
   case rel => exact ⟨j + 1,ps,A3,c3,q',by omega,by go_num,rfl,by rw [HPS.out,List.length_append,HNL.out]; rfl,by
     rw [HPS.out]; intro x hx
     rcases List.mem_append.1 hx with hx | hx
     · exact HRNG.out x hx
     · rw [List.mem_singleton.1 hx]; exact HY.out,hown3,by omega,by omega,hR3,hgg3,HBB.out,Nat.le_trans hlo hsg3⟩
   case measure => simp [intOf]; omega
  ·
   have hje : j = m:=by omega
   subst hje; have hrb : r < w0.heap.size:=by omega
   go_wp2_with fail
   refine (z17 r q 60 wr hR (by omega) (by omega) (by omega) (by omega)).mono ?_; rintro e w2 ⟨k,rfl,k0,_,_,hR2,hg2⟩; have hg2:=Gr.one (S:=IsR r) hg2 rfl; have hown2:=hown.gr hg2 (fun b e => by rw [e]; exact hrb); have hgg2:=hg.trans hg2; have hsz2:=hg2.size; clear hR hg hown hg2
   by_cases hk0 : k = 0
   ·
    subst hk0; have hal : Below w2.heap.size w2 (w2.alloc (.cells #[.int .i64 0,.int .i64 99,.int .i64 (-9223372036854775808)] 3)):=(Below.refl _ _).alloc (Nat.le_refl _) _; have hsl:=lit_sl (S:=IsR r) w2 [0,99,-9223372036854775808] _ 3 rfl (by show ¬ _ = r; have:=hgg2.size; omega); have HN:=zH (num_any r (q + 1) _ 3 _ _ (hR2.up hal) hsl (by simp) (by simp) (by omega) (by omega)); have hown3:=hown2.up hal; have hgg3:=hgg2.up hal; clear hal hsl hR2 hgg2 hown2; have hA1 : ∃ g,A1 = some ⟨g,0,none⟩:=by
     rcases hown3.2 with ⟨_,e⟩ | ⟨g,cap,cur,e,_⟩
     · exact absurd e (by have:=HNL.out; omega)
     · injection e with e; exact ⟨g,e⟩
    obtain ⟨g,rfl⟩:=hA1
    go_wp2_with fail
    refine HN.out.mono ?_; clear HN; rintro e w4 ⟨y,hy,rfl,hR4,hg4⟩; have hoy : z15 y:=mem_lit hy (by simp [z15]); have hown4:=hown3.gr hg4 (fun b e => by rw [e]; exact hrb); have hgg4:=hgg3.trans hg4; have hn0 : 0 < ns.length:=by have:=HNL.out; omega
    have c9:=hown4.rd.at_int hn0; obtain ⟨ad9,e9,_,c9⟩:=c9
    injection e9 with e9
    subst e9; have f9 : w4.frozen? ⟨g,0,none⟩ = false:=hown4.frozenAt 0; have c9 : w4.cell? ⟨g,0,none⟩ = some (.int .i64 ns[0]):=c9; have HOWN5:=zH (own_set9 (k:=0) hown4 y); have hge:=(hown4.lt g rfl).1; have HR5:=zH (hR4.set (g:=g) (o:=0) (u:=.int .i64 y) (by omega)); have HGG5:=zH (hgg4.set g 0 (.int .i64 y) (.inr (by omega))); have HY:=zH hoy; have hni : (0 : Int) < ns.length:=by omega
    clear hy hoy hown4 hgg4 hg4 hown3 hgg3 hR4
    go_wp2
    go_ret
    refine ⟨some ⟨g,0,none⟩,c1,ns.set 0 y,by rw [List.length_set]; rfl,by rw [List.length_set]; exact own_mono HOWN5.out hww,⟨by rw [List.length_set]; omega,fun x hx => ?_⟩,q + 1 + 1,by omega,by omega,HR5.out,HGG5.out⟩
    rcases List.mem_or_eq_of_mem_set hx with hx | hx
    · exact HRNG.out x hx
    · rw [hx]; exact HY.out
   ·
    have hkb0 : (k == 0) = false:=by simpa using hk0
    by_cases hk1 : k = 1
    ·
     subst hk1; have hlo : w0.heap.size <= w2.heap.size:=Nat.le_trans hsr hsz2; obtain ⟨ps,hps⟩ : ∃ ps,ps = ns ++ [(1 : Int)]:=⟨_,rfl⟩; have HPS:=zH hps; clear hps
     go_wp2_with (at_builtin; refine z0g (ys:=ps) (by rfl) (.tmp 32) (.tmp 33) (by rfl) (by rfl) (by rfl) hown2 (by omega) hlo HPS.out ?_; intro A3 c3 w3 hown3 hg3 hbk3)
     have hR3:=hR2.own hg3 (fun g e => by have:=(hown2.lt g e).1; omega); have hgg3:=hgg2.own hg3 (fun g e => by have:=(hown2.lt g e).1; omega); clear hbk3 hg3 hown2 hgg2 hR2
     go_wp2
     go_ret
     exact ⟨A3,c3,ps,rfl,own_mono hown3 hww,⟨by rw [HPS.out,List.length_append]; have:=HNL.out; simp; omega,fun x hx => by
      rw [HPS.out] at hx
      rcases List.mem_append.1 hx with hx | hx
      · exact HRNG.out x hx
      · rw [List.mem_singleton.1 hx]; unfold z15; omega⟩,q + 1,by omega,by omega,hR3,hgg3⟩
    ·
     have hkb1 : (k == 1) = false:=by simpa using hk1
     by_cases hk2 : k = 2
     ·
      subst hk2; have hal : Below w2.heap.size w2 (w2.alloc (.cells #[] 3)):=(Below.refl _ _).alloc (Nat.le_refl _) _; have hoe:=own_lit0I w2; have hR3:=hR2.up hal; have hgg3:=hgg2.up hal; have hww2 : w.heap.size <= w2.heap.size:=hgg2.size; clear hal hk0 hk1
      go_wp2
      go_ret
      exact ⟨_,0,[],rfl,own_mono hoe hww2,⟨by simp,fun _ h => by cases h⟩,q + 1,by omega,by omega,hR3,hgg3⟩
     ·
      have hkb2 : (k == 2) = false:=by simpa using hk2
      clear hk0 hk1 hk2
      go_wp2
      go_ret
      exact ⟨A1,c1,ns,rfl,own_mono hown2 hww,⟨by omega,HRNG.out⟩,q + 1,by omega,by omega,hR2,hgg2⟩
theorem RdI.st {w x y : World} {S : Nat -> Prop} {A : Option Addr} {l : List Int} (h : RdI w x S A l) (hR : x.grownBy y (some w.heap.size)) : RdI w y S A l:=h.kept ((Kept.refl _ _).grown hR)
def LTup (F S : Nat -> Prop) (w : World) (m : (N × Bool) × List Int) (v : Value) (z : World) : Prop:=∃ A2 c2 B2 d2,v = .tuple #[.agg #[.int .i64 m.1.1.ins,.slice A2 m.1.1.gs.length c2,.bool m.1.2],.slice B2 m.2.length d2] /\ (A2 = none -> m.1.1.gs.length = 0) /\ Lay.gate.Sl z (G2 F w z S) A2 m.1.1.gs /\ w.heap.size <= z.heap.size /\ m.2.length <= d2 /\ RdI w z S B2 m.2
theorem LTup.up {F S : Nat -> Prop} {w x y : World} {m : (N × Bool) × List Int} {v : Value} (hF : ∀ b,F b -> b < w.heap.size) (h : LTup F S w m v x) (hb : Below x.heap.size x y) : LTup F S w m v y:=by
 obtain ⟨A2,c2,B2,d2,h1,h2,h3,h4,h5,h6⟩:=h; exact ⟨A2,c2,B2,d2,h1,h2,G2.up2 h3 (fun b hb => Nat.lt_of_lt_of_le (hF b hb) h4) hb,Nat.le_trans h4 hb.size,h5,h6.up hb⟩
theorem LTup.st {F S : Nat -> Prop} {w x y : World} {m : (N × Bool) × List Int} {v : Value} (hF : ∀ b,F b -> b < w.heap.size) (h : LTup F S w m v x) (hR : x.grownBy y (some w.heap.size)) : LTup F S w m v y:=by
 obtain ⟨A2,c2,B2,d2,h1,h2,h3,h4,h5,h6⟩:=h; exact ⟨A2,c2,B2,d2,h1,h2,g2_stS hF h3 h4 hR,Nat.le_trans h4 hR.size,h5,h6.st hR⟩
def LRow (S : Nat -> Prop) (w : World) (l : List Int) (v : Value) (z : World) : Prop:=∃ B2 d2,v = .slice B2 l.length d2 /\ l.length <= d2 /\ RdI w z S B2 l
theorem LRow.up {S : Nat -> Prop} {w x y : World} {l : List Int} {v : Value} (h : LRow S w l v x) (hb : Below x.heap.size x y) : LRow S w l v y:=by
 obtain ⟨B2,d2,h1,h2,h3⟩:=h; exact ⟨B2,d2,h1,h2,h3.up hb⟩
theorem LRow.st {S : Nat -> Prop} {w x y : World} {l : List Int} {v : Value} (h : LRow S w l v x) (hR : x.grownBy y (some w.heap.size)) : LRow S w l v y:=by
 obtain ⟨B2,d2,h1,h2,h3⟩:=h; exact ⟨B2,d2,h1,h2,h3.st hR⟩
theorem AddI.put {F : Nat -> Prop} {w x : World} {k : N × Bool} {A : Option Addr} {c d g : Nat} {l l2 : List Int} (h : AddI F w x k A c (some ⟨g,0,none⟩) d l) (hF : ∀ b,F b -> b < w.heap.size) (a : Nat) (v : Int) (hl : l2 = l.set a v) : AddI F w (x.setCell ⟨g,a,none⟩ (.int .i64 v)) k A c (some ⟨g,0,none⟩) d l2:=by
 have h2:=own_set9 (k:=a) h.own v; have hg : x.grownBy (x.setCell ⟨g,a,none⟩ (.int .i64 v)) (some g):=z06 (World.grownBy.refl _ _) _ _; refine ⟨h.ks.grown (v':=.slice (some ⟨g,0,none⟩) l2.length d) hF hg (fun b e => (h.own.lt b e).1) (.inl rfl),?_⟩; rw [hl,List.length_set]; exact h2
theorem RdI.put {w x : World} {A : Option Addr} {l : List Int} {g n d : Nat} (h : RdI w x (fun b => (Value.slice (some ⟨g,0,none⟩) n d).ownBlock = some b) A l) (a : Nat) (v : Value) (n' : Nat) : RdI w (x.setCell ⟨g,a,none⟩ v) (fun b => (Value.slice (some ⟨g,0,none⟩) n' d).ownBlock = some b) A l :=
 RdI.grown (v:=.slice (some ⟨g,0,none⟩) n d) (v':=.slice (some ⟨g,0,none⟩) n' d) h (z06 (World.grownBy.refl _ _) _ _) (.inl rfl)
theorem int_lit1 (W : World) (m : Int) : OwnI (W.alloc (.cells #[.int .i64 m] 3)) W.heap.size (.slice (some ⟨W.heap.size,0,none⟩) 1 1) [m]:=World.ownsRow_lit W #[.int .i64 m] 1 (Nat.le_refl _) (by unfold maxLen; omega) (by simp)
def RetKLL (F : Nat -> Prop) (w : World) (res : (N × Bool) × (List Int × List Int)) (e : Ending) (w' : World) : Prop :=
 ∃ A c B d B' d',e = .returned (.tuple #[.agg #[.int .i64 res.1.1.ins,.slice A res.1.1.gs.length c,.bool res.1.2],.slice B res.2.1.length d,.slice B' res.2.2.length d']) /\ (A = none -> res.1.1.gs.length = 0) /\ Lay.gate.Sl w' (fun b => F b \/ (w.heap.size <= b /\ b < w'.heap.size)) A res.1.1.gs /\ res.2.1.length <= d /\ res.2.2.length <= d' /\ Lay.int.Sl w' (fun b => w.heap.size <= b /\ b < w'.heap.size) B res.2.1 /\ Lay.int.Sl w' (fun b => w.heap.size <= b /\ b < w'.heap.size) B' res.2.2 /\ (∀ m ∈ res.2.1,RB m) /\ (∀ m ∈ res.2.2,RB m) /\ Below w.heap.size w w'
theorem run_div {σ : Type} {o : Ops σ} (xs wide : List Int) (a : Nat) (x : Int) (q r : List Int) (k : σ) (hx : xs[a]? = some x) :
  run o (divP xs wide (a + 1) q r) k = (let l:=run o (lessP (x :: r) wide (-1)) k; let u:=run o (sumP (x :: r) (wide.map Neg.neg) 1) l.1; let r':=run o (z0v (muxP l.2) ((x :: r).take xs.length) (u.2.take xs.length)) u.1; run o (divP xs wide a (q.set a (-l.2)) r'.2) r'.1):=by
 have e : xs.getD a 0 = x:=by rw [List.getD_eq_getElem?_getD,hx]; rfl
 simp only [divP,run_bind,e]
set_option maxRecDepth 100000 in
set_option maxHeartbeats 8000000 in
theorem l7Div_any (F : Nat -> Prop) (A : Option Addr) (c : Nat) (k : N × Bool) (X Y : Option Addr) (cx cy : Nat) (xs ys : List Int) (w : World) (h : Lay.gate.Sl w F A k.1.gs) (hF : ∀ b,F b -> b < w.heap.size) (hA : A = none -> k.1.gs.length = 0) (hnb : NB k.1) (hX : Lay.int.Rd w X xs) (hY : Lay.int.Rd w Y ys) (hxm : ∀ x ∈ xs,RB x) (hym : ∀ y ∈ ys,RB y) (hl : xs.length = ys.length) (hn : xs.length <= 8) :
  Calls Tryz.prog 91 #[.agg #[.int .i64 k.1.ins,.slice A k.1.gs.length c,.bool k.2],.slice X xs.length cx,.slice Y ys.length cy] w (RetKLL F w (run opsR (divP xs (ys ++ [-1]) xs.length (List.replicate xs.length (-1)) (List.replicate xs.length (-1))) k)):=by
 obtain ⟨s0,hs0⟩ : ∃ s0,s0 = List.replicate xs.length (-1 : Int):=⟨_,rfl⟩; rw [<- hs0]; have HS0L : Hid (s0.length = xs.length):=zH (by rw [hs0]; simp); have HS0M : Hid (∀ m ∈ s0,RB m):=zH fun m hm => by rw [hs0] at hm; rw [List.eq_of_mem_replicate hm]; exact z2d.off
 obtain ⟨wd,hwd⟩ : ∃ wd,wd = ys ++ [(-1 : Int)]:=⟨_,rfl⟩; rw [<- hwd]; have HWD:=zH hwd; have HWL : Hid (wd.length = xs.length + 1):=zH (by rw [hwd,List.length_append,hl]; rfl); have HWM : Hid (∀ m ∈ wd,RB m):=zH fun m hm => by
  rw [hwd] at hm
  rcases List.mem_append.1 hm with hm | hm
  · exact hym m hm
  · rw [List.mem_singleton.1 hm]; exact z2d.off
 obtain ⟨nw,hnw⟩ : ∃ nw,nw = wd.map Neg.neg:=⟨_,rfl⟩; have HNW:=zH hnw; have HNL : Hid (nw.length = xs.length + 1):=zH (by rw [hnw,List.length_map]; exact HWL.out); have HNM : Hid (∀ m ∈ nw,RB m):=zH fun m hm => by
  rw [hnw] at hm; obtain ⟨z,hz,rfl⟩:=List.mem_map.1 hm; exact (HWM.out z hz).neg
 obtain ⟨T,hT⟩ : ∃ T,T = run opsR (divP xs wd xs.length s0 s0) k:=⟨_,rfl⟩; rw [<- hT]; have HT:=zH hT; have K0:=KS.two (c:=c) h hF hA; have HF:=zH hF; have HNB:=zH hnb; have HX:=zH hX; have HY:=zH hY; have HXM:=zH hxm; have HL:=zH hl; have HYN:=zH (rd_nil hY); have hn' : ys.length <= 8:=by omega
 have K0:=zH K0; have hX0s : ((w.alloc (.cells #[.int .i64 k.1.ins,.slice A k.1.gs.length c,.bool k.2] 85)).alloc (.cells #[.int .i64 0,.slice none 0 0,.bool false] 85)).heap.size = w.heap.size + 2:=by simp
 have HX0S:=zH hX0s; have HFL : Hid (∀ z,Calls Tryz.prog 117 #[.int .i64 (-1),.int .i64 (xs.length : Int)] z (RetOI s0 z)):=zH fun z => by rw [hs0]; exact l7FillO_any (-1) xs.length z (by omega)
 clear h hA hnb hX hY hxm hym hT hX0s hl hs0 hwd hnw
 go_enter Tryz.func91,Tryz.ntmps91
 go_wp2_with fail
 refine (HFL.out _).mono ?_; generalize hX0 : (w.alloc (.cells #[.int .i64 k.1.ins,.slice A k.1.gs.length c,.bool k.2] 85)).alloc (.cells #[.int .i64 0,.slice none 0 0,.bool false] 85) = X0 at *; clear hX0; rintro e w3 ⟨X2,d2,rfl,ho3,hb3⟩; have HO3:=zH ho3; have HB3:=zH hb3; clear ho3 hb3
 go_wp2_with fail
 refine (HFL.out _).mono ?_; rintro e w4 ⟨B,d,rfl,ho4,hb4⟩; have HO4:=zH ho4; have HB4:=zH hb4; clear ho4 hb4 HFL; have hal : Below w4.heap.size w4 (w4.alloc (.cells #[] 3)):=(Below.refl _ _).alloc (Nat.le_refl _) _; have hown0 : OwnI (w4.alloc (.cells #[] 3)) w4.heap.size (.slice (some ⟨w4.heap.size,0,none⟩) ([] : List Int).length 0) []:=own_lit0I w4; have HAL:=zH hal; have HB04 : Hid (Below X0.heap.size X0 w4):=zH (z09 HB3.out HB4.out); have hYr:=HY.out.up (z09 (z09 K0.out.bel HB04.out) hal); clear hal
 go_wp2_with (at_builtin; first
  | refine z10 (zs:=ys) (by rfl) (.tmp 23) (.tmp 24) (by rfl) (by rfl) (by rfl) hown0 hYr HYN.out (by simp; omega) (by simp) (by simp) ?_; intro X5 d5 w5 ho5 hb5 hg5; have HO5:=zH ho5; have HB5:=zH hb5; have hs45 : w4.heap.size <= w5.heap.size:=(HAL.out.trans HB5.out).size; clear ho5 hb5 hg5 hown0 hYr
  | refine z0g (ys:=wd) (by rfl) (.tmp 25) (.tmp 26) (by rfl) (by rfl) (by rfl) HO5.out (by omega) hs45 HWD.out ?_; intro X6 d6 w6 ho6 hg6 hbk6; have HO6:=zH ho6; have HG6:=zH hg6; clear ho6 hg6 hbk6)
 have hb46 : Below w4.heap.size w4 w6:=(HAL.out.trans HB5.out).grown HG6.out hs45 fun g e => (HO5.out.lt g e).1
 have K6 : Hid (AddI F w w6 k A c B d s0):=zH ((⟨(K0.out.two2.up HF.out HB3.out).owned HF.out HB4.out HO4.out,HO4.out.base (by have:=HB3.out.size; rw [HX0S.out] at this; exact this)⟩ : AddI F w w4 k A c B d s0).up HF.out hb46); have HR6 : Hid (RdI w w6 (fun b => (Value.slice B s0.length d).ownBlock = some b) X2 s0):=zH (((RdI.of HO3.out (by rw [HX0S.out]; exact Nat.le_refl _)).owned HB4.out HO4.out).up hb46); have HW6 : Hid (RdI w w6 (fun b => (Value.slice B s0.length d).ownBlock = some b) X6 wd):=zH (by
  obtain ⟨A',c',e,_,hs⟩:=HO6.out.form
  injection e with e1 e2 e3
  subst e1; refine Lay.Sl.mono hs fun b hb' => ⟨?_,hb'.2,fun e => ?_⟩
  · have:=HB3.out.size; have:=HB4.out.size; have:=HX0S.out; omega
  · have:=(HO4.out.lt b e).2; omega)
 have HC3:=zH HO3.out.cap; clear hb46 hs45 HO3 HO4 HO5 HO6 HB3 HB4 HB5 HG6 HAL HB04 K0 HX0S HY HYN HWD; obtain ⟨ns0,hns0⟩ : ∃ ns0,ns0 = s0.length:=⟨_,rfl⟩; have HNS0:=zH hns0; rw [<- hns0] at HR6 HW6; rw [<- hns0]; clear hns0
 go_wp2
 go_loopw [10,13] (fun rv i wr => ∃ (a : Nat) (iv : Int) (k1 : N × Bool) (q1 r1 : List Int) (A1 R : Option Addr) (c1 rc : Nat),a <= xs.length /\ iv = (a : Int) - 1 /\ i = .int .i64 iv /\ rv = .slice R r1.length rc /\ q1.length = xs.length /\ r1.length = xs.length /\ r1.length <= rc /\ (∀ m ∈ q1,RB m) /\ (∀ m ∈ r1,RB m) /\ AddI F w wr k1 A1 c1 B d q1 /\ RdI w wr (fun b => (Value.slice B q1.length d).ownBlock = some b) R r1 /\ RdI w wr (fun b => (Value.slice B q1.length d).ownBlock = some b) X6 wd /\ NB k1.1 /\ Hid (run opsR (divP xs wd a q1 r1) k1 = T)) (fun _ i _ => (intOf i + 1).toNat)
 case atStart => exact ⟨xs.length,(xs.length : Int) - 1,k,s0,s0,A,X2,c,d2,Nat.le_refl _,rfl,rfl,by rw [HNS0.out],HS0L.out,HS0L.out,HC3.out,HS0M.out,HS0M.out,K6.out,(by have h9:=HR6.out; rw [HNS0.out] at h9; exact h9),(by have h9:=HW6.out; rw [HNS0.out] at h9; exact h9),HNB.out,zH (by rw [HT.out])⟩
 case round =>
  obtain ⟨a,iv,k1,q1,r1,A1,R,c1,rc,ha,hiv0,rfl,rfl,hql,hrl,hrc,hqm,hrm,hks,hrd,hwd,hnb1,hst⟩:=hrel; have HQL:=zH hql; have HRL:=zH hrl; have HRC:=zH hrc; have HQM:=zH hqm; have HRM:=zH hrm; have HKS:=zH hks; have HRD:=zH hrd; have HWR:=zH hwd; have HNB1:=zH hnb1; have hrn : r1.length <= 8:=by omega
  have HNX : Hid (ns0 = xs.length):=zH (HNS0.out.trans HS0L.out); clear hql hrl hrc hqm hrm hks hrd hwd hnb1 HT K6 HR6 HW6 HC3 HS0M
  rcases a with _ | a
  ·
   have hiv : iv = -1:=by omega
   clear hiv0; subst hiv; have hT2 : T = (k1,(q1,r1)):=by rw [<- hst.out]; rfl
   have HT2:=zH hT2; clear hst hT2; have hv9:=HKS.out.ks.var; have y0:=(z00 hv9 0).1; have y1:=(z00 hv9 1).1; have y2:=(z00 hv9 2).1; have hr9:=HKS.out.ks.res; have r0:=(z00 hr9 0).1; have r1':=(z00 hr9 1).1; have r2:=(z00 hr9 2).1; have rf0:=(z00 hr9 0).2; have rf1:=(z00 hr9 1).2; have rf2:=(z00 hr9 2).2; clear hv9 hr9
   go_wp2
   have hs:=z0s HKS.out.ks.res (.int .i64 k1.1.ins) (.slice A1 k1.1.gs.length c1) (.bool k1.2); have k5:=(z00 hs 0).1; have k6:=(z00 hs 1).1; have k7:=(z00 hs 2).1; have kf5:=(z00 hs 0).2; have kf6:=(z00 hs 1).2; have kf7:=(z00 hs 2).2; refine bodyPost_ret (v:=.tuple #[.agg #[.int .i64 k1.1.ins,.slice A1 k1.1.gs.length c1,.bool k1.2],.slice B ns0 d,.slice R r1.length rc]) (by simp [results,Tryz.results91,go_sem,k5,k6,k7,kf5,kf6,kf7]) rfl ?_; rw [HT2.out]; obtain ⟨B',d',e9,hcap,hsl⟩:=HKS.out.own.form
   injection e9 with e1 e2 e3
   subst e1 e3; refine ⟨A1,c1,B,d,R,rc,by rw [HNX.out,HQL.out],HKS.out.ks.nil,(z1a (h:=w.heap.size + 1) HKS.out.ks.row (fun b hb => ?_) _ _ _).mono (fun b hb => ?_),hcap,HRC.out,(z1a (h:=w.heap.size + 1) hsl (fun b hb => by omega) _ _ _).mono (fun b hb => by rw [z0o]; omega),(z1a (h:=w.heap.size + 1) HRD.out (fun b hb => by omega) _ _ _).mono (fun b hb => by rw [z0o]; omega),HQM.out,HRM.out,z0i HKS.out.ks.bel (by omega) _ _ _⟩
   ·
    rcases hb with hb | hb
    · have:=HF.out b hb; omega
    · omega
   ·
    rw [z0o]; exact hb.imp id fun h9 => ⟨by omega,h9.2.1⟩
  ·
   have hiv : iv = (a : Int):=by omega
   clear hiv0; subst hiv; have hax : a < xs.length:=by omega
   have hax2 : (a : Int) < ns0:=by rw [HNX.out]; omega
   obtain ⟨x,hx⟩ : ∃ x,xs[a]? = some x:=⟨_,List.getElem?_eq_getElem hax⟩; have hxg : xs[a] = x:=(List.getElem?_eq_some_iff.1 hx).2; have HXR:=zH (HXM.out x (List.mem_of_getElem? hx)); have hst2:=(run_div (o:=opsR) xs wd a x q1 r1 k1 hx).symm.trans hst.out; obtain ⟨adx,rfl,-,-⟩:=HX.out.at_int hax; have c0 : wr.cell? (adx.add a) = some (.int .i64 x):=by
    obtain ⟨ad,e,_,hc⟩:=(HX.out.up HKS.out.ks.bel).at_int hax
    injection e with e; subst e; rw [<- hxg]; exact hc
   obtain ⟨tl,htl⟩ : ∃ tl,tl = x :: r1:=⟨_,rfl⟩; have HTL : Hid (tl = [x] ++ r1):=zH htl; have HTLL : Hid (tl.length = xs.length + 1):=zH (by rw [htl,List.length_cons,HRL.out]); have HTM : Hid (∀ m ∈ tl,RB m):=zH fun m hm => by
    rw [htl] at hm
    rcases List.mem_cons.1 hm with rfl | hm
    · exact HXR.out
    · exact HRM.out m hm
   rw [<- htl,<- HNW.out] at hst2; have HST:=zH hst2; obtain ⟨gq,rfl⟩ : ∃ gq,B = some ⟨gq,0,none⟩:=by
    rcases HKS.out.own.2 with ⟨_,e⟩ | ⟨g,cap,cur,e,_⟩
    · exact absurd e (by have:=HQL.out; omega)
    · injection e with e; exact ⟨g,e⟩
   have hown1 : OwnI (wr.alloc (.cells #[.int .i64 x] 3)) wr.heap.size (.slice (some ⟨wr.heap.size,0,none⟩) [x].length 1) [x]:=int_lit1 wr x; have hal : Below wr.heap.size wr (wr.alloc (.cells #[.int .i64 x] 3)):=(Below.refl _ _).alloc (Nat.le_refl _) _; have HAL:=zH hal; have hRr:=HRD.out.rd.up hal; have HRN:=zH (rd_nil HRD.out.rd); clear hx hxg hst hst2 htl hal
   go_wp2_with (at_builtin; refine z10 (zs:=tl) (by rfl) (.tmp 38) (.tmp 39) (by rfl) (by rfl) (by rfl) hown1 hRr HRN.out (by simp; omega) (by simp) HTL.out ?_; intro X7 tc w7 ho7 hb7 hg7; have HO7:=zH ho7; have HB7:=zH hb7; clear ho7 hb7 hg7 hown1 hRr c0; have hv8:=(((Below.refl w7.heap.size w7).alloc (Nat.le_refl _) (.cells #[] 3)).block _ (lt_of_block (((HAL.out.trans HB7.out).block _ (lt_of_block HKS.out.ks.var)).trans HKS.out.ks.var))).trans (((HAL.out.trans HB7.out).block _ (lt_of_block HKS.out.ks.var)).trans HKS.out.ks.var); have y0:=(z00 hv8 0).1; have y1:=(z00 hv8 1).1; have y2:=(z00 hv8 2).1; clear hv8)
   have hb17 : Below wr.heap.size wr w7:=HAL.out.trans HB7.out; have hb8 : Below w7.heap.size w7 (w7.alloc (.cells #[] 3)):=(Below.refl _ _).alloc (Nat.le_refl _) _; have HT7 : Hid (RdI w w7 (fun b => (Value.slice (some ⟨gq,0,none⟩) q1.length d).ownBlock = some b) X7 tl):=zH (by
    obtain ⟨A',c',e,_,hs⟩:=HO7.out.form
    injection e with e1 e2 e3
    subst e1; refine Lay.Sl.mono hs fun b hb' => ⟨?_,hb'.2,fun e => ?_⟩
    · have:=lt_of_block HKS.out.ks.res; omega
    · have:=(HKS.out.own.lt b e).2; omega)
   have HTC:=zH HO7.out.cap; have HT7:=zH (HT7.out.up hb8); have HW7:=zH (HWR.out.up (z09 hb17 hb8)); have K7:=zH (HKS.out.up HF.out (z09 hb17 hb8)); clear hb17 hb8 HO7 HB7 HAL HKS HRD HWR; generalize hw8 : w7.alloc (.cells #[] 3) = w8 at HT7 HW7 K7 y0 y1 y2 ⊢; clear hw8; obtain ⟨g,hg⟩ : ∃ g,g = run opsR (lessP tl wd (-1)) k1:=⟨_,rfl⟩; have HG:=zH hg; have HGB : Hid (NB g.1.1 /\ RB g.2):=zH (by rw [hg]; exact bd_runR _ _ (less_bd z2d _ _ _ _ z2d.off HTM.out HWM.out fun m hm => hm) HNB1.out); have HCA:=zH (l7Less_any (G2 F w w8 (fun b => (Value.slice (some ⟨gq,0,none⟩) q1.length d).ownBlock = some b)) A1 c1 k1 X7 X6 tc d6 tl wd w8 K7.out.ks.row (KS2.lt K7.out.ks.bel HF.out) K7.out.ks.nil HNB1.out HT7.out.rd HW7.out.rd HTM.out HWM.out (by rw [HTLL.out,HWL.out]) (by rw [HTLL.out]; omega)); rw [<- hg] at HCA; clear hg
   go_wp2_with fail
   refine HCA.out.mono ?_; rintro e z9 ⟨A3,c3,rfl,hn9,hs9,hb9⟩; have hv9:=(hb9.block _ (lt_of_block K7.out.ks.var)).trans K7.out.ks.var; clear y0 y1 y2 HCA; have y0:=(z00 hv9 0).1; have y1:=(z00 hv9 1).1; have y2:=(z00 hv9 2).1; have g0:=(z00 hv9 0).2; have g1:=(z00 hv9 1).2; have g2:=(z00 hv9 2).2; have K9:=K7.out.call (k':=g.1) (c':=c3) HF.out hs9 hb9 hn9; have hgr : z9.grownBy (st3 z9 w.heap.size (.int .i64 g.1.1.ins) (.slice A3 g.1.1.gs.length c3) (.bool g.1.2)) (some w.heap.size):=z06 (z06 (z06 (World.grownBy.refl _ _) _ _) _ _) _ _; have HT9:=(HT7.out.up hb9).st hgr; have HW9:=(HW7.out.up hb9).st hgr; have hq9 : a < q1.length:=by rw [HQL.out]; exact hax
   obtain ⟨old,hold⟩ : ∃ old,(st3 z9 w.heap.size (.int .i64 g.1.1.ins) (.slice A3 g.1.1.gs.length c3) (.bool g.1.2)).cell? ⟨gq,a,none⟩ = some old:=by
    obtain ⟨ad,e,_,hc⟩:=K9.own.rd.at_int hq9
    injection e with e; subst e
    refine ⟨_,(?_ : _ = some (.int .i64 q1[a]))⟩
    rcases Nat.eq_zero_or_pos a with rfl | h0
    · exact hc
    · simpa [Addr.add,Nat.ne_of_gt h0] using hc
   have hfz:=K9.own.frozenAt a; obtain ⟨l0,l1⟩:=HGB.out.2; dsimp only [st3] at K9 HT9 HW9 hold hfz; have K9:=zH K9; have HT9:=zH HT9; have HW9:=zH HW9; clear hn9 hs9 hb9 hv9 hgr hq9 K7 HT7 HW7
   go_wp2
   obtain ⟨l,hl⟩ : ∃ l,l = q1.set a (-g.2):=⟨_,rfl⟩; have HLQ:=zH hl; have K10:=K9.out.put HF.out a (-g.2) hl; have HT10:=HT9.out.put a (.int .i64 (-g.2)) l.length; have HW10:=HW9.out.put a (.int .i64 (-g.2)) l.length; clear y0 y1 y2 g0 g1 g2 hold hfz K9 HT9 HW9 hl l0 l1; generalize hw10 : World.setCell _ ({ block:=gq,off:=a,spot:=none } : Addr) _ = w10 at K10 HT10 HW10 ⊢; clear hw10; generalize hBB : (some ({ block:=gq,off:=0,spot:=none } : Addr)) = B at *; have HBB:=zH hBB; clear hBB; have K10:=zH K10; have HT10:=zH HT10; have HW10:=zH HW10; have HLL : Hid (l.length = xs.length):=zH (by rw [HLQ.out,List.length_set,HQL.out]); have HLM : Hid (∀ m ∈ l,RB m):=zH fun m hm => by
    rw [HLQ.out] at hm
    rcases List.mem_or_eq_of_mem_set hm with hm | hm
    · exact HQM.out m hm
    · rw [hm]; exact HGB.out.2.neg
   obtain ⟨u,hu⟩ : ∃ u,u = run opsR (sumP tl nw 1) g.1:=⟨_,rfl⟩; have HU:=zH hu; have HUB : Hid (NB u.1.1 /\ (∀ m ∈ u.2,RB m) /\ u.2.length = xs.length + 1):=zH (by rw [hu]; exact bd_runR (Φ:=fun l9 => (∀ m ∈ l9,RB m) /\ l9.length = xs.length + 1) _ _ (sum_bd z2d _ _ _ _ z2d.one HTM.out HNM.out fun l9 h9 h8 => ⟨h9,(h8 (by rw [HTLL.out,HNL.out])).trans HTLL.out⟩) HGB.out.1); have HTURN : Hid (∀ z,Kept w.heap.size w10 z -> Calls Tryz.prog 89 #[.slice X6 wd.length d6] z (RetNw nw z)):=zH fun z hz => by rw [HNW.out]; exact l7Turn_any X6 d6 wd z (HW10.out.kept hz).rd HWM.out (by rw [HWL.out]; omega)
   clear hu; refine z0a [[],[],[],[(2,57)],[(0,55),(1,56),(3,58)],[(4,59)],[(5,54)],[(5,54)],[(6,60)],[(7,61)]]
    (fun x9 y9 => Below x9.heap.size x9 y9)
    [(8,fun x9 y9 => x9.grownBy y9 (some w.heap.size))]
    (fun f9 x9 => (f9 8 = false -> AddI F w x9 g.1 A3 c3 B d l) /\ (f9 8 = true -> ∃ A9 c9,AddI F w x9 (u.1,(0 : Int)).1 A9 c9 B d l) /\ Below w.heap.size w x9 /\ Kept w.heap.size w10 x9)
    [zF 0 (.agg #[.int .i64 g.1.1.ins,.slice A3 g.1.1.gs.length c3,.bool g.1.2]),
  zF 1 (.slice X7 tl.length tc),
  zF 2 (.slice X6 wd.length d6),
  fun vs9 y9 => (fun v z => LRow (fun b => (Value.slice B l.length d).ownBlock = some b) w nw v z) (vs9 3) y9,
  fun vs9 y9 => (fun v7 z7 => LTup F (fun b => (Value.slice B l.length d).ownBlock = some b) w u v7 z7) (vs9 4) y9,
  fun vs9 y9 => (fun v7 z7 => LTup F (fun b => (Value.slice B l.length d).ownBlock = some b) w u v7 z7) (vs9 5) y9,
  fun vs9 y9 => (fun v7 z7 => ANet F (fun b => (Value.slice B l.length d).ownBlock = some b) w (u.1,0) v7 z7) (vs9 6) y9,
  fun vs9 y9 => (fun v7 z7 => LRow (fun b => (Value.slice B l.length d).ownBlock = some b) w u.2 v7 z7) (vs9 7) y9,
  fun _ _ => True,
  fun vs9 y9 => (fun v7 z7 => LRow (fun b => (Value.slice B l.length d).ownBlock = some b) w u.2 v7 z7) (vs9 9) y9]
    [(0,55),(1,56),(2,57),(3,58),(4,59),(5,54),(6,60),(7,61),(9,16)] (by kernel_rfl) (by kernel_rfl) (by kernel_rfl) (by kernel_rfl)
    (fun _ => Below.refl _ _) ⟨fun _ => World.grownBy.refl _ _,trivial⟩
    ⟨zU,
  zU,
  zU,
  ⟨.inr (zS (fun v z => LRow (fun b => (Value.slice B l.length d).ownBlock = some b) w nw v z) (fun _ _ _ h9 hR => h9.up hR)),⟨.inr (.inr (zS (fun v z => LRow (fun b => (Value.slice B l.length d).ownBlock = some b) w nw v z) (fun _ _ _ h9 hR => h9.st hR))),trivial⟩⟩,
  ⟨.inr (zS (fun v7 z7 => LTup F (fun b => (Value.slice B l.length d).ownBlock = some b) w u v7 z7) (fun _ _ _ h9 hR => h9.up HF.out hR)),⟨.inr (.inr (zS (fun v7 z7 => LTup F (fun b => (Value.slice B l.length d).ownBlock = some b) w u v7 z7) (fun _ _ _ h9 hR => h9.st HF.out hR))),trivial⟩⟩,
  ⟨.inr (zS (fun v7 z7 => LTup F (fun b => (Value.slice B l.length d).ownBlock = some b) w u v7 z7) (fun _ _ _ h9 hR => h9.up HF.out hR)),⟨.inr (.inr (zS (fun v7 z7 => LTup F (fun b => (Value.slice B l.length d).ownBlock = some b) w u v7 z7) (fun _ _ _ h9 hR => h9.st HF.out hR))),trivial⟩⟩,
  ⟨.inr (zS (fun v7 z7 => ANet F (fun b => (Value.slice B l.length d).ownBlock = some b) w (u.1,0) v7 z7) (fun _ _ _ h9 hR => h9.up HF.out hR)),⟨.inr (.inr (zS (fun v7 z7 => ANet F (fun b => (Value.slice B l.length d).ownBlock = some b) w (u.1,0) v7 z7) (fun _ _ _ h9 hR => h9.st HF.out hR))),trivial⟩⟩,
  ⟨.inr (zS (fun v7 z7 => LRow (fun b => (Value.slice B l.length d).ownBlock = some b) w u.2 v7 z7) (fun _ _ _ h9 hR => h9.up hR)),⟨.inr (.inr (zS (fun v7 z7 => LRow (fun b => (Value.slice B l.length d).ownBlock = some b) w u.2 v7 z7) (fun _ _ _ h9 hR => h9.st hR))),trivial⟩⟩,
  ⟨.inr zK,⟨.inr (.inl rfl),trivial⟩⟩,
  ⟨.inr (zS (fun v7 z7 => LRow (fun b => (Value.slice B l.length d).ownBlock = some b) w u.2 v7 z7) (fun _ _ _ h9 hR => h9.up hR)),⟨.inr (.inr (zS (fun v7 z7 => LRow (fun b => (Value.slice B l.length d).ownBlock = some b) w u.2 v7 z7) (fun _ _ _ h9 hR => h9.st hR))),trivial⟩⟩,trivial⟩ ⟨zL,
  zL,
  zL,
  fun _ _ _ h _ v => (by simpa only [<- h] using v),
  fun _ _ _ h _ v => (by simpa only [<- h] using v),
  fun _ _ _ h _ v => (by simpa only [<- h] using v),
  fun _ _ _ h _ v => (by simpa only [<- h] using v),
  fun _ _ _ h _ v => (by simpa only [<- h] using v),
  fun _ _ _ _ _ _ => trivial,
  fun _ _ _ h _ v => (by simpa only [<- h] using v),trivial⟩ (⟨fun _ => K10.out.up HF.out (z02 (Below.refl _ _) 1),(fun h => by cases h),z09 K10.out.ks.bel (z02 (Below.refl _ _) 1),Kept.drew _ _ 1⟩) ⟨?_,?_,?_,?_,?_,?_,?_,?_,?_,?_,trivial⟩ ?_
   ·
    intro vals xw f hf1 hf2 hf3 hI hF; have k8 : f 8 = false:=hf3 8 (by kernel_rfl); clear hf2 hf3; dsimp only [z03,bare]; simp only [z01,Act.put,zQ]; have hv9:=(hI.1 k8).ks.var; have y0:=(z00 hv9 0).1; have y1:=(z00 hv9 1).1; have y2:=(z00 hv9 2).1
    go_wp2
    exact zX hI rfl
   iterate 2
    ·
     rintro vals xw f hf1 - - hI hF; dsimp only [z03,bare]; simp only [z01,Act.put,zQ]
     go_wp2
     exact zX hI rfl
   ·
    intro vals xw f hf1 hf2 hf3 hI hF; have k8 : f 8 = false:=hf3 8 (by kernel_rfl); clear hf2 hf3; simp only [z05,zF,zR,and_true] at hF; have e57:=hF; dsimp only [z03,bare]; simp only [z01,Act.put,zQ]; simp only [e57]; have HI:=zH hI; have HK:=zH (hI.1 k8); have HC:=zH (HTURN.out xw hI.2.2.2); clear hI
    go_wp2_with fail
    refine HC.out.mono ?_; rintro e wx ⟨B9,d9,rfl,h5,h6,h4⟩; have H4:=zH h4; have H6:=zH h6; clear h4 h6 HC
    go_wp2
    refine ⟨rfl,⟨B9,d9,rfl,h5,H6.out.mono ?_⟩,⟨zN rfl,fun _ => H4.out⟩,krI_up (m:=(u.1,(0 : Int))) HF.out HI.out H4.out⟩; intro b hb; exact ⟨by have:=lt_of_block HK.out.ks.res; have:=hb.1; omega,hb.2.1,fun e => by have:=(HK.out.own.lt b e).2; have:=hb.1; omega⟩
   ·
    intro vals xw f hf1 hf2 hf3 hI hF; have k8 : f 8 = false:=hf3 8 (by kernel_rfl); clear hf2 hf3; simp only [z05,zF,zR,and_true] at hF; obtain ⟨e55,e56,B5,d5,e58,hc5,hr5⟩:=hF; dsimp only [z03,bare]; simp only [z01,Act.put,zQ]; simp only [e55,e56,e58]; have HI:=zH hI; have HK:=zH (hI.1 k8); have hsz9:=hI.2.2.1.size; have HC:=zH (show Calls _ _ _ _ (RetKL _ xw (run opsR (sumP tl nw 1) g.1)) from l7Add_any (G2 F w xw (fun b => (Value.slice B l.length d).ownBlock = some b)) A3 c3 g.1 1 X7 B5 tc d5 tl nw xw HK.out.ks.row (KS2.lt HK.out.ks.bel HF.out) HK.out.ks.nil HGB.out.1 z2d.one (HT10.out.kept HI.out.2.2.2).rd hr5.rd HTM.out HNM.out (by rw [HTLL.out,HNL.out]) (by rw [HTLL.out]; omega)); rw [<- HU.out] at HC; clear hI
    go_wp2_with fail
    refine HC.out.mono ?_; rintro e wx ⟨A9,c9,B9,d9,rfl,h2,h3,h5,h6,h7,h4⟩; have H3:=zH h3; have H4:=zH h4; have H6:=zH h6; clear h3 h4 h6 h7 HC
    go_wp2
    refine ⟨rfl,⟨A9,c9,B9,d9,rfl,h2,H3.out.mono ?_,Nat.le_trans hsz9 H4.out.size,h5,H6.out.mono ?_⟩,⟨zN rfl,fun _ => H4.out⟩,krI_up (m:=(u.1,(0 : Int))) HF.out HI.out H4.out⟩
    ·
     intro b hb
     rcases hb with (h9 | h9) | h9
     · exact .inl h9
     · exact .inr ⟨h9.1,Nat.lt_of_lt_of_le h9.2.1 H4.out.size,h9.2.2⟩
     · exact .inr ⟨by have:=lt_of_block HK.out.ks.res; omega,h9.2,fun e => by have:=(HK.out.own.lt b e).2; omega⟩
    ·
     intro b hb; exact ⟨by have:=lt_of_block HK.out.ks.res; omega,hb.2,fun e => by have:=(HK.out.own.lt b e).2; omega⟩
   ·
    rintro vals xw f hf1 - - hI hF; simp only [z05,zF,zR,and_true] at hF; obtain ⟨A9,c9,B9,d9,e59,h2,h3,h4,h5,h6⟩:=hF; dsimp only [z03,bare]; simp only [z01,Act.put,zQ]; simp only [e59]
    go_wp2
    exact ⟨rfl,⟨A9,c9,B9,d9,rfl,h2,h3,h4,h5,h6⟩,⟨zN rfl,fun _ => Below.refl _ _⟩,hI⟩
   ·
    rintro vals xw f hf1 - - hI hF; simp only [z05,zF,zR,and_true] at hF; obtain ⟨A9,c9,B9,d9,e54,h2,h3,h4,h5,h6⟩:=hF; dsimp only [z03,bare]; simp only [z01,Act.put,zQ]; simp only [e54]
    go_wp2
    exact ⟨rfl,⟨A9,c9,rfl,h2,h3,h4⟩,⟨zN rfl,fun _ => Below.refl _ _⟩,hI⟩
   ·
    rintro vals xw f hf1 - - hI hF; simp only [z05,zF,zR,and_true] at hF; obtain ⟨A9,c9,B9,d9,e54,h2,h3,h4,h5,h6⟩:=hF; dsimp only [z03,bare]; simp only [z01,Act.put,zQ]; simp only [e54]
    go_wp2
    exact ⟨rfl,⟨B9,d9,rfl,h5,h6⟩,⟨zN rfl,fun _ => Below.refl _ _⟩,hI⟩
   ·
    rintro vals xw f hf1 - - hI hF; simp only [z05,zF,zR,and_true] at hF; obtain ⟨A9,c9,e60,h2,h3,h4⟩:=hF; dsimp only [z03,bare]; simp only [z01,Act.put,zQ]; simp only [e60]; have HI:=zH hI; have HK:=zH (hI.1 hf1); have hv9:=HK.out.ks.var; have y0:=(z00 hv9 0).1; have y1:=(z00 hv9 1).1; have y2:=(z00 hv9 2).1; have g0:=(z00 hv9 0).2; have g1:=(z00 hv9 1).2; have g2:=(z00 hv9 2).2; have H3:=zH h3; clear hI hv9 h3 h4
    go_wp2
    have hset:=HK.out.set (k':=u.1) (c':=c9) HF.out H3.out h2; have hgr : xw.grownBy (st3 xw w.heap.size (.int .i64 u.1.1.ins) (.slice A9 u.1.1.gs.length c9) (.bool u.1.2)) (some w.heap.size):=z06 (z06 (z06 (World.grownBy.refl _ _) _ _) _ _) _ _; exact ⟨rfl,trivial,⟨fun _ => hgr,fun h9 => absurd rfl h9⟩,fun h => absurd ((z0h f 8).symm.trans h) (by simp),fun _ => ⟨A9,c9,hset⟩,z0i HI.out.2.2.1 (Nat.le_refl _) _ _ _,HI.out.2.2.2.grown hgr⟩
   ·
    rintro vals xw f hf1 - - hI hF; simp only [z05,zF,zR,and_true] at hF; obtain ⟨B9,d9,e61,h5,h6⟩:=hF; dsimp only [z03,bare]; simp only [z01,Act.put,zQ]; simp only [e61]
    go_wp2
    exact ⟨rfl,⟨B9,d9,rfl,h5,h6⟩,⟨zN rfl,fun _ => Below.refl _ _⟩,hI⟩
   ·
    intro vals xw f hall hI hF; rw [show List.range _ = [0,1,2,3,4,5,6,7,8,9] from rfl] at hF; simp only [says,zF,zR,and_true] at hF; obtain ⟨A12,c12,hk2⟩:=hI.2.1 (hall 8 (by decide)); obtain ⟨B12,d12,e9,hc9,hr9⟩ : LRow (fun b => (Value.slice B l.length d).ownBlock = some b) w u.2 (vals 9) xw:=by obtain ⟨_,_,_,_,_,_,_,_,_,e9⟩:=hF; exact e9
    have K12:=zH hk2; have HR12:=zH hr9; have HC12:=zH hc9; have HKP:=zH hI.2.2.2; clear hF hk2 hI hr9 hc9; simp only [z01,Act.put,zQ]; simp only [e9]; clear e9; obtain ⟨w11,hw11⟩ : ∃ w11,w11 = xw:=⟨_,rfl⟩; subst hw11; have HT11:=zH (HT10.out.kept HKP.out); have HW11:=zH (HW10.out.kept HKP.out); clear HKP; obtain ⟨adt,rfl,-,-⟩:=HT11.out.rd.at_int (k:=0) (by rw [HTLL.out]; omega); obtain ⟨adu,rfl,-,-⟩:=HR12.out.rd.at_int (k:=0) (by rw [HUB.out.2.2]; omega); obtain ⟨tn,htn⟩ : ∃ tn,tn = tl.take xs.length:=⟨_,rfl⟩; obtain ⟨un,hun⟩ : ∃ un,un = u.2.take xs.length:=⟨_,rfl⟩; have HTN:=zH htn; have HUN:=zH hun; have HTNL : Hid (tn.length = xs.length):=zH (by rw [htn,List.length_take,HTLL.out]; omega); have HUNL : Hid (un.length = xs.length):=zH (by rw [hun,List.length_take,HUB.out.2.2]; omega); have HTNM : Hid (∀ m ∈ tn,RB m):=zH fun m hm => HTM.out m (List.mem_of_mem_take (by rw [htn] at hm; exact hm))
    have HUNM : Hid (∀ m ∈ un,RB m):=zH fun m hm => HUB.out.2.1 m (List.mem_of_mem_take (by rw [hun] at hm; exact hm))
    have htc : xs.length <= tc:=by have:=HTC.out; have:=HTLL.out; omega
    have htc2 : (xs.length : Int) <= tc:=by omega
    have hud : xs.length <= d12:=by have:=HC12.out; have:=HUB.out.2.2; omega
    have hud2 : (xs.length : Int) <= d12:=by omega
    obtain ⟨v,hv⟩ : ∃ v,v = run opsR (z0v (muxP g.2) tn un) u.1:=⟨_,rfl⟩; have HV:=zH hv; have HVB : Hid (NB v.1.1 /\ (∀ m ∈ v.2,RB m) /\ v.2.length = xs.length):=zH (by rw [hv]; exact bd_runR (Φ:=fun l9 => (∀ m ∈ l9,RB m) /\ l9.length = xs.length) _ _ (each_bd (fun x y Ψ hx hy h => mux_bd z2d HGB.out.2 hx hy h) _ _ _ HTNM.out HUNM.out fun l9 h9 h8 => ⟨h9,(h8 (by rw [HTNL.out,HUNL.out])).trans HTNL.out⟩) HUB.out.1); have HST2 : Hid (run opsR (divP xs wd a l v.2) v.1 = T):=zH (by rw [HLQ.out,HV.out,HUN.out,HTN.out,HU.out,HG.out]; exact HST.out); clear htn hun hv HST
    go_wp2
    refine z0a [[],[],[],[],[(2,65),(3,66)],[],[],[(5,68),(6,69)],[(0,63),(1,64),(4,67),(7,70)],[(8,71)],[(9,62)],[(9,62)],[(10,72)],[(11,73)]]
     (fun x9 y9 => Below x9.heap.size x9 y9)
     [(12,fun x9 y9 => x9.grownBy y9 (some w.heap.size))]
     (fun f9 x9 => (f9 12 = false -> AddI F w x9 u.1 A12 c12 B d l) /\ (f9 12 = true -> ∃ A9 c9,AddI F w x9 (v.1,(0 : Int)).1 A9 c9 B d l) /\ Below w.heap.size w x9 /\ Kept w.heap.size w11 x9)
     [zF 0 (.agg #[.int .i64 u.1.1.ins,.slice A12 u.1.1.gs.length c12,.bool u.1.2]),
  zF 1 (.int .i64 g.2),
  zF 2 (.slice (some adt) tl.length tc),
  zF 3 (.int .i64 (xs.length : Int)),
  zF 4 (.slice (some adt) xs.length tc),
  zF 5 (.slice (some adu) u.2.length d12),
  zF 6 (.int .i64 (xs.length : Int)),
  zF 7 (.slice (some adu) xs.length d12),
  fun vs9 y9 => (fun v7 z7 => LTup F (fun b => (Value.slice B l.length d).ownBlock = some b) w v v7 z7) (vs9 8) y9,
  fun vs9 y9 => (fun v7 z7 => LTup F (fun b => (Value.slice B l.length d).ownBlock = some b) w v v7 z7) (vs9 9) y9,
  fun vs9 y9 => (fun v7 z7 => ANet F (fun b => (Value.slice B l.length d).ownBlock = some b) w (v.1,0) v7 z7) (vs9 10) y9,
  fun vs9 y9 => (fun v7 z7 => LRow (fun b => (Value.slice B l.length d).ownBlock = some b) w v.2 v7 z7) (vs9 11) y9,
  fun _ _ => True,
  fun vs9 y9 => (fun v7 z7 => LRow (fun b => (Value.slice B l.length d).ownBlock = some b) w v.2 v7 z7) (vs9 13) y9]
     [(0,63),(1,64),(2,65),(3,66),(4,67),(5,68),(6,69),(7,70),(8,71),(9,62),(10,72),(11,73),(13,10)] (by kernel_rfl) (by kernel_rfl) (by kernel_rfl) (by kernel_rfl)
     (fun _ => Below.refl _ _) ⟨fun _ => World.grownBy.refl _ _,trivial⟩
     ⟨zU,
  zU,
  zU,
  zU,
  zU,
  zU,
  zU,
  zU,
  ⟨.inr (zS (fun v7 z7 => LTup F (fun b => (Value.slice B l.length d).ownBlock = some b) w v v7 z7) (fun _ _ _ h9 hR => h9.up HF.out hR)),⟨.inr (.inr (zS (fun v7 z7 => LTup F (fun b => (Value.slice B l.length d).ownBlock = some b) w v v7 z7) (fun _ _ _ h9 hR => h9.st HF.out hR))),trivial⟩⟩,
  ⟨.inr (zS (fun v7 z7 => LTup F (fun b => (Value.slice B l.length d).ownBlock = some b) w v v7 z7) (fun _ _ _ h9 hR => h9.up HF.out hR)),⟨.inr (.inr (zS (fun v7 z7 => LTup F (fun b => (Value.slice B l.length d).ownBlock = some b) w v v7 z7) (fun _ _ _ h9 hR => h9.st HF.out hR))),trivial⟩⟩,
  ⟨.inr (zS (fun v7 z7 => ANet F (fun b => (Value.slice B l.length d).ownBlock = some b) w (v.1,0) v7 z7) (fun _ _ _ h9 hR => h9.up HF.out hR)),⟨.inr (.inr (zS (fun v7 z7 => ANet F (fun b => (Value.slice B l.length d).ownBlock = some b) w (v.1,0) v7 z7) (fun _ _ _ h9 hR => h9.st HF.out hR))),trivial⟩⟩,
  ⟨.inr (zS (fun v7 z7 => LRow (fun b => (Value.slice B l.length d).ownBlock = some b) w v.2 v7 z7) (fun _ _ _ h9 hR => h9.up hR)),⟨.inr (.inr (zS (fun v7 z7 => LRow (fun b => (Value.slice B l.length d).ownBlock = some b) w v.2 v7 z7) (fun _ _ _ h9 hR => h9.st hR))),trivial⟩⟩,
  ⟨.inr zK,⟨.inr (.inl rfl),trivial⟩⟩,
  ⟨.inr (zS (fun v7 z7 => LRow (fun b => (Value.slice B l.length d).ownBlock = some b) w v.2 v7 z7) (fun _ _ _ h9 hR => h9.up hR)),⟨.inr (.inr (zS (fun v7 z7 => LRow (fun b => (Value.slice B l.length d).ownBlock = some b) w v.2 v7 z7) (fun _ _ _ h9 hR => h9.st hR))),trivial⟩⟩,trivial⟩ ⟨zL,
  zL,
  zL,
  zL,
  zL,
  zL,
  zL,
  zL,
  fun _ _ _ h _ v => (by simpa only [<- h] using v),
  fun _ _ _ h _ v => (by simpa only [<- h] using v),
  fun _ _ _ h _ v => (by simpa only [<- h] using v),
  fun _ _ _ h _ v => (by simpa only [<- h] using v),
  fun _ _ _ _ _ _ => trivial,
  fun _ _ _ h _ v => (by simpa only [<- h] using v),trivial⟩ (⟨fun _ => K12.out.up HF.out (z02 (Below.refl _ _) 1),(fun h => by cases h),z09 K12.out.ks.bel (z02 (Below.refl _ _) 1),Kept.drew _ _ 1⟩) ⟨?_,?_,?_,?_,?_,?_,?_,?_,?_,?_,?_,?_,?_,?_,trivial⟩ ?_
    ·
     intro vals xw f hf1 hf2 hf3 hI hF; have k12 : f 12 = false:=hf3 12 (by kernel_rfl); clear hf2 hf3; dsimp only [z03,bare]; simp only [z01,Act.put,zQ]; have hv9:=(hI.1 k12).ks.var; have y0:=(z00 hv9 0).1; have y1:=(z00 hv9 1).1; have y2:=(z00 hv9 2).1
     go_wp2
     exact zX hI rfl
    iterate 3
     ·
      rintro vals xw f hf1 - - hI hF; dsimp only [z03,bare]; simp only [z01,Act.put,zQ]
      go_wp2
      exact zX hI rfl
    ·
     rintro vals xw f hf1 - - hI hF; simp only [z05,zF,zR,and_true] at hF; obtain ⟨e65,e66⟩:=hF; dsimp only [z03,bare]; simp only [z01,Act.put,zQ]; simp only [e65,e66]
     go_wp2
     exact zX hI rfl
    iterate 2
     ·
      rintro vals xw f hf1 - - hI hF; dsimp only [z03,bare]; simp only [z01,Act.put,zQ]
      go_wp2
      exact zX hI rfl
    ·
     rintro vals xw f hf1 - - hI hF; simp only [z05,zF,zR,and_true] at hF; obtain ⟨e68,e69⟩:=hF; dsimp only [z03,bare]; simp only [z01,Act.put,zQ]; simp only [e68,e69]
     go_wp2
     exact zX hI rfl
    ·
     intro vals xw f hf1 hf2 hf3 hI hF; have k12 : f 12 = false:=hf3 12 (by kernel_rfl); clear hf2 hf3; simp only [z05,zF,zR,and_true] at hF; obtain ⟨e63,e64,e67,e70⟩:=hF; dsimp only [z03,bare]; simp only [z01,Act.put,zQ]; simp only [e63,e64,e67,e70]; have HI:=zH hI; have HK:=zH (hI.1 k12); have hsz9:=hI.2.2.1.size; have HC:=zH (show Calls _ _ #[.agg #[.int .i64 u.1.1.ins,.slice A12 u.1.1.gs.length c12,.bool u.1.2],.int .i64 g.2,.slice (some adt) xs.length tc,.slice (some adu) xs.length d12] _ (RetKL _ xw (run opsR (z0v (muxP g.2) tn un) u.1)) from (by have h9:=l7Ifs_any (G2 F w xw (fun b => (Value.slice B l.length d).ownBlock = some b)) A12 c12 u.1 g.2 (some adt) (some adu) tc d12 tn un xw HK.out.ks.row (KS2.lt HK.out.ks.bel HF.out) HK.out.ks.nil HUB.out.1 HGB.out.2 (by rw [HTN.out]; exact (HT11.out.kept HI.out.2.2.2).rd.take _) (by rw [HUN.out]; exact (HR12.out.kept HI.out.2.2.2).rd.take _) HTNM.out HUNM.out (by rw [HTNL.out,HUNL.out]) (by rw [HTNL.out]; omega); rw [HTNL.out,HUNL.out] at h9; exact h9)); rw [<- HV.out] at HC; clear hI
     go_wp2_with fail
     refine HC.out.mono ?_; rintro e wx ⟨A9,c9,B9,d9,rfl,h2,h3,h5,h6,h7,h4⟩; have H3:=zH h3; have H4:=zH h4; have H6:=zH h6; clear h3 h4 h6 h7 HC
     go_wp2
     refine ⟨rfl,⟨A9,c9,B9,d9,rfl,h2,H3.out.mono ?_,Nat.le_trans hsz9 H4.out.size,h5,H6.out.mono ?_⟩,⟨zN rfl,fun _ => H4.out⟩,krI_up (m:=(v.1,(0 : Int))) HF.out HI.out H4.out⟩
     ·
      intro b hb
      rcases hb with (h9 | h9) | h9
      · exact .inl h9
      · exact .inr ⟨h9.1,Nat.lt_of_lt_of_le h9.2.1 H4.out.size,h9.2.2⟩
      · exact .inr ⟨by have:=lt_of_block HK.out.ks.res; omega,h9.2,fun e => by have:=(HK.out.own.lt b e).2; omega⟩
     ·
      intro b hb; exact ⟨by have:=lt_of_block HK.out.ks.res; omega,hb.2,fun e => by have:=(HK.out.own.lt b e).2; omega⟩
    ·
     rintro vals xw f hf1 - - hI hF; simp only [z05,zF,zR,and_true] at hF; obtain ⟨A9,c9,B9,d9,e71,h2,h3,h4,h5,h6⟩:=hF; dsimp only [z03,bare]; simp only [z01,Act.put,zQ]; simp only [e71]
     go_wp2
     exact ⟨rfl,⟨A9,c9,B9,d9,rfl,h2,h3,h4,h5,h6⟩,⟨zN rfl,fun _ => Below.refl _ _⟩,hI⟩
    ·
     rintro vals xw f hf1 - - hI hF; simp only [z05,zF,zR,and_true] at hF; obtain ⟨A9,c9,B9,d9,e62,h2,h3,h4,h5,h6⟩:=hF; dsimp only [z03,bare]; simp only [z01,Act.put,zQ]; simp only [e62]
     go_wp2
     exact ⟨rfl,⟨A9,c9,rfl,h2,h3,h4⟩,⟨zN rfl,fun _ => Below.refl _ _⟩,hI⟩
    ·
     rintro vals xw f hf1 - - hI hF; simp only [z05,zF,zR,and_true] at hF; obtain ⟨A9,c9,B9,d9,e62,h2,h3,h4,h5,h6⟩:=hF; dsimp only [z03,bare]; simp only [z01,Act.put,zQ]; simp only [e62]
     go_wp2
     exact ⟨rfl,⟨B9,d9,rfl,h5,h6⟩,⟨zN rfl,fun _ => Below.refl _ _⟩,hI⟩
    ·
     rintro vals xw f hf1 - - hI hF; simp only [z05,zF,zR,and_true] at hF; obtain ⟨A9,c9,e72,h2,h3,h4⟩:=hF; dsimp only [z03,bare]; simp only [z01,Act.put,zQ]; simp only [e72]; have HI:=zH hI; have HK:=zH (hI.1 hf1); have hv9:=HK.out.ks.var; have y0:=(z00 hv9 0).1; have y1:=(z00 hv9 1).1; have y2:=(z00 hv9 2).1; have g0:=(z00 hv9 0).2; have g1:=(z00 hv9 1).2; have g2:=(z00 hv9 2).2; have H3:=zH h3; clear hI hv9 h3 h4
     go_wp2
     have hset:=HK.out.set (k':=v.1) (c':=c9) HF.out H3.out h2; have hgr : xw.grownBy (st3 xw w.heap.size (.int .i64 v.1.1.ins) (.slice A9 v.1.1.gs.length c9) (.bool v.1.2)) (some w.heap.size):=z06 (z06 (z06 (World.grownBy.refl _ _) _ _) _ _) _ _; exact ⟨rfl,trivial,⟨fun _ => hgr,fun h9 => absurd rfl h9⟩,fun h => absurd ((z0h f 12).symm.trans h) (by simp),fun _ => ⟨A9,c9,hset⟩,z0i HI.out.2.2.1 (Nat.le_refl _) _ _ _,HI.out.2.2.2.grown hgr⟩
    ·
     rintro vals xw f hf1 - - hI hF; simp only [z05,zF,zR,and_true] at hF; obtain ⟨B9,d9,e73,h5,h6⟩:=hF; dsimp only [z03,bare]; simp only [z01,Act.put,zQ]; simp only [e73]
     go_wp2
     exact ⟨rfl,⟨B9,d9,rfl,h5,h6⟩,⟨zN rfl,fun _ => Below.refl _ _⟩,hI⟩
    ·
     intro vals xw f hall hI hF; rw [show List.range _ = [0,1,2,3,4,5,6,7,8,9,10,11,12,13] from rfl] at hF; simp only [says,zF,zR,and_true] at hF; obtain ⟨A13,c13,hk2⟩:=hI.2.1 (hall 12 (by decide)); obtain ⟨B13,d13,e9,hc9,hr9⟩ : LRow (fun b => (Value.slice B l.length d).ownBlock = some b) w v.2 (vals 13) xw:=by obtain ⟨_,_,_,_,_,_,_,_,_,_,_,_,_,e9⟩:=hF; exact e9
     have K13:=zH hk2; have HR13:=zH hr9; have HC13:=zH hc9; have HKP:=zH hI.2.2.2; clear hF hk2 hI hr9 hc9; simp only [z01,Act.put,zQ]; simp only [e9]; clear e9; have hB9:=HBB.out; clear HBB; subst hB9
     go_wp2
     go_roundw
     case rel => exact ⟨a,(a : Int) - 1,v.1,l,v.2,A13,B13,c13,d13,by omega,rfl,by go_num,rfl,HLL.out,HVB.out.2.2,HC13.out,HLM.out,HVB.out.2.1,K13.out,HR13.out,HW11.out.kept HKP.out,HVB.out.1,HST2⟩
     case measure => simp [intOf]
end Go.Proofs.YtemdmlmcidfodaaGreatDoor
