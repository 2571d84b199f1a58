/- The program's quotients. -/
import Derived.Test.YtemdmlmcidfodaaGreatDoorJFnBitsBin0
import Derived.Test.YtemdmlmcidfodaaGreatDoorJFnBitsBin20
import Derived.Test.YtemdmlmcidfodaaGreatDoorJFnBitsBin23
namespace Go.Proofs.YtemdmlmcidfodaaGreatDoor
open Go Go.RowKit
def PX (w : World) (g b : Nat) : Prop:=PL w b /\ b ≠ g
abbrev Lay.Px {α : Type} (L : Lay α) (w : World) (g : Nat) (A : Option Addr) (xs : List α) : Prop:=L.Sl w (PX w g) A xs
theorem Lay.Sl.pxpl {α : Type} {L : Lay α} {w : World} {g : Nat} {A : Option Addr} {xs : List α} (h : L.Px w g A xs) : L.Pl w A xs:=h.mono fun _ hb => hb.1
theorem Lay.Sl.pxB {α : Type} {L : Lay α} {lo g : Nat} {w w' : World} {A : Option Addr} {xs : List α} (h : L.Px w g A xs) (hb : BelB lo w w') : L.Px w' g A xs:=(h.keep fun _ hp => hb.blk hp.1).mono fun _ hp => ⟨hb.pl hp.1,hp.2⟩
theorem Lay.Sl.pxP {α : Type} {L : Lay α} {g : Nat} {w w' : World} {A : Option Addr} {xs : List α} (h : L.Px w g A xs) (hb : Below w.heap.size w w') : L.Px w' g A xs :=
 (h.keep fun b hp => hb.block b hp.1.lt).mono fun b ⟨⟨cs,fr,h1⟩,h2⟩ => ⟨⟨cs,fr,(hb.block b (lt_of_block h1)).trans h1⟩,h2⟩
theorem Lay.Sl.pxS {α : Type} {L : Lay α} {g k : Nat} {w : World} {A : Option Addr} {xs : List α} (h : L.Px w g A xs) (u : Value) : L.Px (w.setCell ⟨g,k,none⟩ u) g A xs :=
 (h.keep fun b hp => heap_setCell_other _ _ _ _ hp.2).mono fun b ⟨⟨cs,fr,h1⟩,h2⟩ => ⟨⟨cs,fr,(heap_setCell_other _ _ _ _ h2).trans h1⟩,h2⟩
theorem z0u.px {w : World} {base c g : Nat} {A : Option Addr} {xs ys : List Int} (h : z0u w base (.slice A xs.length c) ys) (hl : xs.length = ys.length) (hg : g < base) : Lay.int.Px w g A ys:=by
 rw [hl] at h
 rcases h.2 with ⟨e,h2⟩ | ⟨g',cap,cur,e,hb,hgg,_⟩
 · exact fun hn => by omega
 ·
  have h1:=h.pl.2
  injection e with e _ _
  subst e; exact fun hn => by
   obtain ⟨ad,e1,e2,e3⟩:=h1 hn
   injection e1 with e1; subst e1
   exact ⟨_,rfl,⟨e2,by show g' ≠ g; omega⟩,fun k x hk => by obtain ⟨vs,hv,hc⟩:=e3 k x hk; exact ⟨vs,hv,hc⟩⟩
theorem sg_lit1 (W : World) (m : Int) : z0u (W.alloc (.cells #[.int .i64 m] 110)) W.heap.size (.slice (some ⟨W.heap.size,0,none⟩) 1 1) [m]:=World.ownsRow_lit W #[.int .i64 m] 1 (Nat.le_refl _) (by unfold maxLen; omega) (by simp)
def RetLL (a0 a1 : Addr) (lo : Nat) (w : World) (q r : Nat) (res : BS × (List Int × List Int)) (e : Ending) (w' : World) : Prop :=
 ∃ A c A' c',e = .returned (.tuple #[.slice A res.2.1.length c,.slice A' res.2.2.length c']) /\ (res.2.1.length <= c /\ Lay.int.Pl w' A res.2.1 /\ ∀ m ∈ res.2.1,MB m) /\ (res.2.2.length <= c' /\ Lay.int.Pl w' A' res.2.2 /\ ∀ m ∈ res.2.2,MB m) /\ BelB lo w w' /\ Bd a0 a1 lo w' q r res.1
def DivI (a0 a1 : Addr) (lo : Nat) (W : World) (q r : Nat) (s s' : BS) (n k : Nat) (d d2 : List Int) (called done : Bool) (x : World) : Prop :=
 BelB lo W x /\ Bd a0 a1 lo x q r (if called = true then s' else s) /\ (done = false -> OwnN x W.heap.size W.heap.size n n (d ++ List.replicate (n - k) 0)) /\ (done = true -> OwnN x W.heap.size W.heap.size n n (d2 ++ List.replicate (n - (k + 1)) 0))
theorem DivI.up {a0 a1 : Addr} {lo : Nat} {W : World} {q r : Nat} {s s' : BS} {n k : Nat} {d d2 : List Int} {called done : Bool} {x x' : World} (h : DivI a0 a1 lo W q r s s' n k d d2 called done x) (hb : Below x.heap.size x x') : DivI a0 a1 lo W q r s s' n k d d2 called done x' :=
 ⟨h.1.trans (.of hb h.2.1.size),h.2.1.up hb,fun hd => z0e (h.2.2.1 hd) hb (Nat.le_refl _),fun hd => z0e (h.2.2.2 hd) hb (Nat.le_refl _)⟩
set_option maxRecDepth 100000 in
set_option maxHeartbeats 16000000 in
theorem bDivide_any (a0 a1 : Addr) (lo q r : Nat) (X Y : Option Addr) (cx cy : Nat) (xs ys : List Int) (s : BS) (w : World) (h : Bd a0 a1 lo w q r s) (hX : Lay.int.Pl w X xs) (hY : Lay.int.Pl w Y ys) (hxm : ∀ x ∈ xs,MB x) (hym : ∀ y ∈ ys,MB y) (hl : xs.length = ys.length) (h0 : 0 < xs.length) (hn : xs.length <= 8) :
  Calls Tryz.prog 83 #[.pointer (some ⟨q,0,none⟩),.slice X xs.length cx,.slice Y ys.length cy] w (RetLL a0 a1 lo w q r (run opsP (divP xs (ys ++ [-1]) xs.length (List.replicate xs.length (-1)) (List.replicate xs.length (-1))) s)):=by
 obtain ⟨i0,hi0,hz0,hz1,hz2⟩:=info_parts z1x; obtain ⟨rs,hrs⟩ : ∃ rs,rs = List.replicate xs.length (-1 : Int):=⟨_,rfl⟩; rw [<- hrs]; have HRL : Hid (rs.length = xs.length):=zH (by rw [hrs]; simp); have HRM : Hid (∀ m ∈ rs,MB m):=zH fun m hm => by rw [hrs] at hm; rw [List.eq_of_mem_replicate hm]; exact bok_mb.off
 obtain ⟨wd,hwd⟩ : ∃ wd,wd = ys ++ [(-1 : Int)]:=⟨_,rfl⟩; rw [<- hwd]; have HWD:=zH hwd; have HWL : Hid (wd.length = xs.length + 1):=zH (by rw [hwd,List.length_append,hl]; rfl); have HWM : Hid (∀ m ∈ wd,MB m):=zH fun m hm => by
  rw [hwd] at hm
  rcases List.mem_append.1 hm with hm | hm
  · exact hym m hm
  · rw [List.mem_singleton.1 hm]; exact bok_mb.off
 obtain ⟨nw,hnw⟩ : ∃ nw,nw = wd.map Neg.neg:=⟨_,rfl⟩; have HNW:=zH hnw; have HNL : Hid (nw.length = xs.length + 1):=zH (by rw [hnw,List.length_map]; exact HWL.out); have HNM : Hid (∀ m ∈ nw,MB m):=zH fun m hm => by
  rw [hnw] at hm; obtain ⟨z,hz,rfl⟩:=List.mem_map.1 hm; exact (HWM.out z hz).neg
 obtain ⟨T,hT⟩ : ∃ T,T = run opsP (divP xs wd xs.length rs rs) s:=⟨_,rfl⟩; rw [<- hT]; have HT:=zH hT; have HB:=zH h; have HX:=zH hX; have HY:=zH hY; have HXM:=zH hxm; have hlo:=h.size; have hly : ys.length <= 8:=by omega
 have HOF : Hid (∀ z,Calls Tryz.prog 109 #[.int .i64 (xs.length : Int)] z (RetOw rs z)):=zH fun z => by rw [hrs]; exact offs_any xs.length z (by omega)
 obtain ⟨e0,he0⟩ : ∃ e0 : Nat,e0 + 1 = xs.length:=⟨xs.length - 1,by omega⟩; have hat0 : (xs.length : Int) - 1 = (e0 : Int):=by omega
 have HE0:=zH he0; clear h hX hY hxm hym hT hl hrs hwd hnw he0
 go_enter Tryz.func83,Tryz.ntmps83
 go_wp2_with fail
 refine (HOF.out _).mono ?_; rintro e w1 ⟨A1,c1,rfl,ho1,hb1⟩; have HO1:=zH ho1; have HB1:=zH hb1; clear ho1 hb1
 go_wp2_with fail
 refine (HOF.out _).mono ?_; rintro e w2 ⟨A2,c2,rfl,ho2,hb2⟩; have HO2:=zH ho2; have HB2:=zH hb2; have HC:=zH (cloneS_any Y cy ys w2 ((HY.out.upP HB1.out).upP hb2).plrd (by omega)); clear ho2 hb2 HOF
 go_wp2_with fail
 refine HC.out.mono ?_; rintro e w3 ⟨A3,c3,rfl,ho3,hb3⟩; have hal : Below w3.heap.size w3 (w3.alloc (.cells #[.int .i64 (-1)] 110)):=(Below.refl _ _).alloc (Nat.le_refl _) _; have ho3a:=z0e ho3 hal (Nat.le_refl _); have hsz3 : w2.heap.size <= (w3.alloc (.cells #[.int .i64 (-1)] 110)).heap.size:=Nat.le_trans hb3.size hal.size; have HB3:=zH (z09 hb3 hal); clear hb3 hal HC ho3
 go_wp2_with (at_builtin; refine z0y (ys:=wd) (by rfl) (.tmp 23) (.tmp 24) (by rfl) (by rfl) (by rfl) ho3a (heap_alloc_new _ _) (by omega) hsz3 HWD.out ?_; intro A4 c4 w4 ho4 hg4)
 have hb4 : Below w2.heap.size w2 w4:=HB3.out.grown hg4 hsz3 fun g e => (ho3a.lt g e).1
 obtain ⟨g2,rfl,hg2a,hg2b⟩:=HO2.out.first (by rw [HRL.out]; exact h0)
 obtain ⟨nr,hnr⟩ : ∃ nr,nr = rs.length:=⟨_,rfl⟩; have HNS:=zH hnr; have HNR : Hid (nr = xs.length):=zH (by rw [hnr]; exact HRL.out); have HQ4 : Hid (OwnN w4 w1.heap.size g2 nr c2 rs):=zH (by rw [hnr]; exact z0e HO2.out hb4 (Nat.le_refl _)); have HR4 : Hid (Lay.int.Px w4 g2 A1 rs):=zH (by
  have h9 : z0u w4 w.heap.size (.slice A1 rs.length c1) rs:=z0e HO1.out (z09 HB2.out hb4) (Nat.le_refl _); obtain ⟨g1,e1,_,hg1⟩:=HO1.out.first (by rw [HRL.out]; exact h0)
  exact fun hn => by
   obtain ⟨ad,f1,f2,f3⟩:=h9.pl.2 hn; rw [e1] at f1; injection f1 with f1; subst f1; exact ⟨_,e1,⟨f2,by show g1 ≠ g2; omega⟩,f3⟩)
 have HW4 : Hid (Lay.int.Px w4 g2 A4 wd):=zH (ho4.px rfl hg2b); have HC4:=zH ho4.pl.1; have HC1:=zH HO1.out.pl.1; have HBB4 : Hid (BelB lo w w4):=zH (BelB.of (z09 HB1.out (z09 HB2.out hb4)) hlo); have HBD4 : Hid (Bd a0 a1 lo w4 q r s):=zH (HB.out.up (z09 HB1.out (z09 HB2.out hb4))); have hsz1 : w.heap.size <= w1.heap.size:=HB1.out.size; have hgw : w.heap.size <= g2:=Nat.le_trans HB1.out.size hg2a; clear ho3a hsz3 ho4 hg4 hb4 HO1 HO2 HB1 HB2 HB3 HB HY hg2a hg2b; rw [<- hnr]; clear hnr
 go_wp2
 go_loopw [8,10] (fun rv i wr => ∃ (a : Nat) (e : Int) (s1 : BS) (qv l : List Int) (A : Option Addr) (c : Nat),a <= xs.length /\ i = .int .i64 e /\ e + 1 = (a : Int) /\ rv = .slice A l.length c /\ l.length = xs.length /\ l.length <= c /\ qv.length = xs.length /\ (∀ m ∈ qv,MB m) /\ (∀ m ∈ l,MB m) /\ OwnN wr w.heap.size g2 nr c2 qv /\ Lay.int.Px wr g2 A l /\ Lay.int.Px wr g2 A4 wd /\ BelB lo w wr /\ Bd a0 a1 lo wr q r s1 /\ Hid (run opsP (divP xs wd a qv l) s1 = T)) (fun _ i _ => (intOf i + 1).toNat)
 case atStart => exact ⟨xs.length,(e0 : Int),s,rs,rs,A1,c1,Nat.le_refl _,rfl,by have:=HE0.out; omega,by rw [HNS.out],HRL.out,HC1.out,HRL.out,HRM.out,HRM.out,own_mono HQ4.out hsz1,HR4.out,HW4.out,HBB4.out,HBD4.out,zH (by rw [HT.out])⟩
 case round =>
  obtain ⟨a,e,s1,qv,l,A,c,ha,rfl,hea,rfl,hll,hlc,hql,hqm,hlm,hoq,hpr,hpw,hbb,hbd,hst⟩:=hrel; obtain ⟨wo,hwo⟩ : ∃ wo,wo = wr:=⟨_,rfl⟩; subst hwo; have HLL:=zH hll; have HLC:=zH hlc; have HQL:=zH hql; have HQM:=zH hqm; have HLM:=zH hlm; have HOQ:=zH hoq; have HPR:=zH hpr; have HPW:=zH hpw; have HBB:=zH hbb; have HBD:=zH hbd; have hlo2:=hbd.size; have HGO:=zH hoq.block.2.1; clear hll hlc hql hqm hlm hoq hpr hpw hbb hbd HQ4 HR4 HW4 HC1 HBB4 HBD4 HRM HT
  rcases a with _ | a
  ·
   obtain rfl : e = -1:=by omega
   have HT2:=zH (show T = (s1,(qv,l)) from hst.out.symm); clear hst hea
   go_wp2
   go_ret2
   rw [HT2.out]; have hq9:=HOQ.out.sg; exact ⟨some ⟨g2,0,none⟩,c2,A,c,(show Ending.returned (.tuple #[.slice (some ⟨g2,0,none⟩) nr c2,.slice A l.length c]) = Ending.returned (.tuple #[.slice (some ⟨g2,0,none⟩) qv.length c2,.slice A l.length c]) from by rw [HNR.out,HQL.out]),⟨hq9.pl.1,hq9.pl.2,HQM.out⟩,⟨HLC.out,HPR.out.pxpl,HLM.out⟩,HBB.out,HBD.out⟩
  ·
   obtain rfl : e = (a : Int):=by omega
   have hax : a < xs.length:=by omega
   have hax2 : (a : Int) < xs.length:=by omega
   have haq : a < nr:=by have:=HNR.out; omega
   have haq2 : (a : Int) < nr:=by omega
   obtain ⟨x,hx⟩ : ∃ x,xs[a]? = some x:=⟨_,List.getElem?_eq_getElem hax⟩; have hxg : xs[a] = x:=(List.getElem?_eq_some_iff.1 hx).2; have HXR:=zH (HXM.out x (List.mem_of_getElem? hx)); obtain ⟨adx,rfl,-,-⟩:=HX.out.at_int hax; have cx9 : wo.cell? (adx.add a) = some (.int .i64 x):=by
    obtain ⟨ad,e,_,hc⟩:=(HX.out.upB HBB.out).at_int hax
    injection e with e; subst e; rw [<- hxg]; exact hc
   have HST:=zH ((run_div (o:=opsP) xs wd a x qv l s1 hx).symm.trans hst.out); obtain ⟨tl,htl⟩ : ∃ tl,tl = x :: l:=⟨_,rfl⟩; rw [<- htl,<- HNW.out] at HST; have HTL:=zH htl; have HTLL : Hid (tl.length = xs.length + 1):=zH (by rw [htl,List.length_cons,HLL.out]); have HTM : Hid (∀ m ∈ tl,MB m):=zH fun m hm => by
    rw [htl] at hm
    rcases List.mem_cons.1 hm with rfl | hm
    · exact HXR.out
    · exact HLM.out m hm
   have hxm9 : -1000000 <= x /\ x <= 1000000:=HXR.out.2; obtain ⟨hx0,hx1⟩:=hxm9; have hlit:=sg_lit1 wo x; have hal : Below wo.heap.size wo (wo.alloc (.cells #[.int .i64 x] 110)):=(Below.refl _ _).alloc (Nat.le_refl _) _; have HAL:=zH hal; have hlr:=(HPR.out.pxP hal).pxpl.plrd; have hln:=sl_nonnil HPR.out; have hl9 : l.length <= 8:=by have:=HLL.out; omega
   clear hx hxg hst hea htl hal
   go_wp2_with (at_builtin; refine z2e (xs:=[x]) (zs:=tl) (by rfl) (.tmp 37) (.tmp 38) (by rfl) (by rfl) (by rfl) hlit hlr hln (by simp; omega) (by simp) HTL.out ?_; intro X5 d5 w5 ho5 hg5)
   have hb5 : Below wo.heap.size wo w5:=HAL.out.grown hg5 (by simp) fun g e => (hlit.lt g e).1
   have HT5:=zH ho5.pl; have HB5:=zH (BelB.of hb5 hlo2); have HPW:=zH (HPW.out.pxP hb5); have HOQ : Hid (OwnN w5 w.heap.size g2 nr c2 qv):=zH (z0e HOQ.out hb5 (Nat.le_refl _)); have HT5X : Hid (Lay.int.Px w5 g2 X5 tl):=zH (ho5.px rfl (HGO.out)); have HC:=zH (bLess_any a0 a1 lo q r X5 A4 d5 c4 tl wd s1 w5 (HBD.out.up hb5) HT5.out.2 HPW.out.pxpl HTM.out HWM.out (by rw [HTLL.out,HWL.out]) (by rw [HTLL.out]; omega)); obtain ⟨g,hg9⟩ : ∃ g,g = run opsP (lessP tl wd (-1)) s1:=⟨_,rfl⟩; rw [<- hg9] at HC HST; have HGB : Hid (NB g.1.n /\ MB g.2):=zH (by rw [hg9]; exact bd_runP _ _ (less_bd bok_mb _ _ _ _ bok_mb.off HTM.out HWM.out fun m hm => hm) HBD.out.nb); clear hg9 ho5 hg5 hb5 hlit hlr hln HAL cx9
   go_wp2_with fail
   refine HC.out.mono ?_; rintro e z6 ⟨rfl,hb6,hd6⟩; have HB6:=zH (HB5.out.trans hb6); have HD6:=zH hd6; have HPW:=zH (HPW.out.pxB hb6); have HT6:=zH (HT5X.out.pxB hb6); have HOQ:=zH (HOQ.out.upB hb6); obtain ⟨⟨v3,hold⟩,hfz⟩:=HOQ.out.cell haq; obtain ⟨hgm0,hgm1,hgm2⟩:=HGB.out.2; have HQP:=zH (HOQ.out.put (k:=a) (-g.2) rfl); obtain ⟨hq1,hq2,cs9,fr9,hq3⟩:=HOQ.out.block; have HS7:=zH (sig_set (k:=a) hq3 (Nat.le_trans hlo hgw) (.int .i64 (-g.2))); have HD7:=zH (HD6.out.upS HS7.out); have HPW7:=zH (HPW.out.pxS (k:=a) (.int .i64 (-g.2))); have HT7:=zH (HT6.out.pxS (k:=a) (.int .i64 (-g.2))); have HBW7 : Hid (BelB lo w (z6.setCell ⟨g2,a,none⟩ (.int .i64 (-g.2)))):=zH ((HBB.out.trans HB6.out).then ((below_at _ _ _ _).mono hgw) hlo); have HC7:=zH (negated_any a0 a1 lo q r A4 c4 wd g.1 _ HD7.out HPW7.out.pxpl HWM.out (by rw [HWL.out]; omega)); rw [<- HNW.out] at HC7; clear hb6 hd6 HC hq1 hq2 hq3 HPW HT6 HOQ HD6 HS7
   go_wp2_with fail
   refine HC7.out.mono ?_; clear hold hfz; generalize hz7 : z6.setCell ⟨g2,a,none⟩ (.int .i64 (-g.2)) = z7 at *; clear hz7; rintro e z8 ⟨A8,c8,rfl,hc8,hp8,hm8,hb8,hd8⟩; dsimp only at hc8 hp8 hm8 hd8; have HB8:=zH (HBW7.out.trans hb8); have HT8:=zH (HT7.out.pxB hb8); have HPW8:=zH (HPW7.out.pxB hb8); have HOQ8:=zH (HQP.out.upB hb8); have HC8:=zH (bSum_any a0 a1 lo q r 1 X5 A8 d5 c8 tl nw g.1 z8 hd8 bok_mb.one HT8.out.pxpl hp8 HTM.out HNM.out (by rw [HTLL.out,HNL.out]) (by rw [HTLL.out]; omega)); obtain ⟨u,hu⟩ : ∃ u,u = run opsP (sumP tl nw 1) g.1:=⟨_,rfl⟩; rw [<- hu] at HC8 HST; have HUB : Hid (NB u.1.n /\ (∀ m ∈ u.2,MB m) /\ u.2.length = xs.length + 1):=zH (by
    rw [hu]; exact bd_runP (Φ:=fun l9 => (∀ m ∈ l9,MB m) /\ l9.length = xs.length + 1) _ _ (sum_bd bok_mb _ _ _ _ bok_mb.one HTM.out HNM.out fun l9 h9 h8 => ⟨h9,(h8 (by rw [HTLL.out,HNL.out])).trans HTLL.out⟩) HGB.out.1)
   clear hu hc8 hp8 hm8 hb8 hd8 HC7 HQP HPW7 HT7 HBW7 HD7
   go_wp2_with fail
   refine HC8.out.mono ?_; rintro e z9 ⟨A9,c9,rfl,hc9,hp9,hm9,hb9,hd9⟩; have HB9:=zH (HB8.out.trans hb9); have HT9:=zH (HT8.out.pxB hb9); have HPW9:=zH (HPW8.out.pxB hb9); have HOQ9:=zH (HOQ8.out.upB hb9); have HD9:=zH hd9; have HP9:=zH hp9; have hlo9:=hd9.size; clear hc9 hp9 hm9 hb9 hd9 HC8 HB8 HT8 HPW8 HOQ8; obtain ⟨tn,htn⟩ : ∃ tn,tn = tl.take xs.length:=⟨_,rfl⟩; obtain ⟨un,hun⟩ : ∃ un,un = u.2.take xs.length:=⟨_,rfl⟩; rw [<- htn,<- hun] at HST; have HTN:=zH htn; have HUN:=zH hun; have HTNL : Hid (tn.length = xs.length):=zH (by rw [htn,List.length_take,HTLL.out]; omega); have HUNL : Hid (un.length = xs.length):=zH (by rw [hun,List.length_take,HUB.out.2.2]; omega); obtain ⟨C,hC⟩ : ∃ C,C = (fun z : BS × List Int => run opsP (divP xs wd a (qv.set a (-g.2)) z.2) z.1):=⟨_,rfl⟩; have HST : Hid (C (run opsP (z0v (muxP g.2) tn un) u.1) = T):=zH (by rw [hC]; exact HST.out); have HC:=zH hC; clear htn hun hC
   go_wp2_with (at_make; refine wpList_make_full z9 rfl _ _ 67 rfl z9.heap.size 110 i0 _ 1 Tryz.underlying67 hi0 hz0 hz1 .i64 .i64 _ _ xs.length rfl rfl rfl rfl (by rw [hz2]; omega) (by unfold maxLen; omega) (Nat.le_refl _) ?_; intro w10 hown hg10)
   have hb10 : Below z9.heap.size z9 w10:=(Below.refl _ _).grown hg10 (Nat.le_refl _) (by simp); have HO1:=zH (made_sg hown); have HB1:=zH (BelB.of hb10 hlo9); have HD1:=zH (HD9.out.up hb10); clear hown hg10 hb10
   go_loopw [59] (fun i z => ∃ (k : Nat) (s2 : BS) (d : List Int),k <= xs.length /\ i = .int .i64 k /\ d.length = k /\ (∀ m ∈ d,MB m) /\ BelB lo z9 z /\ Bd a0 a1 lo z q r s2 /\ OwnN z z9.heap.size z9.heap.size xs.length xs.length (d ++ List.replicate (xs.length - k) 0) /\ Hid (C (let g9:=run opsP (z0v (muxP g.2) (tn.drop k) (un.drop k)) s2; (g9.1,d ++ g9.2)) = T)) (fun i _ => xs.length - (intOf i).toNat)
   case atStart => exact ⟨0,u.1,[],Nat.zero_le _,rfl,rfl,(fun _ h => by cases h),HB1.out,HD1.out,HO1.out,HST⟩
   case round =>
    obtain ⟨k,s2,d,hk,rfl,hdk,hdm,hbz,hdz,hoz,hst⟩:=hrel; have HDM:=zH hdm; have HDK:=zH hdk; have HBZ:=zH hbz; have HDZ:=zH hdz; have HOZ:=zH hoz; clear hdm hdk hbz hdz hoz HO1 HB1 HD1 HST
    by_cases hltk : k < xs.length
    ·
     have hltk2 : (k : Int) < xs.length:=by omega
     have hkt : k < tl.length:=by rw [HTLL.out]; omega
     have hku : k < u.2.length:=by rw [HUB.out.2.2]; omega
     have hkt2 : (k : Int) < tl.length:=by omega
     have hku2 : (k : Int) < u.2.length:=by omega
     obtain ⟨tv,htv⟩ : ∃ tv,tv = tl[k]:=⟨_,rfl⟩; obtain ⟨uv,huv⟩ : ∃ uv,uv = u.2[k]:=⟨_,rfl⟩; have HTVM:=zH (show MB tv by rw [htv]; exact HTM.out _ (List.getElem_mem _)); have HUVM:=zH (show MB uv by rw [huv]; exact HUB.out.2.1 _ (List.getElem_mem _)); have htk : tn[k]? = some tv:=by rw [HTN.out,List.getElem?_take_of_lt hltk,List.getElem?_eq_getElem hkt,htv]
     have huk : un[k]? = some uv:=by rw [HUN.out,List.getElem?_take_of_lt hltk,List.getElem?_eq_getElem hku,huv]
     obtain ⟨adt,rfl,-,-⟩:=HT9.out.at_int hkt; obtain ⟨adu,rfl,-,-⟩:=HP9.out.at_int hku; have HRT : Hid (∀ z,BelB lo z9 z -> z.cell? (adt.add k) = some (.int .i64 tv)):=zH fun z hz => by
      obtain ⟨ad,e,_,hc⟩:=(HT9.out.pxB hz).at_int hkt
      injection e with e; subst e; rw [htv]; exact hc
     have HRU : Hid (∀ z,BelB lo z9 z -> z.cell? (adu.add k) = some (.int .i64 uv)):=zH fun z hz => by
      obtain ⟨ad,e,_,hc⟩:=(HP9.out.upB hz).at_int hku
      injection e with e; subst e; rw [huv]; exact hc
     obtain ⟨m,hm⟩ : ∃ m,m = run opsP (muxP g.2 tv uv) s2:=⟨_,rfl⟩; have HM:=zH hm; have HMB : Hid (MB m.2):=zH (by rw [hm]; exact (mux_mb HDZ.out.nb HGB.out.2.rb HTVM.out.rb HUVM.out.rb).2); obtain ⟨d2,hd2⟩ : ∃ d2,d2 = d ++ [m.2]:=⟨_,rfl⟩; have HD2:=zH hd2; have HST2 : Hid (C (let r9:=run opsP (z0v (muxP g.2) (tn.drop (k + 1)) (un.drop (k + 1))) m.1; (r9.1,d2 ++ r9.2)) = T):=zH (by
      rw [hd2,hm,<- hst.out]; exact (congrArg C (z1v (o:=opsP) (f:=muxP g.2) tn un k tv uv htk huk s2 d)).symm)
     clear htv huv htk huk hm hd2 hst
     go_wp2
     refine z0a [[],[],[],[],[],[],[(4,66),(5,67)],[(6,68)],[],[],[(8,70),(9,71)],[(10,72)],[(2,64),(3,65),(7,69),(11,73)],[(0,62),(1,63)],[(13,75),(12,74)]]
      (fun x9 y9 => Below x9.heap.size x9 y9)
      [(12,fun x9 y9 => BelB lo x9 y9),(14,fun x9 y9 => x9.grownBy y9 (some z9.heap.size))]
      (fun f9 x9 => DivI a0 a1 lo z9 q r s2 m.1 xs.length k d d2 (f9 12) (f9 14) x9)
      [zF 0 (.slice (some ⟨z9.heap.size,0,none⟩) xs.length xs.length),
  zF 1 (.int .i64 (k : Int)),
  zF 2 (.pointer (some ⟨q,0,none⟩)),
  zF 3 (.int .i64 g.2),
  zF 4 (.slice (some adt) tl.length d5),
  zF 5 (.int .i64 (k : Int)),
  zF 6 (.pointer (some (adt.add k))),
  zF 7 (.int .i64 tv),
  zF 8 (.slice (some adu) u.2.length c9),
  zF 9 (.int .i64 (k : Int)),
  zF 10 (.pointer (some (adu.add k))),
  zF 11 (.int .i64 uv),
  zF 12 (.int .i64 m.2),
  zF 13 (.pointer (some ⟨z9.heap.size,k,none⟩)),
  fun _ _ => True]
      [(0,62),(1,63),(2,64),(3,65),(4,66),(5,67),(6,68),(7,69),(8,70),(9,71),(10,72),(11,73),(12,74),(13,75)] (by kernel_rfl) (by kernel_rfl) (by kernel_rfl) (by kernel_rfl)
      (fun _ => Below.refl _ _) ⟨fun _ => BelB.refl _ _,fun _ => World.grownBy.refl _ _,trivial⟩
      ⟨⟨.inr zG,⟨.inr (.inr zG),.inr (.inr zG),trivial⟩⟩,
  ⟨.inr zG,⟨.inr (.inr zG),.inr (.inr zG),trivial⟩⟩,
  ⟨.inr zG,⟨.inr (.inr zG),.inr (.inr zG),trivial⟩⟩,
  ⟨.inr zG,⟨.inr (.inr zG),.inr (.inr zG),trivial⟩⟩,
  ⟨.inr zG,⟨.inr (.inr zG),.inr (.inr zG),trivial⟩⟩,
  ⟨.inr zG,⟨.inr (.inr zG),.inr (.inr zG),trivial⟩⟩,
  ⟨.inr zG,⟨.inr (.inr zG),.inr (.inr zG),trivial⟩⟩,
  ⟨.inr zG,⟨.inr (.inr zG),.inr (.inr zG),trivial⟩⟩,
  ⟨.inr zG,⟨.inr (.inr zG),.inr (.inr zG),trivial⟩⟩,
  ⟨.inr zG,⟨.inr (.inr zG),.inr (.inr zG),trivial⟩⟩,
  ⟨.inr zG,⟨.inr (.inr zG),.inr (.inr zG),trivial⟩⟩,
  ⟨.inr zG,⟨.inr (.inr zG),.inr (.inr zG),trivial⟩⟩,
  ⟨.inr zG,⟨.inr (.inl rfl),.inr (.inr zG),trivial⟩⟩,
  ⟨.inr zG,⟨.inr (.inr zG),.inr (.inr zG),trivial⟩⟩,
  ⟨.inr zK,⟨.inr (.inr zK),.inr (.inl rfl),trivial⟩⟩,trivial⟩ ⟨zL,
  zL,
  zL,
  zL,
  zL,
  zL,
  zL,
  zL,
  zL,
  zL,
  zL,
  zL,
  zL,
  zL,
  fun _ _ _ _ _ _ => trivial,trivial⟩ ((show DivI a0 a1 lo z9 q r s2 m.1 xs.length k d d2 false false _ from DivI.up ⟨HBZ.out,by rw [if_neg (by simp)]; exact HDZ.out,fun _ => HOZ.out,fun h => by cases h⟩ (z02 (Below.refl _ _) 1))) ⟨?_,?_,?_,?_,?_,?_,?_,?_,?_,?_,?_,?_,?_,?_,?_,trivial⟩ ?_
     iterate 6
      ·
       rintro vals xw f hf1 - - hI hF; dsimp only [z03,bare]; simp only [z01,Act.put,zQ]
       go_wp2
       exact zY hI rfl rfl
     ·
      rintro vals xw f hf1 - - hI hF; simp only [z05,zF,zR,and_true] at hF; obtain ⟨e1,e2⟩:=hF; dsimp only [z03,bare]; simp only [z01,Act.put,zQ]; simp only [e1,e2]
      go_wp2
      exact zY hI rfl rfl
     ·
      rintro vals xw f hf1 - - hI hF; simp only [z05,zF,zR,and_true] at hF; have e1:=hF; dsimp only [z03,bare]; simp only [z01,Act.put,zQ]; simp only [e1]; have c9:=HRT.out _ hI.1
      go_wp2
      exact zY hI rfl rfl
     iterate 2
      ·
       rintro vals xw f hf1 - - hI hF; dsimp only [z03,bare]; simp only [z01,Act.put,zQ]
       go_wp2
       exact zY hI rfl rfl
     ·
      rintro vals xw f hf1 - - hI hF; simp only [z05,zF,zR,and_true] at hF; obtain ⟨e1,e2⟩:=hF; dsimp only [z03,bare]; simp only [z01,Act.put,zQ]; simp only [e1,e2]
      go_wp2
      exact zY hI rfl rfl
     ·
      rintro vals xw f hf1 - - hI hF; simp only [z05,zF,zR,and_true] at hF; have e1:=hF; dsimp only [z03,bare]; simp only [z01,Act.put,zQ]; simp only [e1]; have c9:=HRU.out _ hI.1
      go_wp2
      exact zY hI rfl rfl
     ·
      intro vals xw f hf1 hf2 hf3 hI hF; have k14 : f 14 = false:=hf3 14 (by kernel_rfl); clear hf2 hf3; simp only [z05,zF,zR,and_true] at hF; obtain ⟨e1,e2,e3,e4⟩:=hF; dsimp only [z03,bare]; simp only [z01,Act.put,zQ]; simp only [e1,e2,e3,e4]; obtain ⟨i1,i2,i3,i4⟩:=hI; rw [hf1,if_neg (by simp)] at i2; have I1:=zH i1; have I3:=zH (i3 k14); have HC:=zH (bMux_any a0 a1 lo q r s2 g.2 tv uv xw i2 HGB.out.2 HTVM.out HUVM.out); rw [<- HM.out] at HC; clear i1 i2 i3 i4
      go_wp2_with fail
      refine HC.out.mono ?_; rintro e wx ⟨rfl,hb9,hd9⟩; have HB8:=zH hb9; have HD8:=zH hd9; clear hb9 hd9 HC
      go_wp2
      exact ⟨rfl,rfl,⟨fun _ => HB8.out,fun h9 => absurd rfl h9⟩,I1.out.trans HB8.out,by rw [z0h,if_pos rfl]; exact HD8.out,fun _ => I3.out.upB HB8.out,fun h => absurd ((did_ne (f:=f) (k:=12) (j:=14) rfl).symm.trans h) (by rw [k14]; simp)⟩
     ·
      rintro vals xw f hf1 - - hI hF; simp only [z05,zF,zR,and_true] at hF; obtain ⟨e1,e2⟩:=hF; dsimp only [z03,bare]; simp only [z01,Act.put,zQ]; simp only [e1,e2]
      go_wp2
      exact zY hI rfl rfl
     ·
      rintro vals xw f hf1 - - hI hF; simp only [z05,zF,zR,and_true] at hF; obtain ⟨e1,e2⟩:=hF; dsimp only [z03,bare]; simp only [z01,Act.put,zQ]; simp only [e1,e2]; obtain ⟨i1,i2,i3,_⟩:=hI; have own9:=i3 hf1; obtain ⟨⟨v3,hold⟩,hfz⟩:=own9.cell hltk; have HO9:=zH own9; have I1:=zH i1; have I2:=zH i2; clear own9 i1 i2 i3
      go_wp2
      obtain ⟨hq1,hq2,cs,frz,hq3⟩:=HO9.out.block; exact ⟨rfl,trivial,⟨zN rfl,fun _ => ⟨fun _ => z06 (World.grownBy.refl _ _) _ _,fun h9 => absurd rfl h9⟩⟩,I1.out.then (below_at _ _ _ _) hlo9,by rw [did_ne (by decide)]; exact I2.out.upS (sig_set hq3 hlo9 _),fun h => absurd ((z0h f 14).symm.trans h) (by simp),fun _ => HO9.out.put m.2 (by rw [HD2.out]; exact (put_next HDK.out hltk _).symm)⟩
     ·
      intro vals xw f hall hI hF; rw [show List.range _ = [0,1,2,3,4,5,6,7,8,9,10,11,12,13,14] from rfl] at hF; simp only [says,zF,zR,and_true] at hF; obtain ⟨i1,i2,_,i4⟩:=hI; rw [hall 12 (by decide),if_pos rfl] at i2; have i5:=i4 (hall 14 (by decide)); simp only [z01,Act.put,zQ]; have I1:=zH i1; have I2:=zH i2; have I5:=zH i5; clear i1 i2 i4 i5 hF
      go_wp2
      go_roundw
      case rel => exact ⟨k + 1,m.1,d2,by omega,by go_num,by rw [HD2.out,List.length_append,HDK.out]; rfl,fun z hz => (List.mem_append.1 (by rw [HD2.out] at hz; exact hz)).elim (HDM.out z) (fun hz => by rw [List.mem_singleton.1 hz]; exact HMB.out),I1.out,I2.out,I5.out,HST2⟩
      case measure => simp [intOf]; omega
    ·
     have hje : k = xs.length:=by omega
     subst hje; have hltk2 : ¬ ((xs.length : Nat) : Int) < xs.length:=by omega
     have hd1 : tn.drop xs.length = []:=by rw [<- HTNL.out]; exact List.drop_length
     have hd2 : un.drop xs.length = []:=by rw [<- HUNL.out]; exact List.drop_length
     have hst2:=hst.out; rw [hd1,hd2] at hst2; have hst3 : C (s2,d) = T:=by rw [<- hst2]; show _ = C (s2,d ++ []); rw [List.append_nil]
     rw [HC.out] at hst3; have HST2:=zH hst3; have HPD : Hid (Lay.int.Px wr g2 (some ⟨z9.heap.size,0,none⟩) d):=zH (by
      have h9:=HOZ.out; rw [Nat.sub_self,List.replicate_zero,List.append_nil] at h9; exact h9.sg.px rfl HOQ9.out.block.2.1)
     have HQ2:=zH (HOQ9.out.upB HBZ.out); have HPW2:=zH (HPW9.out.pxB HBZ.out); have HB2:=zH (HB9.out.trans HBZ.out); have hqm2 : ∀ m ∈ qv.set a (-g.2),MB m:=fun m hm => by
      rcases List.mem_or_eq_of_mem_set hm with hm | hm
      · exact HQM.out m hm
      · rw [hm]; exact HGB.out.2.neg
     have HQM2:=zH hqm2; clear hst hst2 hst3 hd1 hd2 hqm2
     go_wp2
     go_roundw
     case rel => exact ⟨a,(a : Int) - 1,s2,qv.set a (-g.2),d,some ⟨z9.heap.size,0,none⟩,xs.length,by omega,by go_num,by omega,by rw [HDK.out],HDK.out,Nat.le_of_eq HDK.out,by rw [List.length_set]; exact HQL.out,HQM2.out,HDM.out,HQ2.out,HPD.out,HPW2.out,HB2.out,HDZ.out,HST2⟩
     case measure => simp [intOf]
end Go.Proofs.YtemdmlmcidfodaaGreatDoor
