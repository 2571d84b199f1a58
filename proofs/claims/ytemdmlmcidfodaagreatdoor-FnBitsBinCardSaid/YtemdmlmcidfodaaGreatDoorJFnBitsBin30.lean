/- Draws for the laws on bits: DrawBitsIf, DrawBitsCmp. -/
import Derived.Test.YtemdmlmcidfodaaGreatDoorJFnBitsBin0
import Derived.Test.YtemdmlmcidfodaaGreatDoorJFnBitsBin23
namespace Go.Proofs.YtemdmlmcidfodaaGreatDoor
open Go Go.RowKit
def SayT (S : Nat -> Prop) (k : Nat) (v : Value) (y : World) : Prop:=∃ n' A' c' m',v = .tuple #[.agg #[.int .i64 (N.ins n'),.slice A' (N.gs n').length c'],.int .i64 m'] /\ smallN k n' /\ Lay.gate.Sl y (Ab S y) A' n'.gs
def SayN (S : Nat -> Prop) (k : Nat) (v : Value) (y : World) : Prop:=∃ n' A' c',v = .agg #[.int .i64 (N.ins n'),.slice A' (N.gs n').length c'] /\ smallN k n' /\ Lay.gate.Sl y (Ab S y) A' n'.gs
def SayI (v : Value) : Prop:=∃ b,v = .int .i64 b /\ -3000000 <= b /\ b <= 3000000
theorem SayT.gr {S T : Nat -> Prop} {k : Nat} {v : Value} {x y : World} (h : SayT S k v x) (hg : Gr T x y) (hT : ∀ b,T b -> S b) : SayT S k v y:=by
 obtain ⟨n',A',c',m',h1,h2,h3⟩:=h; exact ⟨n',A',c',m',h1,h2,h3.gr (hg.mono hT)⟩
theorem SayN.gr {S T : Nat -> Prop} {k : Nat} {v : Value} {x y : World} (h : SayN S k v x) (hg : Gr T x y) (hT : ∀ b,T b -> S b) : SayN S k v y:=by
 obtain ⟨n',A',c',h1,h2,h3⟩:=h; exact ⟨n',A',c',h1,h2,h3.gr (hg.mono hT)⟩
def NetQ (S T : Nat -> Prop) (r : Nat) (q0 : Int) (k : Nat) (w : World) (b3 : Nat) (o : Obj) (d1 d2 done : Bool) (x : World) : Prop :=
 Gr T w x /\ (∃ q,Rdr x r q /\ q0 <= q /\ q <= q0 + (if d1 = true then 2 else 0) + (if d2 = true then 2 else 0)) /\ (done = false -> x.heap[b3]? = some o) /\ NetIn (smallN k) S b3 x
theorem NetQ.low {S T : Nat -> Prop} {r : Nat} {q0 : Int} {k : Nat} {w x x' : World} {b3 : Nat} {o : Obj} {d1 d2 done : Bool} (h : NetQ S T r q0 k w b3 o d1 d2 done x) (hb : Below x.heap.size x x') : NetQ S T r q0 k w b3 o d1 d2 done x':=by
 obtain ⟨h1,⟨q,h2,h3,h4⟩,h5,h6⟩:=h; exact ⟨h1.up hb,⟨q,h2.up hb,h3,h4⟩,fun hd => (hb.block _ (Array.getElem?_eq_some_iff.1 (h5 hd)).1).trans (h5 hd),h6.gr (T:=fun _ => False) (.below hb) (fun h => h) (fun _ h => h.elim)⟩
theorem NetQ.draw {S T : Nat -> Prop} {r : Nat} {q0 q : Int} {k : Nat} {w x x' : World} {b3 : Nat} {o : Obj} {d1 d2 e1 e2 : Bool} {done : Bool} (h : NetQ S T r q0 k w b3 o d1 d2 done x) (hd : Drawn r q 2 x x') (hq0 : q0 <= q) (hq : q + 2 <= q0 + (if e1 = true then 2 else 0) + (if e2 = true then 2 else 0)) (hT : T r) (hTS : ∀ b,T b -> S b) (hr : b3 ≠ r) : NetQ S T r q0 k w b3 o e1 e2 done x' /\ Gr T x x':=by
 obtain ⟨h1,_,h5,h6⟩:=h; obtain ⟨q',d1,d2,d3,d4⟩:=hd; have hg : Gr T x x':=d4.mono fun b hb => by rw [hb]; exact hT
 exact ⟨⟨h1.trans hg,⟨q',d3,by omega,by omega⟩,fun hd => d4.heap (by exact hr) (h5 hd),h6.gr d4 (by exact hr) (fun b hb => by rw [hb]; exact hTS r hT)⟩,hg⟩
set_option maxRecDepth 100000 in
set_option maxHeartbeats 4000000 in
theorem l7Net_any (S0 : Nat -> Prop) (r : Nat) (p : Int) (w : World) (h : Rdr w r p) (hS0 : ∀ b,S0 b -> b < w.heap.size) (hSr : S0 r) (p0 : 0 <= p) (p1 : p <= 600000000) :
  Calls Tryz.prog 85 #[.pointer (some ⟨r,0,none⟩)] w (RetDN S0 r p 2000 (bentN 4) w):=by
 have hrl:=h.lt; have hal0 : Below w.heap.size w (w.alloc (.cells #[.int .i64 0,.slice none 0 0] 29)):=(Below.refl _ _).alloc (Nat.le_refl _) _; have hb2 : (w.alloc (.cells #[.int .i64 0,.slice none 0 0] 29)).heap[w.heap.size]? = some (.cells #[.int .i64 0,.slice none 0 0] 29 (0,0)):=heap_alloc_new _ _; have hsz0 : (w.alloc (.cells #[.int .i64 0,.slice none 0 0] 29)).heap.size = w.heap.size + 1:=by simp
 have hR0:=h.up hal0; have hg0 : Gr (IsR r) w (w.alloc (.cells #[.int .i64 0,.slice none 0 0] 29)):=.below hal0; have hal1 : Below (w.alloc (.cells #[.int .i64 0,.slice none 0 0] 29)).heap.size (w.alloc (.cells #[.int .i64 0,.slice none 0 0] 29)) ((w.alloc (.cells #[.int .i64 0,.slice none 0 0] 29)).alloc (.cells #[.int .i64 8,.int .i64 8,.int .i64 6,.int .i64 4,.int .i64 3] 3)):=(Below.refl _ _).alloc (Nat.le_refl _) _; have hsl:=lit_sl (S:=IsR r) (w.alloc (.cells #[.int .i64 0,.slice none 0 0] 29)) [8,8,6,4,3] _ 3 rfl (by show ¬ _ = r; rw [hsz0]; omega); have hnum:=num_any r p _ 5 _ _ (hR0.up hal1) hsl (by simp) (by simp) (by omega) (by omega); rw [hsz0] at hnum; have HN:=zH hnum; clear hnum; have hb2:=(hal1.block _ (lt_of_block hb2)).trans hb2; have hg1:=hg0.up hal1; have HB2:=zH hb2; clear hal0 hal1 h hsl hR0 hg0 hsz0 hb2
 go_enter Tryz.func85,Tryz.ntmps85
 go_wp2_with fail
 refine HN.out.mono ?_; clear HN; generalize (w.alloc (.cells #[.int .i64 0,.slice none 0 0] 29)).alloc (.cells #[.int .i64 8,.int .i64 8,.int .i64 6,.int .i64 4,.int .i64 3] 3) = w0 at *; rintro e w1 ⟨k,hk,rfl,hR1,hg1'⟩; have hk8 : 0 <= k /\ k <= 8:=by simp at hk; omega
 obtain ⟨k0,k1⟩:=hk8; have HB2:=zH (hg1'.heap (by show ¬ _ = r; omega) HB2.out); have hgg1:=hg1.trans hg1'; have hsz1:=hgg1.size; have hb2l:=lt_of_block HB2.out; clear hk hg1 hg1'; have hal : Below w1.heap.size w1 (w1.alloc (.cells #[.int .i64 k,.slice none 0 0] 29)):=(Below.refl _ _).alloc (Nat.le_refl _) _; have HB3:=zH (heap_alloc_new w1 (.cells #[.int .i64 k,.slice none 0 0] 29)); have HB2:=zH ((hal.block _ (lt_of_block HB2.out)).trans HB2.out); have hR2:=hR1.up hal; have hgg2:=hgg1.up hal; have HSZ2:=zH (show (w1.alloc (.cells #[.int .i64 k,.slice none 0 0] 29)).heap.size = w1.heap.size + 1 by simp); clear hal hR1 hgg1
 go_wp2_with fail
 have hsz2:=HSZ2.out; clear HSZ2; generalize w1.alloc (.cells #[.int .i64 k,.slice none 0 0] 29) = w2 at *; generalize hb3e : w1.heap.size = b3 at *; generalize hb2e : w.heap.size = b2 at *; have HB2E:=zH hb2e; have i3 : b2 < b3:=by omega
 have i4 : r < b2:=by omega
 clear hb2e hb3e hsz1 hrl; refine (z17 r (p + 1) 4 w2 hR2 (by omega) (by omega) (by omega) (by omega)).mono ?_; rintro e w4 ⟨n,rfl,n0,n1,_,hR4,hg4⟩; have hn1 : n <= 3:=by have:=n1 (by omega); omega
 have hg4:=Gr.one (S:=IsR r) hg4 rfl; have HB2:=zH (hg4.heap (by show ¬ _ = r; omega) HB2.out); have HB3:=zH (hg4.heap (by show ¬ _ = r; omega) HB3.out); have hgg4:=hgg2.trans hg4; have hsz4:=hg4.size; obtain ⟨n,rfl⟩:=Int.eq_ofNat_of_zero_le n0; clear hgg2 hg4 n1 hR2 hsz2; obtain ⟨S,hS⟩ : ∃ S : Nat -> Prop,∀ b,S b ↔ S0 b \/ b = b2 \/ b = b3:=⟨fun b => S0 b \/ b = b2 \/ b = b3,fun _ => Iff.rfl⟩; have HS:=zH hS; have hSlt : ∀ b,S b -> b < b3 + 1:=fun b hb => by
  rcases (hS b).1 hb with h9 | h9 | h9
  · have:=hS0 b h9; omega
  · omega
  · omega
 have hTS : ∀ b,(b = r \/ b = b3) -> S b:=fun b hb => by
  rcases hb with rfl | rfl
  · exact (hS _).2 (.inl hSr)
  · exact (hS _).2 (.inr (.inr rfl))
 have HS0 : Hid (∀ b,S0 b -> S b):=zH fun b hb => (hS b).2 (.inl hb)
 have HSr : Hid (S r):=zH ((hS _).2 (.inl hSr)); have HSL:=zH (And.intro hSlt hTS); have hb3lt:=lt_of_block HB3.out; clear hSlt hTS hS hS0
 go_wp2
 go_loopw [4] (fun i wr => ∃ (j : Nat) (m : N) (A : Option Addr) (c : Nat) (q : Int),j <= n /\ i = .int .i64 j /\ smallN (n - j) m /\ wr.heap[b3]? = some (.cells #[.int .i64 m.ins,.slice A m.gs.length c] 29 (0,0)) /\ wr.heap[b2]? = some (.cells #[.int .i64 0,.slice none 0 0] 29 (0,0)) ∧
  Lay.gate.Sl wr (Ab S wr) A m.gs /\ Rdr wr r q /\ p <= q /\ q <= p + 2 + 40 * (n - j) /\ Gr (IsR r) w wr) (fun i _ => (intOf i).toNat)
 case atStart => exact ⟨n,⟨k,[]⟩,none,0,p + 1 + 1,Nat.le_refl _,rfl,⟨k0,k1,by simp,fun g hg => by cases hg⟩,HB3.out,HB2.out,.nil _ _ _ _,hR4,by omega,by omega,hgg4⟩
 case round =>
  obtain ⟨j,m,A,c,q,hj,rfl,hsm,hb3,hb2,hsl,hR,q0,q1,hg⟩:=hrel; have HB3:=zH hb3; have HB2:=zH hb2; have HSM:=zH hsm; have hmi : 0 <= m.ins /\ m.ins <= 8 /\ m.gs.length <= 100:=⟨hsm.1,hsm.2.1,by have:=hsm.2.2.1; omega⟩; have hlt3:=lt_of_block hb3; have HSLR:=zH hsl; have HR:=zH hR; have HG:=zH hg; have HHA:=zH (fun e => sl_none hsl e); clear hb3 hb2 hsm hsl hR hg
  by_cases hlt : 0 < j
  ·
   have hj1 : (0 : Int) < j:=by omega
   go_wp2
   refine z0a [[],[],[],[(1,17),(2,18)],[],[],[(4,20),(5,21)],[(0,16),(3,19),(6,22)],[(7,23)],[(8,15)],[(8,15)],[(9,24)]]
    (Gr (fun b => b = r \/ b = b3))
    []
    (fun f9 x9 => NetQ S (fun b => b = r \/ b = b3) r q (n - j + 1) wr b3 (.cells #[.int .i64 m.ins,.slice A m.gs.length c] 29 (0,0)) (f9 3) (f9 6) (f9 11) x9)
    [zF 0 (.agg #[.int .i64 m.ins,.slice A m.gs.length c]),
  zF 1 (.pointer (some ⟨r,0,none⟩)),
  zF 2 (.agg #[.int .i64 m.ins,.slice A m.gs.length c]),
  fun vs9 y9 => (fun v _ => SayI v) (vs9 3) y9,
  zF 4 (.pointer (some ⟨r,0,none⟩)),
  zF 5 (.agg #[.int .i64 m.ins,.slice A m.gs.length c]),
  fun vs9 y9 => (fun v _ => SayI v) (vs9 6) y9,
  fun vs9 y9 => (fun v yy => SayT S (n - j + 1) v yy) (vs9 7) y9,
  fun vs9 y9 => (fun v yy => SayT S (n - j + 1) v yy) (vs9 8) y9,
  fun vs9 y9 => (fun v yy => SayN S (n - j + 1) v yy) (vs9 9) y9,
  fun _ _ => True,
  fun _ _ => True]
    [(0,16),(1,17),(2,18),(3,19),(4,20),(5,21),(6,22),(7,23),(8,15),(9,24),(10,25)] (by kernel_rfl) (by kernel_rfl) (by kernel_rfl) (by kernel_rfl)
    (fun _ => Gr.refl _ _) trivial
    ⟨⟨.inr zG,trivial⟩,
  ⟨.inr zG,trivial⟩,
  ⟨.inr zG,trivial⟩,
  ⟨.inr (zS (fun v _ => SayI v) (fun _ _ _ h _ => h)),trivial⟩,
  ⟨.inr zG,trivial⟩,
  ⟨.inr zG,trivial⟩,
  ⟨.inr (zS (fun v _ => SayI v) (fun _ _ _ h _ => h)),trivial⟩,
  ⟨.inr (zS (fun v yy => SayT S (n - j + 1) v yy) (fun _ _ _ h hR => h.gr hR HSL.out.2)),trivial⟩,
  ⟨.inr (zS (fun v yy => SayT S (n - j + 1) v yy) (fun _ _ _ h hR => h.gr hR HSL.out.2)),trivial⟩,
  ⟨.inr (zS (fun v yy => SayN S (n - j + 1) v yy) (fun _ _ _ h hR => h.gr hR HSL.out.2)),trivial⟩,
  ⟨.inr zK,trivial⟩,
  ⟨.inr zK,trivial⟩,trivial⟩ ⟨zL,
  zL,
  zL,
  fun _ _ _ h _ v => (by simpa only [<- h] using v),
  zL,
  zL,
  fun _ _ _ h _ v => (by simpa only [<- h] using v),
  fun _ _ _ h _ v => (by simpa only [<- h] using v),
  fun _ _ _ h _ v => (by simpa only [<- h] using v),
  fun _ _ _ h _ v => (by simpa only [<- h] using v),
  fun _ _ _ _ _ _ => trivial,
  fun _ _ _ _ _ _ => trivial,trivial⟩ (⟨.below (z02 (Below.refl _ _) 1),⟨q,HR.out.up (z02 (Below.refl _ _) 1),by omega,by simp⟩,fun _ => ((z02 (Below.refl _ _) 1 : Below wr.heap.size wr _).block _ (lt_of_block HB3.out)).trans HB3.out,NetIn.gr (T:=fun _ => False) (show NetIn (smallN (n - j + 1)) S b3 wr from ⟨m,A,c,HB3.out,HSM.out.mono (by omega),HSLR.out⟩) (.below (z02 (Below.refl _ _) 1)) (fun h => h) (fun _ h => h.elim)⟩) ⟨?_,?_,?_,?_,?_,?_,?_,?_,?_,?_,?_,?_,trivial⟩ ?_
   ·
    intro vals xw f hf1 hf2 hf3 hI hF; have k11 : f 11 = false:=hf3 11 (by kernel_rfl); clear hf2 hf3; dsimp only [z03,bare]; simp only [z01,Act.put,zQ]; have hk9:=hI.2.2.1 k11; have c0 : xw.cell? ⟨b3,0,none⟩ = some (.int .i64 m.ins):=(z00 hk9 0).1; have c1 : xw.cell? ⟨b3,1,none⟩ = some (.slice A m.gs.length c):=(z00 hk9 1).1; clear hk9
    go_wp2
    exact ⟨rfl,rfl,Gr.refl _ _,hI⟩
   ·
    rintro vals xw f hf1 - - hI hF; dsimp only [z03,bare]; simp only [z01,Act.put,zQ]
    go_wp2
    exact ⟨rfl,rfl,Gr.refl _ _,hI⟩
   ·
    intro vals xw f hf1 hf2 hf3 hI hF; have k11 : f 11 = false:=hf3 11 (by kernel_rfl); clear hf2 hf3; dsimp only [z03,bare]; simp only [z01,Act.put,zQ]; have hk9:=hI.2.2.1 k11; have c0 : xw.cell? ⟨b3,0,none⟩ = some (.int .i64 m.ins):=(z00 hk9 0).1; have c1 : xw.cell? ⟨b3,1,none⟩ = some (.slice A m.gs.length c):=(z00 hk9 1).1; clear hk9
    go_wp2
    exact ⟨rfl,rfl,Gr.refl _ _,hI⟩
   ·
    rintro vals xw f hf1 - - hI hF; simp only [z05,zF,zR,and_true] at hF; obtain ⟨e1,e2⟩:=hF; dsimp only [z03,bare]; simp only [z01,Act.put,zQ]; simp only [e1,e2]; have HI:=zH hI; obtain ⟨_,⟨q',hq,q'0,q'1⟩,_,_⟩:=hI; rw [hf1] at q'1; have hq9 : q' <= q + 4:=by revert q'1; cases f 6 <;> simp <;> omega
    go_wp2_with fail
    refine (l6Lit_any r q' m A c xw hq (by omega) (by omega) (by omega) (by omega) (by omega)).mono ?_; rintro e wx ⟨b,rfl,⟨b0,b1,b2',_⟩,hd⟩; have HD:=zH (HI.out.draw (e1:=true) (e2:=(f 6)) hd q'0 (by revert q'1; cases f 6 <;> simp <;> omega) (.inl rfl) HSL.out.2 (by omega)); clear hd
    go_wp2
    exact ⟨rfl,⟨b,rfl,b1,b2'⟩,HD.out.2,HD.out.1⟩
   ·
    rintro vals xw f hf1 - - hI hF; dsimp only [z03,bare]; simp only [z01,Act.put,zQ]
    go_wp2
    exact ⟨rfl,rfl,Gr.refl _ _,hI⟩
   ·
    intro vals xw f hf1 hf2 hf3 hI hF; have k11 : f 11 = false:=hf3 11 (by kernel_rfl); clear hf2 hf3; dsimp only [z03,bare]; simp only [z01,Act.put,zQ]; have hk9:=hI.2.2.1 k11; have c0 : xw.cell? ⟨b3,0,none⟩ = some (.int .i64 m.ins):=(z00 hk9 0).1; have c1 : xw.cell? ⟨b3,1,none⟩ = some (.slice A m.gs.length c):=(z00 hk9 1).1; clear hk9
    go_wp2
    exact ⟨rfl,rfl,Gr.refl _ _,hI⟩
   ·
    rintro vals xw f hf1 - - hI hF; simp only [z05,zF,zR,and_true] at hF; obtain ⟨e1,e2⟩:=hF; dsimp only [z03,bare]; simp only [z01,Act.put,zQ]; simp only [e1,e2]; have HI:=zH hI; obtain ⟨_,⟨q',hq,q'0,q'1⟩,_,_⟩:=hI; rw [hf1] at q'1; have hq9 : q' <= q + 4:=by revert q'1; cases f 3 <;> simp <;> omega
    go_wp2_with fail
    refine (l6Lit_any r q' m A c xw hq (by omega) (by omega) (by omega) (by omega) (by omega)).mono ?_; rintro e wx ⟨b,rfl,⟨b0,b1,b2',_⟩,hd⟩; have HD:=zH (HI.out.draw (e1:=(f 3)) (e2:=true) hd q'0 (by revert q'1; cases f 3 <;> simp <;> omega) (.inl rfl) HSL.out.2 (by omega)); clear hd
    go_wp2
    exact ⟨rfl,⟨b,rfl,b1,b2'⟩,HD.out.2,HD.out.1⟩
   ·
    rintro vals xw f hf1 - - hI hF; simp only [z05,zF,zR,and_true] at hF; obtain ⟨e1,⟨a,e2,a1,a2⟩,b,e3,b1,b2'⟩:=hF; dsimp only [z03,bare]; simp only [z01,Act.put,zQ]; simp only [e1,e2,e3]; have HI:=zH hI; have hslx:=HSLR.out.gr (hI.1.mono HSL.out.2); have hsx:=hI.1.size; clear hI
    go_wp2_with fail
    refine (l6And_any (Ab S xw) A c m a b xw hslx (fun b h => h.1) (by omega) HHA.out (by omega) (by omega) (by omega) (by omega)).mono ?_; rintro e wx ⟨A',c',rfl,_,hs',hb'⟩; have HM:=zH (sl_made hs' (fun b hb => by have:=HSL.out.1 b hb; omega) hb'); have HI2:=zH (HI.out.low hb'); have HSM2 : Hid (smallN (n - j + 1) (and1 m a b).1):=zH (and1_small HSM.out (by unfold z15; omega) (by unfold z15; omega)); have HBB:=zH hb'; clear hs' hb' hslx
    go_wp2
    exact ⟨rfl,⟨_,A',c',_,rfl,HSM2.out,HM.out⟩,.below HBB.out,HI2.out⟩
   ·
    rintro vals xw f hf1 - - hI hF; simp only [z05,zF,zR,and_true] at hF; obtain ⟨n',A',c',m',e1,hP⟩:=hF; dsimp only [z03,bare]; simp only [z01,Act.put,zQ]; simp only [e1]
    go_wp2
    exact ⟨rfl,⟨n',A',c',m',rfl,hP⟩,Gr.refl _ _,hI⟩
   ·
    rintro vals xw f hf1 - - hI hF; simp only [z05,zF,zR,and_true] at hF; obtain ⟨n',A',c',m',e1,hP⟩:=hF; dsimp only [z03,bare]; simp only [z01,Act.put,zQ]; simp only [e1]
    go_wp2
    exact ⟨rfl,⟨n',A',c',rfl,hP⟩,Gr.refl _ _,hI⟩
   ·
    rintro vals xw f hf1 - - hI hF; simp only [z05,zF,zR,and_true] at hF; obtain ⟨n',A',c',m',e1,hP⟩:=hF; dsimp only [z03,bare]; simp only [z01,Act.put,zQ]; simp only [e1]
    go_wp2
    exact ⟨rfl,trivial,Gr.refl _ _,hI⟩
   ·
    rintro vals xw f hf1 - - hI hF; simp only [z05,zF,zR,and_true] at hF; obtain ⟨n',A',c',e1,hs',hl'⟩:=hF; dsimp only [z03,bare]; simp only [z01,Act.put,zQ]; simp only [e1]; obtain ⟨i1,⟨q',i2,i3,i4⟩,i5,_⟩:=hI; have hk:=i5 hf1; have v0:=(z00 hk 0).1; have v1:=(z00 hk 1).1; have f0:=(z00 hk 0).2; have f1:=(z00 hk 1).2; have hh:=z04 _ b3 1 (.slice A' n'.gs.length c') _ _ (z04 xw b3 0 (.int .i64 n'.ins) _ _ hk); have hg : Gr (fun z => z = b3) xw ((xw.setCell ⟨b3,0,none⟩ (.int .i64 n'.ins)).setCell ⟨b3,1,none⟩ (.slice A' n'.gs.length c')):=((Gr.refl (fun z => z = b3) xw).set _ _ _ (.inl (by rfl))).set _ _ _ (.inl (by rfl)); have HL:=zH (And.intro hh (And.intro hg (And.intro i1 (And.intro i2 (And.intro hs' hl'))))); have HK:=zH hk; clear hk hg hs' hl' e1 hh i1 i2 i5
    go_wp2
    have hgT:=HL.out.2.1.mono (T:=(fun b => b = r \/ b = b3)) fun z hz => .inr hz
    exact ⟨rfl,trivial,hgT,HL.out.2.2.1.trans hgT,⟨q',HL.out.2.2.2.1.far HL.out.2.1 (by omega) ⟨_,_,_,HK.out,by simp⟩,i3,i4⟩,fun h => absurd ((z0h f 11).symm.trans h) (by simp),n',A',c',HL.out.1,HL.out.2.2.2.2.1,HL.out.2.2.2.2.2.gr (HL.out.2.1.mono fun b hb => HSL.out.2 b (.inr hb))⟩
   ·
    intro vals xw f hall hI hF; rw [show List.range _ = [0,1,2,3,4,5,6,7,8,9,10,11] from rfl] at hF; simp only [says,zF,zR,and_true] at hF; obtain ⟨hgx,⟨q',hq',q'0,q'1⟩,_,n',A',c',hk',hs',hl'⟩:=hI; simp only [hall 3 (by decide),hall 6 (by decide),if_true] at q'1; simp only [z01,Act.put,zQ]; have HB23:=zH (hgx.heap (by show ¬ (_ = r \/ _ = b3); omega) HB2.out); have HGW:=zH (HG.out.then hgx (fun b hb => hb.imp id (fun h => by rw [HB2E.out]; omega))); have HK':=zH hk'; have HSM':=zH hs'; clear hF hk' hs' hgx
    go_wp2
    go_roundw
    case rel => exact ⟨j - 1,n',A',c',q',by omega,by go_num,HSM'.out.mono (by omega),HK'.out,HB23.out,hl',hq',by omega,by omega,HGW.out⟩
    case measure => simp [intOf]; omega
  ·
   have hj0 : j = 0:=by omega
   subst hj0; have v0:=(z00 HB3.out 0).1; have v1:=(z00 HB3.out 1).1; have HC:=zH (l6Bent_any S r 3 q m A c wr HR.out HSLR.out (fun b hb => by have:=HSL.out.1 b hb; omega) HSr.out (HSM.out.mono (by omega)) (by omega) (by omega) (by omega))
   go_wp2_with fail
   clear v0 v1; refine HC.out.mono ?_; rintro e w5 ⟨y,A5,c5,rfl,hs5,hbn,q5,q50,q51,hR5,hg5⟩; have HB2:=zH (hg5.heap (by show ¬ _ = r; omega) HB2.out); have HGG:=zH (HG.out.trans hg5); have HS5:=zH hs5; have HBN:=zH hbn; have HR5:=zH hR5; clear hs5 hbn hR5 hg5 HC; have u0:=(z00 HB2.out 0).1; have u1:=(z00 HB2.out 1).1; have f0:=(z00 HB2.out 0).2; have f1:=(z00 HB2.out 1).2; have hq1:=z04 _ b2 0 (.int .i64 y.ins) _ _ HB2.out; have hq2:=z04 _ b2 1 (.slice A5 y.gs.length c5) _ _ hq1; have HQ2:=zH hq2; clear hq1 hq2
   go_wp2
   have k5:=(z00 HQ2.out 0).1; have k6:=(z00 HQ2.out 1).1; have kf5:=(z00 HQ2.out 0).2; have kf6:=(z00 HQ2.out 1).2; refine bodyPost_ret (v:=.agg #[.int .i64 y.ins,.slice A5 y.gs.length c5]) (by simp [results,Tryz.results85,go_sem,k5,k6,kf5,kf6]) rfl ⟨y,A5,c5,rfl,?_,HBN.out,q5,by omega,by omega,?_,?_⟩
   ·
    have hset : Gr S w5 ((w5.setCell ⟨b2,0,none⟩ (.int .i64 y.ins)).setCell ⟨b2,1,none⟩ (.slice A5 y.gs.length c5)):=((Gr.refl _ _).set _ _ _ (.inl ((HS.out b2).2 (.inr (.inl rfl))))).set _ _ _ (.inl ((HS.out b2).2 (.inr (.inl rfl)))); exact (HS5.out.gr hset).ab_mono fun b _ hb => HS0.out b hb
   · exact (HR5.out.set (by omega)).set (by omega)
   · exact (HGG.out.set _ _ _ (.inr (by rw [HB2E.out]; exact Nat.le_refl _))).set _ _ _ (.inr (by rw [HB2E.out]; exact Nat.le_refl _))
def RetT2 (S0 : Nat -> Prop) (r : Nat) (p M : Int) (w : World) (e : Ending) (w' : World) : Prop :=
 ∃ (n : N) (A : Option Addr) (c : Nat) (xs : List Int) (X : Option Addr) (cx : Nat) (ys : List Int) (Y : Option Addr) (cy : Nat),e = .returned (.tuple #[.agg #[.int .i64 n.ins,.slice A n.gs.length c],.slice X xs.length cx,.slice Y ys.length cy]) ∧
  Lay.gate.Sl w' (Ab S0 w') A n.gs /\ Lay.int.Sl w' (Ab S0 w') X xs /\ Lay.int.Sl w' (Ab S0 w') Y ys /\ bentN 4 n /\ okMks xs /\ okMks ys /\ xs.length <= cx /\ ys.length <= cy /\ Drawn r p M w w'
def SayM (S : Nat -> Prop) (v : Value) (y : World) : Prop:=∃ (ys : List Int) (Y : Option Addr) (cy : Nat),v = .slice Y ys.length cy /\ okMks ys /\ ys.length <= cy /\ Lay.int.Sl y (Ab S y) Y ys
theorem SayM.gr {S T : Nat -> Prop} {v : Value} {x y : World} (h : SayM S v x) (hg : Gr T x y) (hT : ∀ b,T b -> S b) : SayM S v y:=by
 obtain ⟨ys,Y,cy,h1,h2,h3,h4⟩:=h; exact ⟨ys,Y,cy,h1,h2,h3,h4.gr (hg.mono hT)⟩
def TwoQ (r b2 b5 : Nat) (q0 : Int) (w : World) (o2 o5 : Obj) (drawn done : Bool) (x : World) : Prop :=
 Gr (fun b => b = r \/ b = b2) w x /\ (∃ q,Rdr x r q /\ q0 <= q /\ q <= q0 + (if drawn = true then 20 else 0)) /\ x.heap[b5]? = some o5 /\ (done = false -> x.heap[b2]? = some o2) /\ (done = true -> x.heap[b2]? = some o5)
theorem OwnI.capI {w : World} {base c : Nat} {A : Option Addr} {xs : List Int} (h : OwnI w base (.slice A xs.length c) xs) : xs.length <= c:=by
 obtain ⟨A',c',e,hl,hs⟩:=h.form
 injection e with e1 e2 e3
 omega
set_option maxRecDepth 100000 in
set_option maxHeartbeats 4000000 in
theorem l7Two_any (S0 : Nat -> Prop) (r : Nat) (p : Int) (w : World) (h : Rdr w r p) (hS0 : ∀ b,S0 b -> b < w.heap.size) (hSr : S0 r) (p0 : 0 <= p) (p1 : p <= 500000000) :
  Calls Tryz.prog 38 #[.pointer (some ⟨r,0,none⟩)] w (RetT2 S0 r p 10000 w):=by
 have hrl:=h.lt; have hal0 : Below w.heap.size w (w.alloc (.cells #[.int .i64 0,.slice none 0 0] 29)):=(Below.refl _ _).alloc (Nat.le_refl _) _; have HB2:=zH (show (w.alloc (.cells #[.int .i64 0,.slice none 0 0] 29)).heap[w.heap.size]? = some (.cells #[.int .i64 0,.slice none 0 0] 29 (0,0)) from heap_alloc_new _ _); have HSZ0:=zH (show (w.alloc (.cells #[.int .i64 0,.slice none 0 0] 29)).heap.size = w.heap.size + 1 by simp); have hR0:=h.up hal0; have hg0 : Gr (IsR r) w (w.alloc (.cells #[.int .i64 0,.slice none 0 0] 29)):=.below hal0; clear hal0 h
 go_enter Tryz.func38,Tryz.ntmps38
 go_wp2_with fail
 have hsz0:=HSZ0.out; clear HSZ0; generalize w.alloc (.cells #[.int .i64 0,.slice none 0 0] 29) = w0 at *; obtain ⟨T,hT⟩ : ∃ T : Nat -> Prop,∀ b,T b ↔ S0 b \/ b = w.heap.size:=⟨fun b => S0 b \/ b = w.heap.size,fun _ => Iff.rfl⟩; have HT:=zH hT; have HTL : Hid (∀ b,T b -> b < w.heap.size + 1):=zH fun b hb => by
  rcases (hT b).1 hb with h9 | h9
  · have:=hS0 b h9; omega
  · omega
 have HTr : Hid (T r):=zH ((hT r).2 (.inl hSr)); clear hT; refine (l7Net_any T r p w0 hR0 (fun b hb => by have:=HTL.out b hb; omega) HTr.out p0 (by omega)).mono ?_; rintro e w1 ⟨y,A2,c2,rfl,hs2,hbn,q2,q20,q21,hR2,hg2⟩; have HB2:=zH (hg2.heap (by show ¬ _ = r; omega) HB2.out); have hgg2:=hg0.trans hg2; have hz2:=hg2.size; have i5 : w.heap.size < w1.heap.size:=by omega
 have HBN:=zH hbn; have hyb : -1 <= y.ins /\ y.ins <= 9 /\ y.gs.length <= 4:=⟨hbn.1,hbn.2.1,hbn.2.2.1⟩; obtain ⟨hyb0,hyb1,hyb2⟩:=hyb; clear hR0 hg2 hbn hg0; have hal : Below w1.heap.size w1 (w1.alloc (.cells #[.int .i64 y.ins,.slice A2 y.gs.length c2] 29)):=(Below.refl _ _).alloc (Nat.le_refl _) _; have HB5:=zH (show (w1.alloc (.cells #[.int .i64 y.ins,.slice A2 y.gs.length c2] 29)).heap[w1.heap.size]? = some (.cells #[.int .i64 y.ins,.slice A2 y.gs.length c2] 29 (0,0)) from heap_alloc_new _ _); have HB2:=zH ((hal.block _ (lt_of_block HB2.out)).trans HB2.out); have hR3:=hR2.up hal; have hgg3:=hgg2.up hal; have HS:=zH (hs2.gr (.below hal)); have HSZ3:=zH (show (w1.alloc (.cells #[.int .i64 y.ins,.slice A2 y.gs.length c2] 29)).heap.size = w1.heap.size + 1 by simp); clear hal hR2 hgg2 hs2 hsz0
 go_wp2_with fail
 have hz3:=HSZ3.out; clear HSZ3; generalize w1.alloc (.cells #[.int .i64 y.ins,.slice A2 y.gs.length c2] 29) = w3 at *; have hb2l:=lt_of_block HB2.out; generalize hb5e : w1.heap.size = b5 at *; generalize hb2e : w.heap.size = b2 at *; have HB2E:=zH hb2e; clear hb5e hb2e hz2; refine (z17 r q2 4 w3 hR3 (by omega) (by omega) (by omega) (by omega)).mono ?_; rintro e w4 ⟨k,rfl,k0,k1,_,hR4,hg4⟩; have k1:=k1 (by omega); have hg4:=Gr.one (S:=IsR r) hg4 rfl; have HB2:=zH (hg4.heap (by show ¬ _ = r; omega) HB2.out); have HB5:=zH (hg4.heap (by show ¬ _ = r; omega) HB5.out); have HS:=zH (HS.out.gr (hg4.mono fun b hb => by rw [show b = r from hb]; exact HTr.out)); have hgg4:=hgg3.trans hg4; have hz4:=hg4.size; obtain ⟨m,hm⟩:=Int.eq_ofNat_of_zero_le (show (0 : Int) <= 1 + k by omega); have hm1 : 1 <= m /\ m <= 4:=by omega
 obtain ⟨m1,m4⟩:=hm1; have HM:=zH hm; clear hR3 hgg3 hg4; have v0:=(z00 HB5.out 0).1; have v1:=(z00 HB5.out 1).1
 go_wp2_with fail
 clear v0 v1; clear hm; refine (l7Marks_any r (q2 + 1) y A2 c2 m w4 hR4 (by omega) (by omega) (by omega) (by omega) (by omega) m1 m4).mono ?_; rintro e w5 ⟨A5,c5,xs,rfl,ho5,hok5,q5,q50,q51,hR5,hg5⟩; have HB2:=zH (hg5.heap (by show ¬ _ = r; omega) HB2.out); have HB5:=zH (hg5.heap (by show ¬ _ = r; omega) HB5.out); have HS:=zH (HS.out.gr (hg5.mono fun b hb => by rw [hb]; exact HTr.out)); have hgg5:=hgg4.trans hg5; have hz5:=hg5.size; have HOK:=zH hok5; have HCX:=zH ho5.capI; have HXS:=zH (ho5.ab (S:=T) (fun b hb => by have:=HTL.out b hb; omega)); clear hR4 hgg4 hg5 hok5 ho5
 go_wp2_with fail
 refine (z17 r q5 16 w5 hR5 (by omega) (by omega) (by omega) (by omega)).mono ?_; rintro e w6 ⟨k6,rfl,k60,_,_,hR6,hg6⟩; have hg6:=Gr.one (S:=IsR r) hg6 rfl; have HB2:=zH (hg6.heap (by show ¬ _ = r; omega) HB2.out); have HB5:=zH (hg6.heap (by show ¬ _ = r; omega) HB5.out); have HS:=zH (HS.out.gr (hg6.mono fun b hb => by rw [show b = r from hb]; exact HTr.out)); have HXS:=zH (HXS.out.gr (hg6.mono fun b hb => by rw [show b = r from hb]; exact HTr.out)); have hgg6:=hgg5.trans hg6; have hz6:=hg6.size; clear hR5 hgg5 hg6
 by_cases hk6 : k6 = 0
 ·
  have hkb : (k6 == 0) = true:=by simpa using hk6
  clear hk6
  go_wp2_with fail
  refine (z17 r (q5 + 1) 4 w6 hR6 (by omega) (by omega) (by omega) (by omega)).mono ?_; rintro e w7 ⟨k7,rfl,k70,k71,_,hR7,hg7⟩; have k71:=k71 (by omega); have hg7:=Gr.one (S:=IsR r) hg7 rfl; have HB2:=zH (hg7.heap (by show ¬ _ = r; omega) HB2.out); have HB5:=zH (hg7.heap (by show ¬ _ = r; omega) HB5.out); have HS:=zH (HS.out.gr (hg7.mono fun b hb => by rw [show b = r from hb]; exact HTr.out)); have HXS:=zH (HXS.out.gr (hg7.mono fun b hb => by rw [show b = r from hb]; exact HTr.out)); have hgg7:=hgg6.trans hg7; have hz7:=hg7.size; obtain ⟨m7,hm7⟩:=Int.eq_ofNat_of_zero_le (show (0 : Int) <= 1 + k7 by omega); have hm71 : 1 <= m7 /\ m7 <= 4:=by omega
  obtain ⟨m71,m74⟩:=hm71; have HR7:=zH hR7; have HGG7:=zH hgg7; clear hR6 hgg6 hg7 hR7 hgg7
  go_wp2
  clear hm7; refine z0a [[],[],[],[],[],[(2,25),(3,26),(4,27)],[(0,23)],[(1,24)],[(5,28)]]
   (Gr (fun b => b = r \/ b = b2))
   []
   (fun f9 x9 => TwoQ r b2 b5 (q5 + 1 + 1) w7 (.cells #[.int .i64 0,.slice none 0 0] 29 (0,0)) (.cells #[.int .i64 y.ins,.slice A2 y.gs.length c2] 29 (0,0)) (f9 5) (f9 6) x9)
   [zF 0 (.agg #[.int .i64 y.ins,.slice A2 y.gs.length c2]),
  zF 1 (.slice A5 xs.length c5),
  zF 2 (.pointer (some ⟨r,0,none⟩)),
  zF 3 (.agg #[.int .i64 y.ins,.slice A2 y.gs.length c2]),
  zF 4 (.int .i64 (m7 : Int)),
  fun vs9 y9 => (fun v yy => SayM T v yy) (vs9 5) y9,
  fun _ _ => True,
  zF 7 (.slice A5 xs.length c5),
  fun vs9 _ => vs9 8 = vs9 5]
   [(0,23),(1,24),(2,25),(3,26),(4,27),(5,28),(7,3),(8,4)] (by kernel_rfl) (by kernel_rfl) (by kernel_rfl) (by kernel_rfl)
   (fun _ => Gr.refl _ _) trivial
   ⟨⟨.inr zG,trivial⟩,
  ⟨.inr zG,trivial⟩,
  ⟨.inr zG,trivial⟩,
  ⟨.inr zG,trivial⟩,
  ⟨.inr zG,trivial⟩,
  ⟨.inr (zS (fun v yy => SayM T v yy) (fun _ _ _ h hR => h.gr hR (fun b hb => hb.elim (fun h => by rw [h]; exact HTr.out) (fun h => by rw [h]; exact (HT.out _).2 (.inr rfl))))),trivial⟩,
  ⟨.inr zK,trivial⟩,
  ⟨.inr zG,trivial⟩,
  ⟨.inr zK,trivial⟩,trivial⟩ ⟨zL,
  zL,
  zL,
  zL,
  zL,
  fun _ _ _ h _ v => (by simpa only [<- h] using v),
  fun _ _ _ _ _ _ => trivial,
  zL,
  fun vs vs' x h hd hv => (by have h2:=hd 5 (by decide); show vs' 8 = vs' 5; exact h.symm.trans (Eq.trans hv h2)),trivial⟩ (⟨.below (z02 (Below.refl _ _) 1),⟨q5 + 1 + 1,HR7.out.up (z02 (Below.refl _ _) 1),by omega,by simp⟩,((z02 (Below.refl _ _) 1 : Below w7.heap.size w7 _).block _ (lt_of_block HB5.out)).trans HB5.out,(fun _ => ((z02 (Below.refl _ _) 1 : Below w7.heap.size w7 _).block _ (lt_of_block HB2.out)).trans HB2.out),fun h => by cases h⟩) ⟨?_,?_,?_,?_,?_,?_,?_,?_,?_,trivial⟩ ?_
  ·
   rintro vals xw f hf1 - - hI hF; dsimp only [z03,bare]; simp only [z01,Act.put,zQ]; have hk9:=hI.2.2.1; have c0:=(z00 hk9 0).1; have c1:=(z00 hk9 1).1; clear hk9
   go_wp2
   exact ⟨rfl,rfl,Gr.refl _ _,hI⟩
  iterate 2
   ·
    rintro vals xw f hf1 - - hI hF; dsimp only [z03,bare]; simp only [z01,Act.put,zQ]
    go_wp2
    exact ⟨rfl,rfl,Gr.refl _ _,hI⟩
  ·
   rintro vals xw f hf1 - - hI hF; dsimp only [z03,bare]; simp only [z01,Act.put,zQ]; have hk9:=hI.2.2.1; have c0:=(z00 hk9 0).1; have c1:=(z00 hk9 1).1; clear hk9
   go_wp2
   exact ⟨rfl,rfl,Gr.refl _ _,hI⟩
  ·
   rintro vals xw f hf1 - - hI hF; dsimp only [z03,bare]; simp only [z01,Act.put,zQ]
   go_wp2
   exact ⟨rfl,rfl,Gr.refl _ _,hI⟩
  ·
   rintro vals xw f hf1 - - hI hF; simp only [z05,zF,zR,and_true] at hF; obtain ⟨e1,e2,e3⟩:=hF; dsimp only [z03,bare]; simp only [z01,Act.put,zQ]; simp only [e1,e2,e3]; obtain ⟨i1,⟨q',hq,q'0,q'1⟩,i3,i4,i5⟩:=hI; rw [hf1,if_neg (by simp)] at q'1; have hsz9:=i1.size; have I1:=zH i1; have I3:=zH i3; have I4:=zH i4; have I5:=zH i5; clear i1 i3 i4 i5
   go_wp2_with fail
   refine (l7Marks_any r q' y A2 c2 m7 xw hq (by omega) (by omega) (by omega) (by omega) (by omega) (by omega) (by omega)).mono ?_; rintro e wx ⟨B9,d9,ys,rfl,ho9,hk9,q9,q90,q91,hR9,hg9⟩; have HG9:=zH (hg9.mono (T:=fun b => b = r \/ b = b2) fun b hb => .inl hb); have HSM:=zH (show SayM T (.slice B9 ys.length d9) wx from ⟨ys,B9,d9,rfl,hk9,ho9.capI,ho9.ab (fun b hb => by have:=HTL.out b hb; omega)⟩); have HQ9:=zH (show TwoQ r b2 b5 (q5 + 1 + 1) w7 (.cells #[.int .i64 0,.slice none 0 0] 29 (0,0)) (.cells #[.int .i64 y.ins,.slice A2 y.gs.length c2] 29 (0,0)) true (f 6) wx from ⟨I1.out.trans HG9.out,⟨q9,hR9,by omega,by simp; omega⟩,hg9.heap (by show ¬ _ = r; omega) I3.out,fun h => hg9.heap (by show ¬ _ = r; omega) (I4.out h),fun h => hg9.heap (by show ¬ _ = r; omega) (I5.out h)⟩); clear ho9 hk9 hR9 hg9
   go_wp2
   exact ⟨rfl,HSM.out,HG9.out,HQ9.out⟩
  ·
   rintro vals xw f hf1 - - hI hF; simp only [z05,zF,zR,and_true] at hF; have e23:=hF; dsimp only [z03,bare]; simp only [z01,Act.put,zQ]; simp only [e23]; obtain ⟨i1,⟨q',i2,q'0,q'1⟩,i3,i4,i5⟩:=hI; have j4:=i4 hf1; have v0:=(z00 j4 0).1; have v1:=(z00 j4 1).1; have f0:=(z00 j4 0).2; have f1:=(z00 j4 1).2; have hh:=z04 _ b2 1 (.slice A2 y.gs.length c2) _ _ (z04 xw b2 0 (.int .i64 y.ins) _ _ j4); have hg : Gr (fun z => z = b2) xw ((xw.setCell ⟨b2,0,none⟩ (.int .i64 y.ins)).setCell ⟨b2,1,none⟩ (.slice A2 y.gs.length c2)):=((Gr.refl (fun z => z = b2) xw).set _ _ _ (.inl (by rfl))).set _ _ _ (.inl (by rfl)); have HH:=zH hh; have HG9:=zH hg; have J4:=zH j4; have I1:=zH i1; have I2:=zH i2; have I3:=zH i3; clear i1 i2 i3 i4 i5 j4 hh hg
   go_wp2
   have hgT:=HG9.out.mono (T:=fun b => b = r \/ b = b2) fun z hz => .inr hz
   exact ⟨rfl,trivial,hgT,I1.out.trans hgT,⟨q',I2.out.far HG9.out (by omega) ⟨_,_,_,J4.out,by simp⟩,q'0,q'1⟩,HG9.out.heap (by show ¬ _ = b2; omega) I3.out,fun h => absurd ((z0h f 6).symm.trans h) (by simp),fun _ => HH.out⟩
  ·
   rintro vals xw f hf1 - - hI hF; simp only [z05,zF,zR,and_true] at hF; have e24:=hF; dsimp only [z03,bare]; simp only [z01,Act.put,zQ]; simp only [e24]
   go_wp2
   exact ⟨rfl,rfl,Gr.refl _ _,hI⟩
  ·
   rintro vals xw f hf1 - - hI hF; simp only [z05,zF,zR,and_true] at hF; obtain ⟨ys,B8,d8,e28,_⟩:=hF; dsimp only [z03,bare]; simp only [z01,Act.put,zQ]; simp only [e28]
   go_wp2
   exact ⟨rfl,e28.symm,Gr.refl _ _,hI⟩
  ·
   intro vals xw f hall hI hF; rw [show List.range _ = [0,1,2,3,4,5,6,7,8] from rfl] at hF; simp only [says,zF,zR,and_true] at hF; obtain ⟨i1,⟨q',i2,q'0,q'1⟩,_,_,i5⟩:=hI; rw [hall 5 (by decide),if_pos rfl] at q'1; have j5:=i5 (hall 6 (by decide)); obtain ⟨_,_,_,_,_,⟨ys,Y,cy,e28,hk9,hcy,hs9⟩,_,e3,e4⟩:=hF; rw [e28] at e4; have k5:=(z00 j5 0).1; have k6:=(z00 j5 1).1; have kf5:=(z00 j5 0).2; have kf6:=(z00 j5 1).2; have I1:=zH i1; have I2:=zH i2; have HK9:=zH hk9; have HCY:=zH hcy; have HS9:=zH hs9; clear i1 i2 i5 j5 hk9 hs9 hcy e28; simp only [z01,Act.put,zQ]; simp only [e3,e4]; clear e3 e4
   go_wp2
   refine bodyPost_ret (v:=.tuple #[.agg #[.int .i64 y.ins,.slice A2 y.gs.length c2],.slice A5 xs.length c5,.slice Y ys.length cy]) (by simp [results,Tryz.results38,go_sem,k5,k6,kf5,kf6]) rfl ?_; have hgx : Gr T w7 xw:=I1.out.mono (fun b hb => hb.elim (fun h => by rw [h]; exact HTr.out) (fun h => by rw [h]; exact (HT.out _).2 (.inr rfl))); exact ⟨y,A2,c2,xs,A5,c5,ys,Y,cy,rfl,(HS.out.gr hgx).ab_mono fun b _ hb => (HT.out b).2 (.inl hb),(HXS.out.gr hgx).ab_mono fun b _ hb => (HT.out b).2 (.inl hb),HS9.out.ab_mono fun b _ hb => (HT.out b).2 (.inl hb),HBN.out,HOK.out,HK9.out,HCX.out,HCY.out,q',by omega,by omega,I2.out,HGG7.out.then I1.out (fun b hb => hb.imp id (fun h => by rw [HB2E.out]; omega))⟩
 ·
  have hkb : (k6 == 0) = false:=by simpa using hk6
  clear hk6; have HR6:=zH hR6; have HGG6:=zH hgg6; clear hR6 hgg6
  go_wp2
  refine z0a [[],[],[],[],[],[(2,25),(3,26),(4,27)],[(0,23)],[(1,24)],[(5,28)]]
   (Gr (fun b => b = r \/ b = b2))
   []
   (fun f9 x9 => TwoQ r b2 b5 (q5 + 1) w6 (.cells #[.int .i64 0,.slice none 0 0] 29 (0,0)) (.cells #[.int .i64 y.ins,.slice A2 y.gs.length c2] 29 (0,0)) (f9 5) (f9 6) x9)
   [zF 0 (.agg #[.int .i64 y.ins,.slice A2 y.gs.length c2]),
  zF 1 (.slice A5 xs.length c5),
  zF 2 (.pointer (some ⟨r,0,none⟩)),
  zF 3 (.agg #[.int .i64 y.ins,.slice A2 y.gs.length c2]),
  zF 4 (.int .i64 (m : Int)),
  fun vs9 y9 => (fun v yy => SayM T v yy) (vs9 5) y9,
  fun _ _ => True,
  zF 7 (.slice A5 xs.length c5),
  fun vs9 _ => vs9 8 = vs9 5]
   [(0,23),(1,24),(2,25),(3,26),(4,27),(5,28),(7,3),(8,4)] (by kernel_rfl) (by kernel_rfl) (by kernel_rfl) (by kernel_rfl)
   (fun _ => Gr.refl _ _) trivial
   ⟨⟨.inr zG,trivial⟩,
  ⟨.inr zG,trivial⟩,
  ⟨.inr zG,trivial⟩,
  ⟨.inr zG,trivial⟩,
  ⟨.inr zG,trivial⟩,
  ⟨.inr (zS (fun v yy => SayM T v yy) (fun _ _ _ h hR => h.gr hR (fun b hb => hb.elim (fun h => by rw [h]; exact HTr.out) (fun h => by rw [h]; exact (HT.out _).2 (.inr rfl))))),trivial⟩,
  ⟨.inr zK,trivial⟩,
  ⟨.inr zG,trivial⟩,
  ⟨.inr zK,trivial⟩,trivial⟩ ⟨zL,
  zL,
  zL,
  zL,
  zL,
  fun _ _ _ h _ v => (by simpa only [<- h] using v),
  fun _ _ _ _ _ _ => trivial,
  zL,
  fun vs vs' x h hd hv => (by have h2:=hd 5 (by decide); show vs' 8 = vs' 5; exact h.symm.trans (Eq.trans hv h2)),trivial⟩ (⟨.below (z02 (Below.refl _ _) 1),⟨q5 + 1,HR6.out.up (z02 (Below.refl _ _) 1),by omega,by simp⟩,((z02 (Below.refl _ _) 1 : Below w6.heap.size w6 _).block _ (lt_of_block HB5.out)).trans HB5.out,(fun _ => ((z02 (Below.refl _ _) 1 : Below w6.heap.size w6 _).block _ (lt_of_block HB2.out)).trans HB2.out),fun h => by cases h⟩) ⟨?_,?_,?_,?_,?_,?_,?_,?_,?_,trivial⟩ ?_
  ·
   rintro vals xw f hf1 - - hI hF; dsimp only [z03,bare]; simp only [z01,Act.put,zQ]; have hk9:=hI.2.2.1; have c0:=(z00 hk9 0).1; have c1:=(z00 hk9 1).1; clear hk9
   go_wp2
   exact ⟨rfl,rfl,Gr.refl _ _,hI⟩
  iterate 2
   ·
    rintro vals xw f hf1 - - hI hF; dsimp only [z03,bare]; simp only [z01,Act.put,zQ]
    go_wp2
    exact ⟨rfl,rfl,Gr.refl _ _,hI⟩
  ·
   rintro vals xw f hf1 - - hI hF; dsimp only [z03,bare]; simp only [z01,Act.put,zQ]; have hk9:=hI.2.2.1; have c0:=(z00 hk9 0).1; have c1:=(z00 hk9 1).1; clear hk9
   go_wp2
   exact ⟨rfl,rfl,Gr.refl _ _,hI⟩
  ·
   rintro vals xw f hf1 - - hI hF; dsimp only [z03,bare]; simp only [z01,Act.put,zQ]
   go_wp2
   exact ⟨rfl,rfl,Gr.refl _ _,hI⟩
  ·
   rintro vals xw f hf1 - - hI hF; simp only [z05,zF,zR,and_true] at hF; obtain ⟨e1,e2,e3⟩:=hF; dsimp only [z03,bare]; simp only [z01,Act.put,zQ]; simp only [e1,e2,e3]; obtain ⟨i1,⟨q',hq,q'0,q'1⟩,i3,i4,i5⟩:=hI; rw [hf1,if_neg (by simp)] at q'1; have hsz9:=i1.size; have I1:=zH i1; have I3:=zH i3; have I4:=zH i4; have I5:=zH i5; clear i1 i3 i4 i5
   go_wp2_with fail
   refine (l7Marks_any r q' y A2 c2 m xw hq (by omega) (by omega) (by omega) (by omega) (by omega) (by omega) (by omega)).mono ?_; rintro e wx ⟨B9,d9,ys,rfl,ho9,hk9,q9,q90,q91,hR9,hg9⟩; have HG9:=zH (hg9.mono (T:=fun b => b = r \/ b = b2) fun b hb => .inl hb); have HSM:=zH (show SayM T (.slice B9 ys.length d9) wx from ⟨ys,B9,d9,rfl,hk9,ho9.capI,ho9.ab (fun b hb => by have:=HTL.out b hb; omega)⟩); have HQ9:=zH (show TwoQ r b2 b5 (q5 + 1) w6 (.cells #[.int .i64 0,.slice none 0 0] 29 (0,0)) (.cells #[.int .i64 y.ins,.slice A2 y.gs.length c2] 29 (0,0)) true (f 6) wx from ⟨I1.out.trans HG9.out,⟨q9,hR9,by omega,by simp; omega⟩,hg9.heap (by show ¬ _ = r; omega) I3.out,fun h => hg9.heap (by show ¬ _ = r; omega) (I4.out h),fun h => hg9.heap (by show ¬ _ = r; omega) (I5.out h)⟩); clear ho9 hk9 hR9 hg9
   go_wp2
   exact ⟨rfl,HSM.out,HG9.out,HQ9.out⟩
  ·
   rintro vals xw f hf1 - - hI hF; simp only [z05,zF,zR,and_true] at hF; have e23:=hF; dsimp only [z03,bare]; simp only [z01,Act.put,zQ]; simp only [e23]; obtain ⟨i1,⟨q',i2,q'0,q'1⟩,i3,i4,i5⟩:=hI; have j4:=i4 hf1; have v0:=(z00 j4 0).1; have v1:=(z00 j4 1).1; have f0:=(z00 j4 0).2; have f1:=(z00 j4 1).2; have hh:=z04 _ b2 1 (.slice A2 y.gs.length c2) _ _ (z04 xw b2 0 (.int .i64 y.ins) _ _ j4); have hg : Gr (fun z => z = b2) xw ((xw.setCell ⟨b2,0,none⟩ (.int .i64 y.ins)).setCell ⟨b2,1,none⟩ (.slice A2 y.gs.length c2)):=((Gr.refl (fun z => z = b2) xw).set _ _ _ (.inl (by rfl))).set _ _ _ (.inl (by rfl)); have HH:=zH hh; have HG9:=zH hg; have J4:=zH j4; have I1:=zH i1; have I2:=zH i2; have I3:=zH i3; clear i1 i2 i3 i4 i5 j4 hh hg
   go_wp2
   have hgT:=HG9.out.mono (T:=fun b => b = r \/ b = b2) fun z hz => .inr hz
   exact ⟨rfl,trivial,hgT,I1.out.trans hgT,⟨q',I2.out.far HG9.out (by omega) ⟨_,_,_,J4.out,by simp⟩,q'0,q'1⟩,HG9.out.heap (by show ¬ _ = b2; omega) I3.out,fun h => absurd ((z0h f 6).symm.trans h) (by simp),fun _ => HH.out⟩
  ·
   rintro vals xw f hf1 - - hI hF; simp only [z05,zF,zR,and_true] at hF; have e24:=hF; dsimp only [z03,bare]; simp only [z01,Act.put,zQ]; simp only [e24]
   go_wp2
   exact ⟨rfl,rfl,Gr.refl _ _,hI⟩
  ·
   rintro vals xw f hf1 - - hI hF; simp only [z05,zF,zR,and_true] at hF; obtain ⟨ys,B8,d8,e28,_⟩:=hF; dsimp only [z03,bare]; simp only [z01,Act.put,zQ]; simp only [e28]
   go_wp2
   exact ⟨rfl,e28.symm,Gr.refl _ _,hI⟩
  ·
   intro vals xw f hall hI hF; rw [show List.range _ = [0,1,2,3,4,5,6,7,8] from rfl] at hF; simp only [says,zF,zR,and_true] at hF; obtain ⟨i1,⟨q',i2,q'0,q'1⟩,_,_,i5⟩:=hI; rw [hall 5 (by decide),if_pos rfl] at q'1; have j5:=i5 (hall 6 (by decide)); obtain ⟨_,_,_,_,_,⟨ys,Y,cy,e28,hk9,hcy,hs9⟩,_,e3,e4⟩:=hF; rw [e28] at e4; have k5:=(z00 j5 0).1; have k6:=(z00 j5 1).1; have kf5:=(z00 j5 0).2; have kf6:=(z00 j5 1).2; have I1:=zH i1; have I2:=zH i2; have HK9:=zH hk9; have HCY:=zH hcy; have HS9:=zH hs9; clear i1 i2 i5 j5 hk9 hs9 hcy e28; simp only [z01,Act.put,zQ]; simp only [e3,e4]; clear e3 e4
   go_wp2
   refine bodyPost_ret (v:=.tuple #[.agg #[.int .i64 y.ins,.slice A2 y.gs.length c2],.slice A5 xs.length c5,.slice Y ys.length cy]) (by simp [results,Tryz.results38,go_sem,k5,k6,kf5,kf6]) rfl ?_; have hgx : Gr T w6 xw:=I1.out.mono (fun b hb => hb.elim (fun h => by rw [h]; exact HTr.out) (fun h => by rw [h]; exact (HT.out _).2 (.inr rfl))); exact ⟨y,A2,c2,xs,A5,c5,ys,Y,cy,rfl,(HS.out.gr hgx).ab_mono fun b _ hb => (HT.out b).2 (.inl hb),(HXS.out.gr hgx).ab_mono fun b _ hb => (HT.out b).2 (.inl hb),HS9.out.ab_mono fun b _ hb => (HT.out b).2 (.inl hb),HBN.out,HOK.out,HK9.out,HCX.out,HCY.out,q',by omega,by omega,I2.out,HGG6.out.then I1.out (fun b hb => hb.imp id (fun h => by rw [HB2E.out]; omega))⟩
def DrawB4 (w : World) (e : Ending) (w' : World) : Prop :=
 ∃ (n : N) (A : Option Addr) (c : Nat) (m : Int) (xs : List Int) (X : Option Addr) (cx : Nat) (ys : List Int) (Y : Option Addr) (cy : Nat),e = .returned (.tuple #[.agg #[.int .i64 n.ins,.slice A n.gs.length c],.int .i64 m,.slice X xs.length cx,.slice Y ys.length cy]) ∧
  Lay.gate.Rd w' A n.gs /\ Lay.int.Rd w' X xs /\ Lay.int.Rd w' Y ys /\ bentN 4 n /\ z15 m /\ okMks xs /\ okMks ys /\ xs.length <= cx /\ ys.length <= cy /\ Below w.heap.size w w'
end Go.Proofs.YtemdmlmcidfodaaGreatDoor
