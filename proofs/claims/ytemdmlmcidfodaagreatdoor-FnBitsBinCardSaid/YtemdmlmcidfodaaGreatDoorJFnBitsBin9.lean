/- A drawn region, each operation once, what memory does told of each. No program is named here. -/
import Derived.Test.YtemdmlmcidfodaaGreatDoorJFnBitsBin0
import Derived.Test.YtemdmlmcidfodaaGreatDoorJFnBitsBin2
import Derived.Test.YtemdmlmcidfodaaGreatDoorJFnBitsBin8
namespace Go.Proofs.YtemdmlmcidfodaaGreatDoor
open Go Go.RowKit
set_option maxHeartbeats 1000000 in
theorem fail_any (a0 a1 : Addr) (lo q r : Nat) (e0 : Option Nat) (b : Bool) (k : Nat) (w : World) (h : Bx a0 a1 lo w q r e0) :
  Calls Tryz.prog 73 #[.pointer (some ⟨q,0,none⟩),.bool b,errV a0 a1 (some k)] w (RetX a0 a1 lo w q r (z1g e0 b k) (.tuple #[])):=by
 have z1 : w.cell? ⟨q,1,none⟩ = some (errV a0 a1 e0):=(z00 h.box 1).1; have zf : w.frozen? ⟨q,1,none⟩ = false:=(z00 h.box 1).2; have H:=zH h; clear h; obtain ⟨a2,hv⟩ : ∃ a2,errV a0 a1 (some k) = z28 a2:=by rcases k with _ | k <;> exact ⟨_,rfl⟩
 have HV:=zH hv; rw [hv]; clear hv
 rcases e0 with _ | e0
 ·
  simp only [errV] at z1
  cases b
  ·
   go_enter Tryz.func73,Tryz.ntmps73
   go_wp2
   refine bodyPost_end (results_none rfl _ _ _) rfl ?_; exact ⟨rfl,.refl _ _,by rw [show z1g none false k = none from if_neg (by simp)]; exact H.out,fun _ _ h _ => h⟩
  ·
   go_enter Tryz.func73,Tryz.ntmps73
   go_wp2
   refine bodyPost_end (results_none rfl _ _ _) rfl ?_; rw [show z1g none true k = some k from if_pos ⟨rfl,rfl⟩]; have hb:=z04 w q 1 (z28 a2) _ _ H.out.box; have hB:=BelB.set (k:=1) H.out.box H.out.low (z28 a2); refine ⟨rfl,hB,⟨H.out.g.below hB.bel,?_,H.out.low⟩,CKs.set H.out.box (z28 a2)⟩; rw [hb,HV.out]; rfl
 ·
  rw [show z1g (some e0) b k = some e0 from if_neg (by simp)]; obtain ⟨a,ha⟩ : ∃ a,errV a0 a1 (some e0) = z28 a:=by rcases e0 with _ | e0 <;> exact ⟨_,rfl⟩
  simp only [ha] at z1; clear ha
  cases b
  all_goals
   go_enter Tryz.func73,Tryz.ntmps73
   go_wp2
   refine bodyPost_end (results_none rfl _ _ _) rfl ?_; exact ⟨rfl,.refl _ _,H.out,fun _ _ h _ => h⟩
def madeV (e : Option Nat) (m : Int) : Int:=if e = none then m else -1
set_option maxHeartbeats 1000000 in
theorem made_any (a0 a1 : Addr) (lo q r : Nat) (e0 : Option Nat) (m : Int) (w : World) (h : Bx a0 a1 lo w q r e0) (h0 : -9223372036854775808 <= m) (h1 : m <= 9223372036854775807) :
  Calls Tryz.prog 105 #[.pointer (some ⟨q,0,none⟩),.int .i64 m] w (RetX a0 a1 lo w q r (z1g e0 (m == 0) 1) (.int .i64 (madeV (z1g e0 (m == 0) 1) m))):=by
 have g1 : w.cell? ⟨0,0,none⟩ = some (errV a0 a1 (some 1)):=h.g.c1; have HF:=zH (fail_any a0 a1 lo q r e0 (m == 0) 1 w h); clear h; generalize hv : errV a0 a1 (some 1) = v at *; generalize hz : (m == 0) = z at *
 go_enter Tryz.func105,Tryz.ntmps105
 go_wp2_with fail
 refine HF.out.mono ?_; rintro e w1 ⟨rfl,hb,hd,hk⟩; generalize z1g e0 z 1 = e1 at *; have z1 : w1.cell? ⟨q,1,none⟩ = some (errV a0 a1 e1):=(z00 hd.box 1).1; have HB:=zH hb; have HD:=zH hd; have HK:=zH hk; clear hb hd HF hz hv g1 hk
 rcases e1 with _ | e1
 ·
  simp only [errV] at z1
  go_wp2
  go_ret
  exact ⟨rfl,HB.out,HD.out,HK.out⟩
 ·
  obtain ⟨a,ha⟩ : ∃ a,errV a0 a1 (some e1) = z28 a:=by rcases e1 with _ | e1 <;> exact ⟨_,rfl⟩
  simp only [ha] at z1; clear ha
  go_wp2
  go_ret
  exact ⟨rfl,HB.out,HD.out,HK.out⟩
set_option maxHeartbeats 1000000 in
theorem bAnd_any (a0 a1 : Addr) (lo q r : Nat) (s : BS) (x y : Int) (w : World) (h : Bd a0 a1 lo w q r s) (hx : MB x) (hy : MB y) :
  Calls Tryz.prog 77 #[.pointer (some ⟨q,0,none⟩),.int .i64 x,.int .i64 y] w (RetM a0 a1 lo w q r (opsP.and s x y)):=by
 have z0 : w.cell? ⟨q,0,none⟩ = some (.pointer (some ⟨r,0,none⟩)):=(z00 h.box 0).1; have z1 : w.cell? ⟨q,1,none⟩ = some (errV a0 a1 s.e):=(z00 h.box 1).1; have H:=zH h; obtain ⟨hx0,hx1,hx2⟩:=hx; obtain ⟨hy0,hy1,hy2⟩:=hy
 show Calls _ _ _ _ (RetM a0 a1 lo w q r (z16 s (and1 s.n x y)))
 obtain ⟨n,e⟩:=s; obtain ⟨hn0,hn1,hn2⟩:=h.nb; dsimp only at hn0 hn1 hn2
 rcases e with _ | e
 ·
  have hc : Circ lo w r n n.gs:=h.circ rfl; have HR:=zH (and1_nb (a:=x) (b:=y) h.nb ⟨hx1,hx2⟩ ⟨hy1,hy2⟩); clear h; simp only [errV] at z1; have HC:=zH (implAnd_any lo r n x y w hc hn2 hn0 hn1 (by omega) (by omega) hx0); clear hc
  go_enter Tryz.func77,Tryz.ntmps77
  go_wp2_with fail
  refine HC.out.mono ?_; rintro e w1 ⟨rfl,hb,hc1⟩; have HX : Hid (Bx a0 a1 lo w1 q r none):=zH ⟨H.out.g.below hb.bel,hb.kd q _ H.out.box bk_nck,H.out.low⟩; have HB:=zH hb.toB; have HC1:=zH hc1; have HST : Hid (z16 ⟨n,none⟩ (and1 n x y) = if (and1 n x y).2 = 0 then (⟨n,some 1⟩,-1) else (⟨(and1 n x y).1,none⟩,(and1 n x y).2)):=zH (by unfold z16; rw [if_neg (by simp)]); clear hb hc1 HC; generalize and1 n x y = m at *; obtain ⟨m0,m1⟩:=HR.out.2
  go_wp2_with fail
  refine (made_any a0 a1 lo q r none m.2 w1 HX.out (by omega) (by omega)).mono ?_; rintro e w2 ⟨rfl,hb2,hx2',hk2⟩; have HB2:=zH (HB.out.trans hb2); have HX2:=zH hx2'; have HK2:=zH hk2; clear hb2 hx2' hk2
  go_wp2
  go_ret
  show RetM a0 a1 lo w q r (z16 ⟨n,none⟩ m) _ _
  rw [HST.out]
  by_cases hz : m.2 = 0
  ·
   have he : z1g none (m.2 == 0) 1 = some 1:=by rw [hz]; rfl
   rw [if_pos hz]; have hx3:=HX2.out; rw [he] at hx3 ⊢; exact ⟨rfl,HB2.out,⟨hx3,H.out.nb,fun h => by cases h⟩⟩
  ·
   have he : z1g none (m.2 == 0) 1 = none:=if_neg (by simp [hz]); rw [if_neg hz]; have hx3:=HX2.out; rw [he] at hx3 ⊢; exact ⟨rfl,HB2.out,⟨hx3,HR.out.1,fun _ => (HC1.out hz).keep HK2.out⟩⟩
 ·
  obtain ⟨a,ha⟩ : ∃ a,errV a0 a1 (some e) = z28 a:=by rcases e with _ | e <;> exact ⟨_,rfl⟩
  simp only [ha] at z1; clear ha h
  go_enter Tryz.func77,Tryz.ntmps77
  go_wp2
  go_ret
  rw [show z16 ⟨n,some e⟩ (and1 n x y) = (⟨n,some e⟩,-1) from if_pos (by simp)]; exact ⟨rfl,.refl _ _,H.out⟩
set_option maxHeartbeats 1000000 in
theorem bXor_any (a0 a1 : Addr) (lo q r : Nat) (s : BS) (x y : Int) (w : World) (h : Bd a0 a1 lo w q r s) (hx : MB x) (hy : MB y) :
  Calls Tryz.prog 79 #[.pointer (some ⟨q,0,none⟩),.int .i64 x,.int .i64 y] w (RetM a0 a1 lo w q r (opsP.xor s x y)):=by
 have z0 : w.cell? ⟨q,0,none⟩ = some (.pointer (some ⟨r,0,none⟩)):=(z00 h.box 0).1; have z1 : w.cell? ⟨q,1,none⟩ = some (errV a0 a1 s.e):=(z00 h.box 1).1; have H:=zH h; obtain ⟨hx0,hx1,hx2⟩:=hx; obtain ⟨hy0,hy1,hy2⟩:=hy
 show Calls _ _ _ _ (RetM a0 a1 lo w q r (z16 s (xor1 s.n x y)))
 obtain ⟨n,e⟩:=s; obtain ⟨hn0,hn1,hn2⟩:=h.nb; dsimp only at hn0 hn1 hn2
 rcases e with _ | e
 ·
  have hc : Circ lo w r n n.gs:=h.circ rfl; have HR:=zH (xor1_nb (a:=x) (b:=y) h.nb ⟨hx1,hx2⟩ ⟨hy1,hy2⟩); clear h; simp only [errV] at z1; have HC:=zH (implXor_any lo r n x y w hc hn2 hn0 hn1 (by omega) (by omega)); clear hc
  go_enter Tryz.func79,Tryz.ntmps79
  go_wp2_with fail
  refine HC.out.mono ?_; rintro e w1 ⟨rfl,hb,hc1⟩; have HX : Hid (Bx a0 a1 lo w1 q r none):=zH ⟨H.out.g.below hb.bel,hb.kd q _ H.out.box bk_nck,H.out.low⟩; have HB:=zH hb.toB; have HC1:=zH hc1; have HST : Hid (z16 ⟨n,none⟩ (xor1 n x y) = if (xor1 n x y).2 = 0 then (⟨n,some 1⟩,-1) else (⟨(xor1 n x y).1,none⟩,(xor1 n x y).2)):=zH (by unfold z16; rw [if_neg (by simp)]); clear hb hc1 HC; generalize xor1 n x y = m at *; obtain ⟨m0,m1⟩:=HR.out.2
  go_wp2_with fail
  refine (made_any a0 a1 lo q r none m.2 w1 HX.out (by omega) (by omega)).mono ?_; rintro e w2 ⟨rfl,hb2,hx2',hk2⟩; have HB2:=zH (HB.out.trans hb2); have HX2:=zH hx2'; have HK2:=zH hk2; clear hb2 hx2' hk2
  go_wp2
  go_ret
  show RetM a0 a1 lo w q r (z16 ⟨n,none⟩ m) _ _
  rw [HST.out]
  by_cases hz : m.2 = 0
  ·
   have he : z1g none (m.2 == 0) 1 = some 1:=by rw [hz]; rfl
   rw [if_pos hz]; have hx3:=HX2.out; rw [he] at hx3 ⊢; exact ⟨rfl,HB2.out,⟨hx3,H.out.nb,fun h => by cases h⟩⟩
  ·
   have he : z1g none (m.2 == 0) 1 = none:=if_neg (by simp [hz]); rw [if_neg hz]; have hx3:=HX2.out; rw [he] at hx3 ⊢; exact ⟨rfl,HB2.out,⟨hx3,HR.out.1,fun _ => (HC1.out hz).keep HK2.out⟩⟩
 ·
  obtain ⟨a,ha⟩ : ∃ a,errV a0 a1 (some e) = z28 a:=by rcases e with _ | e <;> exact ⟨_,rfl⟩
  simp only [ha] at z1; clear ha h
  go_enter Tryz.func79,Tryz.ntmps79
  go_wp2
  go_ret
  rw [show z16 ⟨n,some e⟩ (xor1 n x y) = (⟨n,some e⟩,-1) from if_pos (by simp)]; exact ⟨rfl,.refl _ _,H.out⟩
theorem z1e {s : BS} {x y : Int} (h : NB s.n) (hx : RB x) (hy : RB y) : NB (opsP.and s x y).1.n /\ MB (opsP.and s x y).2:=stepP_nb h (and1_nb h hx hy)
theorem opsP_xor_mb {s : BS} {x y : Int} (h : NB s.n) (hx : RB x) (hy : RB y) : NB (opsP.xor s x y).1.n /\ MB (opsP.xor s x y).2:=stepP_nb h (xor1_nb h hx hy)
theorem bOr_any (a0 a1 : Addr) (lo q r : Nat) (s : BS) (x y : Int) (w : World) (h : Bd a0 a1 lo w q r s) (hx : MB x) (hy : MB y) :
  Calls Tryz.prog 78 #[.pointer (some ⟨q,0,none⟩),.int .i64 x,.int .i64 y] w (RetM a0 a1 lo w q r (run opsP (orP x y) s)):=by
 have HC:=zH (bAnd_any a0 a1 lo q r s (-x) (-y) w h hx.neg hy.neg); have HM:=zH (z1e (x:=-x) (y:=-y) h.nb hx.rb.neg hy.rb.neg).2
 show Calls _ _ _ _ (RetM a0 a1 lo w q r ((opsP.and s (-x) (-y)).1,-(opsP.and s (-x) (-y)).2))
 obtain ⟨hx0,hx1,hx2⟩:=hx; obtain ⟨hy0,hy1,hy2⟩:=hy; clear h; generalize opsP.and s (-x) (-y) = m at *; obtain ⟨hm0,hm1,hm2⟩:=HM.out
 go_enter Tryz.func78,Tryz.ntmps78
 go_wp2_with fail
 refine HC.out.mono ?_; rintro e w1 ⟨rfl,hb,hd⟩; have HB:=zH hb; have HD:=zH hd; clear hb hd HC
 go_wp2
 go_ret
 exact ⟨rfl,HB.out,HD.out⟩
set_option maxHeartbeats 1000000 in
theorem bMux_any (a0 a1 : Addr) (lo q r : Nat) (s : BS) (c x y : Int) (w : World) (h : Bd a0 a1 lo w q r s) (hc : MB c) (hx : MB x) (hy : MB y) :
  Calls Tryz.prog 113 #[.pointer (some ⟨q,0,none⟩),.int .i64 c,.int .i64 x,.int .i64 y] w (RetM a0 a1 lo w q r (run opsP (muxP c x y) s)):=by
 have HC:=zH (bAnd_any a0 a1 lo q r s c x w h hc hx); have HM:=zH (z1e (x:=c) (y:=x) h.nb hc.rb hx.rb)
 show Calls _ _ _ _ (RetM a0 a1 lo w q r (run opsP (orP (opsP.and s c x).2 (opsP.and (opsP.and s c x).1 (-c) y).2) (opsP.and (opsP.and s c x).1 (-c) y).1))
 have HX:=zH hc.neg; have HY:=zH hy; obtain ⟨hc0,hc1,hc2⟩:=hc; clear h; generalize opsP.and s c x = m at *
 go_enter Tryz.func113,Tryz.ntmps113
 go_wp2_with fail
 refine HC.out.mono ?_; rintro e w1 ⟨rfl,hb,hd⟩; have HB:=zH hb; have HC:=zH (bAnd_any a0 a1 lo q r m.1 (-c) y w1 hd HX.out HY.out); have HM2:=zH (z1e (x:=-c) (y:=y) hd.nb HX.out.rb HY.out.rb); clear hb hd; generalize opsP.and m.1 (-c) y = p at *
 go_wp2_with fail
 refine HC.out.mono ?_; rintro e w2 ⟨rfl,hb,hd⟩; have HB:=zH (HB.out.trans hb); have HC:=zH (bOr_any a0 a1 lo q r p.1 m.2 p.2 w2 hd HM.out.2 HM2.out.2); clear hb hd; generalize run opsP (orP m.2 p.2) p.1 = z at *
 go_wp2_with fail
 refine HC.out.mono ?_; rintro e w3 ⟨rfl,hb,hd⟩; have HB:=zH (HB.out.trans hb); have HD:=zH hd; clear hb hd HC
 go_wp2
 go_ret
 exact ⟨rfl,HB.out,HD.out⟩
def bare (o : Oper) : Oper:={ o with guard:=none }
def relOk (ops : List Oper) (D : List (List Nat)) (size : Nat) : Bool :=
 (List.range ops.length).all fun k =>
  (match ops[k]? with
   | some o => (match o.guard with | none => true | some (g,_) => (D.getD k []).contains g && (z0l ops g).isSome) && (match o.op with | .select .. => false | _ => true) && (o.after.all fun e => !Region.binds .any e || decide (e.on < k)) && (match o.dst with | some d => decide (d < size) | none => true)
   | none => false) &&
  ((D.getD k []).all fun j => waits ops k j && decide (j < ops.length)) &&
  (decide ((D.getD k []).Nodup)) &&
  (List.range ops.length).all fun j =>
   (!looks ops k j || (D.getD k []).contains j) &&
   (decide (j = k) || (match z0l ops j,z0l ops k with | some d,some e => d != e | _,_ => true))
theorem relOk_spec {ops : List Oper} {D : List (List Nat)} {size : Nat} (h : relOk ops D size = true) (k : Nat) (o : Oper) (hk : ops[k]? = some o) :
  (∀ g b,o.guard = some (g,b) -> g ∈ D.getD k [] /\ ∃ d,z0l ops g = some d) /\ (∀ cs b,o.op ≠ .select cs b) /\ (∀ e ∈ o.after,Region.binds .any e = true -> e.on < k) /\ (∀ d,o.dst = some d -> d < size) ∧
  (∀ j ∈ D.getD k [],waits ops k j = true /\ j < ops.length) /\ (∀ j,j < ops.length -> looks ops k j = true -> j ∈ D.getD k []) ∧
  (∀ j d,j < ops.length -> z0l ops j = some d -> o.dst = some d -> j = k):=by
 have hlt : k < ops.length:=(List.getElem?_eq_some_iff.1 hk).1; unfold relOk at h; have h:=List.all_eq_true.1 h k (List.mem_range.2 hlt); have hdk : z0l ops k = o.dst:=by simp [z0l,hk]
 simp only [hk,Bool.and_eq_true,hdk] at h; obtain ⟨⟨⟨⟨⟨⟨h1,h2⟩,h3⟩,h4⟩,h5⟩,_⟩,h6⟩:=h; have h6 : ∀ j,j < ops.length -> _:=fun j hj => List.all_eq_true.1 h6 j (List.mem_range.2 hj)
 refine ⟨fun g b hg => ?_,fun cs b e => (by rw [e] at h2; cases h2),fun e he hb => ?_,fun d hd => by rw [hd] at h4; simpa using h4,fun j hj => ?_,fun j hj hl => ?_,fun j d hj hd hd' => ?_⟩
 ·
  rw [hg] at h1; simp only [Bool.and_eq_true,List.contains_iff_mem] at h1; exact ⟨h1.1,Option.isSome_iff_exists.1 h1.2⟩
 ·
  have:=(Array.all_eq_true_iff_forall_mem.1 h3) e he
  simpa [hb] using this
 ·
  have:=List.all_eq_true.1 h5 j hj
  simpa using this
 ·
  have:=h6 j hj; simp only [Bool.and_eq_true,hl] at this
  simpa using this.1
 ·
  have:=h6 j hj; simp only [Bool.and_eq_true,hd,hd'] at this
  simpa using this.2
abbrev Say:=(Nat -> Value) -> World -> Prop
def says (L : List Say) (vals : Nat -> Value) (x : World) : List Nat -> Prop
 | [] => True
 | i :: l => L.getD i (fun _ _ => True) vals x /\ says L vals x l
def isLast (ops : List Oper) (k : Nat) : Bool:=(List.range ops.length).all fun r => r == k || z1b ops ops.length k r
def cntT (g : Nat -> Bool) : Nat -> Nat
 | 0 => 0
 | n + 1 => cntT g n + if g n then 1 else 0
def lows (ops : List Oper) (k : Nat) : Nat:=cntT (fun r => r != k && z1b ops ops.length k r) ops.length
def ups (ops : List Oper) (k : Nat) : Nat:=cntT (fun r => r != k && z1b ops ops.length r k) ops.length
theorem cntT_in {f g : Nat -> Bool} : ∀ {n : Nat},(∀ i,i < n -> g i = true -> f i = true) -> cntT g n + cnt f n <= n
 | 0,_ => Nat.le_refl _
 | n + 1,h => by
  have ih:=cntT_in (f:=f) (g:=g) (n:=n) fun i hi => h i (by omega)
  have hn:=h n (by omega); simp only [cntT,cnt]
  cases hg : g n
  · simp; split <;> omega
  · rw [hn hg]; simp; omega
theorem cntT_out {f g : Nat -> Bool} {k : Nat} (hf : f k = false) (hg : g k = false) : ∀ {n : Nat},(∀ i,i < n -> g i = true -> f i = false) -> cntT g n + (if k < n then 1 else 0) <= cnt f n
 | 0,_ => by simp [cntT,cnt]
 | n + 1,h => by
  have ih:=cntT_out hf hg (n:=n) fun i hi => h i (by omega)
  have hn:=h n (by omega); simp only [cntT,cnt]
  by_cases e : n = k
  ·
   subst e; rw [hf,hg]; simp at ih ⊢
   omega
  ·
   have hite : (if k < n + 1 then 1 else 0) = (if k < n then 1 else 0):=by
    by_cases h9 : k < n
    · rw [if_pos h9,if_pos (by omega)]
    · rw [if_neg h9,if_neg (by omega)]
   rw [hite]; generalize (if k < n then 1 else 0) = z at *
   cases hgn : g n
   ·
    rw [if_neg (by simp)]; have : cnt f n <= cnt f n + (if f n = true then 0 else 1):=Nat.le_add_right _ _
    omega
   ·
    rw [if_pos rfl,hn hgn,if_neg (by simp)]
    omega
def Stabs (ops : List Oper) (R : World -> World -> Prop) : Nat -> List Say -> Prop
 | _,[] => True
 | k,V :: l => (isLast ops k = true \/ ∀ vs x x',V vs x -> R x x' -> V vs x') /\ Stabs ops R (k + 1) l
theorem Stabs.get {ops : List Oper} {R : World -> World -> Prop} : ∀ {L : List Say} {k : Nat},Stabs ops R k L -> ∀ i vs x x',isLast ops (k + i) = false -> L.getD i (fun _ _ => True) vs x -> R x x' -> L.getD i (fun _ _ => True) vs x'
 | [],_,_,i,vs,x,x',_,_,_ => by simp
 | V :: l,k,h,0,vs,x,x',hl,hv,hr => by
  rcases h.1 with h1 | h1
  · rw [Nat.add_zero] at hl; rw [hl] at h1; cases h1
  · simpa using h1 vs x x' (by simpa using hv) hr
 | V :: l,k,h,i + 1,vs,x,x',hl,hv,hr => by simpa using Stabs.get h.2 i vs x x' (by rw [<- hl]; congr 1; omega) (by simpa using hv) hr
def Locals (D : List (List Nat)) : Nat -> List Say -> Prop
 | _,[] => True
 | k,V :: l => (∀ vs vs' x,vs k = vs' k -> (∀ i ∈ D.getD k [],vs i = vs' i) -> V vs x -> V vs' x) /\ Locals D (k + 1) l
theorem Locals.get {D : List (List Nat)} : ∀ {L : List Say} {k : Nat},Locals D k L -> ∀ i vs vs' x,vs (k + i) = vs' (k + i) -> (∀ m ∈ D.getD (k + i) [],vs m = vs' m) -> L.getD i (fun _ _ => True) vs x -> L.getD i (fun _ _ => True) vs' x
 | [],_,_,i,vs,vs',x,_,_,_ => by simp
 | V :: l,k,h,0,vs,vs',x,h1,h2,hv => by simpa using h.1 vs vs' x (by simpa using h1) (by simpa using h2) (by simpa using hv)
 | V :: l,k,h,i + 1,vs,vs',x,h1,h2,hv => by
  have e : k + (i + 1) = k + 1 + i:=by omega
  rw [e] at h1 h2
  simpa using Locals.get h.2 i vs vs' x h1 h2 (by simpa using hv)
def upd (vs : Nat -> Value) (k : Nat) (v : Value) : Nat -> Value:=fun j => if j = k then v else vs j
def relQ (R : World -> World -> Prop) (I : Nat -> World -> Prop) (L : List Say) (vals : Nat -> Value) (n k : Nat) (o : Oper) (a : Act) (x : World) : Exit -> Act -> World -> Prop
 | .normal,a',x' => a'.defers = a.defers /\ L.getD k (fun _ _ => True) (upd vals k (got o a')) x' /\ R x x' /\ I (n + 1) x'
 | _,_,_ => False
variable {P : Program} {Q : Exit -> Act -> World -> Prop}
def obligR (P : Program) (ops : List Oper) (D : List (List Nat)) (R : World -> World -> Prop) (I : Nat -> World -> Prop) (L : List Say) (a : Act) (k : Nat) (o : Oper) : Prop :=
 ∀ (vals : Nat -> Value) (x : World) (n : Nat),n < ops.length -> lows ops k <= n /\ n + 1 + ups ops k <= ops.length -> I n x -> says L vals x (D.getD k []) →
  ((∀ g b,o.guard = some (g,b) -> vals g = .bool b) -> o.wp P (puts ops vals (D.getD k []) a) x (relQ R I L vals n k o (puts ops vals (D.getD k []) a) x .normal) (relQ R I L vals n k o (puts ops vals (D.getD k []) a) x)) ∧
  (∀ g b,o.guard = some (g,b) -> vals g ≠ .bool b -> L.getD k (fun _ _ => True) (upd vals k undef) x /\ I (n + 1) x)
theorem says_iff {L : List Say} {vals : Nat -> Value} {x : World} : ∀ {l : List Nat},says L vals x l ↔ ∀ i ∈ l,L.getD i (fun _ _ => True) vals x
 | [] => by simp [says]
 | i :: l => by simp [says,says_iff (l:=l)]
structure RelInv (ops : List Oper) (I : Nat -> World -> Prop) (L : List Say) (a : Act) (listed : Array Bool) (a' : Act) (x : World) (vals : Nat -> Value) : Prop where
 size : listed.size = ops.length
 closed : ∀ j k,waits ops k j = true -> listed.getD k false = true -> listed.getD j false = true
 tsize : a'.tmps.size = a.tmps.size
 defers : a'.defers = a.defers
 old : ∀ t,(∀ j,listed.getD j false = true -> z0l ops j ≠ some t) -> a'.tmps[t]? = a.tmps[t]?
 new : ∀ j t,listed.getD j false = true -> z0l ops j = some t -> a'.tmps[t]? = some (vals j)
 inv : ∃ n,n + cnt (fun i => listed.getD i false) ops.length = ops.length /\ I n x
 fact : ∀ j,listed.getD j false = true -> L.getD j (fun _ _ => True) vals x
def idxs (D : List (List (Nat × Tmp))) : List (List Nat):=D.map fun l => l.map fun p => p.1
def z05 (L : List Say) (vals : Nat -> Value) (x : World) : List (Nat × Tmp) -> Prop
 | [] => True
 | (i,_) :: l => L.getD i (fun _ _ => True) vals x /\ z05 L vals x l
theorem says_saysD {L : List Say} {vals : Nat -> Value} {x : World} : ∀ {l : List (Nat × Tmp)},says L vals x (l.map (·.1)) = z05 L vals x l
 | [] => rfl
 | (i,t) :: l => by simp only [List.map_cons,says,z05,says_saysD (l:=l)]
def owes (P : Program) (R : World -> World -> Prop) (I : Nat -> World -> Prop) (L : List Say) (vals : Nat -> Value) (a : Act) (x : World) (n k : Nat) (o : Oper) (gd : Option (Nat × Bool)) : Prop :=
 match gd with
 | none => wpList P #[] (relQ R I L vals n k o a x) [bare o] a x
 | some (g,b) => (vals g = .bool b -> wpList P #[] (relQ R I L vals n k o a x) [bare o] a x) /\ (vals g ≠ .bool b -> L.getD k (fun _ _ => True) (upd vals k undef) x /\ I (n + 1) x)
def shareR2 (P : Program) (ops : List Oper) (R : World -> World -> Prop) (I : Nat -> World -> Prop) (L : List Say) (a : Act) (N k : Nat) (o : Oper) (d : List (Nat × Tmp)) : Prop :=
 ∀ (vals : Nat -> Value) (x : World) (n : Nat),n < N -> lows ops k <= n /\ n + 1 + ups ops k <= N -> I n x -> z05 L vals x d →
  owes P R I L vals (z01 vals d a) x n k o o.guard
theorem bare_wp (o : Oper) (a : Act) (w : World) (K : Act -> World -> Prop) : Oper.wp P (bare o) a w K Q = Oper.wp P o a w K Q:=by cases o; rfl
theorem wpList_bare {o : Oper} {a : Act} {w : World} (h : wpList P #[] Q [bare o] a w) : Oper.wp P o a w (Q .normal) Q \/ LetsOut Q:=by
 have hg : (bare o).guard = none:=rfl; unfold wpList at h; rw [if_pos (by unfold Region.wanted; rw [hg])] at h
 rcases h with h | ⟨_,h⟩
 · rw [<- bare_wp]; exact .inl h
 · exact .inr h
end Go.Proofs.YtemdmlmcidfodaaGreatDoor
namespace Go.Proofs.YtemdmlmcidfodaaGreatDoor
open Go Go.RowKit
variable {P : Program} {Q : Exit -> Act -> World -> Prop}
theorem cnt_all {f : Nat -> Bool} : ∀ {n : Nat},(∀ i,i < n -> f i = true) -> cnt f n = 0
 | 0,_ => rfl
 | n + 1,h => by simp only [cnt]; rw [cnt_all (f:=f) fun i hi => h i (by omega),h n (by omega)]; rfl
theorem low_ge {a n : Nat} (h : a <= n) (b : Nat) (e : Nat.ble b a = true) : b <= n:=Nat.le_trans (Nat.le_of_ble_eq_true e) h
theorem z14 {a n N : Nat} (h : n + 1 + a <= N) (b : Nat) (e : Nat.ble b a = true) : n + 1 + b <= N:=by have:=Nat.le_of_ble_eq_true e; omega
theorem rel3_any {ops : List Oper} {D : List (List Nat)} {R : Nat -> World -> World -> Prop} {I : Nat -> World -> Prop} {L : List Say} {a : Act} (hRr : ∀ k x,R k x x) (hL : ∀ j k,k < ops.length -> j ≠ k -> z1b ops ops.length j k = false -> ∀ vs x x',L.getD j (fun _ _ => True) vs x -> R k x x' -> L.getD j (fun _ _ => True) vs x') (hLo : Locals D 0 L) (hB : relOk ops D a.tmps.size = true)
  (hs : ∀ k o,ops[k]? = some o -> obligR P ops D (R k) I L a k o)
  (hfin : ∀ vals x n,n = ops.length -> I n x -> says L vals x (List.range ops.length) -> Q .normal (puts ops vals (List.range ops.length) a) x) :
  ∀ (fuel : Nat) (listed : Array Bool) (a' : Act) (x : World) (vals : Nat -> Value),cnt (fun i => listed.getD i false) ops.length <= fuel →
   RelInv ops I L a listed a' x vals -> wpAny P .any ops.toArray Q fuel listed a' x:=by
 have hdd : ∀ i j t,z0l ops i = some t -> z0l ops j = some t -> i = j:=fun i j t hi hj => by
  have hjl : j < ops.length:=z1k hj; have ho : ops[j]? = some ops[j]:=List.getElem?_eq_getElem hjl; exact (relOk_spec hB j _ ho).2.2.2.2.2.2 i t (z1k hi) hi (by simpa [z0l,ho] using hj)
 have hds : ∀ j t,z0l ops j = some t -> t < a.tmps.size:=fun j t hj => by
  have hjl : j < ops.length:=z1k hj; have ho : ops[j]? = some ops[j]:=List.getElem?_eq_getElem hjl; exact (relOk_spec hB j _ ho).2.2.2.1 t (by simpa [z0l,ho] using hj)
 have hdone : ∀ (listed : Array Bool) (a' : Act) (x : World) (vals : Nat -> Value),(∀ i,i < ops.length -> listed.getD i false = true) -> RelInv ops I L a listed a' x vals -> Q .normal a' x:=by
  intro listed a' x vals hall inv; have ha : a' = puts ops vals (List.range ops.length) a:=by
   have ht : a'.tmps = (puts ops vals (List.range ops.length) a).tmps:=by
    apply Array.ext_getElem?
    intro t
    by_cases h : ∃ j,z0l ops j = some t
    ·
     obtain ⟨j,hj⟩:=h; rw [inv.new j t (hall j (z1k hj)) hj,puts_get (fun i j => hdd i j t) _ _ j (List.mem_range.2 (z1k hj)) hj (hds j t hj)]
    · rw [inv.old t (fun j _ e => h ⟨j,e⟩),puts_ne _ _ (fun i _ e => h ⟨i,e⟩)]
   have hdf : a'.defers = (puts ops vals (List.range ops.length) a).defers:=by rw [z1n]; exact inv.defers
   cases a'
   cases hp : puts ops vals (List.range ops.length) a
   rw [hp] at ht hdf; simp only at ht hdf; rw [ht,hdf]
  rw [ha]; obtain ⟨n,hn,hI⟩:=inv.inv; exact hfin vals x n (by have:=cnt_all (f:=fun i => listed.getD i false) hall; omega) hI (says_iff.2 fun i hi => inv.fact i (hall i (List.mem_range.1 hi)))
 have hmin : ∀ (listed : Array Bool),listed.size = ops.length -> ∀ i,i < ops.length -> listed.getD i false = false -> Region.ready .any ops.toArray listed ≠ []:=by
  intro listed hsz i
  induction i using Nat.strongRecOn with
  | _ i ih =>
   intro hi hun hr; have ho : ops[i]? = some ops[i]:=List.getElem?_eq_getElem hi
   by_cases h : ∀ e ∈ ops[i].after,Region.binds .any e = true -> listed.getD e.on false = true
   ·
    have : i ∈ Region.ready .any ops.toArray listed:=mem_ready.2 ⟨getD_in (by omega) hun,ops[i],by simp [ho],h⟩; rw [hr] at this; cases this
   ·
    simp only [Classical.not_forall] at h; obtain ⟨e,he,hb,hl⟩:=h; have hlt:=(relOk_spec hB i _ ho).2.2.1 e he hb; exact ih e.on hlt (by omega) (by simpa using hl) hr
 intro fuel
 induction fuel with
 | zero =>
  intro listed a' x vals hc inv; have hall:=cnt_zero (f:=fun i => listed.getD i false) (Nat.le_zero.1 hc); refine ⟨?_,hdone _ _ _ _ hall inv⟩
  cases hr : Region.ready .any ops.toArray listed with
  | nil => rfl
  | cons k rs =>
   exfalso
   have hk : k ∈ Region.ready .any ops.toArray listed:=by rw [hr]; simp
   obtain ⟨h0,o,ho,_⟩:=mem_ready.1 hk; have hlt : k < ops.length:=by
    have:=(Array.getElem?_eq_some_iff.1 ho).1; simpa using this
   have h1 : listed.getD k false = true:=hall k hlt; rw [getD_both h0] at h1; cases h1
 | succ fuel ih =>
  intro listed a' x vals hc inv; refine ⟨fun hr => ?_,fun k hk => ?_⟩
  ·
   refine hdone _ _ _ _ (fun i hi => ?_) inv
   cases h : listed.getD i false with
   | true => rfl
   | false => exact absurd hr (hmin listed inv.size i hi h)
  ·
   obtain ⟨h0,o,hoA,hwait⟩:=mem_ready.1 hk; have ho : ops[k]? = some o:=by simpa using hoA
   have hkl : k < ops.length:=(List.getElem?_eq_some_iff.1 ho).1; have h0f : listed.getD k false = false:=getD_both h0; have hsz : k < listed.size:=by rw [inv.size]; exact hkl
   obtain ⟨hg,hsel,_,hdsz,hD,hlook,hdist⟩:=relOk_spec hB k o ho; have hw : ∀ m,waits ops k m = true -> listed.getD m false = true:=fun m hm => by
    obtain ⟨o',ho',e,he,hb,rfl⟩:=waits_spec.1 hm; have : o' = o:=Option.some.inj (ho'.symm.trans ho); subst this; exact hwait e he hb
   have hDl : ∀ j ∈ D.getD k [],listed.getD j false = true:=fun j hj => hw j (hD j hj).1
   have hdk : z0l ops k = o.dst:=by simp [z0l,ho]
   -- the operation runs as it does in the small state
   have hexec : execOp a'.eval o = execOp (puts ops vals (D.getD k []) a).eval o:=execOp_congr o hsel fun y hy => by
    cases y with
    | tmp t =>
     have ht : a'.tmps[t]? = (puts ops vals (D.getD k []) a).tmps[t]?:=by
      by_cases h : ∃ j,z0l ops j = some t
      ·
       obtain ⟨j,hj⟩:=h; have hm:=hlook j (z1k hj) (looks_spec ho hj hy); rw [inv.new j t (hDl j hm) hj,puts_get (fun i j => hdd i j t) _ _ j hm hj (hds j t hj)]
      · rw [inv.old t (fun j _ e => h ⟨j,e⟩),puts_ne _ _ (fun i _ e => h ⟨i,e⟩)]
     show a'.tmps.getD t undef = (puts ops vals (D.getD k []) a).tmps.getD t undef
     rw [Array.getD_eq_getD_getElem?,Array.getD_eq_getD_getElem?,ht]
    | _ => rfl
   obtain ⟨n,hn,hI⟩:=inv.inv; have hcs:=(cnt_set (f:=fun i => listed.getD i false) (g:=fun i => (listed.setIfInBounds k true).getD i false) h0f (getD_set (listed:=listed) hsz) (n:=ops.length)).2 hkl; have hlast1 : lows ops k <= n /\ n + 1 + ups ops k <= ops.length:=by
    have h1:=cntT_in (f:=fun i => listed.getD i false) (g:=fun r => r != k && z1b ops ops.length k r) (n:=ops.length) fun r hr hg => by
     simp only [Bool.and_eq_true] at hg; exact z0r inv.closed _ k r (fun m hm => hw m hm) hg.2
    have h2:=cntT_out (f:=fun i => listed.getD i false) (g:=fun r => r != k && z1b ops ops.length r k) h0f (by simp) (n:=ops.length) fun r hr hg => by
     simp only [Bool.and_eq_true] at hg
     cases h : listed.getD r false with
     | false => rfl
     | true =>
      exfalso
      have:=z0r inv.closed _ r k (fun m hm => inv.closed m r hm h) hg.2; rw [this] at h0f; cases h0f
    rw [if_pos hkl] at h2; unfold lows ups
    omega
   have hob:=hs k o ho vals x n (by omega) hlast1 hI (says_iff.2 fun j hj => inv.fact j (hDl j hj)); have hbs : (puts ops vals (D.getD k []) a).tmps.size = a.tmps.size:=puts_size _ _; have hbd : (puts ops vals (D.getD k []) a).defers = a.defers:=z1n _ _; have next : ∀ v x',(L.getD k (fun _ _ => True) (upd vals k (got o ((puts ops vals (D.getD k []) a).put o.dst v))) x' /\ R k x x' /\ I (n + 1) x') →
     wpAny P .any ops.toArray Q fuel (listed.setIfInBounds k true) (a'.put o.dst v) x':=by
    intro v x' hq; obtain ⟨hV,hR,hI'⟩:=hq; have hgs:=getD_set (listed:=listed) hsz; have hold : ∀ j,(listed.setIfInBounds k true).getD j false = true -> j ≠ k -> listed.getD j false = true:=fun j hj hne => by
     rw [hgs,if_neg hne] at hj; exact hj
    refine ih _ _ x' (fun j => if j = k then got o ((puts ops vals (D.getD k []) a).put o.dst v) else vals j) ?_ ⟨by simp [inv.size],fun j m hm hl => ?_,by rw [put_size]; exact inv.tsize,by rw [z23]; exact inv.defers,fun t ht => ?_,fun j t hj hdj => ?_,⟨n + 1,by omega,hI'⟩,fun j hj => ?_⟩
    · omega
    ·
     rw [hgs]
     by_cases e : j = k
     · rw [if_pos e]
     ·
      rw [if_neg e]
      by_cases e' : m = k
      · subst e'; exact hw j hm
      · exact inv.closed j m hm (hold m hl e')
    ·
     rw [z22 _ _ _ _ (by
      have:=ht k (by rw [hgs,if_pos rfl])
      rwa [hdk] at this)]
     refine inv.old t fun j hj => ht j ?_
     rw [hgs]; split <;> first | rfl | exact hj
    ·
     by_cases e : j = k
     ·
      subst e; rw [hdk] at hdj; have htl:=hdsz t hdj; rw [if_pos rfl,hdj,put_get _ _ _ (by rw [inv.tsize]; exact htl)]; simp only [got,hdj]; rw [Array.getD_eq_getD_getElem?,put_get _ _ _ (by rw [hbs]; exact htl)]
      rfl
     ·
      rw [if_neg e,z22 _ _ _ _ (fun e' => e (hdist j t (z1k hdj) hdj e'))]; exact inv.new j t (hold j hj e) hdj
    ·
     by_cases e : j = k
     · subst e; exact hV
     ·
      have hjl:=hold j hj e; have hrj : z1b ops ops.length j k = false:=by
       cases h : z1b ops ops.length j k with
       | false => rfl
       | true => rw [z0r inv.closed _ j k (fun m hm => inv.closed m j hm hjl) h] at h0f; cases h0f
      have hfj:=hL j k hkl e hrj vals x x' (inv.fact j hjl) hR; refine hLo.get j vals _ x' (by simp [upd,e]) (fun m hm => ?_) hfj; have hmk : m ≠ k:=fun e' => by
       have hjlt:=listed_lt inv.size hjl; have hw':=((relOk_spec hB j ops[j] (List.getElem?_eq_getElem hjlt)).2.2.2.2.1 m (by simpa using hm)).1; rw [e'] at hw'; rw [inv.closed k j hw' hjl] at h0f; cases h0f
      simp [upd,hmk]
   unfold wpOp; rw [hoA]; dsimp only; have hgv : ∀ g b,o.guard = some (g,b) -> ∃ d,z0l ops g = some d /\ a'.tmps[d]? = some (vals g):=fun g b hgb => by
    obtain ⟨h1,d,h2⟩:=hg g b hgb; exact ⟨d,h2,inv.new g d (hDl g h1) h2⟩
   have hyield : ∀ g b,o.guard = some (g,b) -> (Region.wanted o (yielded ops.toArray a'.tmps) = true ↔ vals g = .bool b):=fun g b hgb => by
    obtain ⟨d,h1,h2⟩:=hgv g b hgb; have hy : yielded ops.toArray a'.tmps g = match some (vals g) with | some (.bool b) => some b | _ => none:=by
     unfold yielded; rw [show (ops.toArray[g]?).bind (·.dst) = some d from by simpa [z0l] using h1]; simp only [Option.bind_some,h2]
     cases vals g <;> rfl
    unfold Region.wanted; rw [hgb]; simp only [hy]
    constructor
    ·
     intro h
     split at h
     ·
      rename_i b' he
      injection he with he
      rw [he]; have : b' = b:=by simpa using h
      rw [this]
     · cases h
    ·
     intro h; rw [h]; simp
   have hskip : Region.wanted o (yielded ops.toArray a'.tmps) = false -> wpAny P .any ops.toArray Q fuel (listed.setIfInBounds k true) (a'.put o.dst undef) x:=fun hw0 => by
    cases hgd : o.guard with
    | none => unfold Region.wanted at hw0; rw [hgd] at hw0; cases hw0
    | some p =>
     obtain ⟨g,b⟩:=p; have hne : vals g ≠ .bool b:=fun e => by rw [(hyield g b hgd).2 e] at hw0; cases hw0
     obtain ⟨h1,h2⟩:=hob.2 g b hgd hne; refine next undef x ⟨?_,hRr k x,h2⟩; have : got o ((puts ops vals (D.getD k []) a).put o.dst undef) = undef:=by
      unfold got
      cases hd : o.dst with
      | none => rfl
      | some d =>
       simp only; rw [Array.getD_eq_getD_getElem?,put_get _ _ _ (by rw [hbs]; exact hdsz d hd)]
       rfl
     rw [this]; exact h1
   by_cases hwant : Region.wanted o (yielded ops.toArray a'.tmps) = true
   rotate_left
   ·
    rw [if_neg hwant]; exact hskip (by simpa using hwant)
   rw [if_pos hwant]; have hob:=hob.1 fun g b hgd => (hyield g b hgd).1 hwant
   refine .inl ?_; unfold Oper.wp at hob ⊢; rw [hexec]; generalize (execOp (puts ops vals (D.getD k []) a).eval o).run P x = r at hob ⊢
   cases r with
   | ok n w' =>
    cases n <;> simp only [Oper.upon] at hob ⊢
    case value v => exact next v w' hob.2
    case skip => exact next _ w' hob.2
    case defer d =>
     have:=hob.1; rw [z23] at this; exact absurd (congrArg List.length this) (by simp)
    case enter f args =>
     refine Calls.mono hob fun e w'' he => ?_
     cases e with
     | returned u => exact next u w'' he.2
     | panicked c => exact he.elim
     | outgrown => obtain ⟨_,_,h⟩:=he; exact h.elim
    case row row args => exact Rows.mono hob fun u w'' he => next u w'' he.2
   | halt e w' =>
    cases e <;> simp only [Oper.upon] at hob ⊢ <;> exact hob.elim
def relOf (R0 : World -> World -> Prop) : List (Nat × (World -> World -> Prop)) -> Nat -> World -> World -> Prop
 | [],_ => R0
 | p :: l,k => fun x x' => (k = p.1 -> p.2 x x') /\ (k ≠ p.1 -> relOf R0 l k x x')
def Refls : List (Nat × (World -> World -> Prop)) -> Prop
 | [] => True
 | p :: l => (∀ x,p.2 x x) /\ Refls l
theorem relOf_refl {R0 : World -> World -> Prop} (h0 : ∀ x,R0 x x) : ∀ {l : List (Nat × (World -> World -> Prop))},Refls l -> ∀ k x,relOf R0 l k x x
 | [],_,_,x => h0 x
 | _ :: _,h,k,x => ⟨fun _ => h.1 x,fun _ => relOf_refl h0 h.2 k x⟩
def StabS (ops : List Oper) (V : Say) (i : Nat) : List (Nat × (World -> World -> Prop)) -> Prop
 | [] => True
 | p :: l => (z1b ops ops.length i p.1 = true \/ i = p.1 \/ ∀ vs x x',V vs x -> p.2 x x' -> V vs x') /\ StabS ops V i l
def Stabs3 (ops : List Oper) (R0 : World -> World -> Prop) (Rs : List (Nat × (World -> World -> Prop))) : Nat -> List Say -> Prop
 | _,[] => True
 | i,V :: l => ((isLast ops i = true \/ ∀ vs x x',V vs x -> R0 x x' -> V vs x') /\ StabS ops V i Rs) /\ Stabs3 ops R0 Rs (i + 1) l
theorem relOf_stab {ops : List Oper} {R0 : World -> World -> Prop} {V : Say} {i k : Nat} (hik : i ≠ k) (hr : z1b ops ops.length i k = false) (h0 : ∀ vs x x',V vs x -> R0 x x' -> V vs x') : ∀ {l : List (Nat × (World -> World -> Prop))},StabS ops V i l -> ∀ vs x x',V vs x -> relOf R0 l k x x' -> V vs x'
 | [],_,vs,x,x',hv,h => h0 vs x x' hv h
 | p :: l,hs,vs,x,x',hv,h => by
  by_cases e : k = p.1
  ·
   rcases hs.1 with h1 | h1 | h1
   · rw [e,h1] at hr; cases hr
   · exact absurd (h1.trans e.symm) hik
   · exact h1 vs x x' hv (h.1 e)
  · exact relOf_stab hik hr h0 hs.2 vs x x' hv (h.2 e)
theorem relOf_last {ops : List Oper} {R0 : World -> World -> Prop} {V : Say} {i k : Nat} (hik : i ≠ k) (hr : z1b ops ops.length i k = false) (hk : k < ops.length) (hl : isLast ops i = true) : False:=by
 unfold isLast at hl; have h1:=List.all_eq_true.1 hl k (List.mem_range.2 hk); rw [Bool.or_eq_true,hr] at h1
 rcases h1 with h1 | h1
 · exact hik (by simpa using Eq.symm (by simpa using h1 : k = i))
 · cases h1
theorem Stabs3.get {ops : List Oper} {R0 : World -> World -> Prop} {Rs : List (Nat × (World -> World -> Prop))} {k : Nat} (hk : k < ops.length) : ∀ {L : List Say} {m : Nat},Stabs3 ops R0 Rs m L -> ∀ i,m + i ≠ k -> z1b ops ops.length (m + i) k = false -> ∀ vs x x',L.getD i (fun _ _ => True) vs x -> relOf R0 Rs k x x' -> L.getD i (fun _ _ => True) vs x'
 | [],_,_,i,_,_,vs,x,x',_,_ => by simp
 | V :: l,m,h,0,hik,hr,vs,x,x',hv,hR => by
  rcases h.1.1 with h1 | h1
  · exact (relOf_last (R0:=R0) (V:=V) hik hr hk h1).elim
  · simpa using relOf_stab hik hr h1 h.1.2 vs x x' (by simpa using hv) hR
 | V :: l,m,h,i + 1,hik,hr,vs,x,x',hv,hR => by
  have e : m + (i + 1) = m + 1 + i:=by omega
  rw [e] at hik hr
  simpa using Stabs3.get hk h.2 i hik hr vs x x' (by simpa using hv) hR
def sharesR3 (P : Program) (ops : List Oper) (R : Nat -> World -> World -> Prop) (I : Nat -> World -> Prop) (L : List Say) (a : Act) (N : Nat) : Nat -> List Oper -> List (List (Nat × Tmp)) -> Prop
 | _,[],_ => True
 | _,_ :: _,[] => False
 | k,o :: l,d :: ds => shareR2 P ops (R k) I L a N k o d /\ sharesR3 P ops R I L a N (k + 1) l ds
theorem sharesR3_get {ops : List Oper} {R : Nat -> World -> World -> Prop} {I : Nat -> World -> Prop} {L : List Say} {a : Act} {N : Nat} : ∀ {l : List Oper} {ds : List (List (Nat × Tmp))} {k : Nat},sharesR3 P ops R I L a N k l ds →
  ∀ i o,l[i]? = some o -> shareR2 P ops (R (k + i)) I L a N (k + i) o (ds.getD i [])
 | [],_,_,_,i,o,h => by simp at h
 | _ :: _,[],_,h,_,_,_ => h.elim
 | o' :: l,d :: ds,k,h,0,o,ho => by
  simp only [List.getElem?_cons_zero,Option.some.injEq] at ho; subst ho; exact h.1
 | o' :: l,d :: ds,k,h,i + 1,o,ho => by
  simp only [List.getElem?_cons_succ] at ho; have:=sharesR3_get h.2 i o ho; rw [show k + (i + 1) = k + 1 + i by omega]
  simpa using this
theorem z26 {id : Nat} {ops : List Oper} {a : Act} {w : World} (D : List (List (Nat × Tmp))) (R0 : World -> World -> Prop) (Rs : List (Nat × (World -> World -> Prop))) (I : Nat -> World -> Prop) (L : List Say) (all : List (Nat × Tmp)) (hm : P.follows .mixedOrders = true)
  (hB : relOk ops (idxs D) a.tmps.size = true) (hD : D.all (fitsD ops) = true)
  (hall : (List.range ops.length).filterMap (fun i => (z0l ops i).map fun t => (i,t)) = all)
  (hRr : ∀ x,R0 x x) (hRs : Refls Rs) (hL : Stabs3 ops R0 Rs 0 L) (hLo : Locals (idxs D) 0 L) (h0 : I 0 (w.drewN 1))
  (hs : sharesR3 P ops (relOf R0 Rs) I L a ops.length 0 ops D)
  (hfin : ∀ vals x n,n = ops.length -> I n x -> says L vals x (List.range ops.length) -> Q .normal (z01 vals all a) x) : (Code.region id ops.toArray true).wp P Q a w:=by
 refine wp_region_any hm ?_; have z0 : ∀ j,(Array.replicate ops.toArray.size false).getD j false = false:=fun j => getD_replicate_false _ _
 have hle : ∀ (f : Nat -> Bool) (n : Nat),cnt f n <= n:=fun f n => by
  induction n with
  | zero => exact Nat.le_refl _
  | succ n ih => simp only [cnt]; split <;> omega
 have hcnt : cnt (fun i => (Array.replicate ops.toArray.size false).getD i false) ops.length = ops.length:=by
  have : ∀ n,cnt (fun i => (Array.replicate ops.toArray.size false).getD i false) n = n:=fun n => by
   induction n with
   | zero => rfl
   | succ n ih => simp only [cnt,z0] at ih ⊢; rw [ih]; rfl
  exact this _
 have hrel:=rel3_any (P:=P) (Q:=Q) (ops:=ops) (a:=a) (D:=idxs D) (R:=relOf R0 Rs) (I:=I) (L:=L) (relOf_refl hRr hRs) (fun j k hk hjk hr vs x x' => Stabs3.get hk hL j (by rw [Nat.zero_add]; exact hjk) (by rw [Nat.zero_add]; exact hr) vs x x') hLo hB; refine hrel (fun k o hk => ?_) (fun vals x n hn hI hf => ?_) _ _ _ _ (fun _ => undef) (Nat.le_trans (hle _ _) (by simp)) ?_
 rotate_left
 · rw [puts_all,hall]; exact hfin vals x n hn hI hf
 · exact ⟨by simp,fun j k _ hl => (by rw [z0] at hl; cases hl),rfl,rfl,fun _ _ => rfl,fun j t hj => (by rw [z0] at hj; cases hj),⟨0,by rw [hcnt,Nat.zero_add],h0⟩,fun j hj => (by rw [z0] at hj; cases hj)⟩
 ·
  have hsh:=sharesR3_get hs k o hk; rw [Nat.zero_add] at hsh; have hfit : fitsD ops (D.getD k []) = true:=by
   rcases Nat.lt_or_ge k D.length with h | h
   · rw [show D.getD k [] = D[k] by simp [h]]; exact List.all_eq_true.1 hD _ (List.getElem_mem h)
   · rw [show D.getD k [] = [] by simp [h]]; rfl
  have hDk : (idxs D).getD k [] = (D.getD k []).map (·.1):=by
   unfold idxs
   rcases Nat.lt_or_ge k D.length with h | h
   · simp [h]
   · simp [h]
  intro vals x n hn hl hI hf; rw [hDk,says_saysD] at hf; have h:=hsh vals x n hn hl hI hf; rw [hDk,puts_putsD hfit]; have hun : wpList P #[] (relQ (relOf R0 Rs k) I L vals n k o (z01 vals (D.getD k []) a) x) [bare o] (z01 vals (D.getD k []) a) x -> o.wp P (z01 vals (D.getD k []) a) x (relQ (relOf R0 Rs k) I L vals n k o (z01 vals (D.getD k []) a) x .normal) (relQ (relOf R0 Rs k) I L vals n k o (z01 vals (D.getD k []) a) x):=fun h => by
   rcases wpList_bare h with h | ⟨_,_,h⟩
   · exact h
   · exact h.elim
  generalize o.guard = gd at h ⊢
  cases gd with
  | none => exact ⟨fun _ => hun h,fun g b e => by cases e⟩
  | some p =>
   obtain ⟨g,b⟩:=p; exact ⟨fun e => hun (h.1 (e g b rfl)),fun g' b' e hne => by injection e with e; injection e with e1 e2; subst e1; subst e2; exact h.2 hne⟩
end Go.Proofs.YtemdmlmcidfodaaGreatDoor
