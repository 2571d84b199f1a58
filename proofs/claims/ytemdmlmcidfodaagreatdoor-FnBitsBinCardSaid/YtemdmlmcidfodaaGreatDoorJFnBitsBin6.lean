/- The program's circuits: nodes, turned, has, gate. -/
import Derived.Test.YtemdmlmcidfodaaGreatDoorJFnBitsBin0
import Derived.Test.YtemdmlmcidfodaaGreatDoorJFnBitsBin1
import Derived.Test.YtemdmlmcidfodaaGreatDoorJFnBitsBin4
import Derived.Test.YtemdmlmcidfodaaGreatDoorJFnBitsBin5
namespace Go.Proofs.YtemdmlmcidfodaaGreatDoor
open Go Go.RowKit Go.Maps
theorem zero_int (w : World) : (zeroValue 3).run Tryz.prog w = .ok (.int .i64 0) w:=by kernel_rfl
theorem nodes_any (A : Option Addr) (c n : Nat) (ins k : Int) (w : World) (h0 : -1000000 <= ins) (h1 : ins <= 1000000) (k0 : 0 <= k) (k1 : k <= 1048576) :
  Calls Tryz.prog 101 #[.agg #[.int .i64 ins,.slice A n c],.int .i64 k] w fun e w' => e = .returned (.int .i64 (1 + ins + k)) /\ Below w.heap.size w w':=by
 go_enter Tryz.func101,Tryz.ntmps101
 go_wp2
 go_ret
 exact ⟨rfl,(Below.refl _ _).alloc (Nat.le_refl _) _⟩
theorem turned_any (s : Int) (q : Bool) (w : World) (h0 : -9223372036854775808 < s) (h1 : s <= 9223372036854775807) :
  Calls Tryz.prog 123 #[.int .i64 s,.bool q] w fun e w' => e = .returned (.int .i64 (if q then -s else s)) /\ w = w':=by
 cases q
 all_goals
  go_enter Tryz.func123,Tryz.ntmps123
  go_wp2
  go_ret
  exact ⟨rfl,rfl⟩
def Circ (lo : Nat) (w : World) (r : Nat) (n : N) (ks : List G) : Prop :=
 ∃ A c b,w.heap[r]? = some (.cells #[.int .i64 n.ins,.slice A n.gs.length c,.map (some b)] 106 (0,0)) /\ lo <= r /\ lo <= b /\ z0x w lo (.slice A n.gs.length c) n.gs /\ z25 w b n.ins ks
theorem z25.keep {w w' : World} {b : Nat} {ins : Int} {gs : List G} (h : z25 w b ins gs) (hk : w'.heap[b]? = w.heap[b]?) : z25 w' b ins gs:=by
 obtain ⟨D,⟨es,clock,hb,hr⟩,hD⟩:=h; exact ⟨D,⟨es,clock,hk.trans hb,hr⟩,hD⟩
theorem z25.lt {w : World} {b : Nat} {ins : Int} {gs : List G} (h : z25 w b ins gs) : b < w.heap.size:=h.choose_spec.1.lt
theorem Circ.up {lo : Nat} {w w' : World} {r : Nat} {n : N} {ks : List G} (h : Circ lo w r n ks) (hb : Below w.heap.size w w') : Circ lo w' r n ks:=by
 obtain ⟨A,c,b,h1,h2,h3,h4,h5⟩:=h; exact ⟨A,c,b,(hb.block r (lt_of_block h1)).trans h1,h2,h3,h4.up hb,h5.keep (hb.block b h5.lt)⟩
theorem Circ.lt {lo : Nat} {w : World} {r : Nat} {n : N} {ks : List G} (h : Circ lo w r n ks) : lo <= r /\ r < w.heap.size:=by
 obtain ⟨A,c,b,h1,h2,_⟩:=h; exact ⟨h2,lt_of_block h1⟩
theorem z25.look {w : World} {b : Nat} {ins : Int} {gs : List G} (h : z25 w b ins gs) (g : G) (hg : okGi g) (ok : Bool) :
  ∃ c : Int,(g ∈ gs -> c = 2 + ins + gs.idxOf g) /\ ∀ W : World,W.heap[b]? = w.heap[b]? -> (Instr.lookup 104 (.map (some b)) (.agg #[.bool g.x,.int .i64 g.a,.int .i64 g.b]) ok).run Tryz.prog W = .ok (if ok then .tuple #[.int .i64 c,.bool (decide (g ∈ gs))] else .int .i64 c) W:=by
 obtain ⟨D,hown,hD⟩:=h; have hz:=zero_int; have hat : ∃ c : Int,D.atKey (keyG g) (.lit (.int .i64 0)) = .lit (.int .i64 c):=by
  obtain ⟨c,_,hc,_⟩:=hown.lookup_int z1s Tryz.underlying104 Tryz.underlying3 (hz w) (keyG_ok g hg); exact ⟨c,hc⟩
 obtain ⟨c,hc⟩:=hat; refine ⟨c,fun hm => ?_,fun W hW => ?_⟩
 ·
  have:=hD.at_ g hg hm; rw [hc] at this
  injection this with this
  injection this
 ·
  have hownW : W.ownsMap Tryz.prog 78 (plainElem Tryz.prog 3) b gs.length D:=by
   obtain ⟨es,clock,hb,hr⟩:=hown; exact ⟨es,clock,hW.trans hb,hr⟩
  cases ok
  ·
   obtain ⟨c',hrun,hc',_⟩:=hownW.lookup_int z1s Tryz.underlying104 Tryz.underlying3 (hz W) (keyG_ok g hg); rw [hc] at hc'; simp only [DataW.lit.injEq,Lit.int.injEq,true_and] at hc'; rw [hc']; exact hrun
  ·
   obtain ⟨v,ps,hrun,hv⟩:=hownW.look_ok z1s Tryz.underlying104 (hz W) (plainElem_int (H:=Unit) Tryz.underlying3 (by decide)) (keyG_ok g hg); rw [hc] at hv; obtain ⟨c',rfl,hc',_⟩:=plainElem_int_inv Tryz.underlying3 hv; simp only [Prod.mk.injEq] at hc'; obtain ⟨hc',_⟩:=hc'; simp only [DataW.lit.injEq,Lit.int.injEq,true_and] at hc'; rw [hc']; have hh : Maps.has D (keyG g) = decide (g ∈ gs):=hD.has g hg; rw [<- hh]; exact hrun
theorem own_below_set {w : World} {lo r o : Nat} {u : Value} {A : Option Addr} {c : Nat} {xs : List G} (h : z0x w lo (.slice A xs.length c) xs) (hne : some r ≠ (Value.slice A xs.length c).ownBlock) : z0x (w.setCell ⟨r,o,none⟩ u) lo (.slice A xs.length c) xs :=
 h.kept (z06 (World.grownBy.refl _ _) o u) (.inr (fun e => hne e.symm))
def CK (o : Obj) : Prop:=(∃ cs fr,o = .cells cs 106 fr) \/ (∃ cs fr,o = .cells cs 78 fr) \/ ∃ es ck,o = .map es ck
structure BelK (lo : Nat) (w w' : World) : Prop where
 bel : Below lo w w'
 kd : ∀ (i : Nat) (o : Obj),w.heap[i]? = some o -> ¬ CK o -> w'.heap[i]? = some o
theorem BelK.refl (lo : Nat) (w : World) : BelK lo w w:=⟨Below.refl _ _,fun _ _ h _ => h⟩
theorem BelK.of {lo : Nat} {w w' : World} (h : Below w.heap.size w w') (hl : lo <= w.heap.size) : BelK lo w w':=⟨h.mono hl,fun i _ hi _ => (h.block i (Array.getElem?_eq_some_iff.1 hi).1).trans hi⟩
theorem BelK.trans {lo : Nat} {a b c : World} (h : BelK lo a b) (k : BelK lo b c) : BelK lo a c:=⟨h.bel.trans k.bel,fun i o hi hc => k.kd i o (h.kd i o hi hc) hc⟩
theorem BelK.drewN {lo : Nat} {a b : World} (h : BelK lo a b) (n : Nat) : BelK lo a (b.drewN n):=⟨z02 h.bel n,h.kd⟩
theorem BelK.grown {lo g : Nat} {a w w' : World} (h : BelK lo a w) (hg : w.grownBy w' (some g)) (hlo : lo <= w.heap.size) (hgl : lo <= g) (hk : ∃ o,w.heap[g]? = some o /\ CK o) : BelK lo a w' :=
 ⟨h.bel.grown hg hlo (fun k e => by injection e with e; omega),fun i o hi hc => by
  have h1:=h.kd i o hi hc; refine (hg.block i (Array.getElem?_eq_some_iff.1 h1).1 fun e => ?_).trans h1
  injection e with e
  obtain ⟨o',ho',hck⟩:=hk; rw [<- e,h1] at ho'
  injection ho' with ho'
  rw [ho'] at hc; exact hc hck⟩
theorem own_ck {w : World} {lo : Nat} {A : Option Addr} {c g : Nat} {xs : List G} (h : z0x w lo (.slice A xs.length c) xs) (e : (Value.slice A xs.length c).ownBlock = some g) : ∃ o,w.heap[g]? = some o /\ CK o:=by
 rcases h.2 with ⟨e',_⟩ | ⟨g',cap,cur,e',_,hg,_⟩
 · rw [e'] at e; cases e
 ·
  rw [e'] at e
  injection e with e
  subst e; exact ⟨_,hg,.inr (.inl ⟨_,_,rfl⟩)⟩
def RetGate (lo : Nat) (w : World) (r : Nat) (n : N) (g : G) (e : Ending) (w' : World) : Prop :=
 e = .returned (.int .i64 (put n g).2) /\ BelK lo w w' /\ ((put n g).2 ≠ 0 -> Circ lo w' r (put n g).1 (put n g).1.gs)
def sortG (g : G) : G:=if g.b.natAbs < g.a.natAbs then ⟨g.x,g.b,g.a⟩ else g
theorem z1u {Q : Exit -> Act -> World -> Prop} {ops : Array Oper} {rest : List Oper} {o : Oper} {a : Act} {w : World} {lo : Nat} {A : Option Addr} {c : Nat} {xs ys : List G} {g : G} {b : Nat} {fr : Nat × Nat} (hgd : o.guard = none) (s x : Operand)
  (ho : o.op = .call { callee:=.builtin .append,args:=#[s,x],argTypes:=#[27,27] }) (hs : a.eval s = .slice A xs.length c) (hx : a.eval x = .slice (some ⟨b,0,none⟩) 1 1)
  (hown : z0x w lo (.slice A xs.length c) xs) (hb : w.heap[b]? = some (.cells #[.bool g.x,.int .i64 g.a,.int .i64 g.b] 78 fr)) (hn : xs.length <= 1048576) (hlo : lo <= w.heap.size) (hy : ys = xs ++ [g])
  (h : ∀ A' c' w',z0x w' lo (.slice A' ys.length c') ys -> w.grownBy w' (Value.slice A xs.length c).ownBlock -> wpList Tryz.prog ops Q rest (a.put o.dst (.slice A' ys.length c')) w') : wpList Tryz.prog ops Q (o :: rest) a w:=by
 obtain ⟨i0,hi0,hz0,hz1,hz2⟩:=info_parts gate_info; have hl : ys.length = xs.length + 1:=by rw [hy]; simp
 have hc : ys.flatMap z0k = xs.flatMap z0k ++ z0k g:=by rw [hy]; simp
 refine z0w (P:=Tryz.prog) w hgd s x 27 ho lo 78 i0 _ 3 24 Tryz.underlying27 hi0 hz0 hz1 hz2 (by rfl) (by omega) _ xs.length (xs.flatMap z0k) hs hown (some ⟨b,0,none⟩) 1 1 (z0k g) hx (src_block hb rfl) (gcells_one1 g) ys.length hl.symm (by unfold maxLen; omega) (by omega) hlo (by simp) ?_; intro A' c' w' h2 _ h3; exact h A' c' w' (by unfold z0x; rw [hc]; exact h2) h3
theorem row_ne {w : World} {lo : Nat} {A : Option Addr} {c : Nat} {xs : List G} (h : z0x w lo (.slice A xs.length c) xs) (r : Nat) (o : Obj) (hr : w.heap[r]? = some o) (ho : ∀ cs fr,o ≠ .cells cs 78 fr) : some r ≠ (Value.slice A xs.length c).ownBlock:=by
 rcases h.2 with ⟨e,_⟩ | ⟨g,cap,cur,e,_,hg,_⟩
 · rw [e]; intro h; cases h
 ·
  rw [e]; intro h
  injection h with h
  subst h; rw [hr] at hg
  injection hg with hg
  exact ho _ _ hg
def Fact.grow (lo : Nat) (W : World) (v0 : Value) (xs : List G) : Fact :=
 .of (fun v x => ∃ A c,v = .slice A xs.length c /\ z0x x lo (.slice A xs.length c) xs /\ W.heap.size <= x.heap.size /\ (∀ b,b < W.heap.size -> some b ≠ v0.ownBlock -> x.heap[b]? = W.heap[b]?) /\ x.os = W.os /\ x.tape = W.tape /\ x.output = W.output)
  fun _ x x' ⟨A,c,h1,h2,h3,h4,h5,h6,h7⟩ hb => ⟨A,c,h1,h2.up hb,Nat.le_trans h3 hb.size,fun b hlt hne => (hb.block b (by omega)).trans (h4 b hlt hne),hb.os.trans h5,hb.tape.trans h6,hb.output.trans h7⟩
set_option maxRecDepth 100000 in
set_option maxHeartbeats 4000000 in
def Fact.circ (lo : Nat) (W : World) (r S : Nat) (m : N) (ks : List G) : Fact :=
 .of (fun _ x => Circ lo x r m ks /\ x.heap[S]? = W.heap[S]? /\ S < x.heap.size /\ BelK lo W x) fun _ x x' ⟨h1,h2,h3,h4⟩ hb =>
  ⟨h1.up hb,(hb.block S h3).trans h2,Nat.lt_of_lt_of_le h3 hb.size,h4.trans (.of hb (Nat.le_trans (Nat.le_of_lt (Nat.lt_of_le_of_lt h1.lt.1 h1.lt.2)) (Nat.le_refl _)))⟩
set_option maxRecDepth 100000 in
set_option maxHeartbeats 4000000 in
theorem gate_any (lo r : Nat) (n : N) (g : G) (w : World) (h : Circ lo w r n n.gs) (hn : n.gs.length <= 600) (h0 : 0 <= n.ins) (h1 : n.ins <= 8) (ha : -2000000000 <= g.a /\ g.a <= 2000000000) (hb : -2000000000 <= g.b /\ g.b <= 2000000000) :
  Calls Tryz.prog 122 #[.pointer (some ⟨r,0,none⟩),.agg #[.bool g.x,.int .i64 g.a,.int .i64 g.b]] w (RetGate lo w r n (sortG g)):=by
 obtain ⟨gx,ga,gb⟩:=g; obtain ⟨ha0,ha1⟩:=ha; obtain ⟨hb0,hb1⟩:=hb; dsimp only at ha0 ha1 hb0 hb1; obtain ⟨A,c,b,hr,hrlo,hblo,hown,hkn⟩:=h; have hrlt:=lt_of_block hr; have hblt:=hkn.lt; have hX : Below w.heap.size w (w.alloc (.cells #[.bool gx,.int .i64 ga,.int .i64 gb] 78)):=(Below.refl _ _).alloc (Nat.le_refl _) _; have hXS : (w.alloc (.cells #[.bool gx,.int .i64 ga,.int .i64 gb] 78)).heap[w.heap.size]? = some (.cells #[.bool gx,.int .i64 ga,.int .i64 gb] 78 (0,0)):=heap_alloc_new _ _; have hneS : some w.heap.size ≠ (Value.slice A n.gs.length c).ownBlock:=by
  intro e; have:=(hown.lt w.heap.size e.symm).2
  omega
 by_cases hs : gb.natAbs < ga.natAbs
 ·
  rw [show sortG ⟨gx,ga,gb⟩ = ⟨gx,gb,ga⟩ by unfold sortG; rw [if_pos hs]]
  go_enter Tryz.func122,Tryz.ntmps122
  go_wp2
  go_quiet ((go_at_call 95; with_reducible exact z13 (node_any _ _ (by omega) (by omega))))
  go_wp2
  have hW2 : Below w.heap.size w ((((w.alloc (.cells #[.bool gx,.int .i64 ga,.int .i64 gb] 78)).drewN nq).setCell ⟨w.heap.size,1,none⟩ (.int .i64 gb)).setCell ⟨w.heap.size,2,none⟩ (.int .i64 ga)):=z0b (z0b (z02 hX _) (Nat.le_refl _) _) (Nat.le_refl _) _; have hS2 : ((((w.alloc (.cells #[.bool gx,.int .i64 ga,.int .i64 gb] 78)).drewN nq).setCell ⟨w.heap.size,1,none⟩ (.int .i64 gb)).setCell ⟨w.heap.size,2,none⟩ (.int .i64 ga)).heap[w.heap.size]? = some (.cells #[.bool gx,.int .i64 gb,.int .i64 ga] 78 (0,0)):=by
   rw [z04 _ _ _ _ _ _ (z04 _ _ _ _ _ _ (show ((w.alloc (.cells #[.bool gx,.int .i64 ga,.int .i64 gb] 78)).drewN nq).heap[w.heap.size]? = _ from hXS))]
   rfl
  generalize ((((w.alloc (.cells #[.bool gx,.int .i64 ga,.int .i64 gb] 78)).drewN nq).setCell ⟨w.heap.size,1,none⟩ (.int .i64 gb)).setCell ⟨w.heap.size,2,none⟩ (.int .i64 ga)) = W2 at *; have hokg : okGi ⟨gx,gb,ga⟩:=by unfold okGi; dsimp only; omega
  have hr2:=(hW2.block r hrlt).trans hr; have hown2:=z0e hown hW2 (Nat.le_refl _); have hown2 : z0x W2 lo (.slice A n.gs.length c) n.gs:=hown2; have hkn2:=hkn.keep (hW2.block b hblt); have hlo2 : lo <= W2.heap.size:=Nat.le_trans (Nat.le_trans hrlo (Nat.le_of_lt hrlt)) hW2.size; have hBel : BelK lo w W2:=.of hW2 (Nat.le_trans hrlo (Nat.le_of_lt hrlt)); have hSlt : w.heap.size < W2.heap.size:=lt_of_block hS2; obtain ⟨cc,hcc,hlook⟩:=hkn2.look ⟨gx,gb,ga⟩ hokg true; have hl : ∀ m,(Instr.lookup 104 (.map (some b)) (.agg #[.bool gx,.int .i64 gb,.int .i64 ga]) true).run Tryz.prog (W2.drewN m) = .ok (.tuple #[.int .i64 cc,.bool (decide ((⟨gx,gb,ga⟩ : G) ∈ n.gs))]) (W2.drewN m):=fun m => hlook (W2.drewN m) rfl
  have z0 : W2.cell? ⟨r,0,none⟩ = some (.int .i64 n.ins):=(z00 hr2 0).1; have z1 : W2.cell? ⟨r,1,none⟩ = some (.slice A n.gs.length c):=(z00 hr2 1).1; have z2 : W2.cell? ⟨r,2,none⟩ = some (.map (some b)):=(z00 hr2 2).1; have y0 : W2.cell? ⟨w.heap.size,0,none⟩ = some (.bool gx):=(z00 hS2 0).1; have y1 : W2.cell? ⟨w.heap.size,1,none⟩ = some (.int .i64 gb):=(z00 hS2 1).1; have y2 : W2.cell? ⟨w.heap.size,2,none⟩ = some (.int .i64 ga):=(z00 hS2 2).1; have hr2H:=zH hr2; have hS2H:=zH hS2; clear hr hr2 hS2 hlook hXS hkn hs; have hokv : okGi ⟨gx,gb,ga⟩:=hokg; have HOK:=zH hokv; clear hokv; generalize hg : (⟨gx,gb,ga⟩ : G) = g at hokg hcc hl ⊢; have HG:=zH hg; clear hg
  by_cases hm : g ∈ n.gs
  ·
   have HP:=zH (put_mem hm); have HC:=zH (hcc hm); rw [decide_eq_true hm] at hl; clear hm hcc
   go_quiet (fail)
   clear hl z0 z1 z2 y0 y1 y2
   go_wp2
   go_ret
   exact ⟨ret_int (by rw [HG.out,HP.out,HC.out]),hBel.drewN _,fun _ => by rw [HG.out,HP.out]; exact ⟨A,c,b,hr2H.out,hrlo,hblo,hown2,hkn2⟩⟩
  have HM:=zH hm; rw [decide_eq_false hm] at hl; clear hm hcc
  by_cases h6 : 600 <= n.gs.length
  ·
   have HP:=zH (put_full HM.out h6); have h6b : ((n.gs.length : Int) == 600) = true:=by simp; omega
   clear h6
   go_quiet (fail)
   clear hl
   go_wp2
   go_ret
   exact ⟨ret_int (by rw [HG.out,HP.out]),hBel.drewN _,fun h9 => absurd (by rw [HG.out,HP.out]) h9⟩
  have HP:=zH (put_new HM.out h6); have h6b : ((n.gs.length : Int) == 600) = false:=by simp; omega
  go_quiet (fail)
  clear hl
  go_wp2
  clear h6b; have w3z1 : (W2.drewN nq).cell? ⟨r,1,none⟩ = some (.slice A n.gs.length c):=z1; have w3y0 : (W2.drewN nq).cell? ⟨w.heap.size,0,none⟩ = some (.bool gx):=y0; have w3y1 : (W2.drewN nq).cell? ⟨w.heap.size,1,none⟩ = some (.int .i64 gb):=y1; have w3y2 : (W2.drewN nq).cell? ⟨w.heap.size,2,none⟩ = some (.int .i64 ga):=y2; have hr3H:=zH (show (W2.drewN nq).heap[r]? = _ from hr2H.out); have hS3H:=zH (show (W2.drewN nq).heap[w.heap.size]? = _ from hS2H.out); have hown3 : z0x (W2.drewN nq) lo (.slice A n.gs.length c) n.gs:=hown2; have hkn3 : z25 (W2.drewN nq) b n.ins n.gs:=hkn2; have hBel3 : BelK lo w (W2.drewN nq):=hBel.drewN _; have hlo3 : lo <= (W2.drewN nq).heap.size:=hlo2; have hS3 : w.heap.size < (W2.drewN nq).heap.size:=hSlt; clear z0 z1 z2 y0 y1 y2 hr2H hS2H hown2 hkn2 hBel hlo2 hSlt hW2; generalize W2.drewN nq = W3 at *; have d1:=z0f.cell w3z1; have q0:=z0f.cell w3y0; have q1:=z0f.cell w3y1; have q2:=z0f.cell w3y2; have hner:=row_ne hown3 r _ hr3H.out (fun cs fr e => by injection e with _ e2 _; revert e2; decide); have hneb : some b ≠ (Value.slice A n.gs.length c).ownBlock:=by
   obtain ⟨D,⟨es,clock,hbb,_⟩,_⟩:=hkn3; exact row_ne hown3 b _ hbb (fun cs fr e => by cases e)
  obtain ⟨ys,hys⟩ : ∃ ys,ys = n.gs ++ [g]:=⟨_,rfl⟩; have HY:=zH hys; have HYL:=zH (show ys.length = n.gs.length + 1 by rw [hys]; simp); clear hys; refine z0d [[],[],[(1,39)],[(2,40)],[(3,41)],[(4,42)],[],[(6,44)],[(5,43),(7,45)],[(0,38)],[(9,47)],[(10,48)],[(11,49),(8,46)]]
   [.eq (.pointer (some ⟨r,0,none⟩)),.eq (.pointer (some ⟨r,0,none⟩)),.eq (.pointer (some ⟨r,0,none⟩)),.eq (.pointer (some ⟨r,0,none⟩)),.eq (.pointer (some ⟨r,1,none⟩)),.eq (.slice A n.gs.length c),.eq (.agg #[.bool gx,.int .i64 gb,.int .i64 ga]),.lit 78 1 #[.bool gx,.int .i64 gb,.int .i64 ga],Fact.grow lo W3 (.slice A n.gs.length c) ys,.eq (.pointer (some ⟨r,0,none⟩)),.eq (.pointer (some ⟨r,0,none⟩)),.eq (.pointer (some ⟨r,1,none⟩)),Fact.circ lo W3 r w.heap.size ⟨n.ins,ys⟩ n.gs]
   [8,12] [8,12] [0,9,10,11,12] [12] [(0,38),(1,39),(2,40),(3,41),(4,42),(5,43),(6,44),(7,45),(8,46),(9,47),(10,48),(11,49)] (by kernel_rfl) (by kernel_rfl) (by kernel_rfl) (by kernel_rfl)
   ⟨?_,?_,?_,?_,?_,?_,?_,?_,?_,?_,?_,?_,?_,trivial⟩ ?_
  iterate 2
   ·
    intro vals x hC hF; simp only [z01,Act.put,zQ]
    go_wp2
    exact ⟨rfl,rfl,.inr (Below.refl _ _),.inr (.inl (by simp))⟩
  iterate 3
   ·
    intro vals x hC hF; simp only [z0c,zR,Fact.eq,Fact.row,Fact.lit,Fact.lit0,Fact.of,and_true,Fact.grow] at hF; simp only [z01,Act.put,zQ]; simp only [hF]
    go_wp2
    exact ⟨rfl,rfl,.inr (Below.refl _ _),.inr (.inl (by simp))⟩
  ·
   intro vals x hC hF; have hC:=hC.resolve_left (by simp); have hsz:=hC.size; have e1 : x.cell? _ = _:=d1 ⟨x,hC⟩; simp only [z0c,zR,Fact.eq,Fact.row,Fact.lit,Fact.lit0,Fact.of,and_true,Fact.grow] at hF; simp only [z01,Act.put,zQ]; simp only [hF]
   go_wp2
   exact ⟨rfl,rfl,.inr (Below.refl _ _),.inr (.inl (by simp))⟩
  ·
   intro vals x hC hF; have hC:=hC.resolve_left (by simp); have hsz:=hC.size; have e1 : x.cell? _ = _:=q0 ⟨x,hC⟩; have e2 : x.cell? _ = _:=q1 ⟨x,hC⟩; have e3 : x.cell? _ = _:=q2 ⟨x,hC⟩; simp only [z01,Act.put,zQ]
   go_wp2
   exact ⟨rfl,rfl,.inr (Below.refl _ _),.inr (.inl (by simp))⟩
  ·
   intro vals x hC hF; have hC:=hC.resolve_left (by simp); have hsz:=hC.size; simp only [z0c,zR,Fact.eq,Fact.row,Fact.lit,Fact.lit0,Fact.of,and_true,Fact.grow] at hF; simp only [z01,Act.put,zQ]; simp only [hF]
   go_wp2
   exact ⟨rfl,⟨_,rfl,by simp,_,heap_alloc_new _ _⟩,.inr ((Below.refl _ _).alloc (Nat.le_refl _) _),.inr (.inl (by simp))⟩
  ·
   intro vals x hC hF; have hC:=hC.resolve_left (by simp); have hsz:=hC.size; simp only [z0c,zR,Fact.eq,Fact.row,Fact.lit,Fact.lit0,Fact.of,and_true,Fact.grow] at hF; obtain ⟨e5,b5,e7,hlt5,fr5,hb5⟩:=hF; simp only [z01,Act.put,zQ]; simp only [e5,e7]; refine z1u (ys:=ys) (g:=⟨gx,gb,ga⟩) (by rfl) (.tmp 43) (.tmp 45) (by rfl) (by rfl) (by rfl) (z0e hown3 hC (Nat.le_refl _)) hb5 (by omega) (Nat.le_trans hlo3 hsz) (by rw [HY.out,HG.out]) ?_; intro A1 c1 w1 hown1 hg1; exact ⟨rfl,⟨A1,c1,rfl,hown1,Nat.le_trans hsz hg1.size,fun b9 hb9 hn9 => (hg1.block b9 (Nat.lt_of_lt_of_le hb9 hsz) hn9).trans (hC.block b9 hb9),hg1.os.trans hC.os,hg1.tape.trans hC.tape,hg1.output.trans hC.output⟩,.inl (by simp),.inl (by simp)⟩
  iterate 3
   ·
    intro vals x hC hF; simp only [z0c,zR,Fact.eq,Fact.row,Fact.lit,Fact.lit0,Fact.of,and_true,Fact.grow] at hF; simp only [z01,Act.put,zQ]; simp only [hF]
    go_wp2
    exact ⟨rfl,rfl,.inr (Below.refl _ _),.inr (.inl (by simp))⟩
  ·
   intro vals x hC hF; simp only [z0c,zR,Fact.eq,Fact.row,Fact.lit,Fact.lit0,Fact.of,and_true,Fact.grow] at hF; obtain ⟨e11,A1,c1,e8,hown1,hs1,hf1,ho1,ht1,hu1⟩:=hF; simp only [z01,Act.put,zQ]; simp only [e11,e8]; have hrx:=(hf1 r (lt_of_block hr3H.out) hner).trans hr3H.out; have hSx:=(hf1 w.heap.size hS3 hneS).trans hS3H.out; have x1 : x.cell? ⟨r,1,none⟩ = some (.slice A n.gs.length c):=(z00 hrx 1).1; have x2 : x.frozen? ⟨r,1,none⟩ = false:=(z00 hrx 1).2; have hne1:=row_ne hown1 r _ hrx (fun cs fr e => by injection e with _ e2 _; revert e2; decide)
   go_wp2
   refine ⟨rfl,⟨⟨A1,c1,b,?_,hrlo,hblo,own_below_set hown1 hne1,(hkn3.keep (hf1 b hkn3.lt hneb)).keep (Below.heap_setCell _ _ _ _ ?_)⟩,?_,?_,?_⟩,.inl (by simp),.inl (by simp)⟩
   · rw [z04 _ _ _ _ _ _ hrx]; rfl
   · intro e; dsimp only at e; subst e; obtain ⟨D,⟨es,clock,hbb,_⟩,_⟩:=hkn3; rw [hr3H.out] at hbb; cases hbb
   · exact (Below.heap_setCell _ _ _ _ (by dsimp only; omega)).trans (hSx.trans hS3H.out.symm)
   · simpa [World.setCell] using Nat.lt_of_lt_of_le hS3 hs1
   ·
    refine ⟨z0b ⟨ho1,ht1,hu1,hs1,fun b9 hb9 => hf1 b9 (Nat.lt_of_lt_of_le hb9 hlo3) ?_⟩ hrlo _,fun i o hi hck => ?_⟩
    · intro e; have:=(hown3.lt b9 e.symm).1; omega
    ·
     refine (Below.heap_setCell _ _ _ _ ?_).trans ((hf1 i (Array.getElem?_eq_some_iff.1 hi).1 fun e => ?_).trans hi)
     · intro e; dsimp only at e; subst e; rw [hr3H.out] at hi; injection hi with hi; exact hck (.inl ⟨_,_,hi.symm⟩)
     · obtain ⟨o9,ho9,hc9⟩:=own_ck hown3 e.symm; rw [hi] at ho9; injection ho9 with ho9; rw [ho9] at hck; exact hck hc9
  ·
   intro vals x hF; simp only [facts,zR,Fact.eq,Fact.row,Fact.lit,Fact.lit0,Fact.of,and_true,Fact.grow] at hF; simp only [Fact.circ,Fact.of] at hF; obtain ⟨hC4,hS4,hlt4,hB4⟩:=hF; simp only [z01,Act.put,zQ]; have hB4:=hBel3.trans hB4; have hS4:=hS4.trans hS3H.out; clear w3z1 w3y0 w3y1 w3y2 hr3H hS3H hown3 hkn3 hBel3 hlo3 hS3 d1 q0 q1 q2 hner hneb hneS hown hX; obtain ⟨A4,c4,b4,hr4,hr4lo,hb4lo,hown4,hkn4⟩:=hC4; have hl4 : lo <= x.heap.size:=Nat.le_trans hr4lo (Nat.le_of_lt (lt_of_block hr4)); have z0 : x.cell? ⟨r,0,none⟩ = some (.int .i64 n.ins):=(z00 hr4 0).1; have z1 : x.cell? ⟨r,1,none⟩ = some (.slice A4 ys.length c4):=(z00 hr4 1).1; have z2 : x.cell? ⟨r,2,none⟩ = some (.map (some b4)):=(z00 hr4 2).1; have y0 : x.cell? ⟨w.heap.size,0,none⟩ = some (.bool gx):=(z00 hS4 0).1; have y1 : x.cell? ⟨w.heap.size,1,none⟩ = some (.int .i64 gb):=(z00 hS4 1).1; have y2 : x.cell? ⟨w.heap.size,2,none⟩ = some (.int .i64 ga):=(z00 hS4 2).1; have z0:=z0f.cell z0; have z1:=z0f.cell z1; have z2:=z0f.cell z2; have y0:=z0f.cell y0; have y1:=z0f.cell y1; have y2:=z0f.cell y2; have hr4H:=zH hr4; have hS4H:=zH hS4; clear hr4 hS4; have hyl : (0 : Int) <= ys.length /\ (ys.length : Int) <= 1048576:=by have:=HYL.out; omega
   obtain ⟨hyl0,hyl1⟩:=hyl
   go_wp2
   refine z1l 16 (by kernel_rfl) (by kernel_rfl) ?_; simp only [List.take_succ_cons,List.take_zero,List.drop_succ_cons,List.drop_zero]
   repeat (go_big_quiet_step ((go_at_call 101; exact z2a (nodes_any A4 c4 ys.length n.ins ys.length _ (by omega) (by omega) hyl0 hyl1))))
   refine wpQuiet_nil ?_; rintro _ ⟨x9,rfl⟩; have hB9:=hB4.trans (.of x9.le hl4); have hlo9 : lo <= x9.W.heap.size:=Nat.le_trans hl4 x9.le.size; have hr9:=(x9.le.block r (lt_of_block hr4H.out)).trans hr4H.out; have hS9:=(x9.le.block w.heap.size hlt4).trans hS4H.out; have hown9 : z0x x9.W lo (.slice A4 ys.length c4) ys:=z0e hown4 x9.le (Nat.le_refl _); obtain ⟨D,hmap9,hD⟩:=hkn4.keep (x9.le.block b4 hkn4.lt); have hmapR:=(hmap9 : x9.W.ownsMap Tryz.prog 78 (plainElem Tryz.prog 3) b4 n.gs.length D)
   go_wp2_with (at_mapUpdate; refine wpList_mapUpdate_own _ rfl _ _ _ 104 rfl 78 3 z1s Tryz.underlying104 _ b4 n.gs.length D rfl hmapR (by unfold maxLen; omega) _ _ (keyG ⟨gx,gb,ga⟩) rfl rfl (keyG_ok ⟨gx,gb,ga⟩ HOK.out) (.lit (.int .i64 (1 + n.ins + ys.length))) [] (plainElem_int Tryz.underlying3 (WalkArith.wf_i64 (by omega))) ?_; intro w5 hown5 hgrow5)
   have hn5:=hgrow5.size; have hD5:=hD.put ⟨gx,gb,ga⟩ HOK.out (by rw [HG.out]; exact HM.out) (1 + n.ins + ys.length) (by rw [HYL.out]; push_cast; omega); rw [HG.out,<- HY.out] at hD5; have hneb9 : some r ≠ some b4:=by
    intro e; injection e with e; subst e; obtain ⟨es,clock,hbb,_⟩:=hmapR; rw [hr9] at hbb; cases hbb
   have hneS9 : some w.heap.size ≠ some b4:=by
    intro e; injection e with e; rw [<- e] at hmapR; obtain ⟨es,clock,hbb,_⟩:=hmapR; rw [hS9] at hbb; cases hbb
   have hr5:=(hgrow5.block r (lt_of_block hr9) hneb9).trans hr9; have hS5:=(hgrow5.block w.heap.size (lt_of_block hS9) hneS9).trans hS9; have hownm : z0x w5 lo (.slice A4 ys.length c4) ys:=hown9.kept hgrow5 (by
    obtain ⟨es,clock,hbb,_⟩:=hmapR; exact .inr (fun e => row_ne hown9 b4 _ hbb (fun cs fr e => by cases e) e.symm))
   have hB5:=hB9.grown hgrow5 hlo9 hb4lo (by obtain ⟨es,clock,hbb,_⟩:=hmapR; exact ⟨_,hbb,.inr (.inr ⟨_,_,rfl⟩)⟩); rw [HG.out] at hown5; have hkn5 : z25 w5 b4 n.ins ys:=⟨_,hown5.mono (by have:=HYL.out; omega),hD5⟩; obtain ⟨c5,hc5,hlook5⟩:=hkn5.look g hokg false; have hidx : ys.idxOf g = n.gs.length:=by rw [HY.out,List.idxOf_append,if_neg HM.out]; simp
   have hmem5 : g ∈ ys:=by rw [HY.out]; simp
   have HC5:=zH (hc5 hmem5); have HIX:=zH hidx; have hl5 : ∀ m,(Instr.lookup 104 (.map (some b4)) (.agg #[.bool gx,.int .i64 gb,.int .i64 ga]) false).run Tryz.prog (w5.drewN m) = .ok (.int .i64 c5) (w5.drewN m):=fun m => by
    have:=hlook5 (w5.drewN m) rfl; rw [<- HG.out] at this
    simpa using this
   have z2 : w5.cell? ⟨r,2,none⟩ = some (.map (some b4)):=(z00 hr5 2).1; have y0 : w5.cell? ⟨w.heap.size,0,none⟩ = some (.bool gx):=(z00 hS5 0).1; have y1 : w5.cell? ⟨w.heap.size,1,none⟩ = some (.int .i64 gb):=(z00 hS5 1).1; have y2 : w5.cell? ⟨w.heap.size,2,none⟩ = some (.int .i64 ga):=(z00 hS5 2).1; have hr5H:=zH hr5; clear hlook5 hc5 hidx hmem5 hr5 hS5 hr9 hS9 hown9 hmapR hmap9 hneb9 hneS9 hgrow5 hB9 hn5 hown5 hD5 hD
   go_wp2
   go_quiet (fail)
   clear hl5 z2 y0 y1 y2
   go_wp2
   go_ret
   exact ⟨ret_int (by rw [HG.out,HP.out,HC5.out,HIX.out]),hB5.drewN _,fun _ => by rw [HG.out,HP.out,<- HY.out]; exact ⟨A4,c4,b4,hr5H.out,hr4lo,hb4lo,hownm,hkn5⟩⟩
 ·
  rw [show sortG ⟨gx,ga,gb⟩ = ⟨gx,ga,gb⟩ by unfold sortG; rw [if_neg hs]]
  go_enter Tryz.func122,Tryz.ntmps122
  go_wp2
  go_quiet ((go_at_call 95; with_reducible exact z13 (node_any _ _ (by omega) (by omega))))
  go_wp2
  have hW2 : Below w.heap.size w ((w.alloc (.cells #[.bool gx,.int .i64 ga,.int .i64 gb] 78)).drewN nq):=z02 hX _; have hS2 : ((w.alloc (.cells #[.bool gx,.int .i64 ga,.int .i64 gb] 78)).drewN nq).heap[w.heap.size]? = some (.cells #[.bool gx,.int .i64 ga,.int .i64 gb] 78 (0,0)):=hXS; generalize ((w.alloc (.cells #[.bool gx,.int .i64 ga,.int .i64 gb] 78)).drewN nq) = W2 at *; have hokg : okGi ⟨gx,ga,gb⟩:=by unfold okGi; dsimp only; omega
  have hr2:=(hW2.block r hrlt).trans hr; have hown2:=z0e hown hW2 (Nat.le_refl _); have hown2 : z0x W2 lo (.slice A n.gs.length c) n.gs:=hown2; have hkn2:=hkn.keep (hW2.block b hblt); have hlo2 : lo <= W2.heap.size:=Nat.le_trans (Nat.le_trans hrlo (Nat.le_of_lt hrlt)) hW2.size; have hBel : BelK lo w W2:=.of hW2 (Nat.le_trans hrlo (Nat.le_of_lt hrlt)); have hSlt : w.heap.size < W2.heap.size:=lt_of_block hS2; obtain ⟨cc,hcc,hlook⟩:=hkn2.look ⟨gx,ga,gb⟩ hokg true; have hl : ∀ m,(Instr.lookup 104 (.map (some b)) (.agg #[.bool gx,.int .i64 ga,.int .i64 gb]) true).run Tryz.prog (W2.drewN m) = .ok (.tuple #[.int .i64 cc,.bool (decide ((⟨gx,ga,gb⟩ : G) ∈ n.gs))]) (W2.drewN m):=fun m => hlook (W2.drewN m) rfl
  have z0 : W2.cell? ⟨r,0,none⟩ = some (.int .i64 n.ins):=(z00 hr2 0).1; have z1 : W2.cell? ⟨r,1,none⟩ = some (.slice A n.gs.length c):=(z00 hr2 1).1; have z2 : W2.cell? ⟨r,2,none⟩ = some (.map (some b)):=(z00 hr2 2).1; have y0 : W2.cell? ⟨w.heap.size,0,none⟩ = some (.bool gx):=(z00 hS2 0).1; have y1 : W2.cell? ⟨w.heap.size,1,none⟩ = some (.int .i64 ga):=(z00 hS2 1).1; have y2 : W2.cell? ⟨w.heap.size,2,none⟩ = some (.int .i64 gb):=(z00 hS2 2).1; have hr2H:=zH hr2; have hS2H:=zH hS2; clear hr hr2 hS2 hlook hXS hkn hs; have hokv : okGi ⟨gx,ga,gb⟩:=hokg; have HOK:=zH hokv; clear hokv; generalize hg : (⟨gx,ga,gb⟩ : G) = g at hokg hcc hl ⊢; have HG:=zH hg; clear hg
  by_cases hm : g ∈ n.gs
  ·
   have HP:=zH (put_mem hm); have HC:=zH (hcc hm); rw [decide_eq_true hm] at hl; clear hm hcc
   go_quiet (fail)
   clear hl z0 z1 z2 y0 y1 y2
   go_wp2
   go_ret
   exact ⟨ret_int (by rw [HG.out,HP.out,HC.out]),hBel.drewN _,fun _ => by rw [HG.out,HP.out]; exact ⟨A,c,b,hr2H.out,hrlo,hblo,hown2,hkn2⟩⟩
  have HM:=zH hm; rw [decide_eq_false hm] at hl; clear hm hcc
  by_cases h6 : 600 <= n.gs.length
  ·
   have HP:=zH (put_full HM.out h6); have h6b : ((n.gs.length : Int) == 600) = true:=by simp; omega
   clear h6
   go_quiet (fail)
   clear hl
   go_wp2
   go_ret
   exact ⟨ret_int (by rw [HG.out,HP.out]),hBel.drewN _,fun h9 => absurd (by rw [HG.out,HP.out]) h9⟩
  have HP:=zH (put_new HM.out h6); have h6b : ((n.gs.length : Int) == 600) = false:=by simp; omega
  go_quiet (fail)
  clear hl
  go_wp2
  clear h6b; have w3z1 : (W2.drewN nq).cell? ⟨r,1,none⟩ = some (.slice A n.gs.length c):=z1; have w3y0 : (W2.drewN nq).cell? ⟨w.heap.size,0,none⟩ = some (.bool gx):=y0; have w3y1 : (W2.drewN nq).cell? ⟨w.heap.size,1,none⟩ = some (.int .i64 ga):=y1; have w3y2 : (W2.drewN nq).cell? ⟨w.heap.size,2,none⟩ = some (.int .i64 gb):=y2; have hr3H:=zH (show (W2.drewN nq).heap[r]? = _ from hr2H.out); have hS3H:=zH (show (W2.drewN nq).heap[w.heap.size]? = _ from hS2H.out); have hown3 : z0x (W2.drewN nq) lo (.slice A n.gs.length c) n.gs:=hown2; have hkn3 : z25 (W2.drewN nq) b n.ins n.gs:=hkn2; have hBel3 : BelK lo w (W2.drewN nq):=hBel.drewN _; have hlo3 : lo <= (W2.drewN nq).heap.size:=hlo2; have hS3 : w.heap.size < (W2.drewN nq).heap.size:=hSlt; clear z0 z1 z2 y0 y1 y2 hr2H hS2H hown2 hkn2 hBel hlo2 hSlt hW2; generalize W2.drewN nq = W3 at *; have d1:=z0f.cell w3z1; have q0:=z0f.cell w3y0; have q1:=z0f.cell w3y1; have q2:=z0f.cell w3y2; have hner:=row_ne hown3 r _ hr3H.out (fun cs fr e => by injection e with _ e2 _; revert e2; decide); have hneb : some b ≠ (Value.slice A n.gs.length c).ownBlock:=by
   obtain ⟨D,⟨es,clock,hbb,_⟩,_⟩:=hkn3; exact row_ne hown3 b _ hbb (fun cs fr e => by cases e)
  obtain ⟨ys,hys⟩ : ∃ ys,ys = n.gs ++ [g]:=⟨_,rfl⟩; have HY:=zH hys; have HYL:=zH (show ys.length = n.gs.length + 1 by rw [hys]; simp); clear hys; refine z0d [[],[],[(1,39)],[(2,40)],[(3,41)],[(4,42)],[],[(6,44)],[(5,43),(7,45)],[(0,38)],[(9,47)],[(10,48)],[(11,49),(8,46)]]
   [.eq (.pointer (some ⟨r,0,none⟩)),.eq (.pointer (some ⟨r,0,none⟩)),.eq (.pointer (some ⟨r,0,none⟩)),.eq (.pointer (some ⟨r,0,none⟩)),.eq (.pointer (some ⟨r,1,none⟩)),.eq (.slice A n.gs.length c),.eq (.agg #[.bool gx,.int .i64 ga,.int .i64 gb]),.lit 78 1 #[.bool gx,.int .i64 ga,.int .i64 gb],Fact.grow lo W3 (.slice A n.gs.length c) ys,.eq (.pointer (some ⟨r,0,none⟩)),.eq (.pointer (some ⟨r,0,none⟩)),.eq (.pointer (some ⟨r,1,none⟩)),Fact.circ lo W3 r w.heap.size ⟨n.ins,ys⟩ n.gs]
   [8,12] [8,12] [0,9,10,11,12] [12] [(0,38),(1,39),(2,40),(3,41),(4,42),(5,43),(6,44),(7,45),(8,46),(9,47),(10,48),(11,49)] (by kernel_rfl) (by kernel_rfl) (by kernel_rfl) (by kernel_rfl)
   ⟨?_,?_,?_,?_,?_,?_,?_,?_,?_,?_,?_,?_,?_,trivial⟩ ?_
  iterate 2
   ·
    intro vals x hC hF; simp only [z01,Act.put,zQ]
    go_wp2
    exact ⟨rfl,rfl,.inr (Below.refl _ _),.inr (.inl (by simp))⟩
  iterate 3
   ·
    intro vals x hC hF; simp only [z0c,zR,Fact.eq,Fact.row,Fact.lit,Fact.lit0,Fact.of,and_true,Fact.grow] at hF; simp only [z01,Act.put,zQ]; simp only [hF]
    go_wp2
    exact ⟨rfl,rfl,.inr (Below.refl _ _),.inr (.inl (by simp))⟩
  ·
   intro vals x hC hF; have hC:=hC.resolve_left (by simp); have hsz:=hC.size; have e1 : x.cell? _ = _:=d1 ⟨x,hC⟩; simp only [z0c,zR,Fact.eq,Fact.row,Fact.lit,Fact.lit0,Fact.of,and_true,Fact.grow] at hF; simp only [z01,Act.put,zQ]; simp only [hF]
   go_wp2
   exact ⟨rfl,rfl,.inr (Below.refl _ _),.inr (.inl (by simp))⟩
  ·
   intro vals x hC hF; have hC:=hC.resolve_left (by simp); have hsz:=hC.size; have e1 : x.cell? _ = _:=q0 ⟨x,hC⟩; have e2 : x.cell? _ = _:=q1 ⟨x,hC⟩; have e3 : x.cell? _ = _:=q2 ⟨x,hC⟩; simp only [z01,Act.put,zQ]
   go_wp2
   exact ⟨rfl,rfl,.inr (Below.refl _ _),.inr (.inl (by simp))⟩
  ·
   intro vals x hC hF; have hC:=hC.resolve_left (by simp); have hsz:=hC.size; simp only [z0c,zR,Fact.eq,Fact.row,Fact.lit,Fact.lit0,Fact.of,and_true,Fact.grow] at hF; simp only [z01,Act.put,zQ]; simp only [hF]
   go_wp2
   exact ⟨rfl,⟨_,rfl,by simp,_,heap_alloc_new _ _⟩,.inr ((Below.refl _ _).alloc (Nat.le_refl _) _),.inr (.inl (by simp))⟩
  ·
   intro vals x hC hF; have hC:=hC.resolve_left (by simp); have hsz:=hC.size; simp only [z0c,zR,Fact.eq,Fact.row,Fact.lit,Fact.lit0,Fact.of,and_true,Fact.grow] at hF; obtain ⟨e5,b5,e7,hlt5,fr5,hb5⟩:=hF; simp only [z01,Act.put,zQ]; simp only [e5,e7]; refine z1u (ys:=ys) (g:=⟨gx,ga,gb⟩) (by rfl) (.tmp 43) (.tmp 45) (by rfl) (by rfl) (by rfl) (z0e hown3 hC (Nat.le_refl _)) hb5 (by omega) (Nat.le_trans hlo3 hsz) (by rw [HY.out,HG.out]) ?_; intro A1 c1 w1 hown1 hg1; exact ⟨rfl,⟨A1,c1,rfl,hown1,Nat.le_trans hsz hg1.size,fun b9 hb9 hn9 => (hg1.block b9 (Nat.lt_of_lt_of_le hb9 hsz) hn9).trans (hC.block b9 hb9),hg1.os.trans hC.os,hg1.tape.trans hC.tape,hg1.output.trans hC.output⟩,.inl (by simp),.inl (by simp)⟩
  iterate 3
   ·
    intro vals x hC hF; simp only [z0c,zR,Fact.eq,Fact.row,Fact.lit,Fact.lit0,Fact.of,and_true,Fact.grow] at hF; simp only [z01,Act.put,zQ]; simp only [hF]
    go_wp2
    exact ⟨rfl,rfl,.inr (Below.refl _ _),.inr (.inl (by simp))⟩
  ·
   intro vals x hC hF; simp only [z0c,zR,Fact.eq,Fact.row,Fact.lit,Fact.lit0,Fact.of,and_true,Fact.grow] at hF; obtain ⟨e11,A1,c1,e8,hown1,hs1,hf1,ho1,ht1,hu1⟩:=hF; simp only [z01,Act.put,zQ]; simp only [e11,e8]; have hrx:=(hf1 r (lt_of_block hr3H.out) hner).trans hr3H.out; have hSx:=(hf1 w.heap.size hS3 hneS).trans hS3H.out; have x1 : x.cell? ⟨r,1,none⟩ = some (.slice A n.gs.length c):=(z00 hrx 1).1; have x2 : x.frozen? ⟨r,1,none⟩ = false:=(z00 hrx 1).2; have hne1:=row_ne hown1 r _ hrx (fun cs fr e => by injection e with _ e2 _; revert e2; decide)
   go_wp2
   refine ⟨rfl,⟨⟨A1,c1,b,?_,hrlo,hblo,own_below_set hown1 hne1,(hkn3.keep (hf1 b hkn3.lt hneb)).keep (Below.heap_setCell _ _ _ _ ?_)⟩,?_,?_,?_⟩,.inl (by simp),.inl (by simp)⟩
   · rw [z04 _ _ _ _ _ _ hrx]; rfl
   · intro e; dsimp only at e; subst e; obtain ⟨D,⟨es,clock,hbb,_⟩,_⟩:=hkn3; rw [hr3H.out] at hbb; cases hbb
   · exact (Below.heap_setCell _ _ _ _ (by dsimp only; omega)).trans (hSx.trans hS3H.out.symm)
   · simpa [World.setCell] using Nat.lt_of_lt_of_le hS3 hs1
   ·
    refine ⟨z0b ⟨ho1,ht1,hu1,hs1,fun b9 hb9 => hf1 b9 (Nat.lt_of_lt_of_le hb9 hlo3) ?_⟩ hrlo _,fun i o hi hck => ?_⟩
    · intro e; have:=(hown3.lt b9 e.symm).1; omega
    ·
     refine (Below.heap_setCell _ _ _ _ ?_).trans ((hf1 i (Array.getElem?_eq_some_iff.1 hi).1 fun e => ?_).trans hi)
     · intro e; dsimp only at e; subst e; rw [hr3H.out] at hi; injection hi with hi; exact hck (.inl ⟨_,_,hi.symm⟩)
     · obtain ⟨o9,ho9,hc9⟩:=own_ck hown3 e.symm; rw [hi] at ho9; injection ho9 with ho9; rw [ho9] at hck; exact hck hc9
  ·
   intro vals x hF; simp only [facts,zR,Fact.eq,Fact.row,Fact.lit,Fact.lit0,Fact.of,and_true,Fact.grow] at hF; simp only [Fact.circ,Fact.of] at hF; obtain ⟨hC4,hS4,hlt4,hB4⟩:=hF; simp only [z01,Act.put,zQ]; have hB4:=hBel3.trans hB4; have hS4:=hS4.trans hS3H.out; clear w3z1 w3y0 w3y1 w3y2 hr3H hS3H hown3 hkn3 hBel3 hlo3 hS3 d1 q0 q1 q2 hner hneb hneS hown hX; obtain ⟨A4,c4,b4,hr4,hr4lo,hb4lo,hown4,hkn4⟩:=hC4; have hl4 : lo <= x.heap.size:=Nat.le_trans hr4lo (Nat.le_of_lt (lt_of_block hr4)); have z0 : x.cell? ⟨r,0,none⟩ = some (.int .i64 n.ins):=(z00 hr4 0).1; have z1 : x.cell? ⟨r,1,none⟩ = some (.slice A4 ys.length c4):=(z00 hr4 1).1; have z2 : x.cell? ⟨r,2,none⟩ = some (.map (some b4)):=(z00 hr4 2).1; have y0 : x.cell? ⟨w.heap.size,0,none⟩ = some (.bool gx):=(z00 hS4 0).1; have y1 : x.cell? ⟨w.heap.size,1,none⟩ = some (.int .i64 ga):=(z00 hS4 1).1; have y2 : x.cell? ⟨w.heap.size,2,none⟩ = some (.int .i64 gb):=(z00 hS4 2).1; have z0:=z0f.cell z0; have z1:=z0f.cell z1; have z2:=z0f.cell z2; have y0:=z0f.cell y0; have y1:=z0f.cell y1; have y2:=z0f.cell y2; have hr4H:=zH hr4; have hS4H:=zH hS4; clear hr4 hS4; have hyl : (0 : Int) <= ys.length /\ (ys.length : Int) <= 1048576:=by have:=HYL.out; omega
   obtain ⟨hyl0,hyl1⟩:=hyl
   go_wp2
   refine z1l 16 (by kernel_rfl) (by kernel_rfl) ?_; simp only [List.take_succ_cons,List.take_zero,List.drop_succ_cons,List.drop_zero]
   repeat (go_big_quiet_step ((go_at_call 101; exact z2a (nodes_any A4 c4 ys.length n.ins ys.length _ (by omega) (by omega) hyl0 hyl1))))
   refine wpQuiet_nil ?_; rintro _ ⟨x9,rfl⟩; have hB9:=hB4.trans (.of x9.le hl4); have hlo9 : lo <= x9.W.heap.size:=Nat.le_trans hl4 x9.le.size; have hr9:=(x9.le.block r (lt_of_block hr4H.out)).trans hr4H.out; have hS9:=(x9.le.block w.heap.size hlt4).trans hS4H.out; have hown9 : z0x x9.W lo (.slice A4 ys.length c4) ys:=z0e hown4 x9.le (Nat.le_refl _); obtain ⟨D,hmap9,hD⟩:=hkn4.keep (x9.le.block b4 hkn4.lt); have hmapR:=(hmap9 : x9.W.ownsMap Tryz.prog 78 (plainElem Tryz.prog 3) b4 n.gs.length D)
   go_wp2_with (at_mapUpdate; refine wpList_mapUpdate_own _ rfl _ _ _ 104 rfl 78 3 z1s Tryz.underlying104 _ b4 n.gs.length D rfl hmapR (by unfold maxLen; omega) _ _ (keyG ⟨gx,ga,gb⟩) rfl rfl (keyG_ok ⟨gx,ga,gb⟩ HOK.out) (.lit (.int .i64 (1 + n.ins + ys.length))) [] (plainElem_int Tryz.underlying3 (WalkArith.wf_i64 (by omega))) ?_; intro w5 hown5 hgrow5)
   have hn5:=hgrow5.size; have hD5:=hD.put ⟨gx,ga,gb⟩ HOK.out (by rw [HG.out]; exact HM.out) (1 + n.ins + ys.length) (by rw [HYL.out]; push_cast; omega); rw [HG.out,<- HY.out] at hD5; have hneb9 : some r ≠ some b4:=by
    intro e; injection e with e; subst e; obtain ⟨es,clock,hbb,_⟩:=hmapR; rw [hr9] at hbb; cases hbb
   have hneS9 : some w.heap.size ≠ some b4:=by
    intro e; injection e with e; rw [<- e] at hmapR; obtain ⟨es,clock,hbb,_⟩:=hmapR; rw [hS9] at hbb; cases hbb
   have hr5:=(hgrow5.block r (lt_of_block hr9) hneb9).trans hr9; have hS5:=(hgrow5.block w.heap.size (lt_of_block hS9) hneS9).trans hS9; have hownm : z0x w5 lo (.slice A4 ys.length c4) ys:=hown9.kept hgrow5 (by
    obtain ⟨es,clock,hbb,_⟩:=hmapR; exact .inr (fun e => row_ne hown9 b4 _ hbb (fun cs fr e => by cases e) e.symm))
   have hB5:=hB9.grown hgrow5 hlo9 hb4lo (by obtain ⟨es,clock,hbb,_⟩:=hmapR; exact ⟨_,hbb,.inr (.inr ⟨_,_,rfl⟩)⟩); rw [HG.out] at hown5; have hkn5 : z25 w5 b4 n.ins ys:=⟨_,hown5.mono (by have:=HYL.out; omega),hD5⟩; obtain ⟨c5,hc5,hlook5⟩:=hkn5.look g hokg false; have hidx : ys.idxOf g = n.gs.length:=by rw [HY.out,List.idxOf_append,if_neg HM.out]; simp
   have hmem5 : g ∈ ys:=by rw [HY.out]; simp
   have HC5:=zH (hc5 hmem5); have HIX:=zH hidx; have hl5 : ∀ m,(Instr.lookup 104 (.map (some b4)) (.agg #[.bool gx,.int .i64 ga,.int .i64 gb]) false).run Tryz.prog (w5.drewN m) = .ok (.int .i64 c5) (w5.drewN m):=fun m => by
    have:=hlook5 (w5.drewN m) rfl; rw [<- HG.out] at this
    simpa using this
   have z2 : w5.cell? ⟨r,2,none⟩ = some (.map (some b4)):=(z00 hr5 2).1; have y0 : w5.cell? ⟨w.heap.size,0,none⟩ = some (.bool gx):=(z00 hS5 0).1; have y1 : w5.cell? ⟨w.heap.size,1,none⟩ = some (.int .i64 ga):=(z00 hS5 1).1; have y2 : w5.cell? ⟨w.heap.size,2,none⟩ = some (.int .i64 gb):=(z00 hS5 2).1; have hr5H:=zH hr5; clear hlook5 hc5 hidx hmem5 hr5 hS5 hr9 hS9 hown9 hmapR hmap9 hneb9 hneS9 hgrow5 hB9 hn5 hown5 hD5 hD
   go_wp2
   go_quiet (fail)
   clear hl5 z2 y0 y1 y2
   go_wp2
   go_ret
   exact ⟨ret_int (by rw [HG.out,HP.out,HC5.out,HIX.out]),hB5.drewN _,fun _ => by rw [HG.out,HP.out,<- HY.out]; exact ⟨A4,c4,b4,hr5H.out,hr4lo,hb4lo,hownm,hkn5⟩⟩
end Go.Proofs.YtemdmlmcidfodaaGreatDoor
