/- The reference's gates: and, xor. -/
import Derived.Maps.OwnSet
import Derived.DeepKeys4
import Derived.Test.YtemdmlmcidfodaaGreatDoorJFnBitsBin0
import Derived.Test.YtemdmlmcidfodaaGreatDoorJFnBitsBin2
import Derived.Test.YtemdmlmcidfodaaGreatDoorJFnBitsBin3
namespace Go.Proofs.YtemdmlmcidfodaaGreatDoor
open Go Go.RowKit
theorem gcells_one1 (g : G) : ∀ u ∈ z0k g,u.oneCell' = true:=by
 intro u hu; simp [z0k] at hu
 rcases hu with rfl | rfl | rfl <;> rfl
def goodAt (n : N) (k : Nat) : Bool:=match n.gs[k]? with | some g => goodG n k g | none => true
def z0q (n : N) : Bool:=decide (0 <= n.ins) && decide (n.ins <= 8) && decide (n.gs.length <= 600) && (List.range n.gs.length).all (goodAt n)
theorem netOk_iff (n : N) : z0q n = true ↔ 0 <= n.ins /\ n.ins <= 8 /\ n.gs.length <= 600 /\ ∀ k,k < n.gs.length -> goodAt n k = true:=by
 simp [z0q,and_assoc]
theorem netOk_no {n : N} (h : n.ins < 0 \/ 8 < n.ins \/ 600 < n.gs.length \/ ∃ k,k < n.gs.length /\ goodAt n k = false) : z0q n = false:=by
 rw [Bool.eq_false_iff]; intro e; obtain ⟨h1,h2,h3,h4⟩:=(netOk_iff n).1 e
 rcases h with h | h | h | ⟨k,hk,hg⟩
 · omega
 · omega
 · omega
 · rw [h4 k hk] at hg; cases hg
set_option maxHeartbeats 1000000 in
theorem specNetOk_any (A : Option Addr) (c : Nat) (n : N) (w : World) (h : Lay.gate.Rd w A n.gs) (hn : n.gs.length <= 1048576) (hi : okInts n) :
  Calls Tryz.prog 9 #[.agg #[.int .i64 n.ins,.slice A n.gs.length c]] w fun e w' => e = .returned (.bool (z0q n)) /\ Below w.heap.size w w':=by
 have hw : Below w.heap.size w (w.alloc (.cells #[.int .i64 n.ins,.slice A n.gs.length c] 29)):=(Below.refl _ _).alloc (Nat.le_refl _) _; have H:=h.up hw
 by_cases h0 : n.ins < 0
 ·
  have HN:=zH (netOk_no (.inl h0))
  go_enter Tryz.func9,Tryz.ntmps9
  go_wp2
  go_ret
  exact ⟨z0m (by rw [HN.out]),hw⟩
 by_cases h1 : 8 < n.ins
 ·
  have HN:=zH (netOk_no (.inr (.inl h1)))
  go_enter Tryz.func9,Tryz.ntmps9
  go_wp2
  go_ret
  exact ⟨z0m (by rw [HN.out]),hw⟩
 by_cases h2 : 600 < n.gs.length
 ·
  have HN:=zH (netOk_no (.inr (.inr (.inl h2))))
  go_enter Tryz.func9,Tryz.ntmps9
  go_wp2
  go_ret
  exact ⟨z0m (by rw [HN.out]),hw⟩
 have v0 : (w.alloc (.cells #[.int .i64 n.ins,.slice A n.gs.length c] 29)).cell? ⟨w.heap.size,0,none⟩ = some (.int .i64 n.ins):=by simp [go_sem]
 have v1 : (w.alloc (.cells #[.int .i64 n.ins,.slice A n.gs.length c] 29)).cell? ⟨w.heap.size,1,none⟩ = some (.slice A n.gs.length c):=by simp [go_sem]
 go_enter Tryz.func9,Tryz.ntmps9
 go_wp2
 generalize w.alloc (.cells #[.int .i64 n.ins,.slice A n.gs.length c] 29) = W at *
 go_loopw [3] (fun i wr => ∃ j : Nat,j <= n.gs.length /\ i = .int .i64 j /\ Below W.heap.size W wr /\ ∀ i',i' < j -> goodAt n i' = true) (fun i _ => n.gs.length - (intOf i).toNat)
 case atStart => exact ⟨0,Nat.zero_le _,rfl,Below.refl _ _,fun i' h => absurd h (by omega)⟩
 case round =>
  obtain ⟨j,hj,rfl,hb,hg⟩:=hrel; have HG:=zH hg; clear hg; have c0:=(hb.cell (World.block_lt_of_cell? W _ v0)).trans v0; have c1:=(hb.cell (World.block_lt_of_cell? W _ v1)).trans v1
  by_cases hlt : j < n.gs.length
  ·
   have hga : goodAt n j = goodG n j n.gs[j]:=by simp [goodAt,hlt]
   have HA:=zH hga; clear hga
   go_wp2_with fail
   refine (l6Gate_any A c n j hlt wr (H.up hb) hn hi (by omega) (by omega)).mono ?_; rw [<- HA.out]; rintro e w2 ⟨rfl,hb2⟩
   cases hq : goodAt n j with
   | false =>
    have HN:=zH (netOk_no (.inr (.inr (.inr ⟨j,hlt,hq⟩)))); clear hq
    go_wp2
    go_ret
    exact ⟨z0m (by rw [HN.out]),z09 (z09 hw hb) hb2⟩
   | true =>
    have HQ:=zH hq; clear hq
    go_wp2
    go_roundw
    case rel => exact ⟨j + 1,by omega,by go_num,z09 hb hb2,fun i' hi' => by
     rcases Nat.lt_or_ge i' j with h' | h'
     · exact HG.out i' h'
     ·
      have : i' = j:=by omega
      subst this; exact HQ.out⟩
    case measure => simp [intOf]; omega
  ·
   have : j = n.gs.length:=by omega
   subst this; have HN:=zH ((netOk_iff n).2 ⟨by omega,by omega,by omega,HG.out⟩)
   go_wp2
   go_ret
   exact ⟨z0m (by rw [HN.out]),z09 hw hb⟩
def put (n : N) (g : G) : N × Int :=
 if g ∈ n.gs then (n,2 + n.ins + n.gs.idxOf g) else if 600 <= n.gs.length then (⟨0,[]⟩,0) else (⟨n.ins,n.gs ++ [g]⟩,2 + n.ins + n.gs.length)
theorem put_mem {n : N} {g : G} (h : g ∈ n.gs) : put n g = (n,2 + n.ins + n.gs.idxOf g):=by unfold put; rw [if_pos h]
theorem put_full {n : N} {g : G} (h : g ∉ n.gs) (h6 : 600 <= n.gs.length) : put n g = (⟨0,[]⟩,0):=by unfold put; rw [if_neg h,if_pos h6]
theorem put_new {n : N} {g : G} (h : g ∉ n.gs) (h6 : ¬ 600 <= n.gs.length) : put n g = (⟨n.ins,n.gs ++ [g]⟩,2 + n.ins + n.gs.length):=by unfold put; rw [if_neg h,if_neg h6]
def RetNetInt (F : Nat -> Prop) (w : World) (r : N × Int) (e : Ending) (w' : World) : Prop :=
 ∃ A c,e = .returned (.tuple #[.agg #[.int .i64 r.1.ins,.slice A r.1.gs.length c],.int .i64 r.2]) /\ (A = none -> r.1.gs.length = 0) /\ Lay.gate.Sl w' (fun b => F b \/ (w.heap.size <= b /\ b < w'.heap.size)) A r.1.gs /\ Below w.heap.size w w'
theorem idxOf_first {g : G} : ∀ {xs : List G} {j : Nat},xs[j]? = some g -> (∀ i,i < j -> xs[i]? ≠ some g) -> xs.idxOf g = j
 | [],j,h,_ => by simp at h
 | x :: xs,0,h,_ => by
  simp only [List.getElem?_cons_zero,Option.some.injEq] at h; subst h; simp
 | x :: xs,j + 1,h,hn => by
  have hx : x ≠ g:=fun e => hn 0 (by omega) (by simp [e])
  have:=idxOf_first (xs:=xs) (j:=j) (by simpa using h) (fun i hi => by have:=hn (i + 1) (by omega); simpa using this); rw [List.idxOf_cons,this,beq_false_of_ne hx]; rfl
theorem z0b {B : Nat} {w X : World} {p : Addr} (h : Below B w X) (hp : B <= p.block) (u : Value) : Below B w (X.setCell p u) :=
 ⟨h.os,h.tape,h.output,by simpa [World.setCell] using h.size,fun b hb => (Below.heap_setCell X p u b (by omega)).trans (h.block b hb)⟩
def Fact.put (b : Nat) (W : World) (n : N) (g : G) : Fact :=
 .of (fun _ x => b < x.heap.size /\ x.cell? ⟨b,0,none⟩ = some (.int .i64 n.ins) /\ W.heap.size <= x.heap.size /\ (∀ b',b' < W.heap.size -> b' ≠ b -> x.heap[b']? = W.heap[b']?) /\ x.os = W.os /\ x.tape = W.tape /\ x.output = W.output ∧
   ∃ A c,x.cell? ⟨b,1,none⟩ = some (.slice A (n.gs.length + 1) c) /\ x.ownsRow W.heap.size 78 3 (.slice A (n.gs.length + 1) c) (n.gs.length + 1) (n.gs.flatMap z0k ++ z0k g))
  fun _ x x' ⟨h1,h2,h3,h4,h5,h6,h7,A,c,h8,h9⟩ hb =>
   ⟨Nat.lt_of_lt_of_le h1 hb.size,(hb.cell (by exact h1)).trans h2,Nat.le_trans h3 hb.size,fun b' hb' hne => (hb.block b' (by omega)).trans (h4 b' hb' hne),hb.os.trans h5,hb.tape.trans h6,hb.output.trans h7,A,c,(hb.cell (by exact h1)).trans h8,z0e h9 hb (Nat.le_refl _)⟩
set_option maxRecDepth 100000 in
set_option maxHeartbeats 2000000 in
theorem z2b (F : Nat -> Prop) (A : Option Addr) (c : Nat) (n : N) (g : G) (w : World) (h : Lay.gate.Sl w F A n.gs) (hF : ∀ b,F b -> b < w.heap.size) (hn : n.gs.length <= 1048576) (hA : A = none -> n.gs.length = 0) (h0 : 0 <= n.ins) (h1 : n.ins <= 1000000) :
  Calls Tryz.prog 97 #[.agg #[.int .i64 n.ins,.slice A n.gs.length c],.agg #[.bool g.x,.int .i64 g.a,.int .i64 g.b]] w (RetNetInt F w (put n g)):=by
 obtain ⟨i0,hi0,hz0,hz1,hz2⟩:=info_parts gate_info
 go_enter Tryz.func97,Tryz.ntmps97
 go_wp2
 have hW : Below w.heap.size w (((w.alloc (.cells #[.int .i64 n.ins,.slice A n.gs.length c] 29)).alloc (.cells #[.bool g.x,.int .i64 g.a,.int .i64 g.b] 78)).alloc (.cells #[.int .i64 0,.slice none 0 0] 29)):=(((Below.refl _ _).alloc (Nat.le_refl _) _).alloc (by simp) _).alloc (by simp; omega) _; have hs : (((w.alloc (.cells #[.int .i64 n.ins,.slice A n.gs.length c] 29)).alloc (.cells #[.bool g.x,.int .i64 g.a,.int .i64 g.b] 78)).alloc (.cells #[.int .i64 0,.slice none 0 0] 29)).heap.size >= w.heap.size + 3:=by simp
 have v0 : (((w.alloc (.cells #[.int .i64 n.ins,.slice A n.gs.length c] 29)).alloc (.cells #[.bool g.x,.int .i64 g.a,.int .i64 g.b] 78)).alloc (.cells #[.int .i64 0,.slice none 0 0] 29)).cell? ⟨w.heap.size,0,none⟩ = some (.int .i64 n.ins):=by simp [go_sem]
 have v1 : (((w.alloc (.cells #[.int .i64 n.ins,.slice A n.gs.length c] 29)).alloc (.cells #[.bool g.x,.int .i64 g.a,.int .i64 g.b] 78)).alloc (.cells #[.int .i64 0,.slice none 0 0] 29)).cell? ⟨w.heap.size,1,none⟩ = some (.slice A n.gs.length c):=by simp [go_sem]
 have v2 : (((w.alloc (.cells #[.int .i64 n.ins,.slice A n.gs.length c] 29)).alloc (.cells #[.bool g.x,.int .i64 g.a,.int .i64 g.b] 78)).alloc (.cells #[.int .i64 0,.slice none 0 0] 29)).cell? ⟨w.heap.size + 1,0,none⟩ = some (.bool g.x):=by simp [go_sem]
 have v3 : (((w.alloc (.cells #[.int .i64 n.ins,.slice A n.gs.length c] 29)).alloc (.cells #[.bool g.x,.int .i64 g.a,.int .i64 g.b] 78)).alloc (.cells #[.int .i64 0,.slice none 0 0] 29)).cell? ⟨w.heap.size + 1,1,none⟩ = some (.int .i64 g.a):=by simp [go_sem]
 have v4 : (((w.alloc (.cells #[.int .i64 n.ins,.slice A n.gs.length c] 29)).alloc (.cells #[.bool g.x,.int .i64 g.a,.int .i64 g.b] 78)).alloc (.cells #[.int .i64 0,.slice none 0 0] 29)).cell? ⟨w.heap.size + 1,2,none⟩ = some (.int .i64 g.b):=by simp [go_sem]
 have v5 : (((w.alloc (.cells #[.int .i64 n.ins,.slice A n.gs.length c] 29)).alloc (.cells #[.bool g.x,.int .i64 g.a,.int .i64 g.b] 78)).alloc (.cells #[.int .i64 0,.slice none 0 0] 29)).cell? ⟨w.heap.size + 1 + 1,0,none⟩ = some (.int .i64 0):=by simp [go_sem]
 have v6 : (((w.alloc (.cells #[.int .i64 n.ins,.slice A n.gs.length c] 29)).alloc (.cells #[.bool g.x,.int .i64 g.a,.int .i64 g.b] 78)).alloc (.cells #[.int .i64 0,.slice none 0 0] 29)).cell? ⟨w.heap.size + 1 + 1,1,none⟩ = some (.slice none 0 0):=by simp [go_sem]
 have f0 : (((w.alloc (.cells #[.int .i64 n.ins,.slice A n.gs.length c] 29)).alloc (.cells #[.bool g.x,.int .i64 g.a,.int .i64 g.b] 78)).alloc (.cells #[.int .i64 0,.slice none 0 0] 29)).frozen? ⟨w.heap.size,1,none⟩ = false:=by simp [go_sem]
 have f5 : (((w.alloc (.cells #[.int .i64 n.ins,.slice A n.gs.length c] 29)).alloc (.cells #[.bool g.x,.int .i64 g.a,.int .i64 g.b] 78)).alloc (.cells #[.int .i64 0,.slice none 0 0] 29)).frozen? ⟨w.heap.size + 1 + 1,0,none⟩ = false:=by simp [go_sem]
 have f6 : (((w.alloc (.cells #[.int .i64 n.ins,.slice A n.gs.length c] 29)).alloc (.cells #[.bool g.x,.int .i64 g.a,.int .i64 g.b] 78)).alloc (.cells #[.int .i64 0,.slice none 0 0] 29)).frozen? ⟨w.heap.size + 1 + 1,1,none⟩ = false:=by simp [go_sem]
 generalize (((w.alloc (.cells #[.int .i64 n.ins,.slice A n.gs.length c] 29)).alloc (.cells #[.bool g.x,.int .i64 g.a,.int .i64 g.b] 78)).alloc (.cells #[.int .i64 0,.slice none 0 0] 29)) = W at *; have H:=Lay.Sl.up (h.mono hF) hW
 go_loopw [6] (fun i wr => ∃ j m : Nat,j <= n.gs.length /\ i = .int .i64 j /\ wr = W.drewN m /\ ∀ i',i' < j -> n.gs[i']? ≠ some g) (fun i _ => n.gs.length - (intOf i).toNat)
 case atStart => exact ⟨0,0,Nat.zero_le _,rfl,rfl,fun i' h => absurd h (by omega)⟩
 case round =>
  obtain ⟨j,m,hj,rfl,rfl,hnot⟩:=hrel; have HN:=zH hnot; clear hnot
  by_cases hlt : j < n.gs.length
  ·
   obtain ⟨ad,rfl,hf,j1,j2,j3⟩:=H.at_gate hlt; have hj0 : (0 : Int) <= j:=by omega
   have hj1 : (j : Int) < n.gs.length:=by omega
   have hgj : n.gs[j]? = some n.gs[j]:=List.getElem?_eq_getElem hlt; have HGJ:=zH hgj; clear hgj; generalize n.gs[j] = gj at *
   by_cases hq : gj = g
   ·
    have he : ∀ W' : World,(binOp .eql 78 (.agg #[.bool gj.x,.int .i64 gj.a,.int .i64 gj.b]) (.agg #[.bool g.x,.int .i64 g.a,.int .i64 g.b])).run Tryz.prog W' = .ok (.bool true) W':=fun W' => by rw [eqlG W' gj g,decide_eq_true hq]
    have HQ:=zH hq; clear hq; have e1 : IntKind.i64.wrap (2 + n.ins) = 2 + n.ins:=IntWalk.i64_in _ (by omega); have e2 : IntKind.i64.wrap (2 + n.ins + (j : Int)) = 2 + n.ins + (j : Int):=IntWalk.i64_in _ (by omega)
    go_wp2
    go_quiet (fail)
    go_wp2
    go_region_held3 (fun w' => w'.cell? ⟨w.heap.size,0,none⟩ = some (.int .i64 n.ins) /\ w'.cell? ⟨w.heap.size,1,none⟩ = some (.slice (some ad) n.gs.length c)) (first | go_keep | (refine ⟨?_,?_⟩ <;> (simp [go_sem,v0,v1]; done))) (fail)
    go_wp2
    refine bodyPost_ret (v:=.tuple #[.agg #[.int .i64 n.ins,.slice (some ad) n.gs.length c],.int .i64 (2 + n.ins + j)]) (by simp [results,Tryz.results97,go_sem,v0,v1,v5,v6,f5,f6]) rfl ?_; have hgs : n.gs[j]? = some g:=by rw [HGJ.out,HQ.out]
    have hidx : n.gs.idxOf g = j:=idxOf_first hgs HN.out; have hmem : g ∈ n.gs:=by
     have:=HGJ.out; rw [HQ.out] at this; exact List.mem_of_getElem? this
    have hp : put n g = (n,2 + n.ins + j):=by unfold put; rw [if_pos hmem,hidx]
    rw [hp]; have hbel : Below w.heap.size w (((W.drewN (m + nq + 1)).setCell ⟨w.heap.size + 1 + 1,0,none⟩ (.int .i64 n.ins)).setCell ⟨w.heap.size + 1 + 1,1,none⟩ (.slice (some ad) n.gs.length c)):=by
     refine z0b (z0b (z02 hW _) ?_ _) ?_ _ <;> (show w.heap.size <= w.heap.size + 1 + 1; omega)
    exact ⟨some ad,c,rfl,fun e9 => (by cases e9),(h.below hbel hF).mono (fun _ => .inl),hbel⟩
   ·
    have he : ∀ W' : World,(binOp .eql 78 (.agg #[.bool gj.x,.int .i64 gj.a,.int .i64 gj.b]) (.agg #[.bool g.x,.int .i64 g.a,.int .i64 g.b])).run Tryz.prog W' = .ok (.bool false) W':=fun W' => by rw [eqlG W' gj g,decide_eq_false hq]
    have HQ:=zH hq; clear hq
    go_wp2
    go_quiet (fail)
    go_wp2
    go_roundw
    case rel => exact ⟨j + 1,_,by omega,by go_num,rfl,fun i' hi' => by
     rcases Nat.lt_or_ge i' j with h' | h'
     · exact HN.out i' h'
     ·
      have : i' = j:=by omega
      subst this; rw [HGJ.out]; intro e; injection e with e; exact HQ.out e⟩
    case measure => simp [intOf]; omega
  ·
   have : j = n.gs.length:=by omega
   subst this
   by_cases h6 : 600 <= n.gs.length
   ·
    go_wp2
    refine bodyPost_ret (v:=.tuple #[.agg #[.int .i64 0,.slice none 0 0],.int .i64 0]) (by simp [results,Tryz.results97,go_sem,v0,v1,v5,v6,f5,f6]) rfl ?_; have hnm : g ∉ n.gs:=fun hm => by
     obtain ⟨i',hi',hg'⟩:=List.getElem_of_mem hm; exact HN.out i' hi' (by rw [List.getElem?_eq_getElem hi',hg'])
    have hp : put n g = (⟨0,[]⟩,0):=by unfold put; rw [if_neg hnm,if_pos h6]
    rw [hp]; exact ⟨none,0,rfl,fun _ => rfl,Lay.Sl.nil _ _ _ _,by first | exact z02 hW _ | (refine z0b (z0b (z02 hW _) ?_ _) ?_ _ <;> (show w.heap.size <= w.heap.size + 1 + 1; omega))⟩
   ·
    go_wp2
    have b1 : w.heap.size < (W.drewN m).heap.size:=by show w.heap.size < W.heap.size; omega
    have b2 : w.heap.size + 1 < (W.drewN m).heap.size:=by show w.heap.size + 1 < W.heap.size; omega
    refine z0d [[],[],[(1,33)],[(0,32),(2,34)],[],[(4,36)],[(3,35),(5,37)],[],[(6,38),(7,39)]]
     [.lit0 W.heap.size 78 3,.eq (.pointer (some ⟨w.heap.size,1,none⟩)),.eq (.slice A n.gs.length c),.row W.heap.size 78 3 n.gs.length (n.gs.flatMap z0k),
      .eq (.agg #[.bool g.x,.int .i64 g.a,.int .i64 g.b]),.lit 78 1 #[.bool g.x,.int .i64 g.a,.int .i64 g.b],.row W.heap.size 78 3 (n.gs.length + 1) (n.gs.flatMap z0k ++ z0k g),
      .eq (.pointer (some ⟨w.heap.size,1,none⟩)),Fact.put w.heap.size W n g]
     [6,8] [8] [7] [8] [(0,32),(1,33),(2,34),(3,35),(4,36),(5,37),(6,38),(7,39)] (by kernel_rfl) (by kernel_rfl) (by kernel_rfl) (by kernel_rfl)
     ⟨?_,?_,?_,?_,?_,?_,?_,?_,?_,trivial⟩ ?_
    ·
     intro vals x hC hF; simp only [z01,Act.put,zQ]; have hC:=hC.resolve_left (by simp); have hsz : W.heap.size <= x.heap.size:=hC.size
     go_wp2
     exact ⟨rfl,⟨_,rfl,own_mono (z18 rfl) hsz⟩,.inr ((Below.refl _ _).alloc (Nat.le_refl _) _),.inr (.inl (by simp))⟩
    ·
     intro vals x hC hF; simp only [z01,Act.put,zQ]
     go_wp2
     exact ⟨rfl,rfl,.inr (Below.refl _ _),.inr (.inl (by simp))⟩
    ·
     intro vals x hC hF; have hC:=hC.resolve_left (by simp); simp only [z0c,zR,Fact.eq,Fact.row,Fact.lit,Fact.lit0,Fact.of,and_true] at hF; obtain ⟨hcc,hff⟩:=bcell hC; have c1:=(hcc _ 1 b1).trans v1; simp only [z01,Act.put,zQ]; simp only [hF]
     go_wp2
     exact ⟨rfl,rfl,.inr (Below.refl _ _),.inr (.inl (by simp))⟩
    ·
     intro vals x hC hF; have hC:=hC.resolve_left (by simp); have hsz : W.heap.size <= x.heap.size:=hC.size; simp only [z0c,zR,Fact.eq,Fact.row,Fact.lit,Fact.lit0,Fact.of,and_true] at hF; obtain ⟨⟨p0,e0,own0⟩,e2⟩:=hF; simp only [z01,Act.put,zQ]; simp only [e0,e2]; refine wpList_append_lit _ (by rfl) (.tmp 32) (.tmp 34) _ (by rfl) W.heap.size 78 i0 _ 3 24 Tryz.underlying27 hi0 hz0 hz1 hz2 (by rfl) (by omega) p0 (by rfl) own0 A n.gs.length c (n.gs.flatMap z0k) (by rfl) (src_gates (H.up (w':=x) ⟨hC.os,hC.tape,hC.output,hC.size,hC.block⟩)) (gcells_one _) (by unfold maxLen; omega) (by omega) hsz hA ?_; intro A1 c1 w1 hown1 hb1; exact ⟨rfl,⟨_,_,rfl,hown1⟩,.inr hb1,.inr (.inl (by simp))⟩
    ·
     intro vals x hC hF; have hC:=hC.resolve_left (by simp); obtain ⟨hcc,hff⟩:=bcell hC; have c1:=(hcc _ 0 b2).trans v2; have c2:=(hcc _ 1 b2).trans v3; have c3:=(hcc _ 2 b2).trans v4; simp only [z01,Act.put,zQ]
     go_wp2
     exact ⟨rfl,rfl,.inr (Below.refl _ _),.inr (.inl (by simp))⟩
    ·
     intro vals x hC hF; simp only [z0c,zR,Fact.eq,Fact.row,Fact.lit,Fact.lit0,Fact.of,and_true] at hF; simp only [z01,Act.put,zQ]; simp only [hF]
     go_wp2
     exact ⟨rfl,⟨_,rfl,by simp,_,heap_alloc_new _ _⟩,.inr ((Below.refl _ _).alloc (Nat.le_refl _) _),.inr (.inl (by simp))⟩
    ·
     intro vals x hC hF; have hC:=hC.resolve_left (by simp); have hsz : W.heap.size <= x.heap.size:=hC.size; simp only [z0c,zR,Fact.eq,Fact.row,Fact.lit,Fact.lit0,Fact.of,and_true] at hF; obtain ⟨⟨A1,c1,e1,own1⟩,b,e5,hlt5,fr5,hb5⟩:=hF; simp only [z01,Act.put,zQ]; simp only [e1,e5]; refine z0w _ (by rfl) (.tmp 35) (.tmp 37) _ (by rfl) W.heap.size 78 i0 _ 3 24 Tryz.underlying27 hi0 hz0 hz1 hz2 (by rfl) (by omega) (.slice A1 n.gs.length c1) n.gs.length (n.gs.flatMap z0k) (by rfl) own1 (some ⟨b,0,none⟩) 1 1 (z0k g) (by rfl) (src_block hb5 rfl) (gcells_one1 g) (n.gs.length + 1) (by omega) (by unfold maxLen; omega) (by omega) hsz (by simp) ?_; intro A2 c2 w2 hown2 hb2 hg2; exact ⟨rfl,⟨_,_,rfl,hown2⟩,.inl (by simp),.inr (.inr hb2)⟩
    ·
     intro vals x hC hF; simp only [z01,Act.put,zQ]
     go_wp2
     exact ⟨rfl,rfl,.inr (Below.refl _ _),.inr (.inl (by simp))⟩
    ·
     intro vals x hC hF; have hC:=hC.resolve_left (by simp); simp only [z0c,zR,Fact.eq,Fact.row,Fact.lit,Fact.lit0,Fact.of,and_true] at hF; obtain ⟨⟨A2,c2,e2,own2⟩,e7⟩:=hF; obtain ⟨hcc,hff⟩:=bcell hC; have hsz : W.heap.size <= x.heap.size:=hC.size; have k0:=(hcc _ 0 b1).trans v0; have k1:=(hcc _ 1 b1).trans v1; have k2:=(hff _ 1 b1).trans f0; simp only [z01,Act.put,zQ]; simp only [e2,e7]
     go_wp2
     refine ⟨rfl,?_,.inl (by simp),.inl (by simp)⟩; simp only [zR,Fact.put,Fact.of]; refine ⟨?_,?_,?_,?_,?_,?_,?_,A2,c2,?_,?_⟩
     · simp [World.setCell]; omega
     · simp [go_sem,k0]
     · simp [World.setCell]; omega
     · exact fun b' hb' hne => (Below.heap_setCell x ⟨w.heap.size,1,none⟩ _ b' hne).trans (hC.block b' hb')
     · exact hC.os
     · exact hC.tape
     · exact hC.output
     · simp [go_sem,k1]
     · exact own_far own2 _ _ (by show w.heap.size < W.heap.size; omega)
    ·
     intro vals x hF; simp only [facts,zR,Fact.put,Fact.of,and_true] at hF; obtain ⟨t1,t2,t3,t4,t5,t6,t7,A9,c9,t8,t9⟩:=hF; simp only [z01,Act.put,zQ]; have t4c : ∀ b' o,b' < W.heap.size -> b' ≠ w.heap.size -> x.cell? ⟨b',o,none⟩ = W.cell? ⟨b',o,none⟩:=fun b' o hb' hne => World.cell?_of_block (t4 b' hb' hne)
     have t4f : ∀ b' o,b' < W.heap.size -> b' ≠ w.heap.size -> x.frozen? ⟨b',o,none⟩ = W.frozen? ⟨b',o,none⟩:=fun b' o hb' hne => World.frozen?_of_block (t4 b' hb' hne)
     have b3 : w.heap.size + 1 + 1 < W.heap.size:=by omega
     have u5:=(t4c _ 0 b3 (by omega)).trans v5; have u6:=(t4c _ 1 b3 (by omega)).trans v6; have fu5:=(t4f _ 0 b3 (by omega)).trans f5; have fu6:=(t4f _ 1 b3 (by omega)).trans f6; have hnone:=HN.out; clear t4c t4f v0 v1 v2 v3 v4 v5 v6 f0 f5 f6 HN b1 b2 hA h; have e1 : IntKind.i64.wrap (1 + n.ins) = 1 + n.ins:=IntWalk.i64_in _ (by omega); have e2 : IntKind.i64.wrap (1 + n.ins + ((n.gs.length + 1 : Nat) : Int)) = 1 + n.ins + ((n.gs.length + 1 : Nat) : Int):=IntWalk.i64_in _ (by omega); have e3 : IntKind.i64.wrap (1 + n.ins + ((n.gs.length : Int) + 1)) = 1 + n.ins + ((n.gs.length : Int) + 1):=IntWalk.i64_in _ (by omega); have HNo:=zH hnone; clear hnone; have hfar : ∀ (X : World) (o : Nat) (u : Value) (o' : Nat),(X.setCell ⟨w.heap.size + 1 + 1,o,none⟩ u).cell? ⟨w.heap.size,o',none⟩ = X.cell? ⟨w.heap.size,o',none⟩:=fun X o u o' =>
      World.cell?_of_block (Below.heap_setCell X _ u w.heap.size (by show w.heap.size ≠ w.heap.size + 1 + 1; omega))
     have hdrew : ∀ (X : World) (q : Addr),X.drew.cell? q = X.cell? q:=fun _ _ => rfl
     go_wp2
     go_region_held3 (fun w' => w'.cell? ⟨w.heap.size,0,none⟩ = some (.int .i64 n.ins) /\ w'.cell? ⟨w.heap.size,1,none⟩ = some (.slice A9 (n.gs.length + 1) c9)) (first | go_keep | (refine ⟨?_,?_⟩ <;> (simp [go_sem,t2,t8]; done)) | (refine ⟨?_,?_⟩ <;> (simp only [hdrew,hfar,t2,t8]; done))) (fail)
     go_wp2
     refine bodyPost_ret (v:=.tuple #[.agg #[.int .i64 n.ins,.slice A9 (n.gs.length + 1) c9],.int .i64 (1 + n.ins + ((n.gs.length + 1 : Nat) : Int))]) (by simp [results,Tryz.results97,go_sem,u5,u6,fu5,fu6,e3]) rfl ?_; have hnm : g ∉ n.gs:=fun hm => by
      obtain ⟨i',hi',hg'⟩:=List.getElem_of_mem hm; exact HNo.out i' hi' (by rw [List.getElem?_eq_getElem hi',hg'])
     have hp : put n g = (⟨n.ins,n.gs ++ [g]⟩,2 + n.ins + n.gs.length):=by unfold put; rw [if_neg hnm,if_neg (by omega)]
     have hA9 : A9 ≠ none:=by
      obtain ⟨g9,cap9,hv9,_⟩:=t9.form (by omega); intro e9; rw [e9] at hv9; injection hv9 with hv9; cases hv9
     have hcs : (n.gs ++ [g]).flatMap z0k = n.gs.flatMap z0k ++ z0k g:=by simp
     have hlen : (n.gs ++ [g]).length = n.gs.length + 1:=by simp
     rw [hp]; refine ⟨A9,c9,?_,fun e9 => absurd e9 hA9,?_,?_⟩
     ·
      simp only [hlen]; rw [show (1 + n.ins + ((n.gs.length + 1 : Nat) : Int)) = 2 + n.ins + n.gs.length by omega]
     ·
      rw [<- hcs] at t9; have hz9 : ∀ (p q : Addr) (u v : Value),((x.setCell p u).setCell q v).heap.size = x.heap.size:=fun p q u v => by simp [World.setCell]
      have h9:=own_far (own_far t9 ⟨w.heap.size + 1 + 1,0,none⟩ (.int .i64 n.ins) (by show w.heap.size + 1 + 1 < W.heap.size; omega)) ⟨w.heap.size + 1 + 1,1,none⟩ (.slice A9 (n.gs.length + 1) c9) (by show w.heap.size + 1 + 1 < W.heap.size; omega); refine ((sl_gates_of_own (F:=fun b => w.heap.size <= b /\ b < x.heap.size) h9 (fun g9 hg9 hl9 => ⟨by have:=hW.size; omega,by rw [hz9] at hl9; exact hl9⟩)).1.drewN 1).mono (fun b9 hb9 => .inr ⟨hb9.1,?_⟩)
      show b9 < ((x.setCell _ _).setCell _ _).heap.size
      rw [hz9]; exact hb9.2
     ·
      have hwx : Below w.heap.size w x:=⟨t5.trans hW.os,t6.trans hW.tape,t7.trans hW.output,Nat.le_trans hW.size t3,fun b' hb' => (t4 b' (by omega) (by omega)).trans (hW.block b' hb')⟩; refine z02 (z0b (z0b (X:=x) hwx ?_ _) ?_ _) 1 <;> (show w.heap.size <= w.heap.size + 1 + 1; omega)
end Go.Proofs.YtemdmlmcidfodaaGreatDoor
namespace Go.Proofs.YtemdmlmcidfodaaGreatDoor
open Go Go.RowKit Go.Maps
def gval (g : G) : Value:=.agg #[.bool g.x,.int .i64 g.a,.int .i64 g.b]
def keyG (g : G) : Lit:=.string (keyBytes [.bool g.x,.int .i64 g.a,.int .i64 g.b])
def okGi (g : G) : Prop:=(-9223372036854775808 <= g.a /\ g.a <= 9223372036854775807) /\ (-9223372036854775808 <= g.b /\ g.b <= 9223372036854775807)
theorem gate_law : WideMaps.KeyLaw Tryz.prog 78:=deep_law_laid (by kernel_rfl) (m:=4) (by omega) (of_decide_eq_true (by kernel_rfl)) (by kernel_rfl) (by kernel_rfl)
theorem z1s : Keyed Tryz.prog 78:=Keyed.of_law gate_law
theorem gate_types : ∃ m,Tryz.prog.types.size = m + 1:=⟨Tryz.prog.types.size - 1,by
 have h : Tryz.prog.types.size ≠ 0:=of_decide_eq_true (by kernel_rfl)
 omega⟩
theorem keyG_ok (g : G) (h : okGi g) : keyOf Tryz.prog 78 (gval g) = some (keyG g):=by
 have wa : (Lit.int .i64 g.a).wf = true:=WalkArith.wf_i64 h.1; have wb : (Lit.int .i64 g.b).wf = true:=WalkArith.wf_i64 h.2; have hkt : Tryz.prog.keyType 78 = true:=by kernel_rfl
 have hc : Tryz.prog.cellsOf 78 = 3:=by kernel_rfl
 have hcb : Tryz.prog.cellsOf 4 = 1:=by kernel_rfl
 have hci : Tryz.prog.cellsOf 3 = 1:=by kernel_rfl
 obtain ⟨m,hm⟩:=gate_types; unfold keyOf; simp only [Tryz.underlying78]; rw [if_pos (by simp [hkt,gval,Value.formed,Tryz.underlying78,hc]),hm]; unfold Program.keyLits; simp only [Tryz.underlying78,gval,Value.cells]; simp [hc,hcb,hci,Program.keyLits,Tryz.underlying4,Tryz.underlying3,wa,wb,keyG]
theorem keyG_inj {g h : G} (hg : okGi g) (hh : okGi h) (e : keyG g = keyG h) : g = h:=by
 have:=z1s.inj (keyG_ok g hg) (by rw [e]; exact keyG_ok h hh)
 cases g; cases h
 simp [gval] at this; obtain ⟨rfl,rfl,rfl⟩:=this
 rfl
structure Known (ins : Int) (gs : List G) (D : DataW Unit) : Prop where
 isMap : IsMap D
 has : ∀ g,okGi g -> Maps.has D (keyG g) = decide (g ∈ gs)
 at_ : ∀ g,okGi g -> g ∈ gs -> D.atKey (keyG g) (.lit (.int .i64 0)) = .lit (.int .i64 (2 + ins + gs.idxOf g))
theorem Known.nil (ins : Int) : Known ins [] (.map []):=⟨isMap_empty,fun g _ => by simp [Maps.has],fun g _ h => by cases h⟩
theorem Known.put {ins : Int} {gs : List G} {D : DataW Unit} (h : Known ins gs D) (g : G) (hg : okGi g) (hn : g ∉ gs) (k : Int) (hk : k = 2 + ins + gs.length) :
  Known ins (gs ++ [g]) (D.put (keyG g) (.lit (.int .i64 k))):=by
 subst hk; refine ⟨h.isMap.put _ _,fun x hx => ?_,fun x hx hm => ?_⟩
 ·
  by_cases e : x = g
  ·
   subst e; rw [has_put_same h.isMap (z1s.key (keyG_ok _ hg))]; simp
  ·
   have hne : keyG x ≠ keyG g:=fun e' => e (keyG_inj hx hg e')
   rw [has_put_other hne,h.has x hx]; simp [e]
 ·
  by_cases e : x = g
  ·
   subst e; rw [atKey_put_same h.isMap (z1s.key (keyG_ok _ hg)),List.idxOf_append,if_neg hn]; simp
  ·
   have hne : keyG x ≠ keyG g:=fun e' => e (keyG_inj hx hg e')
   have hm' : x ∈ gs:=by simpa [e] using hm
   rw [atKey_put_other hne,h.at_ x hx hm',List.idxOf_append,if_pos hm']
def z25 (w : World) (b : Nat) (ins : Int) (gs : List G) : Prop :=
 ∃ D : DataW Unit,w.ownsMap Tryz.prog 78 (plainElem Tryz.prog 3) b gs.length D /\ Known ins gs D
end Go.Proofs.YtemdmlmcidfodaaGreatDoor
namespace Go.Proofs.YtemdmlmcidfodaaGreatDoor
open Go Go.RowKit
def and1 (n : N) (a b : Int) : N × Int :=
 if a = -1 \/ b = -1 \/ a = -b then (n,-1) else if a = 1 \/ a = b then (n,b) else if b = 1 then (n,a)
 else if b.natAbs < a.natAbs then put n ⟨false,b,a⟩ else put n ⟨false,a,b⟩
theorem same_end {F : Nat -> Prop} {w : World} {n : N} {A : Option Addr} {c : Nat} (h : Lay.gate.Sl w F A n.gs) (hF : ∀ b,F b -> b < w.heap.size) (hA : A = none -> n.gs.length = 0) (k : Int) {w' : World} (hb : Below w.heap.size w w') :
  RetNetInt F w (n,k) (.returned (.tuple #[.agg #[.int .i64 n.ins,.slice A n.gs.length c],.int .i64 k])) w':=⟨A,c,rfl,hA,(h.below hb hF).mono (fun _ => .inl),hb⟩
theorem z29 {w w' : World} {v0 v1 : Value} {t : TypeId}
  (hb : Below ((w.alloc (.cells #[v0,v1] t)).alloc (.cells #[.int .i64 0,.slice none 0 0] t)).heap.size ((w.alloc (.cells #[v0,v1] t)).alloc (.cells #[.int .i64 0,.slice none 0 0] t)) w') :
  w'.cell? ⟨w.heap.size + 1,0,none⟩ = some (.int .i64 0) /\ w'.cell? ⟨w.heap.size + 1,1,none⟩ = some (.slice none 0 0) /\ w'.frozen? ⟨w.heap.size + 1,0,none⟩ = false /\ w'.frozen? ⟨w.heap.size + 1,1,none⟩ = false:=by
 have hlt : w.heap.size + 1 < ((w.alloc (.cells #[v0,v1] t)).alloc (.cells #[.int .i64 0,.slice none 0 0] t)).heap.size:=by simp
 obtain ⟨hc,hf⟩:=bcell hb; refine ⟨(hc _ _ hlt).trans ?_,(hc _ _ hlt).trans ?_,(hf _ _ hlt).trans ?_,(hf _ _ hlt).trans ?_⟩ <;> simp [go_sem]
theorem sl_two {F : Nat -> Prop} {w w' : World} {v0 v1 u0 u1 : Value} {t : TypeId} {A : Option Addr} {xs : List G}
  (hW : Below w.heap.size w ((w.alloc (.cells #[v0,v1] t)).alloc (.cells #[.int .i64 0,.slice none 0 0] t))) (hF : ∀ b,F b -> b < w.heap.size)
  (h : Lay.gate.Sl w' (fun b => F b \/ (((w.alloc (.cells #[v0,v1] t)).alloc (.cells #[.int .i64 0,.slice none 0 0] t)).heap.size <= b /\ b < w'.heap.size)) A xs)
  (hb : Below ((w.alloc (.cells #[v0,v1] t)).alloc (.cells #[.int .i64 0,.slice none 0 0] t)).heap.size ((w.alloc (.cells #[v0,v1] t)).alloc (.cells #[.int .i64 0,.slice none 0 0] t)) w') :
  Lay.gate.Sl ((w'.setCell ⟨w.heap.size + 1,0,none⟩ u0).setCell ⟨w.heap.size + 1,1,none⟩ u1) (fun b => F b \/ (w.heap.size <= b /\ b < ((w'.setCell ⟨w.heap.size + 1,0,none⟩ u0).setCell ⟨w.heap.size + 1,1,none⟩ u1).heap.size)) A xs:=by
 have hsz : ((w.alloc (.cells #[v0,v1] t)).alloc (.cells #[.int .i64 0,.slice none 0 0] t)).heap.size = w.heap.size + 2:=by simp
 refine (h.keep fun b hb' => ?_).mono fun b hb' => ?_
 ·
  have hne : b ≠ w.heap.size + 1:=by
   rcases hb' with hb' | hb'
   · have:=hF b hb'; omega
   · omega
  exact (Below.heap_setCell _ ⟨w.heap.size + 1,1,none⟩ u1 b hne).trans (Below.heap_setCell _ ⟨w.heap.size + 1,0,none⟩ u0 b hne)
 ·
  rcases hb' with hb' | hb'
  · exact .inl hb'
  ·
   refine .inr ⟨by omega,?_⟩; simp [World.setCell]; omega
set_option maxHeartbeats 1000000 in
theorem l6And_any (F : Nat -> Prop) (A : Option Addr) (c : Nat) (n : N) (a b : Int) (w : World) (h : Lay.gate.Sl w F A n.gs) (hF : ∀ b,F b -> b < w.heap.size) (hn : n.gs.length <= 1048576) (hA : A = none -> n.gs.length = 0) (h0 : 0 <= n.ins) (h1 : n.ins <= 1000000)
  (ha : -2000000000 <= a /\ a <= 2000000000) (hb : -2000000000 <= b /\ b <= 2000000000) :
  Calls Tryz.prog 50 #[.agg #[.int .i64 n.ins,.slice A n.gs.length c],.int .i64 a,.int .i64 b] w (RetNetInt F w (and1 n a b)):=by
 have eb : IntKind.i64.wrap (-b) = -b:=IntWalk.i64_in _ (by omega); have hW : Below w.heap.size w ((w.alloc (.cells #[.int .i64 n.ins,.slice A n.gs.length c] 29)).alloc (.cells #[.int .i64 0,.slice none 0 0] 29)):=((Below.refl _ _).alloc (Nat.le_refl _) _).alloc (by simp) _
 by_cases c1 : a = -1 \/ b = -1 \/ a = -b
 ·
  have hr : and1 n a b = (n,-1):=by unfold and1; rw [if_pos c1]
  rw [hr]; have t : (a == -1 || (b == -1 || a == -b)) = true:=by simp; omega
  cases t1 : (a == -1) <;> cases t2 : (b == -1) <;> cases t3 : (a == -b) <;> simp [t1,t2,t3] at t
  all_goals clear c1 t hr
  all_goals
   go_enter Tryz.func50,Tryz.ntmps50
   go_wp2_with fail
   refine bodyPost_ret (v:=.tuple #[.agg #[.int .i64 n.ins,.slice A n.gs.length c],.int .i64 (-1)]) (by simp [results,Tryz.results50,go_sem]) rfl (same_end h hF hA (-1) ?_); exact ((Below.refl _ _).alloc (Nat.le_refl _) _).alloc (by simp) _
 have t1 : (a == -1) = false:=by simp; omega
 have t2 : (b == -1) = false:=by simp; omega
 have t3 : (a == -b) = false:=by simp; omega
 by_cases c2 : a = 1 \/ a = b
 ·
  have hr : and1 n a b = (n,b):=by unfold and1; rw [if_neg c1,if_pos c2]
  rw [hr]; have t : (a == 1 || a == b) = true:=by simp; omega
  cases t4 : (a == 1) <;> cases t5 : (a == b) <;> simp [t4,t5] at t
  all_goals clear c1 c2 t hr
  all_goals
   go_enter Tryz.func50,Tryz.ntmps50
   go_wp2_with fail
   refine bodyPost_ret (v:=.tuple #[.agg #[.int .i64 n.ins,.slice A n.gs.length c],.int .i64 b]) (by simp [results,Tryz.results50,go_sem]) rfl (same_end h hF hA b ?_); exact ((Below.refl _ _).alloc (Nat.le_refl _) _).alloc (by simp) _
 have t4 : (a == 1) = false:=by simp; omega
 have t5 : (a == b) = false:=by simp; omega
 by_cases c3 : b = 1
 ·
  have hr : and1 n a b = (n,a):=by unfold and1; rw [if_neg c1,if_neg c2,if_pos c3]
  rw [hr]; have t6 : (b == 1) = true:=by simp; omega
  clear c1 c2 c3 hr
  all_goals
   go_enter Tryz.func50,Tryz.ntmps50
   go_wp2_with fail
   refine bodyPost_ret (v:=.tuple #[.agg #[.int .i64 n.ins,.slice A n.gs.length c],.int .i64 a]) (by simp [results,Tryz.results50,go_sem]) rfl (same_end h hF hA a ?_); exact ((Below.refl _ _).alloc (Nat.le_refl _) _).alloc (by simp) _
 have t6 : (b == 1) = false:=by simp; omega
 by_cases c4 : b.natAbs < a.natAbs
 ·
  have hr : and1 n a b = put n ⟨false,b,a⟩:=by unfold and1; rw [if_neg c1,if_neg c2,if_neg c3,if_pos c4]
  rw [hr]; clear hr c1 c2 c3
  go_enter Tryz.func50,Tryz.ntmps50
  go_wp2_with (first | (go_at_call 69; refine (z1o _ _ (by omega) (by omega)).mono ?_; rintro e w' ⟨rfl,rfl⟩) | fail)
  refine (z2b F A c n ⟨false,b,a⟩ _ (h.below hW hF) (fun b' hb' => Nat.lt_of_lt_of_le (hF b' hb') hW.size) hn hA h0 h1).mono ?_; rintro e w' ⟨A',c',rfl,hA',h',hb'⟩; generalize put n ⟨false,b,a⟩ = r at *; obtain ⟨k5,k6,kf5,kf6⟩:=z29 hb'
  go_wp2_with fail
  refine bodyPost_ret (v:=.tuple #[.agg #[.int .i64 r.1.ins,.slice A' r.1.gs.length c'],.int .i64 r.2]) (by simp [results,Tryz.results50,go_sem,k5,k6,kf5,kf6]) rfl ?_; have hbel : Below w.heap.size w ((w'.setCell ⟨w.heap.size + 1,0,none⟩ (.int .i64 r.1.ins)).setCell ⟨w.heap.size + 1,1,none⟩ (.slice A' r.1.gs.length c')):=by
   refine z0b (z0b (z09 hW hb') ?_ _) ?_ _ <;> (show w.heap.size <= w.heap.size + 1; omega)
  exact ⟨A',c',rfl,hA',sl_two hW hF h' hb',hbel⟩
 ·
  have hr : and1 n a b = put n ⟨false,a,b⟩:=by unfold and1; rw [if_neg c1,if_neg c2,if_neg c3,if_neg c4]
  rw [hr]; clear hr c1 c2 c3
  go_enter Tryz.func50,Tryz.ntmps50
  go_wp2_with (first | (go_at_call 69; refine (z1o _ _ (by omega) (by omega)).mono ?_; rintro e w' ⟨rfl,rfl⟩) | fail)
  refine (z2b F A c n ⟨false,a,b⟩ _ (h.below hW hF) (fun b' hb' => Nat.lt_of_lt_of_le (hF b' hb') hW.size) hn hA h0 h1).mono ?_; rintro e w' ⟨A',c',rfl,hA',h',hb'⟩; generalize put n ⟨false,a,b⟩ = r at *; obtain ⟨k5,k6,kf5,kf6⟩:=z29 hb'
  go_wp2_with fail
  refine bodyPost_ret (v:=.tuple #[.agg #[.int .i64 r.1.ins,.slice A' r.1.gs.length c'],.int .i64 r.2]) (by simp [results,Tryz.results50,go_sem,k5,k6,kf5,kf6]) rfl ?_; have hbel : Below w.heap.size w ((w'.setCell ⟨w.heap.size + 1,0,none⟩ (.int .i64 r.1.ins)).setCell ⟨w.heap.size + 1,1,none⟩ (.slice A' r.1.gs.length c')):=by
   refine z0b (z0b (z09 hW hb') ?_ _) ?_ _ <;> (show w.heap.size <= w.heap.size + 1; omega)
  exact ⟨A',c',rfl,hA',sl_two hW hF h' hb',hbel⟩
end Go.Proofs.YtemdmlmcidfodaaGreatDoor
