/- The program's builder: its memory, what stays over its calls, its rows of signals. -/
import Derived.LaidEql
import Derived.Stop.Asserts
import Derived.RowKitTokens
import Derived.Test.YtemdmlmcidfodaaGreatDoorJFnBitsBin0
import Derived.Test.YtemdmlmcidfodaaGreatDoorJFnBitsBin7
namespace Go.Proofs.YtemdmlmcidfodaaGreatDoor
open Go Go.RowKit
def gateV (w : List Bool) (g : G) : Bool:=if g.x then (z08 w g.a != z08 w g.b) else (z08 w g.a && z08 w g.b)
def runG : List G -> List Bool -> List Bool
 | [],w => w
 | g :: gs,w => runG gs (w ++ [gateV w g])
def z19 (n : N) (ins : List Bool) : List Bool:=if z0q n && decide ((ins.length : Int) = n.ins) then runG n.gs (true :: ins) else []
theorem z2h {s m : Int} : z27 s m = true ↔ s ≠ 0 /\ -m <= s /\ s <= m:=by simp [z27]
theorem netLit_app {v : List Bool} {m : Int} (h : z27 m v.length = true) (t : List Bool) : z08 (v ++ t) m = z08 v m:=by
 obtain ⟨h0,h1,h2⟩:=z2h.1 h; have h3 : z27 m ((v ++ t).length : Nat) = true:=z2h.2 ⟨h0,by simp; omega,by simp; omega⟩; have h4 : m.natAbs - 1 < v.length:=by omega
 unfold z08; rw [h,h3]; simp only [List.getD_eq_getElem?_getD,List.getElem?_append_left h4]
theorem runG_app : ∀ (gs hs : List G) (w : List Bool),runG (gs ++ hs) w = runG hs (runG gs w)
 | [],_,_ => rfl
 | g :: gs,hs,w => runG_app gs hs _
theorem runG_pre : ∀ (gs : List G) (w : List Bool),∃ t,runG gs w = w ++ t /\ t.length = gs.length
 | [],w => ⟨[],by simp [runG],rfl⟩
 | g :: gs,w => by
  obtain ⟨t,h1,h2⟩:=runG_pre gs (w ++ [gateV w g]); exact ⟨gateV w g :: t,by rw [runG,h1]; simp,by simp [h2]⟩
theorem okG_iff {ins : Int} {k : Nat} {g : G} : okG ins k g = true ↔ (-(1 + ins + k) <= g.a /\ g.a <= 1 + ins + k /\ -(1 + ins + k) <= g.b /\ g.b <= 1 + ins + k /\ 2 <= (g.a.natAbs : Int) /\ (g.a.natAbs : Int) < g.b.natAbs) /\ (g.x = true -> 0 <= g.a /\ 0 <= g.b):=by
 unfold okG
 cases hx : g.x
 · simp only [Bool.false_and,Bool.not_false,Bool.and_true,Bool.and_eq_true,decide_eq_true_eq,and_assoc,Bool.false_eq_true,false_implies,and_true]
 ·
  simp only [Bool.true_and,Bool.and_eq_true,decide_eq_true_eq,and_assoc,Bool.not_eq_true',Bool.or_eq_false_iff,decide_eq_false_iff_not,true_implies]
  constructor <;> intro h <;> omega
theorem z1z {n : N} : z0q n = true ↔ 0 <= n.ins /\ n.ins <= 8 /\ n.gs.length <= 600 /\ ∀ (k : Nat) (g : G),n.gs[k]? = some g -> okG n.ins k g = true /\ g ∉ n.gs.take k:=by
 rw [netOk_iff]; refine and_congr Iff.rfl (and_congr Iff.rfl (and_congr Iff.rfl ⟨fun h k g hg => ?_,fun h k hk => ?_⟩))
 ·
  have:=h k (List.getElem?_eq_some_iff.1 hg).1; unfold goodAt goodG at this; rw [hg] at this; simp only [Bool.and_eq_true,Bool.not_eq_true'] at this; exact ⟨this.1,fun hm => by rw [List.contains_iff_mem.2 hm] at this; cases this.2⟩
 ·
  have hg:=List.getElem?_eq_getElem hk; obtain ⟨h1,h2⟩:=h k _ hg; unfold goodAt goodG; rw [hg]; simp only [h1,Bool.true_and,Bool.not_eq_true']
  cases hc : (n.gs.take k).contains n.gs[k] with
  | false => rfl
  | true => exact absurd (List.contains_iff_mem.1 hc) h2
structure z21 (n : N) (w : List Bool) : Prop where
 len : 1 + n.ins + n.gs.length <= w.length
 one : w[0]? = some true
 gate : ∀ (k : Nat) (g : G),n.gs[k]? = some g -> ∀ j : Nat,(j : Int) = 1 + n.ins + k -> w[j]? = some (gateV w g)
theorem z21.pre {n x : N} {w t : List G} {v : List Bool} (h : z21 x v) (hi : x.ins = n.ins) (hg : x.gs = n.gs ++ t) : z21 n v:=by
 refine ⟨?_,h.one,fun k g hk j hj => h.gate k g ?_ j (by rw [hi]; exact hj)⟩
 · have:=h.len; rw [hi,hg] at this; simp at this; omega
 · rw [hg]; exact (List.getElem?_append_left (List.getElem?_eq_some_iff.1 hk).1).trans hk
theorem gateV_app {v t : List Bool} {g : G} (ha : z27 g.a v.length = true) (hb : z27 g.b v.length = true) : gateV (v ++ t) g = gateV v g:=by
 unfold gateV; rw [netLit_app ha,netLit_app hb]
theorem obeys_vals {n : N} {ins : List Bool} (hn : z0q n = true) (hl : (ins.length : Int) = n.ins) : z21 n (z19 n ins) /\ ((z19 n ins).length : Int) = 1 + n.ins + n.gs.length /\ ∃ t,z19 n ins = true :: (ins ++ t):=by
 have hv : z19 n ins = runG n.gs (true :: ins):=by unfold z19; rw [if_pos (by rw [hn,decide_eq_true hl]; rfl)]
 rw [hv]; obtain ⟨t,ht,htl⟩:=runG_pre n.gs (true :: ins); obtain ⟨h0,h1,h2,h3⟩:=z1z.1 hn; have hlen : ((runG n.gs (true :: ins)).length : Int) = 1 + n.ins + n.gs.length:=by rw [ht]; simp; omega
 refine ⟨⟨by omega,by rw [ht]; rfl,fun k g hg j hj => ?_⟩,hlen,t,by rw [ht]; rfl⟩; obtain ⟨hk,hge⟩:=List.getElem?_eq_some_iff.1 hg; have hsp : n.gs = n.gs.take k ++ (g :: n.gs.drop (k + 1)):=by
  rw [<- hge,List.getElem_cons_drop,List.take_append_drop]
 obtain ⟨t1,e1,l1⟩:=runG_pre (n.gs.take k) (true :: ins); have hvl : (runG (n.gs.take k) (true :: ins)).length = j:=by
  rw [e1]; simp [l1,List.length_take]; omega
 have hrun : ∃ t2,runG n.gs (true :: ins) = runG (n.gs.take k) (true :: ins) ++ gateV (runG (n.gs.take k) (true :: ins)) g :: t2:=by
  obtain ⟨t2,e2,_⟩:=runG_pre (n.gs.drop (k + 1)) (runG (n.gs.take k) (true :: ins) ++ [gateV (runG (n.gs.take k) (true :: ins)) g]); refine ⟨t2,?_⟩; have e3 : runG n.gs (true :: ins) = runG (g :: n.gs.drop (k + 1)) (runG (n.gs.take k) (true :: ins)):=(congrArg (fun l => runG l (true :: ins)) hsp).trans (runG_app _ _ _); rw [e3,runG,e2]; simp
 obtain ⟨t2,e2⟩:=hrun; generalize runG (n.gs.take k) (true :: ins) = v at *; obtain ⟨hok,_⟩:=h3 k g hg; obtain ⟨hok,_⟩:=okG_iff.1 hok; have sa : z27 g.a v.length = true:=z2h.2 (by omega); have sb : z27 g.b v.length = true:=z2h.2 (by omega); rw [e2,gateV_app sa sb,<- hvl]; simp
theorem z24 {w : List Bool} (h : w[0]? = some true) : z08 w 1 = true:=by
 obtain ⟨h1,h2⟩:=List.getElem?_eq_some_iff.1 h; rw [netLit_pos (by decide) (by exact h1)]; exact h2
theorem z11 {w : List Bool} {m : Int} (h : z27 m w.length = true) : z08 w (-m) = !z08 w m:=by
 obtain ⟨h0,h1,h2⟩:=z2h.1 h; unfold z08; rw [h,z2h.2 (show -m ≠ 0 /\ -(w.length : Int) <= -m /\ -m <= w.length by omega),Int.natAbs_neg]; have hd : decide (0 < -m) = !decide (0 < m):=by
  by_cases hp : 0 < m
  · simp [hp]; omega
  · simp [hp]; omega
 rw [hd]
 cases w.getD (m.natAbs - 1) false <;> cases decide (0 < m) <;> rfl
theorem netLit_neg1 {w : List Bool} (h : w[0]? = some true) : z08 w (-1) = false:=by
 obtain ⟨h1,h2⟩:=List.getElem?_eq_some_iff.1 h; rw [z11 (z2h.2 (by omega)),z24 h]; rfl
theorem netLit_abs {w : List Bool} {m : Int} (h : z27 m w.length = true) : z08 w (m.natAbs : Int) = (z08 w m != decide (m < 0)):=by
 by_cases hp : m < 0
 · rw [show (m.natAbs : Int) = -m by omega,z11 h,decide_eq_true hp]; cases z08 w m <;> rfl
 · rw [show (m.natAbs : Int) = m by omega,decide_eq_false hp]; cases z08 w m <;> rfl
theorem z21.mark {n : N} {w : List Bool} (h : z21 n w) (h0 : 0 <= n.ins) {k : Nat} {g : G} (hg : n.gs[k]? = some g) : z08 w (2 + n.ins + k) = gateV w g:=by
 have hk:=(List.getElem?_eq_some_iff.1 hg).1; have hl:=h.len; obtain ⟨j,hj⟩:=Int.eq_ofNat_of_zero_le (show 0 <= 1 + n.ins + k by omega); have:=h.gate k g hg j hj.symm; obtain ⟨h1,h2⟩:=List.getElem?_eq_some_iff.1 this; have hn : (2 + n.ins + (k : Int)).toNat - 1 = j:=by omega
 rw [netLit_pos (by omega) (by omega),<- h2]
 congr 1
theorem z0j {n : N} {m : Int} : z07 n m = true ↔ m ≠ 0 /\ -(1 + n.ins + n.gs.length) <= m /\ m <= 1 + n.ins + n.gs.length:=z2h
theorem z21.sig {n : N} {w : List Bool} (h : z21 n w) {m : Int} (hm : z07 n m = true) : z27 m w.length = true:=by
 have:=z0j.1 hm; have hl:=h.len; exact z2h.2 (by omega)
structure Grows (n : N) (r : N × Int) : Prop where
 ok : z0q r.1 = true
 ins : r.1.ins = n.ins
 ext : ∃ t,r.1.gs = n.gs ++ t /\ t.length <= 1
 mark : z07 r.1 r.2 = true
theorem z1r {n : N} {m : Int} (hn : z0q n = true) (hm : z07 n m = true) : Grows n (n,m):=⟨hn,rfl,⟨[],by simp,by simp⟩,hm⟩
theorem put_says {n : N} {g : G} (hn : z0q n = true) (hg : okG n.ins n.gs.length g = true) (hm : (put n g).2 ≠ 0) :
  Grows n (put n g) /\ ∃ k : Nat,(put n g).1.gs[k]? = some g /\ (put n g).2 = 2 + n.ins + k:=by
 obtain ⟨h0,h1,h2,h3⟩:=z1z.1 hn
 by_cases hin : g ∈ n.gs
 ·
  rw [put_mem hin]; have hlt:=List.idxOf_lt_length_of_mem hin; exact ⟨z1r hn (z0j.2 (by omega)),n.gs.idxOf g,by rw [List.getElem?_eq_getElem hlt,List.getElem_idxOf hlt],rfl⟩
 by_cases h6 : 600 <= n.gs.length
 · rw [put_full hin h6] at hm; exact absurd rfl hm
 rw [put_new hin h6]; refine ⟨⟨z1z.2 ⟨h0,h1,by simp; omega,fun k g' hk => ?_⟩,rfl,⟨[g],rfl,by simp⟩,z0j.2 (by simp; omega)⟩,n.gs.length,by simp,rfl⟩
 by_cases hkl : k < n.gs.length
 ·
  rw [List.getElem?_append_left hkl] at hk; obtain ⟨ha,hb⟩:=h3 k g' hk; exact ⟨ha,by rw [List.take_append_of_le_length (by omega)]; exact hb⟩
 ·
  have hk' : k = n.gs.length:=by have:=(List.getElem?_eq_some_iff.1 hk).1; simp at this; omega
  subst hk'; simp at hk; subst hk; exact ⟨hg,by simpa using hin⟩
theorem put_again {n : N} {g : G} (hm : (put n g).2 ≠ 0) : put (put n g).1 g = put n g:=by
 by_cases hin : g ∈ n.gs
 · rw [put_mem hin]; exact put_mem hin
 by_cases h6 : 600 <= n.gs.length
 · rw [put_full hin h6] at hm; exact absurd rfl hm
 rw [put_new hin h6]; have : g ∈ (⟨n.ins,n.gs ++ [g]⟩ : N).gs:=by simp
 rw [put_mem this]; simp only [List.idxOf_append,if_neg hin]; simp
theorem and1_says {n : N} {a b : Int} (hn : z0q n = true) (ha : z07 n a = true) (hb : z07 n b = true) (hm : (and1 n a b).2 ≠ 0) :
  Grows n (and1 n a b) /\ ∀ w,z21 (and1 n a b).1 w -> z08 w (and1 n a b).2 = (z08 w a && z08 w b):=by
 have h0:=(z1z.1 hn).1; have na:=z0j.1 ha; have nb:=z0j.1 hb
 by_cases c1 : a = -1 \/ b = -1 \/ a = -b
 ·
  have e : and1 n a b = (n,-1):=by unfold and1; rw [if_pos c1]
  rw [e]; refine ⟨z1r hn (z0j.2 (by omega)),fun w hw => ?_⟩; rw [netLit_neg1 hw.one]
  rcases c1 with rfl | rfl | rfl
  · rw [netLit_neg1 hw.one]; rfl
  · rw [netLit_neg1 hw.one]; simp
  · rw [z11 (hw.sig hb)]; cases z08 w b <;> rfl
 by_cases c2 : a = 1 \/ a = b
 ·
  have e : and1 n a b = (n,b):=by unfold and1; rw [if_neg c1,if_pos c2]
  rw [e]; refine ⟨z1r hn hb,fun w hw => ?_⟩
  rcases c2 with rfl | rfl
  · rw [z24 hw.one]; rfl
  · simp
 by_cases c3 : b = 1
 ·
  have e : and1 n a b = (n,a):=by unfold and1; rw [if_neg c1,if_neg c2,if_pos c3]
  rw [e]; refine ⟨z1r hn ha,fun w hw => ?_⟩; rw [c3,z24 hw.one]; simp
 have key : ∀ g : G,(g = ⟨false,a,b⟩ /\ (a.natAbs : Int) < b.natAbs \/ g = ⟨false,b,a⟩ /\ (b.natAbs : Int) < a.natAbs) -> (put n g).2 ≠ 0 -> Grows n (put n g) /\ ∀ w,z21 (put n g).1 w -> z08 w (put n g).2 = (z08 w a && z08 w b):=by
  intro g hg hp; have hok : okG n.ins n.gs.length g = true:=by
   rw [okG_iff]
   rcases hg with ⟨rfl,hlt⟩ | ⟨rfl,hlt⟩
   · dsimp only; exact ⟨by omega,fun h => by cases h⟩
   · dsimp only; exact ⟨by omega,fun h => by cases h⟩
  obtain ⟨hgr,k,hk,hk2⟩:=put_says hn hok hp; refine ⟨hgr,fun w hw => ?_⟩; have h0' : 0 <= (put n g).1.ins:=by rw [hgr.ins]; exact h0
  have:=hw.mark h0' hk; rw [hk2,<- hgr.ins,this]
  rcases hg with ⟨rfl,_⟩ | ⟨rfl,_⟩
  · rfl
  ·
   show (z08 w b && z08 w a) = _
   rw [Bool.and_comm]
 have e : and1 n a b = if b.natAbs < a.natAbs then put n ⟨false,b,a⟩ else put n ⟨false,a,b⟩:=by unfold and1; rw [if_neg c1,if_neg c2,if_neg c3]
 rw [e] at hm ⊢
 by_cases hs : b.natAbs < a.natAbs
 · rw [if_pos hs] at hm ⊢; exact key _ (.inr ⟨rfl,by omega⟩) hm
 · rw [if_neg hs] at hm ⊢; exact key _ (.inl ⟨rfl,by omega⟩) hm
theorem xor1_gate {n : N} {a b : Int} (c1 : ¬ (a = 1 \/ a = -1)) (c2 : ¬ (b = 1 \/ b = -1)) (c3 : a ≠ b) (c4 : a ≠ -b) :
  ∃ g : G,(g = ⟨true,a.natAbs,b.natAbs⟩ /\ a.natAbs < b.natAbs \/ g = ⟨true,b.natAbs,a.natAbs⟩ /\ b.natAbs < a.natAbs) /\ xor1 n a b = ((put n g).1,sgn a * sgn b * (put n g).2):=by
 unfold xor1; rw [if_neg c1,if_neg c2,if_neg c3,if_neg c4]
 by_cases hs : b.natAbs < a.natAbs
 · rw [if_pos hs]; exact ⟨_,.inr ⟨rfl,hs⟩,rfl⟩
 · rw [if_neg hs]; exact ⟨_,.inl ⟨rfl,by omega⟩,rfl⟩
theorem sgn_two (a : Int) : sgn a = 1 /\ 0 <= a \/ sgn a = -1 /\ a < 0:=by
 unfold sgn; by_cases h : a < 0
 · rw [if_pos h]; exact .inr ⟨rfl,h⟩
 · rw [if_neg h]; exact .inl ⟨rfl,by omega⟩
theorem xor1_says {n : N} {a b : Int} (hn : z0q n = true) (ha : z07 n a = true) (hb : z07 n b = true) (hm : (xor1 n a b).2 ≠ 0) :
  Grows n (xor1 n a b) /\ ∀ w,z21 (xor1 n a b).1 w -> z08 w (xor1 n a b).2 = (z08 w a != z08 w b):=by
 have h0:=(z1z.1 hn).1; have na:=z0j.1 ha; have nb:=z0j.1 hb
 by_cases c1 : a = 1 \/ a = -1
 ·
  have e : xor1 n a b = (n,-a * b):=by unfold xor1; rw [if_pos c1]
  rw [e]
  rcases c1 with rfl | rfl
  ·
   rw [show (-1 : Int) * b = -b by omega]; refine ⟨z1r hn (z0j.2 (by omega)),fun w hw => ?_⟩; rw [z11 (hw.sig hb),z24 hw.one]; simp
  ·
   rw [show -(-1 : Int) * b = b by omega]; refine ⟨z1r hn hb,fun w hw => ?_⟩; rw [netLit_neg1 hw.one]; simp
 by_cases c2 : b = 1 \/ b = -1
 ·
  have e : xor1 n a b = (n,-b * a):=by unfold xor1; rw [if_neg c1,if_pos c2]
  rw [e]
  rcases c2 with rfl | rfl
  ·
   rw [show (-1 : Int) * a = -a by omega]; refine ⟨z1r hn (z0j.2 (by omega)),fun w hw => ?_⟩; rw [z11 (hw.sig ha),z24 hw.one]; simp
  ·
   rw [show -(-1 : Int) * a = a by omega]; refine ⟨z1r hn ha,fun w hw => ?_⟩; rw [netLit_neg1 hw.one]; simp
 by_cases c3 : a = b
 ·
  have e : xor1 n a b = (n,-1):=by unfold xor1; rw [if_neg c1,if_neg c2,if_pos c3]
  rw [e]; refine ⟨z1r hn (z0j.2 (by omega)),fun w hw => ?_⟩; rw [netLit_neg1 hw.one,c3]; simp
 by_cases c4 : a = -b
 ·
  have e : xor1 n a b = (n,1):=by unfold xor1; rw [if_neg c1,if_neg c2,if_neg c3,if_pos c4]
  rw [e]; refine ⟨z1r hn (z0j.2 (by omega)),fun w hw => ?_⟩; rw [z24 hw.one,c4,z11 (hw.sig hb)]; cases z08 w b <;> rfl
 obtain ⟨g,hg,e⟩:=xor1_gate (n:=n) c1 c2 c3 c4; rw [e] at hm ⊢; have hp : (put n g).2 ≠ 0:=fun h => hm (by show sgn a * sgn b * (put n g).2 = 0; rw [h]; simp)
 have hok : okG n.ins n.gs.length g = true:=by
  rw [okG_iff]
  rcases hg with ⟨rfl,hlt⟩ | ⟨rfl,hlt⟩
  · dsimp only; exact ⟨by omega,fun _ => by omega⟩
  · dsimp only; exact ⟨by omega,fun _ => by omega⟩
 obtain ⟨hgr,k,hk,hk2⟩:=put_says hn hok hp; have hmk:=z0j.1 hgr.mark; have sa:=sgn_two a; have sb:=sgn_two b; refine ⟨⟨hgr.ok,hgr.ins,hgr.ext,z0j.2 ?_⟩,fun w hw => ?_⟩
 ·
  dsimp only
  rcases sa with ⟨sa,_⟩ | ⟨sa,_⟩ <;> rcases sb with ⟨sb,_⟩ | ⟨sb,_⟩ <;> rw [sa,sb] <;> omega
 ·
  have hw : z21 (put n g).1 w:=hw; obtain ⟨t,ht,_⟩:=hgr.ext; have hwn : z21 n w:=hw.pre (w:=t) hgr.ins ht; have h0' : 0 <= (put n g).1.ins:=by rw [hgr.ins]; exact h0
  have hms:=hw.mark h0' hk; rw [hgr.ins,<- hk2] at hms; have hgv : gateV w g = (z08 w (a.natAbs : Int) != z08 w (b.natAbs : Int)):=by
   rcases hg with ⟨rfl,_⟩ | ⟨rfl,_⟩
   · rfl
   ·
    show (z08 w (b.natAbs : Int) != z08 w (a.natAbs : Int)) = _
    cases z08 w (b.natAbs : Int) <;> cases z08 w (a.natAbs : Int) <;> rfl
  rw [netLit_abs (hwn.sig ha),netLit_abs (hwn.sig hb)] at hgv; have hsg:=hw.sig hgr.mark
  show z08 w (sgn a * sgn b * (put n g).2) = _
  rcases sa with ⟨sa,pa⟩ | ⟨sa,pa⟩ <;> rcases sb with ⟨sb,pb⟩ | ⟨sb,pb⟩ <;> rw [sa,sb]
  · rw [show (1 : Int) * 1 * (put n g).2 = (put n g).2 by omega,hms,hgv,decide_eq_false (by omega),decide_eq_false (by omega)]; simp
  · rw [show (1 : Int) * -1 * (put n g).2 = -(put n g).2 by omega,z11 hsg,hms,hgv,decide_eq_false (by omega),decide_eq_true pb]; cases z08 w a <;> cases z08 w b <;> rfl
  · rw [show (-1 : Int) * 1 * (put n g).2 = -(put n g).2 by omega,z11 hsg,hms,hgv,decide_eq_true pa,decide_eq_false (by omega)]; cases z08 w a <;> cases z08 w b <;> rfl
  · rw [show (-1 : Int) * -1 * (put n g).2 = (put n g).2 by omega,hms,hgv,decide_eq_true pa,decide_eq_true pb]; cases z08 w a <;> cases z08 w b <;> rfl
theorem and1_turn {n : N} {a b : Int} (hm : (and1 n a b).2 ≠ 0) : and1 (and1 n a b).1 b a = and1 n a b:=by
 by_cases c1 : a = -1 \/ b = -1 \/ a = -b
 ·
  have e : ∀ m : N,and1 m a b = (m,-1):=fun m => by unfold and1; rw [if_pos c1]
  have e' : ∀ m : N,and1 m b a = (m,-1):=fun m => by unfold and1; rw [if_pos (by omega)]
  rw [e,e']
 by_cases c2 : a = 1 \/ a = b
 ·
  have e : ∀ m : N,and1 m a b = (m,b):=fun m => by unfold and1; rw [if_neg c1,if_pos c2]
  rw [e]; unfold and1; rw [if_neg (by omega)]
  by_cases h : b = 1 \/ b = a
  · rw [if_pos h]; congr 1; omega
  · rw [if_neg h,if_pos (by omega)]
 by_cases c3 : b = 1
 ·
  have e : ∀ m : N,and1 m a b = (m,a):=fun m => by unfold and1; rw [if_neg c1,if_neg c2,if_pos c3]
  rw [e]; unfold and1; rw [if_neg (by omega),if_pos (.inl c3)]
 have e : ∀ m : N,and1 m a b = if b.natAbs < a.natAbs then put m ⟨false,b,a⟩ else put m ⟨false,a,b⟩:=fun m => by unfold and1; rw [if_neg c1,if_neg c2,if_neg c3]
 have e' : ∀ m : N,and1 m b a = if a.natAbs < b.natAbs then put m ⟨false,a,b⟩ else put m ⟨false,b,a⟩:=fun m => by unfold and1; rw [if_neg (by omega),if_neg (by omega),if_neg (by omega)]
 rw [e] at hm ⊢; rw [e']
 by_cases hs : b.natAbs < a.natAbs
 · rw [if_pos hs] at hm ⊢; rw [if_neg (by omega)]; exact put_again hm
 · rw [if_neg hs] at hm ⊢; rw [if_pos (by omega)]; exact put_again hm
theorem mark_ne {s k : Int} (h : s * k ≠ 0) : k ≠ 0:=fun e => h (by rw [e,Int.mul_zero])
theorem xor1_turn {n : N} {a b : Int} (hm : (xor1 n a b).2 ≠ 0) : xor1 (xor1 n a b).1 b a = xor1 n a b:=by
 by_cases c1 : a = 1 \/ a = -1
 ·
  have e : ∀ m : N,xor1 m a b = (m,-a * b):=fun m => by unfold xor1; rw [if_pos c1]
  rw [e]; unfold xor1
  by_cases c2 : b = 1 \/ b = -1
  ·
   rw [if_pos c2]; congr 1
   rcases c1 with rfl | rfl <;> rcases c2 with rfl | rfl <;> rfl
  · rw [if_neg c2,if_pos c1]
 by_cases c2 : b = 1 \/ b = -1
 ·
  have e : ∀ m : N,xor1 m a b = (m,-b * a):=fun m => by unfold xor1; rw [if_neg c1,if_pos c2]
  rw [e]; unfold xor1; rw [if_pos c2]
 by_cases c3 : a = b
 ·
  have e : ∀ m : N,xor1 m a b = (m,-1):=fun m => by unfold xor1; rw [if_neg c1,if_neg c2,if_pos c3]
  rw [e]; unfold xor1; rw [if_neg c2,if_neg c1,if_pos c3.symm]
 by_cases c4 : a = -b
 ·
  have e : ∀ m : N,xor1 m a b = (m,1):=fun m => by unfold xor1; rw [if_neg c1,if_neg c2,if_neg c3,if_pos c4]
  rw [e]; unfold xor1; rw [if_neg c2,if_neg c1,if_neg (by omega),if_pos (by omega)]
 obtain ⟨g,hg,e⟩:=xor1_gate (n:=n) c1 c2 c3 c4; rw [e] at hm ⊢; obtain ⟨g',hg',e'⟩:=xor1_gate (n:=(put n g).1) c2 c1 (fun h => c3 h.symm) (fun h => c4 (by omega)); have hgg : g' = g:=by
  rcases hg with ⟨rfl,h1⟩ | ⟨rfl,h1⟩ <;> rcases hg' with ⟨rfl,h2⟩ | ⟨rfl,h2⟩ <;> first | rfl | omega
 show xor1 (put n g).1 b a = _
 rw [e',hgg,put_again (mark_ne hm),Int.mul_comm (sgn b)]
theorem Grows.has {n : N} {r : N × Int} (h : Grows n r) {m : Int} (hm : z07 n m = true) : z07 r.1 m = true:=by
 have:=z0j.1 hm; obtain ⟨t,ht,_⟩:=h.ext; have hl : r.1.gs.length = n.gs.length + t.length:=by rw [ht]; simp
 exact z0j.2 (by rw [h.ins]; omega)
inductive PG (α : Type) where
 | ret (a : α) : PG α
 | and (x y : Int) (k : Int -> PG α) : PG α
 | xor (x y : Int) (k : Int -> PG α) : PG α
def PG.bind {α β : Type} : PG α -> (α -> PG β) -> PG β
 | .ret a,f => f a
 | .and x y k,f => .and x y fun m => (k m).bind f
 | .xor x y k,f => .xor x y fun m => (k m).bind f
structure Ops (σ : Type) where
 and : σ -> Int -> Int -> σ × Int
 xor : σ -> Int -> Int -> σ × Int
def run {σ α : Type} (o : Ops σ) : PG α -> σ -> σ × α
 | .ret a,s => (s,a)
 | .and x y k,s => run o (k (o.and s x y).2) (o.and s x y).1
 | .xor x y k,s => run o (k (o.xor s x y).2) (o.xor s x y).1
theorem run_bind {σ α β : Type} (o : Ops σ) : ∀ (p : PG α) (f : α -> PG β) (s : σ),run o (p.bind f) s = run o (f (run o p s).2) (run o p s).1
 | .ret _,_,_ => rfl
 | .and x y k,f,s => run_bind o (k _) f _
 | .xor x y k,f,s => run_bind o (k _) f _
structure BS where
 n : N
 e : Option Nat
def z16 (s : BS) (r : N × Int) : BS × Int:=if s.e ≠ none then (s,-1) else if r.2 = 0 then (⟨s.n,some 1⟩,-1) else (⟨r.1,none⟩,r.2)
def opsP : Ops BS:=⟨fun s x y => z16 s (and1 s.n x y),fun s x y => z16 s (xor1 s.n x y)⟩
def stepR (k : N × Bool) (r : N × Int) : (N × Bool) × Int:=if k.2 = false then (k,1) else ((r.1,decide (r.2 ≠ 0)),r.2)
def opsR : Ops (N × Bool):=⟨fun k x y => stepR k (and1 k.1 x y),fun k x y => stepR k (xor1 k.1 x y)⟩
theorem step_sim {s : BS} {k : N × Bool} (r : N -> N × Int) (h : s.e = none /\ k = (s.n,true) \/ s.e ≠ none /\ k.2 = false) :
  ((z16 s (r s.n)).1.e = none /\ (stepR k (r k.1)).1 = ((z16 s (r s.n)).1.n,true) /\ (z16 s (r s.n)).2 = (stepR k (r k.1)).2 /\ s.e = none) \/ ((z16 s (r s.n)).1.e ≠ none /\ (stepR k (r k.1)).1.2 = false):=by
 rcases h with ⟨h1,rfl⟩ | ⟨h1,h2⟩
 ·
  by_cases h0 : (r s.n).2 = 0
  ·
   refine .inr ?_; unfold z16 stepR; rw [if_neg (by simp [h1]),if_pos h0,if_neg (by simp)]; simp [h0]
  ·
   refine .inl ?_; unfold z16 stepR; rw [if_neg (by simp [h1]),if_neg h0,if_neg (by simp)]; simp [h0,h1]
 ·
  refine .inr ?_; unfold z16 stepR; rw [if_pos h1,if_pos h2]; exact ⟨h1,h2⟩
theorem run_failP {α : Type} : ∀ (p : PG α) (s : BS),s.e ≠ none -> (run opsP p s).1.e ≠ none
 | .ret _,_,h => h
 | .and x y f,s,h => run_failP (f _) _ (by show (z16 s _).1.e ≠ none; unfold z16; rw [if_pos h]; exact h)
 | .xor x y f,s,h => run_failP (f _) _ (by show (z16 s _).1.e ≠ none; unfold z16; rw [if_pos h]; exact h)
theorem run_failR {α : Type} : ∀ (p : PG α) (k : N × Bool),k.2 = false -> (run opsR p k).1.2 = false
 | .ret _,_,h => h
 | .and x y f,k,h => run_failR (f _) _ (by show (stepR k _).1.2 = false; unfold stepR; rw [if_pos h]; exact h)
 | .xor x y f,k,h => run_failR (f _) _ (by show (stepR k _).1.2 = false; unfold stepR; rw [if_pos h]; exact h)
theorem run_sim {α : Type} : ∀ (p : PG α) (s : BS) (k : N × Bool),(s.e = none /\ k = (s.n,true) \/ s.e ≠ none /\ k.2 = false) →
  ((run opsP p s).1.e = none /\ (run opsR p k).1 = ((run opsP p s).1.n,true) /\ (run opsP p s).2 = (run opsR p k).2 /\ s.e = none) \/ ((run opsP p s).1.e ≠ none /\ (run opsR p k).1.2 = false)
 | .ret a,s,k,h => by
  rcases h with ⟨h1,h2⟩ | h
  · exact .inl ⟨h1,h2,rfl,h1⟩
  · exact .inr h
 | .and x y f,s,k,h => by
  rcases step_sim (fun n => and1 n x y) h with ⟨h1,h2,h3,h4⟩ | h1
  ·
   have:=run_sim (f (opsP.and s x y).2) _ (opsR.and k x y).1 (.inl ⟨h1,h2⟩)
   rcases this with ⟨g1,g2,g3,_⟩ | g
   ·
    left; refine ⟨g1,?_,?_,h4⟩
    ·
     show (run opsR (f (opsR.and k x y).2) _).1 = _
     rw [show (opsR.and k x y).2 = (opsP.and s x y).2 from h3.symm]; exact g2
    ·
     show _ = (run opsR (f (opsR.and k x y).2) _).2
     rw [show (opsR.and k x y).2 = (opsP.and s x y).2 from h3.symm]; exact g3
   ·
    right
    refine ⟨g.1,?_⟩
    show (run opsR (f (opsR.and k x y).2) _).1.2 = _
    rw [show (opsR.and k x y).2 = (opsP.and s x y).2 from h3.symm]; exact g.2
  ·
   right
   have a1:=run_failP (f (opsP.and s x y).2) _ h1.1; have a2:=run_failR (f (opsR.and k x y).2) _ h1.2; exact ⟨a1,a2⟩
 | .xor x y f,s,k,h => by
  rcases step_sim (fun n => xor1 n x y) h with ⟨h1,h2,h3,h4⟩ | h1
  ·
   have:=run_sim (f (opsP.xor s x y).2) _ (opsR.xor k x y).1 (.inl ⟨h1,h2⟩)
   rcases this with ⟨g1,g2,g3,_⟩ | g
   ·
    left; refine ⟨g1,?_,?_,h4⟩
    ·
     show (run opsR (f (opsR.xor k x y).2) _).1 = _
     rw [show (opsR.xor k x y).2 = (opsP.xor s x y).2 from h3.symm]; exact g2
    ·
     show _ = (run opsR (f (opsR.xor k x y).2) _).2
     rw [show (opsR.xor k x y).2 = (opsP.xor s x y).2 from h3.symm]; exact g3
   ·
    right
    refine ⟨g.1,?_⟩
    show (run opsR (f (opsR.xor k x y).2) _).1.2 = _
    rw [show (opsR.xor k x y).2 = (opsP.xor s x y).2 from h3.symm]; exact g.2
  ·
   right
   have a1:=run_failP (f (opsP.xor s x y).2) _ h1.1; have a2:=run_failR (f (opsR.xor k x y).2) _ h1.2; exact ⟨a1,a2⟩
def NB (n : N) : Prop:=0 <= n.ins /\ n.ins <= 8 /\ n.gs.length <= 600
def MB (m : Int) : Prop:=m ≠ 0 /\ -1000000 <= m /\ m <= 1000000
theorem put_nb {n : N} {g : G} (h : NB n) : NB (put n g).1 /\ 0 <= (put n g).2 /\ (put n g).2 <= 1000000:=by
 obtain ⟨h0,h1,h2⟩:=h
 by_cases hm : g ∈ n.gs
 ·
  rw [put_mem hm]; have:=List.idxOf_lt_length_of_mem hm; exact ⟨⟨h0,h1,h2⟩,by dsimp only; omega,by dsimp only; omega⟩
 ·
  by_cases h6 : 600 <= n.gs.length
  · rw [put_full hm h6]; exact ⟨⟨by simp,by simp,by simp⟩,by simp,by simp⟩
  · rw [put_new hm h6]; exact ⟨⟨h0,h1,by simp; omega⟩,by dsimp only; omega,by dsimp only; omega⟩
def RB (m : Int) : Prop:=-1000000 <= m /\ m <= 1000000
theorem and1_nb {n : N} {a b : Int} (h : NB n) (ha : RB a) (hb : RB b) : NB (and1 n a b).1 /\ RB (and1 n a b).2:=by
 unfold and1 RB at *
 repeat' split
 all_goals first
  | exact ⟨h,by dsimp only; omega,by dsimp only; omega⟩
  | (have:=put_nb (g:=⟨false,b,a⟩) h; exact ⟨this.1,by omega,by omega⟩)
  | (have:=put_nb (g:=⟨false,a,b⟩) h; exact ⟨this.1,by omega,by omega⟩)
theorem sgn_mul_rb {a b k : Int} (h0 : 0 <= k) (h1 : k <= 1000000) : RB (sgn a * sgn b * k):=by
 unfold RB
 rcases sgn_two a with ⟨h,_⟩ | ⟨h,_⟩ <;> rcases sgn_two b with ⟨h',_⟩ | ⟨h',_⟩ <;> rw [h,h'] <;> omega
theorem xor1_nb {n : N} {a b : Int} (h : NB n) (ha : RB a) (hb : RB b) : NB (xor1 n a b).1 /\ RB (xor1 n a b).2:=by
 by_cases c1 : a = 1 \/ a = -1
 · unfold xor1; rw [if_pos c1]; unfold RB at *; rcases c1 with rfl | rfl <;> exact ⟨h,by dsimp only; omega,by dsimp only; omega⟩
 by_cases c2 : b = 1 \/ b = -1
 · unfold xor1; rw [if_neg c1,if_pos c2]; unfold RB at *; rcases c2 with rfl | rfl <;> exact ⟨h,by dsimp only; omega,by dsimp only; omega⟩
 by_cases c3 : a = b
 · unfold xor1; rw [if_neg c1,if_neg c2,if_pos c3]; exact ⟨h,by unfold RB; dsimp only; omega⟩
 by_cases c4 : a = -b
 · unfold xor1; rw [if_neg c1,if_neg c2,if_neg c3,if_pos c4]; exact ⟨h,by unfold RB; dsimp only; omega⟩
 obtain ⟨g,hg,e⟩:=xor1_gate (n:=n) c1 c2 c3 c4; rw [e]; have:=put_nb (g:=g) h; exact ⟨this.1,sgn_mul_rb this.2.1 this.2.2⟩
theorem stepP_nb {s : BS} {r : N × Int} (h : NB s.n) (hr : NB r.1 /\ RB r.2) : NB (z16 s r).1.n /\ MB (z16 s r).2:=by
 unfold z16
 split
 · exact ⟨h,by unfold MB; dsimp only; omega⟩
 ·
  split
  · exact ⟨h,by unfold MB; dsimp only; omega⟩
  · exact ⟨hr.1,by assumption,hr.2⟩
theorem z2g {k : N × Bool} {r : N × Int} (h : NB k.1) (hr : NB r.1 /\ RB r.2) : NB (stepR k r).1.1 /\ RB (stepR k r).2:=by
 unfold stepR
 split
 · exact ⟨h,by unfold RB; dsimp only; omega⟩
 · exact hr
theorem MB.rb {m : Int} (h : MB m) : RB m:=h.2
theorem MB.neg {m : Int} (h : MB m) : MB (-m):=by unfold MB at *; omega
theorem RB.neg {m : Int} (h : RB m) : RB (-m):=by unfold RB at *; omega
def orP (x y : Int) : PG Int:=.and (-x) (-y) fun m => .ret (-m)
def muxP (c x y : Int) : PG Int:=.and c x fun p => .and (-c) y fun q => orP p q
def z0v (f : Int -> Int -> PG Int) : List Int -> List Int -> PG (List Int)
 | x :: xs,y :: ys => (f x y).bind fun m => (z0v f xs ys).bind fun l => .ret (m :: l)
 | _,_ => .ret []
def sumP : List Int -> List Int -> Int -> PG (List Int)
 | x :: xs,y :: ys,c => .xor x y fun h => .xor h c fun s => .and x y fun p => .and h c fun q => (orP p q).bind fun c' => (sumP xs ys c').bind fun l => .ret (s :: l)
 | _,_,_ => .ret []
def lessP : List Int -> List Int -> Int -> PG Int
 | x :: xs,y :: ys,r => .xor x y fun d => (muxP d y r).bind fun r' => lessP xs ys r'
 | _,_,r => .ret r
theorem z1v {σ : Type} {o : Ops σ} {f : Int -> Int -> PG Int} (xs ys : List Int) (k : Nat) (x y : Int) (hx : xs[k]? = some x) (hy : ys[k]? = some y) (s : σ) (l : List Int) :
  (let r:=run o (z0v f (xs.drop k) (ys.drop k)) s; (r.1,l ++ r.2)) = let m:=run o (f x y) s; let r:=run o (z0v f (xs.drop (k + 1)) (ys.drop (k + 1))) m.1; (r.1,(l ++ [m.2]) ++ r.2):=by
 obtain ⟨hk,rfl⟩:=List.getElem?_eq_some_iff.1 hx; obtain ⟨hk',rfl⟩:=List.getElem?_eq_some_iff.1 hy; rw [List.drop_eq_getElem_cons hk,List.drop_eq_getElem_cons hk']
 show (let r:=run o ((f _ _).bind _) s; (r.1,l ++ r.2)) = _
 simp only [run_bind,run,List.append_assoc,List.singleton_append]
end Go.Proofs.YtemdmlmcidfodaaGreatDoor
namespace Go.Proofs.YtemdmlmcidfodaaGreatDoor
open Go Go.RowKit Go.Extern.Stop Go.Stop Go.Extern
abbrev z28 (a : Addr) : Value:=.iface 174 (.pointer (some a))
theorem is_typeOf (v : Value) (w : World) : (Extern.ReflectliteType.typeOf #[.iface 174 v]).run Tryz.prog w = .ok (.iface 153 (.agg #[.pointer (some ⟨Tryz.prog.globals.size,174,none⟩)])) w:=by kernel_rfl
theorem is_comparable (w : World) : ((Extern.ReflectliteType.method fun t => do Go.Extern.Rtype.noPackHeld "Comparable" t; (fun a => Value.bool a.comparable) <$> typeInfo t) #[.agg #[.pointer (some ⟨Tryz.prog.globals.size, 174, none⟩)]]).run Tryz.prog w = .ok (.bool true) w := by kernel_rfl
theorem is_methodComparable (v : Value) (w : World) : (Go.method (Tryz.prog.types.size + Made.depth) 153 v "Comparable").run Tryz.prog w = .ok (150, v) w := by kernel_rfl
theorem is_comp : (Tryz.prog.info? 174).map (·.comparable) = some true:=by kernel_rfl
theorem is_size : (Tryz.prog.info? 201).map (·.size) = some 1:=by kernel_rfl
theorem is_noIs (v : Value) (xT : TypeId) (w : World) : (Instr.typeAssert (.iface 174 v) xT 155 true).run Tryz.prog w = .ok (.tuple #[.nilIface,.bool false]) w:=run_typeAssert_lacksB Tryz.underlying155 (by kernel_rfl) (by kernel_rfl) v xT w
theorem is_noUnwrap (v : Value) (xT : TypeId) (w : World) : (Instr.typeAssert (.iface 174 v) xT 158 true).run Tryz.prog w = .ok (.tuple #[.nilIface,.bool false]) w:=run_typeAssert_lacksB Tryz.underlying158 (by kernel_rfl) (by kernel_rfl) v xT w
theorem is_noUnwraps (v : Value) (xT : TypeId) (w : World) : (Instr.typeAssert (.iface 174 v) xT 160 true).run Tryz.prog w = .ok (.tuple #[.nilIface,.bool false]) w:=run_typeAssert_lacksB Tryz.underlying160 (by kernel_rfl) (by kernel_rfl) v xT w
theorem glob_size : Tryz.prog.globals.size = 2:=by kernel_rfl
theorem meth_fuel : Tryz.prog.types.size + Made.depth = 316:=by kernel_rfl
set_option maxRecDepth 100000 in
theorem is_same (a : Addr) (w : World) :
  Calls Tryz.prog 71 #[z28 a,z28 a] w fun e w' => e = .returned (.bool true) /\ w = w':=by
 obtain ⟨i, hi, hcmp⟩ := Option.map_eq_some_iff.1 is_comp; obtain ⟨j, hj, hjs⟩ := Option.map_eq_some_iff.1 is_size; have h8 := @run_callFunc_extern Tryz.prog 102 _ Extern.ReflectliteType.typeOf Tryz.func102 (by kernel_rfl) (by kernel_rfl) (by kernel_rfl) (by kernel_rfl); have h32 := @run_callFunc_extern Tryz.prog 150 _ (Extern.ReflectliteType.method fun t => do Go.Extern.Rtype.noPackHeld "Comparable" t; pure (.bool (← typeInfo t).comparable)) Tryz.func150 (by kernel_rfl) (by kernel_rfl) (by kernel_rfl) (by kernel_rfl); have tT := is_typeOf; have cT := is_comparable; have mR := is_methodComparable; rw [glob_size] at tT cT; rw [meth_fuel] at mR; have heq := run_eql_iface_ptr_same (P := Tryz.prog) w a Tryz.underlying71 Tryz.underlying174 hi hcmp hj
 go_enter Tryz.func71,Tryz.ntmps71
 go_wp2
 refine wp_loop_rounds 1 ?_; rw [rounds_succ]
 go_wp2
 go_ret
 exact ⟨rfl,rfl⟩
theorem is_nil (b : Addr) (w : World) :
  Calls Tryz.prog 71 #[.nilIface,z28 b] w fun e w' => e = .returned (.bool false) /\ w = w':=by
 have hn:=run_eql_iface_nil_left (P:=Tryz.prog) w 174 (.pointer (some b)) Tryz.underlying71
 go_enter Tryz.func71,Tryz.ntmps71
 go_wp2
 go_ret
 exact ⟨rfl,rfl⟩
set_option maxRecDepth 100000 in
theorem is_other (a b : Addr) (ca cb : Array Value) (ta tb : TypeId) (w : World) (hne : a ≠ b) (ha : w.heap[a.block]? = some (.cells ca ta (0,0))) (hb : w.heap[b.block]? = some (.cells cb tb (0,0))) :
  Calls Tryz.prog 71 #[z28 a,z28 b] w fun e w' => e = .returned (.bool false) /\ w = w':=by
 obtain ⟨i, hi, hcmp⟩ := Option.map_eq_some_iff.1 is_comp; obtain ⟨j, hj, hjs⟩ := Option.map_eq_some_iff.1 is_size; have h8 := @run_callFunc_extern Tryz.prog 102 _ Extern.ReflectliteType.typeOf Tryz.func102 (by kernel_rfl) (by kernel_rfl) (by kernel_rfl) (by kernel_rfl); have h32 := @run_callFunc_extern Tryz.prog 150 _ (Extern.ReflectliteType.method fun t => do Go.Extern.Rtype.noPackHeld "Comparable" t; pure (.bool (← typeInfo t).comparable)) Tryz.func150 (by kernel_rfl) (by kernel_rfl) (by kernel_rfl) (by kernel_rfl); have tT := is_typeOf; have cT := is_comparable; have mR := is_methodComparable; rw [glob_size] at tT cT; rw [meth_fuel] at mR; have nE := is_noIs; have uE := is_noUnwrap; have vE := is_noUnwraps; have heq := run_eql_iface_ptr_other (P := Tryz.prog) w Tryz.underlying71 Tryz.underlying174 hi hcmp hj (by rw [hjs]; decide) hne ha hb
 go_enter Tryz.func71,Tryz.ntmps71
 go_wp2
 refine wp_loop_rounds 1 ?_; rw [rounds_succ]
 go_wp2
 go_ret
 exact ⟨rfl,rfl⟩
end Go.Proofs.YtemdmlmcidfodaaGreatDoor
namespace Go.Proofs.YtemdmlmcidfodaaGreatDoor
open Go Go.RowKit
theorem own_heap {w w' : World} {base : Nat} {e : TypeId} {size n : Nat} {v : Value} {xs : List Value} (h : w.ownsRow base e size v n xs) (hk : ∀ g,v.ownBlock = some g -> w'.heap[g]? = w.heap[g]?) : w'.ownsRow base e size v n xs:=by
 refine ⟨h.1,?_⟩
 rcases h.2 with hn | ⟨g,cap,cur,rfl,hb,hgg,rest⟩
 · exact .inl hn
 · exact .inr ⟨g,cap,cur,rfl,hb,(hk g rfl).trans hgg,rest⟩
def BK (o : Obj) : Prop:=∃ cs fr,o = .cells cs 73 fr
structure BelB (lo : Nat) (w w' : World) : Prop where
 bel : Below lo w w'
 kd : ∀ (i : Nat) (o : Obj),w.heap[i]? = some o -> ¬ CK o -> ¬ BK o -> w'.heap[i]? = some o
theorem BelB.refl (lo : Nat) (w : World) : BelB lo w w:=⟨Below.refl _ _,fun _ _ h _ _ => h⟩
theorem BelB.of {lo : Nat} {w w' : World} (h : Below w.heap.size w w') (hl : lo <= w.heap.size) : BelB lo w w':=⟨h.mono hl,fun i _ hi _ _ => (h.block i (Array.getElem?_eq_some_iff.1 hi).1).trans hi⟩
theorem BelB.trans {lo : Nat} {a b c : World} (h : BelB lo a b) (k : BelB lo b c) : BelB lo a c:=⟨h.bel.trans k.bel,fun i o hi hc hb => k.kd i o (h.kd i o hi hc hb) hc hb⟩
theorem BelK.toB {lo : Nat} {w w' : World} (h : BelK lo w w') : BelB lo w w':=⟨h.bel,fun i o hi hc _ => h.kd i o hi hc⟩
theorem bk_nck {cs : Array Value} {fr : Nat × Nat} : ¬ CK (.cells cs 73 fr):=by
 rintro (⟨_,_,h⟩ | ⟨_,_,h⟩ | h)
 · injection h with _ h; exact absurd h (by decide)
 · injection h with _ h; exact absurd h (by decide)
 · obtain ⟨_,_,h⟩:=h; cases h
theorem BelB.set {lo q k : Nat} {w : World} {cs : Array Value} {fr : Nat × Nat} (hq : w.heap[q]? = some (.cells cs 73 fr)) (hlo : lo <= q) (v : Value) : BelB lo w (w.setCell ⟨q,k,none⟩ v) :=
 ⟨z0b (Below.refl _ _) hlo v,fun i o hi _ hb => by
  by_cases e : i = q
  · subst e; rw [hq] at hi; injection hi with hi; exact absurd ⟨cs,fr,hi.symm⟩ hb
  · exact (heap_setCell_other _ _ _ _ e).trans hi⟩
theorem nck_of {cs : Array Value} {t : TypeId} {fr : Nat × Nat} (h1 : t ≠ 106) (h2 : t ≠ 78) (h3 : t ≠ 73) : ¬ CK (.cells cs t fr) /\ ¬ BK (.cells cs t fr):=by
 refine ⟨?_,?_⟩
 ·
  rintro (⟨_,_,e⟩ | ⟨_,_,e⟩ | e)
  · injection e with _ e; exact h1 e
  · injection e with _ e; exact h2 e
  · obtain ⟨_,_,e⟩:=e; cases e
 · rintro ⟨_,_,e⟩; injection e with _ e; exact h3 e
def PL (w : World) (b : Nat) : Prop:=∃ cs fr,w.heap[b]? = some (.cells cs 110 fr)
theorem sig_nck {cs : Array Value} {fr : Nat × Nat} : ¬ CK (.cells cs 110 fr) /\ ¬ BK (.cells cs 110 fr):=nck_of (by decide) (by decide) (by decide)
theorem BelB.blk {lo : Nat} {w w' : World} (h : BelB lo w w') {b : Nat} (hb : PL w b) : w'.heap[b]? = w.heap[b]?:=by
 obtain ⟨cs,fr,h1⟩:=hb; rw [h1]; exact h.kd b _ h1 sig_nck.1 sig_nck.2
theorem BelB.pl {lo : Nat} {w w' : World} (h : BelB lo w w') {b : Nat} (hb : PL w b) : PL w' b:=by
 obtain ⟨cs,fr,h1⟩:=hb; exact ⟨cs,fr,h.kd b _ h1 sig_nck.1 sig_nck.2⟩
theorem PL.lt {w : World} {b : Nat} (h : PL w b) : b < w.heap.size:=by obtain ⟨_,_,h1⟩:=h; exact lt_of_block h1
theorem pl_of {w : World} {b : Nat} {cs : Array Value} {fr : Nat × Nat} (h : w.heap[b]? = some (.cells cs 110 fr)) : PL w b:=⟨_,_,h⟩
abbrev Lay.Pl {α : Type} (L : Lay α) (w : World) (A : Option Addr) (xs : List α) : Prop:=L.Sl w (PL w) A xs
theorem Lay.Sl.upB {α : Type} {L : Lay α} {lo : Nat} {w w' : World} {A : Option Addr} {xs : List α} (h : L.Pl w A xs) (hb : BelB lo w w') : L.Pl w' A xs:=(h.keep fun _ hp => hb.blk hp).mono fun _ hp => hb.pl hp
theorem Lay.Sl.plrd {α : Type} {L : Lay α} {w : World} {A : Option Addr} {xs : List α} (h : L.Pl w A xs) : L.Rd w A xs:=h.mono fun _ hp => hp.lt
def z0u (w : World) (base : Nat) (v : Value) (xs : List Int) : Prop:=w.ownsRow base 110 1 v xs.length (xs.map (Value.int .i64))
theorem z1x : (Tryz.prog.info? 110).map (fun i => (i.zero,i.size,i.bytes)) = some (some (.int .i64 0),1,8):=by kernel_rfl
theorem z0u.blk {w w' : World} {base : Nat} {v : Value} {xs : List Int} (h : z0u w base v xs) (hk : ∀ b,PL w b -> w'.heap[b]? = w.heap[b]?) : z0u w' base v xs :=
 own_heap h fun g hg => by
  rcases h.2 with ⟨e,_⟩ | ⟨g',cap,cur,e,_,hgg,_⟩
  · rw [e] at hg; cases hg
  ·
   rw [e] at hg
   injection hg with hg
   subst hg; exact hk _ (pl_of hgg)
theorem z0u.upB {lo : Nat} {w w' : World} {base : Nat} {v : Value} {xs : List Int} (h : z0u w base v xs) (hb : BelB lo w w') : z0u w' base v xs:=h.blk fun _ hp => hb.blk hp
theorem z0u.form {w : World} {base : Nat} {v : Value} {xs : List Int} (h : z0u w base v xs) : ∃ A c,v = .slice A xs.length c /\ xs.length <= c /\ Lay.int.Pl w A xs:=by
 have hh:=h; unfold z0u at h
 rcases h.2 with ⟨h1,h2⟩ | ⟨g,cap,cur,h1,h0,hgg,h3,_⟩
 ·
  subst h1; have : xs = []:=List.eq_nil_of_length_eq_zero h2; subst this; exact ⟨none,0,rfl,by simp,.nil _ _ _ _⟩
 ·
  subst h1; refine ⟨_,cap,rfl,h3,fun hn => ⟨_,rfl,pl_of hgg,fun k x hx => ⟨_,rfl,fun j u hu => ?_⟩⟩⟩
  rcases j with _ | j
  ·
   injection hu with hu
   subst hu; have:=hh.cells (g:=g) rfl k (.int .i64 x) (by rw [List.getElem?_map,hx]; rfl)
   simpa [Lay.int,Lay.flat] using this
  · simp at hu
theorem z0u.pl {w : World} {base c : Nat} {A : Option Addr} {xs : List Int} (h : z0u w base (.slice A xs.length c) xs) : xs.length <= c /\ Lay.int.Pl w A xs:=by
 obtain ⟨A',c',e,h1,h2⟩:=h.form
 injection e with e1 e2 e3
 subst e1 e3; exact ⟨h1,h2⟩
theorem z0u.nil (w : World) (base : Nat) : z0u w base (.slice none 0 0) []:=World.ownsRow_nil _ _ _ _
structure Glb (a0 a1 : Addr) (lo : Nat) (w : World) : Prop where
 c0 : w.cell? ⟨1,0,none⟩ = some (z28 a0)
 c1 : w.cell? ⟨0,0,none⟩ = some (z28 a1)
 b0 : ∃ cs t,w.heap[a0.block]? = some (.cells cs t (0,0))
 b1 : ∃ cs t,w.heap[a1.block]? = some (.cells cs t (0,0))
 ne : a0 ≠ a1
 lo2 : 2 <= lo
 lo0 : a0.block < lo
 lo1 : a1.block < lo
theorem Glb.below {a0 a1 : Addr} {lo : Nat} {w w' : World} (h : Glb a0 a1 lo w) (hb : Below lo w w') : Glb a0 a1 lo w' :=
 ⟨(hb.cell (p:=⟨1,0,none⟩) (by have:=h.lo2; show 1 < lo; omega)).trans h.c0,(hb.cell (p:=⟨0,0,none⟩) (by have:=h.lo2; show 0 < lo; omega)).trans h.c1,
  by obtain ⟨cs,t,e⟩:=h.b0; exact ⟨cs,t,(hb.block _ h.lo0).trans e⟩,by obtain ⟨cs,t,e⟩:=h.b1; exact ⟨cs,t,(hb.block _ h.lo1).trans e⟩,h.ne,h.lo2,h.lo0,h.lo1⟩
theorem Glb.mono {a0 a1 : Addr} {lo lo' : Nat} {w : World} (h : Glb a0 a1 lo w) (hl : lo <= lo') : Glb a0 a1 lo' w:=⟨h.c0,h.c1,h.b0,h.b1,h.ne,Nat.le_trans h.lo2 hl,Nat.lt_of_lt_of_le h.lo0 hl,Nat.lt_of_lt_of_le h.lo1 hl⟩
def errV (a0 a1 : Addr) : Option Nat -> Value
 | none => .nilIface
 | some 0 => z28 a0
 | some _ => z28 a1
structure Bx (a0 a1 : Addr) (lo : Nat) (w : World) (q r : Nat) (e : Option Nat) : Prop where
 g : Glb a0 a1 lo w
 box : w.heap[q]? = some (.cells #[.pointer (some ⟨r,0,none⟩),errV a0 a1 e] 73 (0,0))
 low : lo <= q
structure Bd (a0 a1 : Addr) (lo : Nat) (w : World) (q r : Nat) (s : BS) : Prop extends Bx a0 a1 lo w q r s.e where
 nb : NB s.n
 circ : s.e = none -> Circ lo w r s.n s.n.gs
theorem Bd.up {a0 a1 : Addr} {lo : Nat} {w w' : World} {q r : Nat} {s : BS} (h : Bd a0 a1 lo w q r s) (hb : Below w.heap.size w w') : Bd a0 a1 lo w' q r s :=
 ⟨⟨h.g.below (hb.mono (Nat.le_trans h.low (Nat.le_of_lt (lt_of_block h.box)))),(hb.block q (lt_of_block h.box)).trans h.box,h.low⟩,h.nb,fun he => (h.circ he).up hb⟩
def CKs (w w' : World) : Prop:=∀ (i : Nat) (o : Obj),w.heap[i]? = some o -> CK o -> w'.heap[i]? = some o
theorem CKs.below {w w' : World} (h : Below w.heap.size w w') : CKs w w':=fun i _ hi _ => (h.block i (Array.getElem?_eq_some_iff.1 hi).1).trans hi
theorem Circ.keep {lo : Nat} {w w' : World} {r : Nat} {n : N} {ks : List G} (h : Circ lo w r n ks) (hk : CKs w w') : Circ lo w' r n ks:=by
 obtain ⟨A,c,b,h1,h2,h3,h4,h5⟩:=h; refine ⟨A,c,b,hk r _ h1 (.inl ⟨_,_,rfl⟩),h2,h3,own_heap h4 fun g hg => ?_,h5.keep ?_⟩
 ·
  obtain ⟨o,ho,hc⟩:=own_ck h4 hg; rw [ho]; exact hk g o ho hc
 ·
  obtain ⟨D,⟨es,clock,hb,_⟩,_⟩:=h5; rw [hb]; exact hk b _ hb (.inr (.inr ⟨_,_,rfl⟩))
theorem CKs.set {q k : Nat} {w : World} {cs : Array Value} {fr : Nat × Nat} (hq : w.heap[q]? = some (.cells cs 73 fr)) (v : Value) : CKs w (w.setCell ⟨q,k,none⟩ v):=fun i o hi hc => by
 by_cases e : i = q
 · subst e; rw [hq] at hi; injection hi with hi; subst hi; exact absurd hc bk_nck
 · exact (heap_setCell_other _ _ _ _ e).trans hi
structure BelS (lo : Nat) (w w' : World) : Prop where
 bel : Below lo w w'
 ck : CKs w w'
 bk : ∀ (i : Nat) (o : Obj),w.heap[i]? = some o -> BK o -> w'.heap[i]? = some o
theorem BelS.of {lo : Nat} {w w' : World} (h : Below w.heap.size w w') (hl : lo <= w.heap.size) : BelS lo w w':=⟨h.mono hl,CKs.below h,fun i _ hi _ => (h.block i (Array.getElem?_eq_some_iff.1 hi).1).trans hi⟩
theorem Bd.upS {a0 a1 : Addr} {lo : Nat} {w w' : World} {q r : Nat} {s : BS} (h : Bd a0 a1 lo w q r s) (hb : BelS lo w w') : Bd a0 a1 lo w' q r s :=
 ⟨⟨h.g.below hb.bel,hb.bk q _ h.box ⟨_,_,rfl⟩,h.low⟩,h.nb,fun he => (h.circ he).keep hb.ck⟩
theorem Bd.size {a0 a1 : Addr} {lo : Nat} {w : World} {q r : Nat} {s : BS} (h : Bd a0 a1 lo w q r s) : lo <= w.heap.size:=Nat.le_trans h.low (Nat.le_of_lt (lt_of_block h.box))
def z1g (e : Option Nat) (b : Bool) (k : Nat) : Option Nat:=if b = true /\ e = none then some k else e
def RetX (a0 a1 : Addr) (lo : Nat) (w : World) (q r : Nat) (e' : Option Nat) (v : Value) (e : Ending) (w' : World) : Prop:=e = .returned v /\ BelB lo w w' /\ Bx a0 a1 lo w' q r e' /\ CKs w w'
def RetM (a0 a1 : Addr) (lo : Nat) (w : World) (q r : Nat) (res : BS × Int) (e : Ending) (w' : World) : Prop:=e = .returned (.int .i64 res.2) /\ BelB lo w w' /\ Bd a0 a1 lo w' q r res.1
end Go.Proofs.YtemdmlmcidfodaaGreatDoor
